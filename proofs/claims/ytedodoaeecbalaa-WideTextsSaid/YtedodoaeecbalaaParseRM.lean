/-
  For the reference's Parse: plain lemmas. (Printed by wip/tools/gen_parser.py.)
-/
import Derived.Test.YtedodoaeecbalaaParseM
import Derived.Test.YtedodoaeecbalaaFits
import Derived.Test.YtedodoaeecbalaaPair
import Derived.Test.YtedodoaeecbalaaHeldV
namespace Go.Proofs.Ytedodoaeecbalaa
open Go.RowKit

theorem dval_lt : ∀ (n : Nat) (ds : List UInt8), ds.length = n → (∀ i, i < ds.length → (at8 ds i).toNat ≤ 57) → dval ds < 10 ^ n
  | 0, ds, h, _ => by rw [List.length_eq_zero_iff.1 h]; decide
  | n + 1, ds, h, hd => by
    have hi : n < ds.length := by omega
    have hat : ∀ i, i < n → at8 (ds.take n) i = at8 ds i := fun i hi => by
      unfold at8
      rw [List.getD_eq_getElem?_getD, List.getD_eq_getElem?_getD, List.getElem?_take_of_lt hi]
    have ih := dval_lt n (ds.take n) (by rw [List.length_take]; omega) (fun i hi' => by
      rw [List.length_take] at hi'
      rw [hat i (by omega)]; exact hd i (by omega))
    have hv : dval ds = dval (ds.take n) * 10 + ((at8 ds n).toNat - 48) := by
      rw [← dval_take hi, List.take_of_length_le (by omega)]
    have := hd n hi
    rw [hv, Nat.pow_succ]
    omega
theorem dval_sm {ds : List UInt8} (hd : ∀ i, i < ds.length → (at8 ds i).toNat ≤ 57) (hl : ds.length ≤ 60) {i : Nat} (hi : i ≤ ds.length) : Small 13 (dval (ds.take i)) := by
  have h1 := dval_le (ds := ds) _ i rfl
  have h2 := dval_lt _ ds rfl hd
  have h3 : 10 ^ ds.length ≤ 10 ^ 60 := Nat.pow_le_pow_right (by omega) hl
  have h4 : (10 : Nat) ^ 60 < 65536 ^ 13 := by decide +kernel
  unfold Small
  omega
theorem bel_says (L : List UInt8) : (bel L = true ∧ 0 < L.length ∧ (at8 L 0).toNat = 45 ∧ dgs L = L.drop 1) ∨ (bel L = false ∧ dgs L = L ∧ (0 < L.length → (at8 L 0).toNat ≠ 45)) := by
  cases L with
  | nil => right; refine ⟨rfl, rfl, fun h => absurd h (by decide)⟩
  | cons c t =>
    cases hb : bel (c :: t) with
    | true =>
      left
      have hback := bel_back (c :: t)
      rw [hb, if_pos rfl] at hback
      have h1 : c = 45 ∧ t = dgs (c :: t) := by injection hback with a b; exact ⟨a, b⟩
      refine ⟨rfl, by simp, ?_, ?_⟩
      · have : at8 (c :: t) 0 = c := rfl
        rw [this, h1.1]; rfl
      · rw [← h1.2]; rfl
    | false =>
      right
      have hback := bel_back (c :: t)
      rw [hb, if_neg (by decide)] at hback
      refine ⟨rfl, hback.symm, fun _ hh => ?_⟩
      have hc : c = 45 := UInt8.toNat_inj.1 hh
      rw [hc, (bel_cons t).1] at hb
      exact Bool.noConfusion hb
theorem raw_put {w : World} {A : Option Addr} {n c : Nat} {ds : List Nat} (h : RawAt w A n c ds) {R : Nat} {cs : Array Value} (hV : Var w R 35 cs) (o : Nat) (x : Value) : RawAt (w.setCell ⟨R, o, none⟩ x) A n c ds :=
  ⟨h.len, h.cap, h.big, h.sl.away (o' := o) hV (by decide) x, h.digs⟩
theorem var_c0 {w : World} {g : Nat} {t : TypeId} {a b : Value} (h : Var w g t #[a, b]) : w.cell? ⟨g, 0, none⟩ = some a := h.cell 0
theorem var_c1 {w : World} {g : Nat} {t : TypeId} {a b : Value} (h : Var w g t #[a, b]) : w.cell? ⟨g, 1, none⟩ = some b := h.cell 1
theorem bel_next {w0 w1 w2 : World} (h : Below w0.heap.size w0 w1) (h2 : Below w1.heap.size w1 w2) : Below w0.heap.size w0 w2 := h.trans (h2.mono h.size)
theorem small_ten : Small 1 10 := by unfold Small; decide
theorem small_dig {m : Nat} (h : m ≤ 9) : Small 1 m := by unfold Small; omega
theorem ret_num2 {v : Value} {a b : Int} (h : a = b) : Ending.returned (.tuple #[v, .int .i64 a]) = .returned (.tuple #[v, .int .i64 b]) := by rw [h]
theorem num_zero' (w : World) : NumAt w (.agg #[.bool false, .slice none 0 0]) 0 := num_zero w
theorem num_end {w : World} {s b : Bool} {A : Option Addr} {n c : Nat} {ds : List Nat} {z : Int} {m : Nat} (hr : RawAt w A n c ds) (ht : Tight ds) (hs : s = (b && decide (¬ m = 0))) (hv : val ds = m) (hz : z = if b then -(m : Int) else (m : Int)) : NumAt w (.agg #[.bool s, .slice A n c]) z := by
  refine num_mk hr ht ?_ ?_
  · rw [hs, hz]
    cases b with
    | true => simp only [if_true, Bool.true_and]; exact decide_eq_decide.2 (by omega)
    | false => simp only [Bool.false_eq_true, if_false, Bool.false_and]; exact (decide_eq_false (by omega)).symm
  · rw [hz, hv]; split <;> omega

end Go.Proofs.Ytedodoaeecbalaa
