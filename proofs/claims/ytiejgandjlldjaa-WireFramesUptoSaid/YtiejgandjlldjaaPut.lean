/-
  Package wire: fixed.
-/
import Derived.Test.YtiejgandjlldjaaWidth
namespace Go.Proofs.Ytiejgandjlldjaa
open Go.RowKit

def by8 (v k : Nat) : UInt8 := UInt8.ofNat (v / 2 ^ (8 * k) % 256)
def leN (n v : Nat) : List UInt8 := (List.range n).map (by8 v)
theorem leN_length (n v : Nat) : (leN n v).length = n := by simp [leN]
theorem by8_nat (v k : Nat) : ((by8 v k).toNat : Int) = (v : Int) / 2 ^ (8 * k) % 256 := by
  unfold by8
  rw [UInt8.toNat_ofNat', Nat.mod_eq_of_lt (by omega), Int.natCast_emod, Int.natCast_ediv, Int.natCast_pow]
  rfl

/-- An array of eight bytes, of which the first k are laid. -/
def Eight (w : World) (B : Nat) (v k : Nat) : Prop := ∃ cs, Var w B 134 cs ∧ cs.size = 8 ∧ ∀ j, j < k → cs[j]? = some (B8 (by8 v j))

/-- At p, from w on, these bytes can be laid down; behind that Q. -/
def Lays (p : Value) (w : World) (l : List UInt8) (Q : World → Prop) : Prop :=
  ∀ W A m d, Below w.heap.size w W → Bs W A m d l → Calls Try.prog 35 #[p, .slice A m d] W fun e w' => Void e ∧ Q w'
theorem Lays.from {p : Value} {w w1 : World} {l : List UInt8} {Q : World → Prop} (h : Lays p w l Q) (hb : Below w.heap.size w w1) : Lays p w1 l Q := fun W A m d hW hs => h W A m d (hb.trans (hW.mono hb.size)) hs
theorem lays_none (w : World) (l : List UInt8) : Lays (.pointer none) w l (Below w.heap.size w) := fun W A m d hW _ => (add_nil A m d W).mono fun _ _ ⟨he, hb⟩ => ⟨he, hW.trans (hb.mono hW.size)⟩
theorem lays_out {w : World} {O : Nat} {l : List UInt8} (h : OutAt w O l) (k : List UInt8) (hlen : l.length + k.length ≤ 225000000000000) : Lays (.pointer (some ⟨O, 0, none⟩)) w k (fun w' => OutAt w' O (l ++ k) ∧ Upd O w w') := fun W A m d hW hs =>
  (add_any O l A m d k W (h.keep hW) hs (by rw [← hs.len]; exact hlen)).mono fun _ _ ⟨he, ho, hu⟩ => ⟨he, ho, (Upd.of_below hW).trans hu⟩

set_option maxRecDepth 100000 in
set_option maxHeartbeats 800000 in
theorem fixed_of (p : Value) (hp : ∃ a, p = .pointer a) (v n : Nat) (w : World) (hn : n ≤ 8) {Q : World → Prop} (h : Lays p w (leN n v) Q) :
    Calls Try.prog 77 #[p, .int .u64 (v : Int), .int .i64 (n : Int)] w fun e w' => Void e ∧ Q w' := by
  obtain ⟨a, rfl⟩ := hp
  have H := Lib.hid h
  clear h
  go_enter Try.func77, Try.ntmps77
  go_wp2_with fail
  go_loopw [9] (fun t wr => ∃ (k : Nat), k ≤ n ∧ t = .int .i64 (k : Int) ∧ Eight wr w.heap.size v k ∧ Below w.heap.size w wr) (fun t _ => n - (intOf t).toNat)
  case atStart => exact ⟨0, by omega, rfl, ⟨_, Var.new _ _ _, rfl, fun j hj => by omega⟩, by go_grown⟩
  case round =>
    obtain ⟨k, hk, rfl, ⟨cs, hV, hs, hcs⟩, hB⟩ := hrel
    have HC := Lib.hid hcs
    clear hcs
    rcases Nat.lt_or_ge k n with hlt | hge
    · have f0 := hV.free k
      obtain ⟨u, hu⟩ : ∃ u, wr.cell? ⟨w.heap.size, k, none⟩ = some u := ⟨cs[k], (hV.cell k).trans (Array.getElem?_eq_getElem (by omega))⟩
      go_wp2_with fail
      go_roundw
      case rel =>
        refine ⟨k + 1, by omega, by go_num, ⟨_, hV.store k _, by simp [hs], fun j hj => ?_⟩, hB.setCell (p := ⟨w.heap.size, k, none⟩) (Nat.le_refl _) _⟩
        rw [← by8_nat, Array.getElem?_setIfInBounds]
        by_cases hjk : k = j
        · subst hjk
          rw [if_pos rfl, if_pos (by omega)]
          rfl
        · rw [if_neg hjk]
          exact HC.out j (by omega)
      case measure => simp [intOf]; omega
    · obtain rfl : k = n := by omega
      have hb : Bs wr (some ⟨w.heap.size, 0, none⟩) k 8 (leN k v) := ⟨leN_length _ _, hn, by unfold maxLen; omega, .inr ⟨w.heap.size, 0, rfl, hV.lt, fun j b hj => by
        have hjk : j < k := by
          rcases Nat.lt_or_ge j k with h0 | h0
          · exact h0
          · rw [List.getElem?_eq_none (by rw [leN_length]; exact h0)] at hj; cases hj
        rw [hV.cell (0 + j), Nat.zero_add, HC.out j hjk]
        unfold leN at hj
        rw [List.getElem?_map, List.getElem?_range hjk] at hj
        injection hj with hj
        rw [← hj]⟩⟩
      have har : Try.prog.arrayLen 134 = 8 := by kernel_rfl
      have hk8 : (k : Int) ≤ 8 := by omega
      have HA := Lib.hid (H.out wr _ k 8 hB hb)
      clear H
      go_wp2_with fail
      refine HA.out.mono ?_
      rintro e w1 ⟨⟨_, rfl⟩, hQ⟩
      go_wp2_with fail
      go_end0
      exact ⟨⟨_, rfl⟩, hQ⟩

/-- The low bytes of a number that goes round. -/
theorem leN_low {n v v' : Nat} (h : v % 2 ^ (8 * n) = v' % 2 ^ (8 * n)) : leN n v = leN n v' := by
  unfold leN
  refine List.map_congr_left fun k hk => ?_
  rw [List.mem_range] at hk
  have e : ∀ x : Nat, x / 2 ^ (8 * k) % 256 = x % 2 ^ (8 * n) / 2 ^ (8 * k) % 256 := fun x => by
    have h2 : (2 : Nat) ^ (8 * n) = 2 ^ (8 * k) * (256 * 2 ^ (8 * (n - k - 1))) := by
      rw [show (256 : Nat) = 2 ^ 8 from rfl, ← Nat.pow_add, ← Nat.pow_add]
      congr 1
      omega
    rw [h2, Nat.mod_mul_right_div_self, Nat.mod_mul_right_mod]
  unfold by8
  rw [e v, e v', h]

end Go.Proofs.Ytiejgandjlldjaa
