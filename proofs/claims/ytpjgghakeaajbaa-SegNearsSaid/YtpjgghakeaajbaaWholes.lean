/-
  The document's whole numbers: of, plus, other, times, sign.
-/
import Derived.Test.YtpjgghakeaajbaaWordsT
import Derived.Test.YtpjgghakeaajbaaWordsL
namespace Go.Proofs.Ytpjgghakeaajbaa
open Go.RowKit

theorem open_mag {P : Program} {f : FuncId} {args : Array Value} {w : World} {s : Bool} {m : Nat} (h : Calls P f args w fun e w' => ∃ v, e = .returned v ∧ MagAt w' v s m ∧ Below w.heap.size w w') :
    Calls P f args w fun e w' => ∃ b A n c ds, e = .returned (.agg #[.bool b, .slice A n c]) ∧ Hid (b = s) ∧ RawAt w' A n c ds ∧ Tight ds ∧ Hid (val ds = m) ∧ Below w.heap.size w w' :=
  h.mono fun _ _ ⟨_, he, ⟨A, n, c, ds, hv, hr, ht, hm⟩, hb⟩ => ⟨s, A, n, c, ds, by rw [he, hv], Lib.hid rfl, hr, ht, Lib.hid hm, hb⟩
theorem num_mk {w : World} {b : Bool} {A : Option Addr} {n c : Nat} {ds : List Nat} {z : Int} (hr : RawAt w A n c ds) (ht : Tight ds) (hs : b = decide (z < 0)) (hm : val ds = z.natAbs) :
    NumAt w (.agg #[.bool b, .slice A n c]) z := ⟨A, n, c, ds, by rw [hs], hr, ht, hm⟩
/-- A number as it comes in: its value laid open. -/
theorem num_open {w : World} {v : Value} {z : Int} (h : NumAt w v z) : ∃ b A n c ds, v = .agg #[.bool b, .slice A n c] ∧ Hid (b = decide (z < 0)) ∧ RawAt w A n c ds ∧ Tight ds ∧ Hid (val ds = z.natAbs) := by
  obtain ⟨A, n, c, ds, hv, hr, ht, hm⟩ := h
  exact ⟨_, A, n, c, ds, hv, Lib.hid rfl, hr, ht, Lib.hid hm⟩
theorem num_len {w : World} {A : Option Addr} {n c k : Nat} {ds : List Nat} {m : Nat} (hr : RawAt w A n c ds) (ht : Tight ds) (hv : val ds = m) (hk : Small k m) : n ≤ k := by
  subst hv; rw [← hr.len]; exact Small.len ht hk

/-- All below block R is as it was in W0; block R, of type T, has k cells that may be written. -/
def HeldT (R k : Nat) (T : TypeId) (W0 w' : World) : Prop :=
  Below R W0 w' ∧ R < w'.heap.size ∧ (∀ b o, b < R → w'.cell? ⟨b, o, none⟩ = W0.cell? ⟨b, o, none⟩) ∧ (∀ o, o < k → w'.cell? ⟨R, o, none⟩ = some (rd w' R o)) ∧ (∀ o, w'.frozen? ⟨R, o, none⟩ = false) ∧
    (∃ cs, w'.heap[R]? = some (.cells cs T (0, 0)))
theorem heldT_start {W0 : World} {R : Nat} {t : TypeId} {cs : Array Value} (h : Var W0 R t cs) : HeldT R cs.size t W0 W0.drew :=
  ⟨(Below.refl _ _).drew, h.lt, fun _ _ _ => rfl, fun o ho => rd_eq (w := W0.drew) (u := cs[o]) ((h.cell o).trans (Array.getElem?_eq_getElem ho)), fun o => h.free o, cs, h⟩
theorem heldT_step {W0 W w' : World} {R k : Nat} {T : TypeId} (hb : Below W.heap.size W w') (h : HeldT R k T W0 W) : HeldT R k T W0 w' := by
  obtain ⟨h1, h2, h3, h4, h5, cs, h6⟩ := h
  have hB := h1.trans (hb.mono (Nat.le_of_lt h2))
  refine ⟨hB, Nat.lt_of_lt_of_le h2 hb.size, fun b o hlt => hB.cell (p := ⟨b, o, none⟩) hlt, fun o ho => ?_, fun o => (hb.frozen (p := ⟨R, o, none⟩) h2).trans (h5 o), cs, (hb.block R h2).trans h6⟩
  exact rd_eq ((hb.cell (p := ⟨R, o, none⟩) h2).trans (h4 o ho))
theorem heldT_store {W0 W : World} {R k : Nat} {T : TypeId} (h : HeldT R k T W0 W) (o : Nat) (u : Value) : HeldT R k T W0 (W.setCell ⟨R, o, none⟩ u) := by
  obtain ⟨h1, h2, h3, h4, h5, cs, h6⟩ := h
  have hB := h1.setCell (p := ⟨R, o, none⟩) (Nat.le_refl R) u
  refine ⟨hB, by simpa [World.setCell] using h2, fun b o' hlt => hB.cell (p := ⟨b, o', none⟩) hlt, fun o' ho' => ?_, fun o' => ?_, _, Var.store (t := T) h6 o u⟩
  · obtain ⟨v, hv⟩ := cell?_setCell_some (p := ⟨R, o, none⟩) (x := u) (h4 o' ho')
    exact rd_eq hv
  · rw [World.frozen?_setCell]; exact h5 o'
/-- In the midst: what was below block R is as it was. -/
theorem heldT_bel {W0 W w : World} (R k : Nat) (T : TypeId) (h : HeldT R k T W0 W) (h0 : Below w.heap.size w W0) (hR : w.heap.size ≤ R) : Below w.heap.size w W := h0.trans (h.1.mono hR)
theorem unset {W : World} {R o : Nat} {u : Value} {T : TypeId} {cs : Array Value} (h : (W.setCell ⟨R, o, none⟩ u).heap[R]? = some (.cells cs T (0, 0))) : ∃ cs0, W.heap[R]? = some (.cells cs0 T (0, 0)) := by
  simp only [World.setCell, Array.getElem?_modify, if_true] at h
  cases hh : W.heap[R]? with
  | none => rw [hh] at h; simp at h
  | some x =>
    rw [hh] at h
    cases x with
    | cells c e f =>
      simp at h
      obtain ⟨_, h1, h2⟩ := h
      subst h1 h2
      exact ⟨c, rfl⟩
    | _ => simp at h
/-- A struct of two cells, written: what it reads as. -/
theorem heldT_two {W0 W : World} {R : Nat} {T : TypeId} {a b : Value} (h : HeldT R 2 T W0 ((W.setCell ⟨R, 0, none⟩ a).setCell ⟨R, 1, none⟩ b)) :
    ∃ W', (W.setCell ⟨R, 0, none⟩ a).setCell ⟨R, 1, none⟩ b = W' ∧ Below R W0 W' ∧ W'.cell? ⟨R, 0, none⟩ = some a ∧ W'.cell? ⟨R, 1, none⟩ = some b ∧ ∃ cs, Var W R T cs := by
  obtain ⟨h1, h2, _, h4, _, cs, h6⟩ := h
  have k0 := h4 0 (by omega)
  have k1 := h4 1 (by omega)
  obtain ⟨cs1, h7⟩ := unset h6
  refine ⟨_, rfl, h1, ?_, ?_, unset h7⟩
  · rw [k0]
    rw [World.cell?_setCell_other _ _ _ _ (by simp)] at k0
    rw [set_cell k0]
  · rw [k1]
    rw [set_cell k1]

/-- A contract that answers a number, its value laid open; the equations are kept from the walk. -/
theorem open_num {P : Program} {f : FuncId} {args : Array Value} {w : World} {z : Int} (h : Calls P f args w fun e w' => ∃ v, e = .returned v ∧ NumAt w' v z ∧ Below w.heap.size w w') :
    Calls P f args w fun e w' => ∃ b A n c ds, e = .returned (.agg #[.bool b, .slice A n c]) ∧ Hid (b = decide (z < 0)) ∧ RawAt w' A n c ds ∧ Tight ds ∧ Hid (val ds = z.natAbs) ∧ Below w.heap.size w w' :=
  open_mag h

theorem times_num {w0 : World} {v v' : Value} {x y : Int} {k : Nat} (h : NumAt w0 v x) (h' : NumAt w0 v' y) (hk : Small k x.natAbs) (hk' : Small k y.natAbs) (hk9 : k ≤ 40000) (w : World) (hw : Below w0.heap.size w0 w) :
    Calls Try.prog 46 #[v, v'] w fun e w' => ∃ u, e = .returned u ∧ NumAt w' u (x * y) ∧ Below w.heap.size w w' := by
  obtain ⟨b, A, n, c, ds, rfl, hs, hr, ht, hv⟩ := num_open (h.below hw)
  obtain ⟨b', A', n', c', ds', rfl, hs', hr', ht', hv'⟩ := num_open (h'.below hw)
  have l1 := num_len hr ht hv.out hk
  have l2 := num_len hr' ht' hv'.out hk'
  refine (times_w hr hr' b b' (by omega) (by omega) w (Below.refl _ _)).mono ?_
  rintro e w' ⟨u, he, hm, hb⟩
  refine ⟨u, he, ?_, hb⟩
  unfold NumAt
  have e1 : (x * y).natAbs = val ds * val ds' := by rw [Int.natAbs_mul, hv.out, hv'.out]
  have e2 : decide (x * y < 0) = ((!b == b') && decide (¬ val ds * val ds' = 0)) := by
    rw [hs.out, hs'.out, ← e1, Bool.eq_iff_iff]
    simp only [decide_eq_true_eq, Bool.and_eq_true, Bool.not_eq_eq_eq_not, Bool.not_true]
    rcases Int.lt_trichotomy x 0 with hx | hx | hx
    · rcases Int.lt_trichotomy y 0 with hy | hy | hy
      · have := Int.mul_pos_of_neg_of_neg hx hy
        simp [hx, hy]; omega
      · subst hy; simp
      · have := Int.mul_neg_of_neg_of_pos hx hy
        simp [hx]; omega
    · subst hx; simp
    · rcases Int.lt_trichotomy y 0 with hy | hy | hy
      · have := Int.mul_neg_of_pos_of_neg hx hy
        simp [hy]; omega
      · subst hy; simp
      · have := Int.mul_pos hx hy
        simp; omega
  rw [e1, e2]
  exact hm

theorem num_mag {w : World} {v : Value} {s : Bool} {m : Nat} {z : Int} (h : MagAt w v s m) (hs : s = decide (z < 0)) (hm : m = z.natAbs) : NumAt w v z := by
  unfold NumAt
  rw [← hs, ← hm]
  exact h
theorem val_two (m : Nat) : val [m % 4294967296, m / 4294967296] = m := by
  simp only [val]
  omega
set_option maxHeartbeats 800000 in
theorem other_num {w0 : World} {v : Value} {x : Int} (h : NumAt w0 v x) (w : World) (hw : Below w0.heap.size w0 w) :
    Calls Try.prog 47 #[v] w fun e w' => ∃ u, e = .returned u ∧ NumAt w' u (-x) ∧ Below w.heap.size w w' := by
  obtain ⟨b, A, n, c, ds, rfl, hs, hr, ht, hv⟩ := num_open (h.below hw)
  clear h hw
  go_enter Try.func47, Try.ntmps47
  go_wp2_with fail
  refine (open_mag (made_w hr _ _ (by go_grown))).mono ?_
  rintro e w1 ⟨b1, A1, m1, k1, e1, rfl, hs1, hr1, ht1, hv1, hb_w1⟩
  obtain ⟨hc_w1, hf_w1⟩ := bcell hb_w1
  have hz_w1 := hb_w1.size
  try simp at hz_w1
  have hB_w1 : Below w.heap.size w w1 := Below.trans (by go_grown) (hb_w1.mono (by go_size))
  have hs_w1_0 : w.heap.size < w1.heap.size := by omega
  have hs_w1_1 : w.heap.size + 1 < w1.heap.size := by omega
  have vR : Var w1 (w.heap.size + 1) 51 #[.bool false, .slice none 0 0] := (Var.new' _ _ _ (by simp)).keep hb_w1
  go_wp2_with fail
  refine bodyPost_ret (by simp [results, Try.results47, go_sem, *]; try rfl) rfl ?_
  refine ⟨_, rfl, num_mk (hr1.over vR _ _) ht1 ?_ ?_, by go_grown⟩
  · rw [hs1.out, hs.out, hv.out]
    rw [Bool.eq_iff_iff]; simp; omega
  · rw [hv1.out, hv.out]; omega
set_option maxHeartbeats 800000 in
theorem sign_num {w0 : World} {v : Value} {x : Int} {k : Nat} (h : NumAt w0 v x) (hk : Small k x.natAbs) (_hk9 : k ≤ 90000) (w : World) (hw : Below w0.heap.size w0 w) :
    Calls Try.prog 45 #[v] w fun e w' => e = .returned (.int .i64 (cmpI x 0)) ∧ Below w.heap.size w w' := by
  obtain ⟨b, A, n, c, ds, rfl, hs, hr, ht, hv⟩ := num_open (h.below hw)
  have hl := num_len hr ht hv.out hk
  have hlen := hr.len
  clear h hw hk
  rcases Int.lt_trichotomy x 0 with hx | hx | hx
  · obtain rfl : b = true := by rw [hs.out]; simp [hx]
    have HC := Lib.hid (show cmpI x 0 = -1 by unfold cmpI; rw [if_pos hx])
    clear hs hx
    go_enter Try.func45, Try.ntmps45
    go_wp2_with fail
    go_ret
    exact ⟨ret_intR HC.out.symm, by go_grown⟩
  · subst hx
    obtain rfl : b = false := by rw [hs.out]; rfl
    have h0 : ds = [] := (val_eq_zero ht).1 hv.out
    subst h0
    obtain rfl : n = 0 := hlen.symm
    clear hs hv hl hlen
    go_enter Try.func45, Try.ntmps45
    go_wp2_with fail
    go_ret
    exact ⟨ret_intR rfl, by go_grown⟩
  · obtain rfl : b = false := by rw [hs.out]; simp; omega
    have HC := Lib.hid (show cmpI x 0 = 1 by unfold cmpI; rw [if_neg (by omega), if_neg (by omega)])
    have hn : 1 ≤ n := by
      rcases Nat.eq_zero_or_pos n with h0 | h0
      · exfalso
        subst h0
        have : ds = [] := List.length_eq_zero_iff.1 hlen
        subst this
        have := hv.out
        simp [val] at this
        omega
      · exact h0
    have hm : min (1 : Int) (n : Int) = 1 := by omega
    clear hs hx
    go_enter Try.func45, Try.ntmps45
    go_wp2_with fail
    go_ret
    exact ⟨ret_intR HC.out.symm, by go_grown⟩

end Go.Proofs.Ytpjgghakeaajbaa
