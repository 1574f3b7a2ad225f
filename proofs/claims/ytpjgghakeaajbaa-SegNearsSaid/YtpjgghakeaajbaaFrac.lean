/-
  The document's fractions: whole, add, sub, mul, Sign, Cmp. Printed by wip/tools/gen_frac.py.
-/
import Derived.Test.YtpjgghakeaajbaaWholesP
import Derived.Test.YtpjgghakeaajbaaRatM
namespace Go.Proofs.Ytpjgghakeaajbaa
open Go.RowKit

/-- The value v: the fraction x. -/
def RatAt (w : World) (v : Value) (x : Q) : Prop :=
  ∃ b1 A1 n1 c1 b2 A2 n2 c2, v = .agg #[.bool b1, .slice A1 n1 c1, .bool b2, .slice A2 n2 c2] ∧ NumAt w (.agg #[.bool b1, .slice A1 n1 c1]) x.1 ∧ NumAt w (.agg #[.bool b2, .slice A2 n2 c2]) x.2
theorem RatAt.below {w w' : World} {v : Value} {x : Q} (h : RatAt w v x) (hb : Below w.heap.size w w') : RatAt w' v x := by
  obtain ⟨b1, A1, n1, c1, b2, A2, n2, c2, e, h1, h2⟩ := h
  exact ⟨b1, A1, n1, c1, b2, A2, n2, c2, e, h1.below hb, h2.below hb⟩
theorem rat_open {w : World} {v : Value} {x : Q} (h : RatAt w v x) : ∃ b1 A1 n1 c1 b2 A2 n2 c2, v = .agg #[.bool b1, .slice A1 n1 c1, .bool b2, .slice A2 n2 c2] ∧ Hid (NumAt w (.agg #[.bool b1, .slice A1 n1 c1]) x.1) ∧ Hid (NumAt w (.agg #[.bool b2, .slice A2 n2 c2]) x.2) := h
theorem rat_mk {w : World} {b1 b2 : Bool} {A1 A2 : Option Addr} {n1 c1 n2 c2 : Nat} {x : Q} (h1 : NumAt w (.agg #[.bool b1, .slice A1 n1 c1]) x.1) (h2 : NumAt w (.agg #[.bool b2, .slice A2 n2 c2]) x.2) : RatAt w (.agg #[.bool b1, .slice A1 n1 c1, .bool b2, .slice A2 n2 c2]) x :=
  ⟨_, _, _, _, _, _, _, _, rfl, h1, h2⟩
theorem open_n {P : Program} {f : FuncId} {args : Array Value} {w : World} {z : Int} (h : Calls P f args w fun e w' => ∃ v, e = .returned v ∧ NumAt w' v z ∧ Below w.heap.size w w') :
    Calls P f args w fun e w' => ∃ b A n c, e = .returned (.agg #[.bool b, .slice A n c]) ∧ Hid (NumAt w' (.agg #[.bool b, .slice A n c]) z) ∧ Below w.heap.size w w' :=
  h.mono fun _ _ ⟨_, he, ⟨A, n, c, ds, hv, hr, ht, hm⟩, hb⟩ => ⟨_, A, n, c, by rw [he, hv], Lib.hid ⟨A, n, c, ds, rfl, hr, ht, hm⟩, hb⟩
theorem open_q {P : Program} {f : FuncId} {args : Array Value} {w : World} {z : Q} (h : Calls P f args w fun e w' => ∃ v, e = .returned v ∧ RatAt w' v z ∧ Below w.heap.size w w') :
    Calls P f args w fun e w' => ∃ b1 A1 n1 c1 b2 A2 n2 c2, e = .returned (.agg #[.bool b1, .slice A1 n1 c1, .bool b2, .slice A2 n2 c2]) ∧ Hid (NumAt w' (.agg #[.bool b1, .slice A1 n1 c1]) z.1) ∧ Hid (NumAt w' (.agg #[.bool b2, .slice A2 n2 c2]) z.2) ∧ Below w.heap.size w w' :=
  h.mono fun _ _ ⟨_, he, ⟨b1, A1, n1, c1, b2, A2, n2, c2, e, h1, h2⟩, hb⟩ => ⟨b1, A1, n1, c1, b2, A2, n2, c2, by rw [he, e], h1, h2, hb⟩
/-- A store into a block that holds no words leaves a number alone. -/
theorem NumAt.off {w : World} {v : Value} {z : Int} (h : NumAt w v z) {R : Nat} {T : TypeId} {cs : Array Value} (hV : Var w R T cs) (ht : T ≠ 91) (o : Nat) (x : Value) : NumAt (w.setCell ⟨R, o, none⟩ x) v z := by
  obtain ⟨A, n, c, ds, hv, hr, htt, hm⟩ := h
  exact ⟨A, n, c, ds, hv, ⟨hr.len, hr.cap, hr.big, hr.sl.away hV ht x, hr.digs⟩, htt, hm⟩
theorem NumAt.four {w : World} {v : Value} {z : Int} (h : NumAt w v z) {R : Nat} {T : TypeId} {cs : Array Value} (hV : Var w R T cs) (ht : T ≠ 91) (x0 x1 x2 x3 : Value) :
    NumAt ((((w.setCell ⟨R, 0, none⟩ x0).setCell ⟨R, 1, none⟩ x1).setCell ⟨R, 2, none⟩ x2).setCell ⟨R, 3, none⟩ x3) v z :=
  (((h.off hV ht 0 x0).off (hV.store 0 x0) ht 1 x1).off ((hV.store 0 x0).store 1 x1) ht 2 x2).off (((hV.store 0 x0).store 1 x1).store 2 x2) ht 3 x3
theorem unset2 {W : World} {R o : Nat} {u : Value} {T : TypeId} (h : ∃ cs, (W.setCell ⟨R, o, none⟩ u).heap[R]? = some (.cells cs T (0, 0))) : ∃ cs, W.heap[R]? = some (.cells cs T (0, 0)) := let ⟨_, h⟩ := h; unset h
/-- A struct of four cells, written. -/
theorem heldT_four {W0 W : World} {R : Nat} {T : TypeId} {a b c d : Value} (h : HeldT R 4 T W0 ((((W.setCell ⟨R, 0, none⟩ a).setCell ⟨R, 1, none⟩ b).setCell ⟨R, 2, none⟩ c).setCell ⟨R, 3, none⟩ d)) :
    ∃ W', (((W.setCell ⟨R, 0, none⟩ a).setCell ⟨R, 1, none⟩ b).setCell ⟨R, 2, none⟩ c).setCell ⟨R, 3, none⟩ d = W' ∧ Below R W0 W' ∧ W'.cell? ⟨R, 0, none⟩ = some a ∧ W'.cell? ⟨R, 1, none⟩ = some b ∧ W'.cell? ⟨R, 2, none⟩ = some c ∧ W'.cell? ⟨R, 3, none⟩ = some d ∧ ∃ cs, Var W R T cs := by
  obtain ⟨h1, h2, _, h4, _, cs, h6⟩ := h
  have hv := unset2 (unset2 (unset2 (unset2 ⟨cs, h6⟩)))
  obtain ⟨cs0, h0⟩ := hv
  have hV : Var W R T cs0 := h0
  have k0 := h4 0 (by omega)
  have k1 := h4 1 (by omega)
  have k2 := h4 2 (by omega)
  have k3 := h4 3 (by omega)
  refine ⟨_, rfl, h1, ?_, ?_, ?_, ?_, cs0, hV⟩
  · rw [k0]
    rw [World.cell?_setCell_other _ _ _ _ (by simp), World.cell?_setCell_other _ _ _ _ (by simp), World.cell?_setCell_other _ _ _ _ (by simp)] at k0
    rw [set_cell k0]
  · rw [k1]
    rw [World.cell?_setCell_other _ _ _ _ (by simp), World.cell?_setCell_other _ _ _ _ (by simp)] at k1
    rw [set_cell k1]
  · rw [k2]
    rw [World.cell?_setCell_other _ _ _ _ (by simp)] at k2
    rw [set_cell k2]
  · rw [k3]
    rw [set_cell k3]

/-- Both parts have fewer than k words. -/
def QS (k : Nat) (x : Q) : Prop := Small k x.1.natAbs ∧ Small k x.2.natAbs
theorem small_mul {k l : Nat} {a b : Int} (h : Small k a.natAbs) (h' : Small l b.natAbs) : Small (k + l) (a * b).natAbs := by rw [Int.natAbs_mul]; exact h.mul h'
theorem small_add {k : Nat} {a b : Int} (h : Small k a.natAbs) (h' : Small k b.natAbs) : Small (k + 1) (a + b).natAbs := (h.add h').le (Int.natAbs_add_le _ _)
theorem small_neg {k : Nat} {a : Int} (h : Small k a.natAbs) : Small k (-a).natAbs := by rw [Int.natAbs_neg]; exact h
theorem QS.mono {k l : Nat} {x : Q} (h : QS k x) (hl : k ≤ l) : QS l x := ⟨h.1.mono hl, h.2.mono hl⟩
theorem qs_mul {k : Nat} {x y : Q} (h : QS k x) (h' : QS k y) : QS (k + k) (qmul x y) := ⟨small_mul h.1 h'.1, small_mul h.2 h'.2⟩
theorem qs_add {k : Nat} {x y : Q} (h : QS k x) (h' : QS k y) : QS (k + k + 1) (qadd x y) := ⟨small_add (small_mul h.1 h'.2) (small_mul h'.1 h.2), (small_mul h.2 h'.2).mono (Nat.le_succ _)⟩
theorem qs_neg {k : Nat} {x : Q} (h : QS k x) : QS k (qneg x) := ⟨small_neg h.1, h.2⟩
theorem qs_sub {k : Nat} {x y : Q} (h : QS k x) (h' : QS k y) : QS (k + k + 1) (qsub x y) := qs_add h (qs_neg h')
theorem qs_quo {k : Nat} {x y : Q} (h : QS k x) (h' : QS k y) : QS (k + k) (qquo x y) := by
  unfold qquo
  split
  · exact ⟨small_neg (small_mul h.1 h'.2), small_neg (small_mul h.2 h'.1)⟩
  · exact ⟨small_mul h.1 h'.2, small_mul h.2 h'.1⟩
theorem qs_w {n : Int} (h : -9223372036854775808 ≤ n ∧ n ≤ 9223372036854775807) : QS 2 (qw n) := by
  have e : (4294967296 : Nat) ^ 2 = 18446744073709551616 := by decide +kernel
  unfold QS qw Small
  rw [e]
  dsimp only
  omega
set_option maxHeartbeats 1600000 in
set_option maxRecDepth 100000 in
theorem mul_q {w0 : World} {v v' : Value} {x y : Q} {k : Nat} (h : RatAt w0 v x) (h' : RatAt w0 v' y) (hk : QS k x) (hk' : QS k y) (hk9 : k ≤ 15000) (w : World) (hw : Below w0.heap.size w0 w) :
    Calls Try.prog 43 #[v, v'] w fun e w' => ∃ u, e = .returned u ∧ RatAt w' u (qmul x y) ∧ Below w.heap.size w w' := by
  obtain ⟨b1, A1, n1, c1, b2, A2, n2, c2, rfl, hx1, hx2⟩ := rat_open (h.below hw)
  obtain ⟨b3, A3, n3, c3, b4, A4, n4, c4, rfl, hy1, hy2⟩ := rat_open (h'.below hw)
  obtain ⟨kx1, kx2⟩ := hk
  obtain ⟨ky1, ky2⟩ := hk'
  clear h h' hw
  go_enter Try.func43, Try.ntmps43
  go_wp2_with fail
  refine wp_gen (fun W0 hW => ?_)
  have va : Var W0 w.heap.size 53 #[.bool b1, .slice A1 n1 c1, .bool b2, .slice A2 n2 c2] := by rw [hW]; exact ((Var.new _ _ _).alloc _).alloc _
  have vb : Var W0 (w.heap.size + 1) 53 #[.bool b3, .slice A3 n3 c3, .bool b4, .slice A4 n4 c4] := by rw [hW]; exact (Var.new' _ _ _ (by simp)).alloc _
  have vR : Var W0 (w.heap.size + 1 + 1) 53 #[.bool false, .slice none 0 0, .bool false, .slice none 0 0] := by rw [hW]; exact Var.new' _ _ _ (by simp)
  have hB_W0 : Below w.heap.size w W0 := by rw [hW]; go_grown
  clear hW
  have va0 : W0.cell? ⟨w.heap.size, 0, none⟩ = some (.bool b1) := va.cell 0
  have va1 : W0.cell? ⟨w.heap.size, 1, none⟩ = some (.slice A1 n1 c1) := va.cell 1
  have va2 : W0.cell? ⟨w.heap.size, 2, none⟩ = some (.bool b2) := va.cell 2
  have va3 : W0.cell? ⟨w.heap.size, 3, none⟩ = some (.slice A2 n2 c2) := va.cell 3
  have vb0 : W0.cell? ⟨w.heap.size + 1, 0, none⟩ = some (.bool b3) := vb.cell 0
  have vb1 : W0.cell? ⟨w.heap.size + 1, 1, none⟩ = some (.slice A3 n3 c3) := vb.cell 1
  have vb2 : W0.cell? ⟨w.heap.size + 1, 2, none⟩ = some (.bool b4) := vb.cell 2
  have vb3 : W0.cell? ⟨w.heap.size + 1, 3, none⟩ = some (.slice A4 n4 c4) := vb.cell 3
  have za := va.lt
  have zb := vb.lt
  go_region_held3 (fun w' => Below (w.heap.size + 1 + 1) W0 w' ∧ w.heap.size + 1 + 1 < w'.heap.size ∧ (∀ b o, b < w.heap.size + 1 + 1 → w'.cell? ⟨b, o, none⟩ = W0.cell? ⟨b, o, none⟩) ∧ (∀ o, o < 4 → w'.cell? ⟨w.heap.size + 1 + 1, o, none⟩ = some (rd w' (w.heap.size + 1 + 1) o)) ∧ (∀ o, w'.frozen? ⟨w.heap.size + 1 + 1, o, none⟩ = false) ∧ (∃ cs, w'.heap[w.heap.size + 1 + 1]? = some (.cells cs 53 (0, 0))))
    (first | exact heldT_step hb_wk (by assumption) | exact heldT_start vR | (repeat (refine heldT_store ?_ _ _)); assumption)
    (first | (go_at_call_of 46 (Value.agg #[.bool b1, .slice A1 n1 c1]); refine (open_n (times_num hx1.out hy1.out kx1 ky1 (by omega) _ (heldT_bel (W0 := W0) (w.heap.size + 1 + 1) 4 53 (by assumption) hB_W0 (by omega)))).mono ?_; rintro e wk ⟨p1, P1, m1, q1, rfl, hn1, hb_wk⟩) | (go_at_call_of 46 (Value.agg #[.bool b2, .slice A2 n2 c2]); refine (open_n (times_num hx2.out hy2.out kx2 ky2 (by omega) _ (heldT_bel (W0 := W0) (w.heap.size + 1 + 1) 4 53 (by assumption) hB_W0 (by omega)))).mono ?_; rintro e wk ⟨p2, P2, m2, q2, rfl, hn2, hb_wk⟩; have hn1 := Lib.hid (hn1.out.below hb_wk)))
  obtain ⟨W', e', hB', k0, k1, k2, k3, cs, hVR⟩ := heldT_four (T := 53) (by assumption)
  have r1 := hn1.out.four hVR (by decide) (.bool p1) (.slice P1 m1 q1) (.bool p2) (.slice P2 m2 q2)
  have r2 := hn2.out.four hVR (by decide) (.bool p1) (.slice P1 m1 q1) (.bool p2) (.slice P2 m2 q2)
  rw [e'] at r1 r2
  rw [e']
  clear e'
  go_wp2_with fail
  refine bodyPost_ret (by simp [results, Try.results43, go_sem, *]; try rfl) rfl ?_
  exact ⟨_, rfl, rat_mk r1 r2, Below.trans hB_W0 (hB'.mono (by omega))⟩

set_option maxHeartbeats 1600000 in
set_option maxRecDepth 100000 in
theorem add_q {w0 : World} {v v' : Value} {x y : Q} {k : Nat} (h : RatAt w0 v x) (h' : RatAt w0 v' y) (hk : QS k x) (hk' : QS k y) (hk9 : k ≤ 15000) (w : World) (hw : Below w0.heap.size w0 w) :
    Calls Try.prog 42 #[v, v'] w fun e w' => ∃ u, e = .returned u ∧ RatAt w' u (qadd x y) ∧ Below w.heap.size w w' := by
  obtain ⟨b1, A1, n1, c1, b2, A2, n2, c2, rfl, hx1, hx2⟩ := rat_open (h.below hw)
  obtain ⟨b3, A3, n3, c3, b4, A4, n4, c4, rfl, hy1, hy2⟩ := rat_open (h'.below hw)
  obtain ⟨kx1, kx2⟩ := hk
  obtain ⟨ky1, ky2⟩ := hk'
  clear h h' hw
  go_enter Try.func42, Try.ntmps42
  go_wp2_with fail
  refine wp_gen (fun W0 hW => ?_)
  have va : Var W0 w.heap.size 53 #[.bool b1, .slice A1 n1 c1, .bool b2, .slice A2 n2 c2] := by rw [hW]; exact ((Var.new _ _ _).alloc _).alloc _
  have vb : Var W0 (w.heap.size + 1) 53 #[.bool b3, .slice A3 n3 c3, .bool b4, .slice A4 n4 c4] := by rw [hW]; exact (Var.new' _ _ _ (by simp)).alloc _
  have vR : Var W0 (w.heap.size + 1 + 1) 53 #[.bool false, .slice none 0 0, .bool false, .slice none 0 0] := by rw [hW]; exact Var.new' _ _ _ (by simp)
  have hB_W0 : Below w.heap.size w W0 := by rw [hW]; go_grown
  clear hW
  have va0 : W0.cell? ⟨w.heap.size, 0, none⟩ = some (.bool b1) := va.cell 0
  have va1 : W0.cell? ⟨w.heap.size, 1, none⟩ = some (.slice A1 n1 c1) := va.cell 1
  have va2 : W0.cell? ⟨w.heap.size, 2, none⟩ = some (.bool b2) := va.cell 2
  have va3 : W0.cell? ⟨w.heap.size, 3, none⟩ = some (.slice A2 n2 c2) := va.cell 3
  have vb0 : W0.cell? ⟨w.heap.size + 1, 0, none⟩ = some (.bool b3) := vb.cell 0
  have vb1 : W0.cell? ⟨w.heap.size + 1, 1, none⟩ = some (.slice A3 n3 c3) := vb.cell 1
  have vb2 : W0.cell? ⟨w.heap.size + 1, 2, none⟩ = some (.bool b4) := vb.cell 2
  have vb3 : W0.cell? ⟨w.heap.size + 1, 3, none⟩ = some (.slice A4 n4 c4) := vb.cell 3
  have za := va.lt
  have zb := vb.lt
  go_region_held3 (fun w' => Below (w.heap.size + 1 + 1) W0 w' ∧ w.heap.size + 1 + 1 < w'.heap.size ∧ (∀ b o, b < w.heap.size + 1 + 1 → w'.cell? ⟨b, o, none⟩ = W0.cell? ⟨b, o, none⟩) ∧ (∀ o, o < 4 → w'.cell? ⟨w.heap.size + 1 + 1, o, none⟩ = some (rd w' (w.heap.size + 1 + 1) o)) ∧ (∀ o, w'.frozen? ⟨w.heap.size + 1 + 1, o, none⟩ = false) ∧ (∃ cs, w'.heap[w.heap.size + 1 + 1]? = some (.cells cs 53 (0, 0))))
    (first | exact heldT_step hb_wk (by assumption) | exact heldT_start vR | (repeat (refine heldT_store ?_ _ _)); assumption)
    (first | (go_at_call_of 46 (Value.agg #[.bool b1, .slice A1 n1 c1]); refine (open_n (times_num hx1.out hy2.out kx1 ky2 (by omega) _ (heldT_bel (W0 := W0) (w.heap.size + 1 + 1) 4 53 (by assumption) hB_W0 (by omega)))).mono ?_; rintro e wk ⟨p1, P1, m1, q1, rfl, hn1, hb_wk⟩) | (go_at_call_of 46 (Value.agg #[.bool b3, .slice A3 n3 c3]); refine (open_n (times_num hy1.out hx2.out ky1 kx2 (by omega) _ (heldT_bel (W0 := W0) (w.heap.size + 1 + 1) 4 53 (by assumption) hB_W0 (by omega)))).mono ?_; rintro e wk ⟨p2, P2, m2, q2, rfl, hn2, hb_wk⟩; have hn1 := Lib.hid (hn1.out.below hb_wk)) | (go_at_call 49; refine (open_n (plus_num hn1.out hn2.out (small_mul kx1 ky2) (small_mul ky1 kx2) (by omega) _ (Below.refl _ _))).mono ?_; rintro e wk ⟨p3, P3, m3, q3, rfl, hn3, hb_wk⟩) | (go_at_call 46; refine (open_n (times_num hx2.out hy2.out kx2 ky2 (by omega) _ (heldT_bel (W0 := W0) (w.heap.size + 1 + 1) 4 53 (by assumption) hB_W0 (by omega)))).mono ?_; rintro e wk ⟨p4, P4, m4, q4, rfl, hn4, hb_wk⟩; have hn3 := Lib.hid (hn3.out.below hb_wk)))
  obtain ⟨W', e', hB', k0, k1, k2, k3, cs, hVR⟩ := heldT_four (T := 53) (by assumption)
  have r1 := hn3.out.four hVR (by decide) (.bool p3) (.slice P3 m3 q3) (.bool p4) (.slice P4 m4 q4)
  have r2 := hn4.out.four hVR (by decide) (.bool p3) (.slice P3 m3 q3) (.bool p4) (.slice P4 m4 q4)
  rw [e'] at r1 r2
  rw [e']
  clear e'
  go_wp2_with fail
  refine bodyPost_ret (by simp [results, Try.results42, go_sem, *]; try rfl) rfl ?_
  exact ⟨_, rfl, rat_mk r1 r2, Below.trans hB_W0 (hB'.mono (by omega))⟩

end Go.Proofs.Ytpjgghakeaajbaa
