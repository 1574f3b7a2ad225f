/-
  The document's fractions: sub, whole, Sign, Cmp, quo. Printed by wip/tools/gen_frac.py.
-/
import Derived.Test.YtpjgghakeaajbaaFrac
namespace Go.Proofs.Ytpjgghakeaajbaa
open Go.RowKit

theorem held_bel {w W0 W : World} (h0 : Below w.heap.size w W0) (h : Below W0.heap.size W0 W ∧ (∀ b o, b < W0.heap.size → W.cell? ⟨b, o, none⟩ = W0.cell? ⟨b, o, none⟩)) : Below w.heap.size w W := h0.trans (h.1.mono h0.size)
theorem cmpI_off (a b : Int) : cmpI (a + -b) 0 = cmpI a b := by unfold cmpI; (repeat' split) <;> omega
theorem num_sign {w : World} {b : Bool} {A : Option Addr} {n c : Nat} {z : Int} (h : NumAt w (.agg #[.bool b, .slice A n c]) z) : b = decide (z < 0) := by
  obtain ⟨A', n', c', ds, hv, _⟩ := h
  simp only [Value.agg.injEq] at hv
  have := congrArg (fun a => a[0]?) hv
  simpa using this
theorem NumAt.alloc {w : World} {v : Value} {z : Int} (h : NumAt w v z) (o : Obj) : NumAt (w.alloc o) v z := h.below ((Below.refl _ w).alloc (Nat.le_refl _) o)
/-- All but block R is as it was in W0; block R, of type T, has k cells that may be written. -/
def HeldB (R k : Nat) (T : TypeId) (W0 w' : World) : Prop :=
  W0.grownBy w' (some R) ∧ R < w'.heap.size ∧ (∀ b o, b < W0.heap.size → ¬ b = R → w'.cell? ⟨b, o, none⟩ = W0.cell? ⟨b, o, none⟩) ∧ (∀ o, o < k → w'.cell? ⟨R, o, none⟩ = some (rd w' R o)) ∧ (∀ o, w'.frozen? ⟨R, o, none⟩ = false) ∧ (∃ cs, w'.heap[R]? = some (.cells cs T (0, 0)))
theorem grown_cells {W0 W : World} {R : Nat} (h : W0.grownBy W (some R)) : ∀ b o, b < W0.heap.size → ¬ b = R → W.cell? ⟨b, o, none⟩ = W0.cell? ⟨b, o, none⟩ := fun b _ hb hne =>
  World.cell?_of_block (h.block b hb (fun e => hne (Option.some.inj e)))
theorem heldB_start {W0 : World} {R : Nat} {t : TypeId} {cs : Array Value} (h : Var W0 R t cs) : HeldB R cs.size t W0 W0.drew :=
  ⟨⟨rfl, rfl, rfl, Nat.le_refl _, fun _ _ _ => rfl⟩, h.lt, fun _ _ _ _ => rfl, fun o ho => rd_eq (w := W0.drew) (u := cs[o]) ((h.cell o).trans (Array.getElem?_eq_getElem ho)), fun o => h.free o, cs, h⟩
theorem heldB_step {W0 W w' : World} {R k : Nat} {T : TypeId} (hb : Below W.heap.size W w') (h : HeldB R k T W0 W) : HeldB R k T W0 w' := by
  obtain ⟨h1, h2, h3, h4, h5, cs, h6⟩ := h
  have hB : W0.grownBy w' (some R) := h1.trans ⟨hb.os, hb.tape, hb.output, hb.size, fun k hk _ => hb.block k hk⟩
  refine ⟨hB, Nat.lt_of_lt_of_le h2 hb.size, grown_cells hB, fun o ho => ?_, fun o => (hb.frozen (p := ⟨R, o, none⟩) h2).trans (h5 o), cs, (hb.block R h2).trans h6⟩
  exact rd_eq ((hb.cell (p := ⟨R, o, none⟩) h2).trans (h4 o ho))
theorem heldB_store {W0 W : World} {R k : Nat} {T : TypeId} (h : HeldB R k T W0 W) (o : Nat) (u : Value) : HeldB R k T W0 (W.setCell ⟨R, o, none⟩ u) := by
  obtain ⟨h1, h2, h3, h4, h5, cs, h6⟩ := h
  have hB : W0.grownBy (W.setCell ⟨R, o, none⟩ u) (some R) := h1.trans ⟨rfl, rfl, rfl, Nat.le_of_eq (World.size_setCell _ _ _).symm, fun b _ hk => Below.heap_setCell _ _ _ b (fun e => hk (congrArg some e))⟩
  refine ⟨hB, by simpa [World.setCell] using h2, grown_cells hB, fun o' ho' => ?_, fun o' => ?_, _, Var.store (t := T) h6 o u⟩
  · obtain ⟨v, hv⟩ := cell?_setCell_some (p := ⟨R, o, none⟩) (x := u) (h4 o' ho')
    exact rd_eq hv
  · rw [World.frozen?_setCell]; exact h5 o'
theorem heldB_bel {w W0 W : World} {R k : Nat} {T : TypeId} (h : HeldB R k T W0 W) (h0 : Below w.heap.size w W0) (hR : w.heap.size ≤ R) : Below w.heap.size w W := h0.grown h.1 h0.size (fun k e => by have : R = k := Option.some.inj e; omega)
theorem heldB_num {W0 W : World} {R k : Nat} {T : TypeId} {cs0 : Array Value} {v : Value} {z : Int} (hV0 : Var W0 R T cs0) (ht : T ≠ 91) (h : HeldB R k T W0 W) (hn : NumAt W0 v z) : NumAt W v z := by
  obtain ⟨A, n, c, ds, hv, hr, htt, hm⟩ := hn
  refine ⟨A, n, c, ds, hv, ⟨hr.len, hr.cap, hr.big, fun j u hu => ?_, hr.digs⟩, htt, hm⟩
  obtain ⟨b, o, cur, e, hlt, hh, hc⟩ := hr.sl j u hu
  have hne : ¬ b = R := fun e => by
    subst e
    rw [show W0.heap[b]? = _ from hV0] at hh
    injection hh with hh
    injection hh with _ h2
    exact ht h2
  have hb' := h.1.block b hlt (fun e => hne (Option.some.inj e))
  exact ⟨b, o, cur, e, Nat.lt_of_lt_of_le hlt h.1.size, hb'.trans hh, (grown_cells h.1 b (o + j) hlt hne).trans hc⟩
/-- A struct of four cells, written. -/
theorem heldB_four {W0 W : World} {R : Nat} {T : TypeId} {a b c d : Value} (h : HeldB R 4 T W0 ((((W.setCell ⟨R, 0, none⟩ a).setCell ⟨R, 1, none⟩ b).setCell ⟨R, 2, none⟩ c).setCell ⟨R, 3, none⟩ d)) :
    ∃ W', (((W.setCell ⟨R, 0, none⟩ a).setCell ⟨R, 1, none⟩ b).setCell ⟨R, 2, none⟩ c).setCell ⟨R, 3, none⟩ d = W' ∧ W0.grownBy W' (some R) ∧ W'.cell? ⟨R, 0, none⟩ = some a ∧ W'.cell? ⟨R, 1, none⟩ = some b ∧ W'.cell? ⟨R, 2, none⟩ = some c ∧ W'.cell? ⟨R, 3, none⟩ = some d ∧ ∃ cs, Var W R T cs := by
  obtain ⟨h1, h2, _, h4, _, cs, h6⟩ := h
  obtain ⟨cs0, h0⟩ := unset2 (unset2 (unset2 (unset2 ⟨cs, h6⟩)))
  have k0 := h4 0 (by omega)
  have k1 := h4 1 (by omega)
  have k2 := h4 2 (by omega)
  have k3 := h4 3 (by omega)
  refine ⟨_, rfl, h1, ?_, ?_, ?_, ?_, cs0, h0⟩
  · rw [k0]
    rw [World.cell?_setCell_other _ _ _ _ (by simp), World.cell?_setCell_other _ _ _ _ (by simp), World.cell?_setCell_other _ _ _ _ (by simp)] at k0
    rw [set_cell k0]
  · rw [k1]
    rw [World.cell?_setCell_other _ _ _ _ (by simp), World.cell?_setCell_other _ _ _ _ (by simp)] at k1
    rw [set_cell k1]
  · rw [k2]
    rw [World.cell?_setCell_other _ _ _ _ (by simp)] at k2
    rw [set_cell k2]
  · rw [k3]
    rw [set_cell k3]
set_option maxHeartbeats 1600000 in
set_option maxRecDepth 100000 in
theorem sub_q {w0 : World} {v v' : Value} {x y : Q} {k : Nat} (h : RatAt w0 v x) (h' : RatAt w0 v' y) (hk : QS k x) (hk' : QS k y) (hk9 : k ≤ 15000) (w : World) (hw : Below w0.heap.size w0 w) :
    Calls Try.prog 41 #[v, v'] w fun e w' => ∃ u, e = .returned u ∧ RatAt w' u (qsub x y) ∧ Below w.heap.size w w' := by
  obtain ⟨b1, A1, n1, c1, b2, A2, n2, c2, rfl, hx1, hx2⟩ := rat_open (h.below hw)
  obtain ⟨b3, A3, n3, c3, b4, A4, n4, c4, rfl, hy1, hy2⟩ := rat_open (h'.below hw)
  obtain ⟨kx1, kx2⟩ := hk
  obtain ⟨ky1, ky2⟩ := hk'
  clear h h' hw
  go_enter Try.func41, Try.ntmps41
  go_wp2_with fail
  refine wp_gen (fun W0 hW => ?_)
  have va : Var W0 w.heap.size 53 #[.bool b1, .slice A1 n1 c1, .bool b2, .slice A2 n2 c2] := by rw [hW]; exact ((Var.new _ _ _).alloc _).alloc _
  have vb : Var W0 (w.heap.size + 1) 53 #[.bool b3, .slice A3 n3 c3, .bool b4, .slice A4 n4 c4] := by rw [hW]; exact (Var.new' _ _ _ (by simp)).alloc _
  have vR : Var W0 (w.heap.size + 1 + 1) 53 #[.bool false, .slice none 0 0, .bool false, .slice none 0 0] := by rw [hW]; exact Var.new' _ _ _ (by simp)
  have hB_W0 : Below w.heap.size w W0 := by rw [hW]; go_grown
  clear hW
  have va0 : W0.cell? ⟨w.heap.size, 0, none⟩ = some (.bool b1) := va.cell 0
  have va1 : W0.cell? ⟨w.heap.size, 1, none⟩ = some (.slice A1 n1 c1) := va.cell 1
  have va2 : W0.cell? ⟨w.heap.size, 2, none⟩ = some (.bool b2) := va.cell 2
  have va3 : W0.cell? ⟨w.heap.size, 3, none⟩ = some (.slice A2 n2 c2) := va.cell 3
  have vb0 : W0.cell? ⟨w.heap.size + 1, 0, none⟩ = some (.bool b3) := vb.cell 0
  have vb1 : W0.cell? ⟨w.heap.size + 1, 1, none⟩ = some (.slice A3 n3 c3) := vb.cell 1
  have vb2 : W0.cell? ⟨w.heap.size + 1, 2, none⟩ = some (.bool b4) := vb.cell 2
  have vb3 : W0.cell? ⟨w.heap.size + 1, 3, none⟩ = some (.slice A4 n4 c4) := vb.cell 3
  have za := va.lt
  have zb := vb.lt
  go_region_held3 (fun w' => Below (w.heap.size + 1 + 1) W0 w' ∧ w.heap.size + 1 + 1 < w'.heap.size ∧ (∀ b o, b < w.heap.size + 1 + 1 → w'.cell? ⟨b, o, none⟩ = W0.cell? ⟨b, o, none⟩) ∧ (∀ o, o < 4 → w'.cell? ⟨w.heap.size + 1 + 1, o, none⟩ = some (rd w' (w.heap.size + 1 + 1) o)) ∧ (∀ o, w'.frozen? ⟨w.heap.size + 1 + 1, o, none⟩ = false) ∧ (∃ cs, w'.heap[w.heap.size + 1 + 1]? = some (.cells cs 53 (0, 0))))
    (first | exact heldT_step hb_wk (by assumption) | exact heldT_start vR | (repeat (refine heldT_store ?_ _ _)); assumption)
    (first | (go_at_call 47; refine (open_n (other_num hy1.out _ (heldT_bel (W0 := W0) (w.heap.size + 1 + 1) 4 53 (by assumption) hB_W0 (by omega)))).mono ?_; rintro e wk ⟨p1, P1, m1, q1, rfl, hn1, hb_wk⟩) | (go_at_call 42; refine (open_q (add_q (rat_mk (x := x) (hx1.out.below (heldT_bel (W0 := W0) (w.heap.size + 1 + 1) 4 53 (by assumption) hB_W0 (by omega))) (hx2.out.below (heldT_bel (W0 := W0) (w.heap.size + 1 + 1) 4 53 (by assumption) hB_W0 (by omega)))) (show RatAt _ _ (qneg y) from rat_mk (x := qneg y) hn1.out (hy2.out.below (heldT_bel (W0 := W0) (w.heap.size + 1 + 1) 4 53 (by assumption) hB_W0 (by omega)))) ⟨kx1, kx2⟩ (qs_neg ⟨ky1, ky2⟩) (by omega) _ (Below.refl _ _))).mono ?_; rintro e wk ⟨p2, P2, m2, q2, p3, P3, m3, q3, rfl, hn2, hn3, hb_wk⟩))
  obtain ⟨W', e', hB', k0, k1, k2, k3, cs, hVR⟩ := heldT_four (T := 53) (by assumption)
  have r1 := hn2.out.four hVR (by decide) (.bool p2) (.slice P2 m2 q2) (.bool p3) (.slice P3 m3 q3)
  have r2 := hn3.out.four hVR (by decide) (.bool p2) (.slice P2 m2 q2) (.bool p3) (.slice P3 m3 q3)
  rw [e'] at r1 r2
  rw [e']
  clear e'
  go_wp2_with fail
  refine bodyPost_ret (by simp [results, Try.results41, go_sem, *]; try rfl) rfl ?_
  exact ⟨_, rfl, rat_mk r1 r2, Below.trans hB_W0 (hB'.mono (by omega))⟩

set_option maxHeartbeats 1600000 in
theorem whole_q (n : Int) (hn : -9223372036854775808 ≤ n ∧ n ≤ 9223372036854775807) (w : World) :
    Calls Try.prog 26 #[.int .i64 n] w fun e w' => ∃ u, e = .returned u ∧ RatAt w' u (qw n) ∧ Below w.heap.size w w' := by
  have H1 := Lib.hid (fun W => of_num n hn W)
  have H2 := Lib.hid (fun W => of_num 1 (by decide) W)
  clear hn
  go_enter Try.func26, Try.ntmps26
  go_wp2_with fail
  refine (open_n (H1.out _)).mono ?_
  rintro e w1 ⟨p1, P1, m1, q1, rfl, hn1, hb1⟩
  have vR : Var w1 w.heap.size 53 #[.bool false, .slice none 0 0, .bool false, .slice none 0 0] := (Var.new _ _ _).keep hb1
  have hB1 : Below w.heap.size w w1 := Below.trans (by go_grown) (hb1.mono (by simp))
  clear hb1
  go_wp2_with fail
  refine (open_n (H2.out _)).mono ?_
  rintro e w2 ⟨p2, P2, m2, q2, rfl, hn2, hb2⟩
  have hn1 := Lib.hid (hn1.out.below hb2)
  have vR2 := vR.keep hb2
  have hB2 := hB1.trans (hb2.mono hB1.size)
  have r0 := vR2.cell 0
  have r1 := vR2.cell 1
  have r2 := vR2.cell 2
  have r3 := vR2.cell 3
  have f0 := vR2.free 0
  have f1 := vR2.free 1
  have f2 := vR2.free 2
  have f3 := vR2.free 3
  have HR := Lib.hid (And.intro vR2 hB2)
  clear vR hB1 hb2 vR2 hB2
  go_wp2_with fail
  refine bodyPost_ret (by simp [results, Try.results26, go_sem, *]; try rfl) rfl ?_
  exact ⟨_, rfl, rat_mk (hn1.out.four HR.out.1 (by decide) _ _ _ _) (hn2.out.four HR.out.1 (by decide) _ _ _ _), (((HR.out.2.setCell (p := ⟨w.heap.size, 0, none⟩) (Nat.le_refl _) _).setCell (p := ⟨w.heap.size, 1, none⟩) (Nat.le_refl _) _).setCell (p := ⟨w.heap.size, 2, none⟩) (Nat.le_refl _) _).setCell (p := ⟨w.heap.size, 3, none⟩) (Nat.le_refl _) _⟩

set_option maxHeartbeats 800000 in
theorem sign_q {w0 : World} {v : Value} {x : Q} {k : Nat} (h : RatAt w0 v x) (hk : QS k x) (hk9 : k ≤ 90000) (w : World) (hw : Below w0.heap.size w0 w) :
    Calls Try.prog 24 #[v] w fun e w' => e = .returned (.int .i64 (cmpI x.1 0)) ∧ Below w.heap.size w w' := by
  obtain ⟨b1, A1, n1, c1, b2, A2, n2, c2, rfl, hx1, hx2⟩ := rat_open (h.below hw)
  have HS := Lib.hid (fun W (h : Below w.heap.size w W) => sign_num hx1.out hk.1 hk9 W h)
  clear h hw hk
  go_enter Try.func24, Try.ntmps24
  go_wp2_with fail
  refine (HS.out _ (by go_grown)).mono ?_
  rintro e w1 ⟨rfl, hb1⟩
  have hB1 : Below w.heap.size w w1 := Below.trans (by go_grown) (hb1.mono (by simp))
  clear hb1
  go_wp2_with fail
  go_ret
  exact ⟨rfl, hB1⟩

set_option maxHeartbeats 1600000 in
set_option maxRecDepth 100000 in
theorem cmp_q {w0 : World} {v v' : Value} {x y : Q} {k : Nat} (h : RatAt w0 v x) (h' : RatAt w0 v' y) (hk : QS k x) (hk' : QS k y) (hk9 : k ≤ 15000) (w : World) (hw : Below w0.heap.size w0 w) :
    Calls Try.prog 27 #[v, v'] w fun e w' => e = .returned (.int .i64 (qcmp x y)) ∧ Below w.heap.size w w' := by
  obtain ⟨b1, A1, n1, c1, b2, A2, n2, c2, rfl, hx1, hx2⟩ := rat_open (h.below hw)
  obtain ⟨b3, A3, n3, c3, b4, A4, n4, c4, rfl, hy1, hy2⟩ := rat_open (h'.below hw)
  obtain ⟨kx1, kx2⟩ := hk
  obtain ⟨ky1, ky2⟩ := hk'
  clear h h' hw
  go_enter Try.func27, Try.ntmps27
  go_wp2_with fail
  refine wp_gen (fun W0 hW => ?_)
  have va : Var W0 w.heap.size 53 #[.bool b1, .slice A1 n1 c1, .bool b2, .slice A2 n2 c2] := by rw [hW]; exact (Var.new _ _ _).alloc _
  have vb : Var W0 (w.heap.size + 1) 53 #[.bool b3, .slice A3 n3 c3, .bool b4, .slice A4 n4 c4] := by rw [hW]; exact Var.new' _ _ _ (by simp)
  have hB_W0 : Below w.heap.size w W0 := by rw [hW]; go_grown
  clear hW
  have va0 : W0.cell? ⟨w.heap.size, 0, none⟩ = some (.bool b1) := va.cell 0
  have va1 : W0.cell? ⟨w.heap.size, 1, none⟩ = some (.slice A1 n1 c1) := va.cell 1
  have va2 : W0.cell? ⟨w.heap.size, 2, none⟩ = some (.bool b2) := va.cell 2
  have va3 : W0.cell? ⟨w.heap.size, 3, none⟩ = some (.slice A2 n2 c2) := va.cell 3
  have vb0 : W0.cell? ⟨w.heap.size + 1, 0, none⟩ = some (.bool b3) := vb.cell 0
  have vb1 : W0.cell? ⟨w.heap.size + 1, 1, none⟩ = some (.slice A3 n3 c3) := vb.cell 1
  have vb2 : W0.cell? ⟨w.heap.size + 1, 2, none⟩ = some (.bool b4) := vb.cell 2
  have vb3 : W0.cell? ⟨w.heap.size + 1, 3, none⟩ = some (.slice A4 n4 c4) := vb.cell 3
  have za := va.lt
  have zb := vb.lt
  go_region_held3 (fun w' => Below W0.heap.size W0 w' ∧ (∀ b o, b < W0.heap.size → w'.cell? ⟨b, o, none⟩ = W0.cell? ⟨b, o, none⟩))
    (first | exact held_step hb_wk (by assumption) | exact held_start _)
    (first | (go_at_call_of 46 (Value.agg #[.bool b1, .slice A1 n1 c1]); refine (open_n (times_num hx1.out hy2.out kx1 ky2 (by omega) _ (held_bel hB_W0 (by assumption)))).mono ?_; rintro e wk ⟨p1, P1, m1, q1, rfl, hn1, hb_wk⟩) | (go_at_call_of 46 (Value.agg #[.bool b3, .slice A3 n3 c3]); refine (open_n (times_num hy1.out hx2.out ky1 kx2 (by omega) _ (held_bel hB_W0 (by assumption)))).mono ?_; rintro e wk ⟨p2, P2, m2, q2, rfl, hn2, hb_wk⟩; have hn1 := Lib.hid (hn1.out.below hb_wk)) | (go_at_call 47; refine (open_n (other_num hn2.out _ (Below.refl _ _))).mono ?_; rintro e wk ⟨p3, P3, m3, q3, rfl, hn3, hb_wk⟩; have hn1 := Lib.hid (hn1.out.below hb_wk)) | (go_at_call 49; refine (open_n (plus_num hn1.out hn3.out (small_mul kx1 ky2) (small_neg (small_mul ky1 kx2)) (by omega) _ (Below.refl _ _))).mono ?_; rintro e wk ⟨p4, P4, m4, q4, rfl, hn4, hb_wk⟩) | (go_at_call 45; refine (sign_num hn4.out (small_add (small_mul kx1 ky2) (small_neg (small_mul ky1 kx2))) (by omega) _ (Below.refl _ _)).mono ?_; rintro e wk ⟨rfl, hb_wk⟩))
  have hBE := (held_bel hB_W0 (by assumption))
  go_wp2_with fail
  go_ret
  exact ⟨ret_intR (cmpI_off _ _), hBE⟩

set_option maxHeartbeats 1600000 in
set_option maxRecDepth 100000 in
theorem quo_q {w0 : World} {v v' : Value} {x y : Q} {k : Nat} (h : RatAt w0 v x) (h' : RatAt w0 v' y) (hk : QS k x) (hk' : QS k y) (hk9 : k ≤ 15000) (w : World) (hw : Below w0.heap.size w0 w) :
    Calls Try.prog 25 #[v, v'] w fun e w' => ∃ u, e = .returned u ∧ RatAt w' u (qquo x y) ∧ Below w.heap.size w w' := by
  obtain ⟨b1, A1, n1, c1, b2, A2, n2, c2, rfl, hx1, hx2⟩ := rat_open (h.below hw)
  obtain ⟨b3, A3, n3, c3, b4, A4, n4, c4, rfl, hy1, hy2⟩ := rat_open (h'.below hw)
  obtain ⟨kx1, kx2⟩ := hk
  obtain ⟨ky1, ky2⟩ := hk'
  clear h h' hw
  have HT1 := Lib.hid (fun W (h : Below w.heap.size w W) => times_num hx1.out hy2.out kx1 ky2 (by omega) W h)
  have HT2 := Lib.hid (fun W (h : Below w.heap.size w W) => times_num hx2.out hy1.out kx2 ky1 (by omega) W h)
  go_enter Try.func25, Try.ntmps25
  go_wp2_with fail
  refine (open_n (HT1.out _ (by go_grown))).mono ?_
  rintro e w1 ⟨p1, P1, m1, q1, rfl, hn1, hb1⟩
  have va : Var w1 w.heap.size 53 #[.bool b1, .slice A1 n1 c1, .bool b2, .slice A2 n2 c2] := (((Var.new _ _ _).alloc _).alloc _).keep hb1
  have vb : Var w1 (w.heap.size + 1) 53 #[.bool b3, .slice A3 n3 c3, .bool b4, .slice A4 n4 c4] := ((Var.new' _ _ _ (by simp)).alloc _).keep hb1
  have vR : Var w1 (w.heap.size + 1 + 1) 53 #[.bool false, .slice none 0 0, .bool false, .slice none 0 0] := (Var.new' _ _ _ (by simp)).keep hb1
  have hB1 : Below w.heap.size w w1 := Below.trans (by go_grown) (hb1.mono (by simp; omega))
  clear hb1 HT1
  have a0 : w1.cell? ⟨w.heap.size, 2, none⟩ = some (.bool b2) := va.cell 2
  have a1 : w1.cell? ⟨w.heap.size, 3, none⟩ = some (.slice A2 n2 c2) := va.cell 3
  have b0 : w1.cell? ⟨w.heap.size + 1, 0, none⟩ = some (.bool b3) := vb.cell 0
  have b1' : w1.cell? ⟨w.heap.size + 1, 1, none⟩ = some (.slice A3 n3 c3) := vb.cell 1
  have z1 := vR.lt
  have s0 := va.lt
  have s1 := vb.lt
  go_wp2_with fail
  refine (open_n (HT2.out _ (by go_grown))).mono ?_
  rintro e w2 ⟨p2, P2, m2, q2, rfl, hn2, hb2⟩
  have hn1 := Lib.hid (hn1.out.below (((Below.refl _ w1).alloc (Nat.le_refl _) (.cells #[.bool p1, .slice P1 m1 q1] 51)).trans (hb2.mono (by simp))))
  have vN : Var w2 w1.heap.size 51 #[.bool p1, .slice P1 m1 q1] := (Var.new _ _ _).keep hb2
  have vR2 : Var w2 (w.heap.size + 1 + 1) 53 _ := (vR.alloc (.cells #[.bool p1, .slice P1 m1 q1] 51)).keep hb2
  have hB2 : Below w.heap.size w w2 := (hB1.alloc (by omega) _).trans (hb2.mono (by simp; omega))
  have hz2 : w1.heap.size < w2.heap.size := vN.lt
  have HS := Lib.hid (num_sign hn2.out)
  clear hb2 HT2 va vb vR a0 a1 b0 b1' hB1
  have hwz : w.heap.size + 1 + 1 < w2.heap.size := vR2.lt
  have x0 : w2.cell? ⟨w1.heap.size, 0, none⟩ = some (.bool p1) := vN.cell 0
  have x1 : w2.cell? ⟨w1.heap.size, 1, none⟩ = some (.slice P1 m1 q1) := vN.cell 1
  cases p2
  · have hq : ¬ x.2 * y.1 < 0 := of_decide_eq_false HS.out.symm
    have HQ := Lib.hid (show qquo x y = (x.1 * y.2, x.2 * y.1) by unfold qquo; rw [if_neg hq])
    clear hq
    have r0 : w2.cell? ⟨w.heap.size + 1 + 1, 0, none⟩ = some (.bool false) := vR2.cell 0
    have r1 : w2.cell? ⟨w.heap.size + 1 + 1, 1, none⟩ = some (.slice none 0 0) := vR2.cell 1
    have r2 : w2.cell? ⟨w.heap.size + 1 + 1, 2, none⟩ = some (.bool false) := vR2.cell 2
    have r3 : w2.cell? ⟨w.heap.size + 1 + 1, 3, none⟩ = some (.slice none 0 0) := vR2.cell 3
    have f0 := vR2.free 0
    have f1 := vR2.free 1
    have f2 := vR2.free 2
    have f3 := vR2.free 3
    have HR := Lib.hid (And.intro vR2 hB2)
    clear vR2 hB2 vN
    go_wp2_with fail
    refine bodyPost_ret (by simp [results, Try.results25, go_sem, *]; try rfl) rfl ?_
    rw [HQ.out]
    have e1 := (hn1.out.four HR.out.1 (by decide) (.bool p1) (.slice P1 m1 q1) (.bool false) (.slice P2 m2 q2)).alloc (.cells #[.bool false, .slice P2 m2 q2] 51)
    have e2 := (hn2.out.four HR.out.1 (by decide) (.bool p1) (.slice P1 m1 q1) (.bool false) (.slice P2 m2 q2)).alloc (.cells #[.bool false, .slice P2 m2 q2] 51)
    exact ⟨_, rfl, rat_mk (x := (x.1 * y.2, x.2 * y.1)) e1 e2, ((((HR.out.2.setCell (p := ⟨w.heap.size + 1 + 1, 0, none⟩) (by show w.heap.size ≤ w.heap.size + 1 + 1; omega) _).setCell (p := ⟨w.heap.size + 1 + 1, 1, none⟩) (by show w.heap.size ≤ w.heap.size + 1 + 1; omega) _).setCell (p := ⟨w.heap.size + 1 + 1, 2, none⟩) (by show w.heap.size ≤ w.heap.size + 1 + 1; omega) _).setCell (p := ⟨w.heap.size + 1 + 1, 3, none⟩) (by show w.heap.size ≤ w.heap.size + 1 + 1; omega) _).alloc (by simp; omega) _⟩
  · have hq : x.2 * y.1 < 0 := of_decide_eq_true HS.out.symm
    have HQ := Lib.hid (show qquo x y = (-(x.1 * y.2), -(x.2 * y.1)) by unfold qquo; rw [if_pos hq])
    clear hq
    go_wp2_with fail
    refine wp_gen (fun W0 hW => ?_)
    have vN0 : Var W0 w1.heap.size 51 #[.bool p1, .slice P1 m1 q1] := by rw [hW]; exact vN.alloc _
    have vM0 : Var W0 w2.heap.size 51 #[.bool true, .slice P2 m2 q2] := by rw [hW]; exact Var.new _ _ _
    have vR0 : Var W0 (w.heap.size + 1 + 1) 53 #[.bool false, .slice none 0 0, .bool false, .slice none 0 0] := by rw [hW]; exact vR2.alloc _
    have hB_W0 : Below w.heap.size w W0 := by rw [hW]; exact hB2.alloc (by omega) _
    have hn1 := Lib.hid (show NumAt W0 _ _ by rw [hW]; exact hn1.out.alloc _)
    have hn2 := Lib.hid (show NumAt W0 _ _ by rw [hW]; exact hn2.out.alloc _)
    clear hW vN vR2 hB2 x0 x1
    have x0 : W0.cell? ⟨w1.heap.size, 0, none⟩ = some (.bool p1) := vN0.cell 0
    have x1 : W0.cell? ⟨w1.heap.size, 1, none⟩ = some (.slice P1 m1 q1) := vN0.cell 1
    have y0 : W0.cell? ⟨w2.heap.size, 0, none⟩ = some (.bool true) := vM0.cell 0
    have y1 : W0.cell? ⟨w2.heap.size, 1, none⟩ = some (.slice P2 m2 q2) := vM0.cell 1
    have t1 := vN0.lt
    have t2 := vM0.lt
    have u1 : ¬ w1.heap.size = w.heap.size + 1 + 1 := by omega
    have u2 : ¬ w2.heap.size = w.heap.size + 1 + 1 := by omega
    go_region_held3 (fun w' => W0.grownBy w' (some (w.heap.size + 1 + 1)) ∧ w.heap.size + 1 + 1 < w'.heap.size ∧ (∀ b o, b < W0.heap.size → ¬ b = w.heap.size + 1 + 1 → w'.cell? ⟨b, o, none⟩ = W0.cell? ⟨b, o, none⟩) ∧ (∀ o, o < 4 → w'.cell? ⟨w.heap.size + 1 + 1, o, none⟩ = some (rd w' (w.heap.size + 1 + 1) o)) ∧ (∀ o, w'.frozen? ⟨w.heap.size + 1 + 1, o, none⟩ = false) ∧ (∃ cs, w'.heap[w.heap.size + 1 + 1]? = some (.cells cs 53 (0, 0))))
      (first | exact heldB_step hb_wk (by assumption) | exact heldB_start vR0 | (repeat (refine heldB_store ?_ _ _)); assumption)
      (first | (go_at_call_of 47 (Value.agg #[.bool p1, .slice P1 m1 q1]); refine (open_n (other_num (heldB_num (k := 4) vR0 (by decide) (by assumption) hn1.out) _ (Below.refl _ _))).mono ?_; rintro e wk ⟨p3, P3, m3, q3, rfl, hn3, hb_wk⟩) | (go_at_call 47; refine (open_n (other_num (heldB_num (k := 4) vR0 (by decide) (by assumption) hn2.out) _ (Below.refl _ _))).mono ?_; rintro e wj ⟨p4, P4, m4, q4, rfl, hn4, hb_wj⟩; have hn3 := Lib.hid (hn3.out.below hb_wj); have hb_wk := hb_wj))
    obtain ⟨W', e', hB', k0, k1, k2, k3, cs, hVR⟩ := heldB_four (T := 53) (by assumption)
    have r1 := hn3.out.four hVR (by decide) (.bool p3) (.slice P3 m3 q3) (.bool p4) (.slice P4 m4 q4)
    have r2 := hn4.out.four hVR (by decide) (.bool p3) (.slice P3 m3 q3) (.bool p4) (.slice P4 m4 q4)
    rw [e'] at r1 r2
    rw [e']
    clear e'
    go_wp2_with fail
    refine bodyPost_ret (by simp [results, Try.results25, go_sem, *]; try rfl) rfl ?_
    rw [HQ.out]
    exact ⟨_, rfl, rat_mk (x := (-(x.1 * y.2), -(x.2 * y.1))) r1 r2, hB_W0.grown hB' hB_W0.size (fun k e => by have : w.heap.size + 1 + 1 = k := Option.some.inj e; omega)⟩

end Go.Proofs.Ytpjgghakeaajbaa
