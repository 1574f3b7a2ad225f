/-
  The document's cross product, turn, and place along a segment. Printed by wip/tools/gen_crossr.py.
-/
import Derived.Test.YtpjgghakeaajbaaNumbR
namespace Go.Proofs.Ytpjgghakeaajbaa
open Go.RowKit

theorem rat_at {P : Program} {f : FuncId} {args : Array Value} {w : World} {z : Q} (h : Calls P f args w fun e w' => ∃ v, e = .returned v ∧ RatAt w' v z ∧ Below w.heap.size w w') :
    Calls P f args w fun e w' => ∃ v, e = .returned v ∧ Hid (RatAt w' v z) ∧ Below w.heap.size w w' := h
set_option maxHeartbeats 1600000 in
theorem cross_q (u v : Pt) (h1 : I64 u.1) (h2 : I64 u.2) (h3 : I64 v.1) (h4 : I64 v.2) (w : World) :
    Calls Try.prog 23 #[.int .i64 u.1, .int .i64 u.2, .int .i64 v.1, .int .i64 v.2] w fun e w' => ∃ z, e = .returned z ∧ RatAt w' z (qcross u v) ∧ Below w.heap.size w w' := by
  have K1 := Lib.hid (fun W => whole_q u.1 h1 W)
  have K2 := Lib.hid (fun W => whole_q u.2 h2 W)
  have K3 := Lib.hid (fun W => whole_q v.1 h3 W)
  have K4 := Lib.hid (fun W => whole_q v.2 h4 W)
  have HS := Lib.hid (And.intro (qs_w h1) (And.intro (qs_w h2) (And.intro (qs_w h3) (qs_w h4))))
  obtain ⟨ux, uy⟩ := u
  obtain ⟨vx, vy⟩ := v
  dsimp only at K1 K2 K3 K4 HS ⊢
  clear h1 h2 h3 h4
  go_enter Try.func23, Try.ntmps23
  go_wp2_with fail
  refine (rat_at (K1.out _)).mono ?_
  rintro e w1 ⟨v1, rfl, h1, b1⟩
  have vR : Var w1 w.heap.size 53 #[.bool false, .slice none 0 0, .bool false, .slice none 0 0] := (Var.new _ _ _).keep b1
  have hB1 : Below w.heap.size w w1 := Below.trans (by go_grown) (b1.mono (by simp))
  have S1 := Lib.hid (And.intro vR hB1)
  clear vR hB1 b1
  go_wp2_with fail
  refine (rat_at (K4.out _)).mono ?_
  rintro e w2 ⟨v2, rfl, h2, b2⟩
  have h1 := Lib.hid (h1.out.below b2)
  have S2 := Lib.hid (And.intro (S1.out.1.keep b2) (S1.out.2.trans (b2.mono S1.out.2.size)))
  clear b2 S1
  go_wp2_with fail
  refine (rat_at (mul_q h1.out h2.out HS.out.1 HS.out.2.2.2 (by omega) w2 (Below.refl _ _))).mono ?_
  rintro e w3 ⟨v3, rfl, h3, b3⟩
  have S3 := Lib.hid (And.intro (S2.out.1.keep b3) (S2.out.2.trans (b3.mono S2.out.2.size)))
  clear b3 S2 h1 h2
  go_wp2_with fail
  refine (rat_at (K2.out _)).mono ?_
  rintro e w4 ⟨v4, rfl, h4, b4⟩
  have h3 := Lib.hid (h3.out.below b4)
  have S4 := Lib.hid (And.intro (S3.out.1.keep b4) (S3.out.2.trans (b4.mono S3.out.2.size)))
  clear b4 S3
  go_wp2_with fail
  refine (rat_at (K3.out _)).mono ?_
  rintro e w5 ⟨v5, rfl, h5, b5⟩
  have h3 := Lib.hid (h3.out.below b5)
  have h4 := Lib.hid (h4.out.below b5)
  have S5 := Lib.hid (And.intro (S4.out.1.keep b5) (S4.out.2.trans (b5.mono S4.out.2.size)))
  clear b5 S4
  go_wp2_with fail
  refine (rat_at (mul_q h4.out h5.out HS.out.2.1 HS.out.2.2.1 (by omega) w5 (Below.refl _ _))).mono ?_
  rintro e w6 ⟨v6, rfl, h6, b6⟩
  have h3 := Lib.hid (h3.out.below b6)
  have S6 := Lib.hid (And.intro (S5.out.1.keep b6) (S5.out.2.trans (b6.mono S5.out.2.size)))
  clear b6 S5 h4 h5
  go_wp2_with fail
  refine (open_q (sub_q h3.out h6.out (qs_mul HS.out.1 HS.out.2.2.2) (qs_mul HS.out.2.1 HS.out.2.2.1) (by omega) w6 (Below.refl _ _))).mono ?_
  rintro e w7 ⟨p1, P1, m1, q1, p2, P2, m2, q2, rfl, hn1, hn2, b7⟩
  have vR := S6.out.1.keep b7
  have r0 := vR.cell 0
  have r1 := vR.cell 1
  have r2 := vR.cell 2
  have r3 := vR.cell 3
  have f0 := vR.free 0
  have f1 := vR.free 1
  have f2 := vR.free 2
  have f3 := vR.free 3
  have S7 := Lib.hid (And.intro vR (S6.out.2.trans (b7.mono S6.out.2.size)))
  clear b7 S6 h3 h6 vR
  go_wp2_with fail
  refine bodyPost_ret (by simp [results, Try.results23, go_sem, *]; try rfl) rfl ?_
  exact ⟨_, rfl, rat_mk (x := qcross (ux, uy) (vx, vy)) (hn1.out.four S7.out.1 (by decide) _ _ _ _) (hn2.out.four S7.out.1 (by decide) _ _ _ _), (((S7.out.2.setCell (p := ⟨w.heap.size, 0, none⟩) (Nat.le_refl _) _).setCell (p := ⟨w.heap.size, 1, none⟩) (Nat.le_refl _) _).setCell (p := ⟨w.heap.size, 2, none⟩) (Nat.le_refl _) _).setCell (p := ⟨w.heap.size, 3, none⟩) (Nat.le_refl _) _⟩

set_option maxRecDepth 100000 in
theorem qs_cross {u v : Pt} (h1 : I64 u.1) (h2 : I64 u.2) (h3 : I64 v.1) (h4 : I64 v.2) : QS 9 (qcross u v) := by
  have k1 := qs_mul (qs_w h1) (qs_w h4)
  have k2 := qs_mul (qs_w h2) (qs_w h3)
  have k3 := qs_sub k1 k2
  unfold qcross
  exact k3.mono (by decide)
theorem sub_wraps {a b p : Int} (ha : I32 a) (hb : I32 b) (hp : I32 p) : IntKind.i64.wrap a = a ∧ IntKind.i64.wrap b = b ∧ IntKind.i64.wrap p = p ∧ IntKind.i64.wrap (b - a) = b - a ∧ IntKind.i64.wrap (p - a) = p - a := by
  have w : ∀ z : Int, -9223372036854775808 ≤ z → z ≤ 9223372036854775807 → IntKind.i64.wrap z = z := fun z a b => by
    simp only [IntKind.wrap, IntKind.signed, IntKind.bits]
    simp
    omega
  unfold I32 at ha hb hp
  exact ⟨w _ (by omega) (by omega), w _ (by omega) (by omega), w _ (by omega) (by omega), w _ (by omega) (by omega), w _ (by omega) (by omega)⟩
theorem sb_64 {a b : Pt} (ha : I32 a.1 ∧ I32 a.2) (hb : I32 b.1 ∧ I32 b.2) : I64 (sb a b).1 ∧ I64 (sb a b).2 := by
  obtain ⟨h1, h2⟩ := ha
  obtain ⟨h3, h4⟩ := hb
  unfold I32 at h1 h2 h3 h4
  unfold I64 sb
  dsimp only
  omega

set_option maxHeartbeats 1600000 in
set_option maxRecDepth 100000 in
theorem turn_r (a b p : Pt) (ha : I32 a.1 ∧ I32 a.2) (hb : I32 b.1 ∧ I32 b.2) (hp : I32 p.1 ∧ I32 p.2) (w : World) :
    Calls Try.prog 21 #[.agg #[.int .i32 a.1, .int .i32 a.2], .agg #[.int .i32 b.1, .int .i32 b.2], .agg #[.int .i32 p.1, .int .i32 p.2]] w fun e w' => e = .returned (.int .i64 (cmpI (cr (sb a b) (sb a p)) 0)) ∧ Below w.heap.size w w' := by
  obtain ⟨s1, s2⟩ := sb_64 ha hb
  obtain ⟨s3, s4⟩ := sb_64 ha hp
  have K := Lib.hid (fun W => cross_q (sb a b) (sb a p) s1 s2 s3 s4 W)
  have HS := Lib.hid (qs_cross s1 s2 s3 s4)
  have HZ := Lib.hid (show (qcross (sb a b) (sb a p)).1 = cr (sb a b) (sb a p) by rw [qcross_is])
  obtain ⟨z, hz⟩ : ∃ z, qcross (sb a b) (sb a p) = z := ⟨_, rfl⟩
  rw [hz] at K HS HZ
  rw [← HZ.out]
  clear hz s1 s2 s3 s4 HZ
  obtain ⟨a1, a2⟩ := a
  obtain ⟨b1, b2⟩ := b
  obtain ⟨p1, p2⟩ := p
  dsimp only [sb] at K ha hb hp ⊢
  obtain ⟨ha1, ha2⟩ := ha
  obtain ⟨hb1, hb2⟩ := hb
  obtain ⟨hp1, hp2⟩ := hp
  unfold I32 at ha1 ha2 hb1 hb2 hp1 hp2
  go_enter Try.func21, Try.ntmps21
  go_wp2_with fail
  refine (open_q (K.out _)).mono ?_
  rintro e w1 ⟨q1, Q1, m1, c1, q2, Q2, m2, c2, rfl, hn1, hn2, b1'⟩
  have hB1 : Below w.heap.size w w1 := Below.trans (by go_grown) (b1'.mono (by simp; omega))
  have HR := Lib.hid (And.intro (rat_mk (x := z) hn1.out hn2.out) hB1)
  have hz1 := hB1.size
  clear b1' hB1 hn1 hn2 ha1 ha2 hb1 hb2 hp1 hp2
  go_wp2_with fail
  refine (sign_q HR.out.1 HS.out (by omega) _ ((Below.refl _ w1).alloc (Nat.le_refl _) _)).mono ?_
  rintro e w2 ⟨rfl, b2'⟩
  have hB2 : Below w.heap.size w w2 := (HR.out.2.alloc hz1 _).trans (b2'.mono (by simp; omega))
  have HR2 := Lib.hid hB2
  clear b2' hB2
  go_wp2_with fail
  go_ret
  exact ⟨rfl, HR2.out⟩

set_option maxHeartbeats 3200000 in
set_option maxRecDepth 100000 in
theorem along_r (a b p : Pt) (ha : I32 a.1 ∧ I32 a.2) (hb : I32 b.1 ∧ I32 b.2) (hp : I32 p.1 ∧ I32 p.2) (w : World) :
    Calls Try.prog 44 #[.agg #[.int .i32 a.1, .int .i32 a.2], .agg #[.int .i32 b.1, .int .i32 b.2], .agg #[.int .i32 p.1, .int .i32 p.2]] w fun e w' => ∃ z, e = .returned z ∧ RatAt w' z (qalong a b p) ∧ Below w.heap.size w w' := by
  obtain ⟨s1, s2⟩ := sb_64 ha hb
  obtain ⟨s3, s4⟩ := sb_64 ha hp
  have K1 := Lib.hid (fun W => whole_q (sb a p).1 s3 W)
  have K2 := Lib.hid (fun W => whole_q (sb a b).1 s1 W)
  have K3 := Lib.hid (fun W => whole_q (sb a p).2 s4 W)
  have K4 := Lib.hid (fun W => whole_q (sb a b).2 s2 W)
  have HS := Lib.hid (And.intro (And.intro (qs_w s3) (qs_w s1)) (And.intro (qs_w s4) (qs_w s2)))
  clear s1 s2 s3 s4
  obtain ⟨a1, a2⟩ := a
  obtain ⟨b1, b2⟩ := b
  obtain ⟨p1, p2⟩ := p
  dsimp only [sb] at K1 K2 K3 K4 HS ha hb hp ⊢
  obtain ⟨ha1, ha2⟩ := ha
  obtain ⟨hb1, hb2⟩ := hb
  obtain ⟨hp1, hp2⟩ := hp
  by_cases hx : a1 = b1
  · subst hx
    have HQ := Lib.hid (show qalong (a1, a2) (a1, b2) (p1, p2) = qquo (qw (p2 - a2)) (qw (b2 - a2)) by unfold qalong; rw [if_neg (by simp)])
    go_enter Try.func44, Try.ntmps44
    go_wp2_with fail
    refine wp_gen (fun W0 hW => ?_)
    have va : Var W0 w.heap.size 23 #[.int .i32 a1, .int .i32 a2] := by rw [hW]; exact (((Var.new _ _ _).alloc _).alloc _).alloc _
    have vb : Var W0 (w.heap.size + 1) 23 #[.int .i32 a1, .int .i32 b2] := by rw [hW]; exact ((Var.new' _ _ _ (by simp)).alloc _).alloc _
    have vp : Var W0 (w.heap.size + 1 + 1) 23 #[.int .i32 p1, .int .i32 p2] := by rw [hW]; exact (Var.new' _ _ _ (by simp)).alloc _
    have vR : Var W0 (w.heap.size + 1 + 1 + 1) 53 #[.bool false, .slice none 0 0, .bool false, .slice none 0 0] := by rw [hW]; exact Var.new' _ _ _ (by simp)
    have hB_W0 : Below w.heap.size w W0 := by rw [hW]; go_grown
    clear hW
    have ca : W0.cell? ⟨w.heap.size, 1, none⟩ = some (.int .i32 a2) := va.cell 1
    have cb : W0.cell? ⟨w.heap.size + 1, 1, none⟩ = some (.int .i32 b2) := vb.cell 1
    have cp : W0.cell? ⟨w.heap.size + 1 + 1, 1, none⟩ = some (.int .i32 p2) := vp.cell 1
    have za := va.lt
    have zb := vb.lt
    have zp := vp.lt
    obtain ⟨x1, x2, x3, x4, x5⟩ := sub_wraps ha2 hb2 hp2
    clear ha1 ha2 hb1 hb2 hp1 hp2
    go_region_held3 (fun w' => Below (w.heap.size + 1 + 1 + 1) W0 w' ∧ w.heap.size + 1 + 1 + 1 < w'.heap.size ∧ (∀ b o, b < w.heap.size + 1 + 1 + 1 → w'.cell? ⟨b, o, none⟩ = W0.cell? ⟨b, o, none⟩) ∧ (∀ o, o < 4 → w'.cell? ⟨w.heap.size + 1 + 1 + 1, o, none⟩ = some (rd w' (w.heap.size + 1 + 1 + 1) o)) ∧ (∀ o, w'.frozen? ⟨w.heap.size + 1 + 1 + 1, o, none⟩ = false) ∧ (∃ cs, w'.heap[w.heap.size + 1 + 1 + 1]? = some (.cells cs 53 (0, 0))))
      (first | exact heldT_step hb_wk (by assumption) | exact heldT_start vR | (repeat (refine heldT_store ?_ _ _)); assumption)
      (first | (go_at_call_of 26 (Value.int .i64 (p2 - a2)); refine (rat_at (K3.out _)).mono ?_; rintro e wk ⟨v1, rfl, h1, hb_wk⟩) | (go_at_call 26; refine (rat_at (K4.out _)).mono ?_; rintro e wk ⟨v2, rfl, h2, hb_wk⟩; have h1 := Lib.hid (h1.out.below hb_wk)) | (go_at_call 25; refine (open_q (quo_q h1.out h2.out HS.out.2.1 HS.out.2.2 (by omega) _ (Below.refl _ _))).mono ?_; rintro e wk ⟨q1, Q1, m1, c1, q2, Q2, m2, c2, rfl, hn1, hn2, hb_wk⟩))
    obtain ⟨W', e', hB', k0, k1, k2, k3, cs, hVR⟩ := heldT_four (T := 53) (by assumption)
    have r1 := hn1.out.four hVR (by decide) (.bool q1) (.slice Q1 m1 c1) (.bool q2) (.slice Q2 m2 c2)
    have r2 := hn2.out.four hVR (by decide) (.bool q1) (.slice Q1 m1 c1) (.bool q2) (.slice Q2 m2 c2)
    rw [e'] at r1 r2
    rw [e']
    clear e'
    go_wp2_with fail
    refine bodyPost_ret (by simp [results, Try.results44, go_sem, *]; try rfl) rfl ?_
    rw [HQ.out]
    exact ⟨_, rfl, rat_mk (x := qquo (qw (p2 - a2)) (qw (b2 - a2))) r1 r2, Below.trans hB_W0 (hB'.mono (by omega))⟩
  · have hq : (a1 == b1) = false := beq_eq_false_iff_ne.2 hx
    have HQ := Lib.hid (show qalong (a1, a2) (b1, b2) (p1, p2) = qquo (qw (p1 - a1)) (qw (b1 - a1)) by unfold qalong; rw [if_pos hx])
    clear hx
    go_enter Try.func44, Try.ntmps44
    go_wp2_with fail
    refine wp_gen (fun W0 hW => ?_)
    have va : Var W0 w.heap.size 23 #[.int .i32 a1, .int .i32 a2] := by rw [hW]; exact (((Var.new _ _ _).alloc _).alloc _).alloc _
    have vb : Var W0 (w.heap.size + 1) 23 #[.int .i32 b1, .int .i32 b2] := by rw [hW]; exact ((Var.new' _ _ _ (by simp)).alloc _).alloc _
    have vp : Var W0 (w.heap.size + 1 + 1) 23 #[.int .i32 p1, .int .i32 p2] := by rw [hW]; exact (Var.new' _ _ _ (by simp)).alloc _
    have vR : Var W0 (w.heap.size + 1 + 1 + 1) 53 #[.bool false, .slice none 0 0, .bool false, .slice none 0 0] := by rw [hW]; exact Var.new' _ _ _ (by simp)
    have hB_W0 : Below w.heap.size w W0 := by rw [hW]; go_grown
    clear hW
    have ca : W0.cell? ⟨w.heap.size, 0, none⟩ = some (.int .i32 a1) := va.cell 0
    have cb : W0.cell? ⟨w.heap.size + 1, 0, none⟩ = some (.int .i32 b1) := vb.cell 0
    have cp : W0.cell? ⟨w.heap.size + 1 + 1, 0, none⟩ = some (.int .i32 p1) := vp.cell 0
    have za := va.lt
    have zb := vb.lt
    have zp := vp.lt
    obtain ⟨x1, x2, x3, x4, x5⟩ := sub_wraps ha1 hb1 hp1
    clear ha1 ha2 hb1 hb2 hp1 hp2
    go_region_held3 (fun w' => Below (w.heap.size + 1 + 1 + 1) W0 w' ∧ w.heap.size + 1 + 1 + 1 < w'.heap.size ∧ (∀ b o, b < w.heap.size + 1 + 1 + 1 → w'.cell? ⟨b, o, none⟩ = W0.cell? ⟨b, o, none⟩) ∧ (∀ o, o < 4 → w'.cell? ⟨w.heap.size + 1 + 1 + 1, o, none⟩ = some (rd w' (w.heap.size + 1 + 1 + 1) o)) ∧ (∀ o, w'.frozen? ⟨w.heap.size + 1 + 1 + 1, o, none⟩ = false) ∧ (∃ cs, w'.heap[w.heap.size + 1 + 1 + 1]? = some (.cells cs 53 (0, 0))))
      (first | exact heldT_step hb_wk (by assumption) | exact heldT_start vR | (repeat (refine heldT_store ?_ _ _)); assumption)
      (first | (go_at_call_of 26 (Value.int .i64 (p1 - a1)); refine (rat_at (K1.out _)).mono ?_; rintro e wk ⟨v1, rfl, h1, hb_wk⟩) | (go_at_call 26; refine (rat_at (K2.out _)).mono ?_; rintro e wk ⟨v2, rfl, h2, hb_wk⟩; have h1 := Lib.hid (h1.out.below hb_wk)) | (go_at_call 25; refine (open_q (quo_q h1.out h2.out HS.out.1.1 HS.out.1.2 (by omega) _ (Below.refl _ _))).mono ?_; rintro e wk ⟨q1, Q1, m1, c1, q2, Q2, m2, c2, rfl, hn1, hn2, hb_wk⟩))
    obtain ⟨W', e', hB', k0, k1, k2, k3, cs, hVR⟩ := heldT_four (T := 53) (by assumption)
    have r1 := hn1.out.four hVR (by decide) (.bool q1) (.slice Q1 m1 c1) (.bool q2) (.slice Q2 m2 c2)
    have r2 := hn2.out.four hVR (by decide) (.bool q1) (.slice Q1 m1 c1) (.bool q2) (.slice Q2 m2 c2)
    rw [e'] at r1 r2
    rw [e']
    clear e'
    go_wp2_with fail
    refine bodyPost_ret (by simp [results, Try.results44, go_sem, *]; try rfl) rfl ?_
    rw [HQ.out]
    exact ⟨_, rfl, rat_mk (x := qquo (qw (p1 - a1)) (qw (b1 - a1))) r1 r2, Below.trans hB_W0 (hB'.mono (by omega))⟩

end Go.Proofs.Ytpjgghakeaajbaa
