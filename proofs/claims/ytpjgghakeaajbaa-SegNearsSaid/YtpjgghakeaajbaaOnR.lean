/-
  The document's On: whether a point lies on a segment.
-/
import Derived.Test.YtpjgghakeaajbaaCrossR
namespace Go.Proofs.Ytpjgghakeaajbaa
open Go.RowKit

set_option maxRecDepth 100000 in
theorem qs_along {a b p : Pt} (ha : I32 a.1 ∧ I32 a.2) (hb : I32 b.1 ∧ I32 b.2) (hp : I32 p.1 ∧ I32 p.2) : QS 4 (qalong a b p) := by
  obtain ⟨s1, s2⟩ := sb_64 ha hb
  obtain ⟨s3, s4⟩ := sb_64 ha hp
  unfold qalong
  split
  · exact (qs_quo (qs_w s3) (qs_w s1)).mono (by decide)
  · exact (qs_quo (qs_w s4) (qs_w s2)).mono (by decide)
theorem one_64 : -9223372036854775808 ≤ (1 : Int) ∧ (1 : Int) ≤ 9223372036854775807 := by decide
theorem zero_64 : -9223372036854775808 ≤ (0 : Int) ∧ (0 : Int) ≤ 9223372036854775807 := by decide
/-- Cmp with 1, and Sign, of one fraction. -/
theorem cmp_one_q {T : Q} {k : Nat} {c : Int} (hk : QS k T) (h2 : 2 ≤ k) (hk9 : k ≤ 15000) (hc : qcmp T (qw 1) = c) : Hid (∀ (W : World) (v v' : Value), RatAt W v T → RatAt W v' (qw 1) → Calls Try.prog 27 #[v, v'] W fun e w' => e = .returned (.int .i64 c) ∧ Below W.heap.size W w') := Lib.hid (fun W v v' h h' => by
  subst hc
  exact cmp_q h h' hk ((qs_w one_64).mono h2) hk9 W (Below.refl _ _))
theorem sign_one_q {T : Q} {k : Nat} {c : Int} (hk : QS k T) (hk9 : k ≤ 90000) (hc : cmpI T.1 0 = c) : Hid (∀ (W : World) (v : Value), RatAt W v T → Calls Try.prog 24 #[v] W fun e w' => e = .returned (.int .i64 c) ∧ Below W.heap.size W w') := Lib.hid (fun W v h => by
  subst hc
  exact sign_q h hk hk9 W (Below.refl _ _))

set_option warningAsError false in
set_option maxHeartbeats 3200000 in
set_option maxRecDepth 100000 in
theorem on_r (p a b : Pt) (hp : I32 p.1 ∧ I32 p.2) (ha : I32 a.1 ∧ I32 a.2) (hb : I32 b.1 ∧ I32 b.2) (w : World) :
    Calls Try.prog 20 #[.agg #[.int .i32 p.1, .int .i32 p.2], .agg #[.int .i32 a.1, .int .i32 a.2], .agg #[.int .i32 b.1, .int .i32 b.2]] w fun e w' => e = .returned (.bool (onR p a b)) ∧ Below w.heap.size w w' := by
  by_cases hab : a = b
  · subst hab
    rw [show onR p a a = decide (p = a) by unfold onR; rw [if_pos rfl]]
    obtain ⟨a1, a2⟩ := a
    obtain ⟨p1, p2⟩ := p
    dsimp only
    by_cases h1 : p1 = a1
    · subst h1
      by_cases h2 : p2 = a2
      · subst h2
        rw [decide_eq_true rfl]
        clear hp ha hb
        go_enter Try.func20, Try.ntmps20
        go_wp2_with fail
        go_ret
        exact ⟨rfl, by go_grown⟩
      · have hq : (p2 == a2) = false := beq_eq_false_iff_ne.2 h2
        rw [decide_eq_false (fun h => h2 (Prod.mk.inj h).2)]
        clear hp ha hb h2
        go_enter Try.func20, Try.ntmps20
        go_wp2_with fail
        go_ret
        exact ⟨rfl, by go_grown⟩
    · have hq : (p1 == a1) = false := beq_eq_false_iff_ne.2 h1
      rw [decide_eq_false (fun h => h1 (Prod.mk.inj h).1)]
      clear hp ha hb h1
      go_enter Try.func20, Try.ntmps20
      go_wp2_with fail
      go_ret
      exact ⟨rfl, by go_grown⟩
  · have TU := Lib.hid (fun W => turn_r a b p ha hb hp W)
    have AL := Lib.hid (fun W => along_r a b p ha hb hp W)
    have W1 := Lib.hid (fun W => whole_q 1 one_64 W)
    have HT := qs_along ha hb hp
    by_cases hc : cr (sb a b) (sb a p) = 0
    · rw [hc, show cmpI 0 0 = 0 from rfl] at TU
      obtain ⟨T, hT⟩ : ∃ T, qalong a b p = T := ⟨_, rfl⟩
      rw [hT] at AL HT
      obtain ⟨c, hcm⟩ : ∃ c, qcmp T (qw 1) = c := ⟨_, rfl⟩
      have CM := cmp_one_q HT (by omega) (by omega) hcm
      have hR : onR p a b = (decide (0 ≤ T.1) && decide (c ≤ 0)) := by unfold onR; rw [if_neg hab, if_neg (by simp [hc]), hT, hcm]
      rw [hR]
      rcases Int.lt_or_le T.1 0 with hs | hs
      · have SG := sign_one_q HT (by omega) (show cmpI T.1 0 = -1 by unfold cmpI; rw [if_pos hs])
        rw [show decide (0 ≤ T.1) = false from decide_eq_false (by omega), Bool.false_and]
        have HAB := Lib.hid hab
        obtain ⟨a1, a2⟩ := a
        obtain ⟨b1, b2⟩ := b
        obtain ⟨p1, p2⟩ := p
        dsimp only at TU AL ⊢
        clear hT hcm hR hs HT hc hab ha hb hp
        by_cases hx : a1 = b1
        · subst hx
          have hq : (a2 == b2) = false := beq_eq_false_iff_ne.2 (fun h => HAB.out (by rw [h]))
          go_enter Try.func20, Try.ntmps20
          go_wp2_with fail
          refine (TU.out _).mono ?_
          rintro e w1 ⟨rfl, hb1⟩
          have hB1 : Below w.heap.size w w1 := Below.trans (by go_grown) (hb1.mono (by simp; omega))
          have vp : Var w1 w.heap.size 23 #[.int .i32 _, .int .i32 _] := (((Var.new _ _ _).alloc _).alloc _).keep hb1
          have va : Var w1 (w.heap.size + 1) 23 #[.int .i32 _, .int .i32 _] := ((Var.new' _ _ _ (by simp)).alloc _).keep hb1
          have vb : Var w1 (w.heap.size + 1 + 1) 23 #[.int .i32 _, .int .i32 _] := (Var.new' _ _ _ (by simp)).keep hb1
          have hz1 := hB1.size
          clear hb1
          have vp0 := vp.cell 0
          have vp1 := vp.cell 1
          have va0 := va.cell 0
          have va1 := va.cell 1
          have vb0 := vb.cell 0
          have vb1 := vb.cell 1
          go_wp2_with fail
          refine (open_q (AL.out _)).mono ?_
          rintro e w2 ⟨q1, Q1, m1, c1, q2, Q2, m2, c2, rfl, hn1, hn2, hb2⟩
          have hB2 := hB1.trans (hb2.mono hz1)
          have hz2 := hB2.size
          clear vp va vb hb2 hz1 hB1 vp0 vp1 va0 va1 vb0 vb1
          go_wp2_with fail
          refine wp_gen (fun W0 hW => ?_)
          have vX : Var W0 w2.heap.size 53 #[.bool q1, .slice Q1 m1 c1, .bool q2, .slice Q2 m2 c2] := by rw [hW]; exact Var.new _ _ _
          have hB_W0 : Below w.heap.size w W0 := by rw [hW]; exact hB2.alloc (by omega) _
          have HR : Hid (RatAt W0 (.agg #[.bool q1, .slice Q1 m1 c1, .bool q2, .slice Q2 m2 c2]) T) := Lib.hid (by rw [hW]; exact rat_mk (hn1.out.alloc _) (hn2.out.alloc _))
          clear hW hn1 hn2 hB2
          have x0 := vX.cell 0
          have x1 := vX.cell 1
          have x2 := vX.cell 2
          have x3 := vX.cell 3
          have zx := vX.lt
          go_region_with (go_at_call 24; refine (SG.out _ _ (HR.out.below ((Below.refl _ _).drew))).mono ?_; rintro e wk ⟨rfl, hb_wk⟩)
          all_goals
            have hBE := hB_W0.trans (show Below w.heap.size W0 wk from ⟨hb_wk.os, hb_wk.tape, hb_wk.output, hb_wk.size, fun k hk => hb_wk.block k (Nat.lt_of_lt_of_le hk hB_W0.size)⟩)
            go_wp2_with fail
            go_ret
            exact ⟨rfl, hBE⟩
        · have hq : (a1 == b1) = false := beq_eq_false_iff_ne.2 hx
          clear hx
          go_enter Try.func20, Try.ntmps20
          go_wp2_with fail
          refine (TU.out _).mono ?_
          rintro e w1 ⟨rfl, hb1⟩
          have hB1 : Below w.heap.size w w1 := Below.trans (by go_grown) (hb1.mono (by simp; omega))
          have vp : Var w1 w.heap.size 23 #[.int .i32 _, .int .i32 _] := (((Var.new _ _ _).alloc _).alloc _).keep hb1
          have va : Var w1 (w.heap.size + 1) 23 #[.int .i32 _, .int .i32 _] := ((Var.new' _ _ _ (by simp)).alloc _).keep hb1
          have vb : Var w1 (w.heap.size + 1 + 1) 23 #[.int .i32 _, .int .i32 _] := (Var.new' _ _ _ (by simp)).keep hb1
          have hz1 := hB1.size
          clear hb1
          have vp0 := vp.cell 0
          have vp1 := vp.cell 1
          have va0 := va.cell 0
          have va1 := va.cell 1
          have vb0 := vb.cell 0
          have vb1 := vb.cell 1
          go_wp2_with fail
          refine (open_q (AL.out _)).mono ?_
          rintro e w2 ⟨q1, Q1, m1, c1, q2, Q2, m2, c2, rfl, hn1, hn2, hb2⟩
          have hB2 := hB1.trans (hb2.mono hz1)
          have hz2 := hB2.size
          clear vp va vb hb2 hz1 hB1 vp0 vp1 va0 va1 vb0 vb1
          go_wp2_with fail
          refine wp_gen (fun W0 hW => ?_)
          have vX : Var W0 w2.heap.size 53 #[.bool q1, .slice Q1 m1 c1, .bool q2, .slice Q2 m2 c2] := by rw [hW]; exact Var.new _ _ _
          have hB_W0 : Below w.heap.size w W0 := by rw [hW]; exact hB2.alloc (by omega) _
          have HR : Hid (RatAt W0 (.agg #[.bool q1, .slice Q1 m1 c1, .bool q2, .slice Q2 m2 c2]) T) := Lib.hid (by rw [hW]; exact rat_mk (hn1.out.alloc _) (hn2.out.alloc _))
          clear hW hn1 hn2 hB2
          have x0 := vX.cell 0
          have x1 := vX.cell 1
          have x2 := vX.cell 2
          have x3 := vX.cell 3
          have zx := vX.lt
          go_region_with (go_at_call 24; refine (SG.out _ _ (HR.out.below ((Below.refl _ _).drew))).mono ?_; rintro e wk ⟨rfl, hb_wk⟩)
          all_goals
            have hBE := hB_W0.trans (show Below w.heap.size W0 wk from ⟨hb_wk.os, hb_wk.tape, hb_wk.output, hb_wk.size, fun k hk => hb_wk.block k (Nat.lt_of_lt_of_le hk hB_W0.size)⟩)
            go_wp2_with fail
            go_ret
            exact ⟨rfl, hBE⟩
      · obtain ⟨z, hz⟩ : ∃ z, cmpI T.1 0 = z := ⟨_, rfl⟩
        have hz0 : 0 ≤ z := by rw [← hz]; unfold cmpI; rw [if_neg (by omega)]; split <;> decide
        have SG := sign_one_q HT (by omega) hz
        rw [show decide (0 ≤ T.1) = true from decide_eq_true hs, Bool.true_and]
        have HAB := Lib.hid hab
        obtain ⟨a1, a2⟩ := a
        obtain ⟨b1, b2⟩ := b
        obtain ⟨p1, p2⟩ := p
        dsimp only at TU AL ⊢
        clear hT hcm hR hs HT hc hab ha hb hp hz
        by_cases hx : a1 = b1
        · subst hx
          have hq : (a2 == b2) = false := beq_eq_false_iff_ne.2 (fun h => HAB.out (by rw [h]))
          go_enter Try.func20, Try.ntmps20
          go_wp2_with fail
          refine (TU.out _).mono ?_
          rintro e w1 ⟨rfl, hb1⟩
          have hB1 : Below w.heap.size w w1 := Below.trans (by go_grown) (hb1.mono (by simp; omega))
          have vp : Var w1 w.heap.size 23 #[.int .i32 _, .int .i32 _] := (((Var.new _ _ _).alloc _).alloc _).keep hb1
          have va : Var w1 (w.heap.size + 1) 23 #[.int .i32 _, .int .i32 _] := ((Var.new' _ _ _ (by simp)).alloc _).keep hb1
          have vb : Var w1 (w.heap.size + 1 + 1) 23 #[.int .i32 _, .int .i32 _] := (Var.new' _ _ _ (by simp)).keep hb1
          have hz1 := hB1.size
          clear hb1
          have vp0 := vp.cell 0
          have vp1 := vp.cell 1
          have va0 := va.cell 0
          have va1 := va.cell 1
          have vb0 := vb.cell 0
          have vb1 := vb.cell 1
          go_wp2_with fail
          refine (open_q (AL.out _)).mono ?_
          rintro e w2 ⟨q1, Q1, m1, c1, q2, Q2, m2, c2, rfl, hn1, hn2, hb2⟩
          have hB2 := hB1.trans (hb2.mono hz1)
          have hz2 := hB2.size
          clear vp va vb hb2 hz1 hB1 vp0 vp1 va0 va1 vb0 vb1
          go_wp2_with fail
          refine wp_gen (fun W0 hW => ?_)
          have vX : Var W0 w2.heap.size 53 #[.bool q1, .slice Q1 m1 c1, .bool q2, .slice Q2 m2 c2] := by rw [hW]; exact Var.new _ _ _
          have hB_W0 : Below w.heap.size w W0 := by rw [hW]; exact hB2.alloc (by omega) _
          have HR : Hid (RatAt W0 (.agg #[.bool q1, .slice Q1 m1 c1, .bool q2, .slice Q2 m2 c2]) T) := Lib.hid (by rw [hW]; exact rat_mk (hn1.out.alloc _) (hn2.out.alloc _))
          clear hW hn1 hn2 hB2
          have x0 := vX.cell 0
          have x1 := vX.cell 1
          have x2 := vX.cell 2
          have x3 := vX.cell 3
          have zx := vX.lt
          first
            | go_region_held3 (fun w' => Below W0.heap.size W0 w' ∧ (∀ b o, b < W0.heap.size → w'.cell? ⟨b, o, none⟩ = W0.cell? ⟨b, o, none⟩))
                (first | exact held_step hb_wk (by assumption) | exact held_start _)
                (first | (go_at_call 24; refine (SG.out _ _ (HR.out.below (held_bel (Below.refl _ W0) (by assumption)))).mono ?_; rintro e wk ⟨rfl, hb_wk⟩) | (go_at_call 26; refine (rat_at (W1.out _)).mono ?_; rintro e wk ⟨v1, rfl, h1, hb_wk⟩) | (go_at_call 27; refine (CM.out _ _ _ (HR.out.below (held_bel (Below.refl _ W0) (by assumption))) h1.out).mono ?_; rintro e wk ⟨rfl, hb_wk⟩))
            | fail
          have hBE := held_bel hB_W0 (by assumption)
          go_wp2_with fail
          go_ret
          exact ⟨rfl, hBE⟩
        · have hq : (a1 == b1) = false := beq_eq_false_iff_ne.2 hx
          clear hx
          go_enter Try.func20, Try.ntmps20
          go_wp2_with fail
          refine (TU.out _).mono ?_
          rintro e w1 ⟨rfl, hb1⟩
          have hB1 : Below w.heap.size w w1 := Below.trans (by go_grown) (hb1.mono (by simp; omega))
          have vp : Var w1 w.heap.size 23 #[.int .i32 _, .int .i32 _] := (((Var.new _ _ _).alloc _).alloc _).keep hb1
          have va : Var w1 (w.heap.size + 1) 23 #[.int .i32 _, .int .i32 _] := ((Var.new' _ _ _ (by simp)).alloc _).keep hb1
          have vb : Var w1 (w.heap.size + 1 + 1) 23 #[.int .i32 _, .int .i32 _] := (Var.new' _ _ _ (by simp)).keep hb1
          have hz1 := hB1.size
          clear hb1
          have vp0 := vp.cell 0
          have vp1 := vp.cell 1
          have va0 := va.cell 0
          have va1 := va.cell 1
          have vb0 := vb.cell 0
          have vb1 := vb.cell 1
          go_wp2_with fail
          refine (open_q (AL.out _)).mono ?_
          rintro e w2 ⟨q1, Q1, m1, c1, q2, Q2, m2, c2, rfl, hn1, hn2, hb2⟩
          have hB2 := hB1.trans (hb2.mono hz1)
          have hz2 := hB2.size
          clear vp va vb hb2 hz1 hB1 vp0 vp1 va0 va1 vb0 vb1
          go_wp2_with fail
          refine wp_gen (fun W0 hW => ?_)
          have vX : Var W0 w2.heap.size 53 #[.bool q1, .slice Q1 m1 c1, .bool q2, .slice Q2 m2 c2] := by rw [hW]; exact Var.new _ _ _
          have hB_W0 : Below w.heap.size w W0 := by rw [hW]; exact hB2.alloc (by omega) _
          have HR : Hid (RatAt W0 (.agg #[.bool q1, .slice Q1 m1 c1, .bool q2, .slice Q2 m2 c2]) T) := Lib.hid (by rw [hW]; exact rat_mk (hn1.out.alloc _) (hn2.out.alloc _))
          clear hW hn1 hn2 hB2
          have x0 := vX.cell 0
          have x1 := vX.cell 1
          have x2 := vX.cell 2
          have x3 := vX.cell 3
          have zx := vX.lt
          first
            | go_region_held3 (fun w' => Below W0.heap.size W0 w' ∧ (∀ b o, b < W0.heap.size → w'.cell? ⟨b, o, none⟩ = W0.cell? ⟨b, o, none⟩))
                (first | exact held_step hb_wk (by assumption) | exact held_start _)
                (first | (go_at_call 24; refine (SG.out _ _ (HR.out.below (held_bel (Below.refl _ W0) (by assumption)))).mono ?_; rintro e wk ⟨rfl, hb_wk⟩) | (go_at_call 26; refine (rat_at (W1.out _)).mono ?_; rintro e wk ⟨v1, rfl, h1, hb_wk⟩) | (go_at_call 27; refine (CM.out _ _ _ (HR.out.below (held_bel (Below.refl _ W0) (by assumption))) h1.out).mono ?_; rintro e wk ⟨rfl, hb_wk⟩))
            | fail
          have hBE := held_bel hB_W0 (by assumption)
          go_wp2_with fail
          go_ret
          exact ⟨rfl, hBE⟩
    · have hcz : ¬ cmpI (cr (sb a b) (sb a p)) 0 = 0 := fun h => hc (cmpI_zero.1 h)
      rw [show onR p a b = false by unfold onR; rw [if_neg hab, if_pos hc]]
      obtain ⟨z, hz⟩ : ∃ z, cmpI (cr (sb a b) (sb a p)) 0 = z := ⟨_, rfl⟩
      rw [hz] at TU hcz
      have hzq : (z == 0) = false := beq_eq_false_iff_ne.2 hcz
      have HAB := Lib.hid hab
      obtain ⟨a1, a2⟩ := a
      obtain ⟨b1, b2⟩ := b
      obtain ⟨p1, p2⟩ := p
      dsimp only at TU AL ⊢
      clear hz hcz HT hc hab ha hb hp
      by_cases hx : a1 = b1
      · subst hx
        have hq : (a2 == b2) = false := beq_eq_false_iff_ne.2 (fun h => HAB.out (by rw [h]))
        go_enter Try.func20, Try.ntmps20
        go_wp2_with fail
        refine (TU.out _).mono ?_
        rintro e w1 ⟨rfl, hb1⟩
        have hB1 : Below w.heap.size w w1 := Below.trans (by go_grown) (hb1.mono (by simp; omega))
        have vp : Var w1 w.heap.size 23 #[.int .i32 _, .int .i32 _] := (((Var.new _ _ _).alloc _).alloc _).keep hb1
        have va : Var w1 (w.heap.size + 1) 23 #[.int .i32 _, .int .i32 _] := ((Var.new' _ _ _ (by simp)).alloc _).keep hb1
        have vb : Var w1 (w.heap.size + 1 + 1) 23 #[.int .i32 _, .int .i32 _] := (Var.new' _ _ _ (by simp)).keep hb1
        have hz1 := hB1.size
        clear hb1
        have vp0 := vp.cell 0
        have vp1 := vp.cell 1
        have va0 := va.cell 0
        have va1 := va.cell 1
        have vb0 := vb.cell 0
        have vb1 := vb.cell 1
        clear vp va vb
        go_wp2_with fail
        go_ret
        exact ⟨rfl, hB1⟩
      · have hq : (a1 == b1) = false := beq_eq_false_iff_ne.2 hx
        clear hx
        go_enter Try.func20, Try.ntmps20
        go_wp2_with fail
        refine (TU.out _).mono ?_
        rintro e w1 ⟨rfl, hb1⟩
        have hB1 : Below w.heap.size w w1 := Below.trans (by go_grown) (hb1.mono (by simp; omega))
        have vp : Var w1 w.heap.size 23 #[.int .i32 _, .int .i32 _] := (((Var.new _ _ _).alloc _).alloc _).keep hb1
        have va : Var w1 (w.heap.size + 1) 23 #[.int .i32 _, .int .i32 _] := ((Var.new' _ _ _ (by simp)).alloc _).keep hb1
        have vb : Var w1 (w.heap.size + 1 + 1) 23 #[.int .i32 _, .int .i32 _] := (Var.new' _ _ _ (by simp)).keep hb1
        have hz1 := hB1.size
        clear hb1
        have vp0 := vp.cell 0
        have vp1 := vp.cell 1
        have va0 := va.cell 0
        have va1 := va.cell 1
        have vb0 := vb.cell 0
        have vb1 := vb.cell 1
        clear vp va vb
        go_wp2_with fail
        go_ret
        exact ⟨rfl, hB1⟩

end Go.Proofs.Ytpjgghakeaajbaa
