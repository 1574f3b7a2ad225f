/-
  The document's Turn and On of chapter 04. Printed by wip/tools/gen_turn4.py.
  The document's next: the point behind the i-th.
-/
import Derived.Test.YtohnglcdophkfaaRef
import Derived.Test.YtohnglcdophkfaaSect
import Derived.Test.YtohnglcdophkfaaCovers
namespace Go.Proofs.Ytohnglcdophkfaa
open Go.RowKit

def inB (x y : Int) : Bool := decide ((-1073741823 ≤ x ∧ x ≤ 1073741823) ∧ (-1073741823 ≤ y ∧ y ≤ 1073741823))

theorem in_bd {x y : Int} (h : inB x y = true) : (-1073741823 ≤ x ∧ x ≤ 1073741823) ∧ (-1073741823 ≤ y ∧ y ≤ 1073741823) := by
  unfold inB at h; exact of_decide_eq_true h

theorem in_ref (x y : Int) (w : World) : Calls Try.prog 89 #[(Value.agg #[.int .i32 (x), .int .i32 (y)])] w fun e w' => e = .returned (.bool (inB x y)) ∧ Below w.heap.size w w' := by
  go_enter Try.func89, Try.ntmps89
  go_wp2
  all_goals
    go_ret
    exact ⟨ret_bool (by unfold inB; rw [Bool.eq_iff_iff]; simp; try omega), by go_grown⟩

theorem way_ref (a b : Int) (ha : I32 a) (hb : I32 b) (w : World) :
    Calls Try.prog 98 #[.int .i32 a, .int .i32 b] w fun e w' => ∃ u, e = .returned u ∧ NumAt w' u (b - a) ∧ Below w.heap.size w w' := by
  have OF := Lib.hid (fun W => of_ref (b - a) (d_64 hb ha) W)
  have e1 := wrap_sub hb ha
  have e2 : wrap64 b = b := by unfold I32 at hb; unfold wrap64; omega
  have e3 : wrap64 a = a := by unfold I32 at ha; unfold wrap64; omega
  rw [e2, e3] at e1
  clear ha hb
  go_enter Try.func98, Try.ntmps98
  go_wp2_with fail
  refine (open_num (OF.out _)).mono ?_
  rintro e w1 ⟨b1, A1, n1, c1, d1, rfl, hs1, hr1, ht1, hv1, hb_w1⟩
  obtain ⟨hc_w1, hf_w1⟩ := bcell hb_w1
  have hz_w1 := hb_w1.size
  try simp at hz_w1
  have hB_w1 : Below w.heap.size w w1 := Below.trans (by go_grown) (hb_w1.mono (by go_size))
  have hs_w1_0 : w.heap.size < w1.heap.size := by omega
  have vR : Var w1 w.heap.size 67 #[.bool false, .slice none 0 0] := (Var.new _ _ _).keep hb_w1
  go_wp2_with fail
  refine bodyPost_ret (by simp [results, Try.results98, go_sem, *]; try rfl) rfl ?_
  exact ⟨_, rfl, num_mk (hr1.over vR _ _) ht1 hs1.out hv1.out, by go_grown⟩

theorem small_way {a b : Int} (ha : I32 a) (hb : I32 b) : Small 3 (a - b).natAbs := by
  have := d_in ha hb
  unfold Small
  have : (65536 : Nat) ^ 3 = 281474976710656 := by decide +kernel
  omega

theorem small_pr {x y : Int} (hx : Small 3 x.natAbs) (hy : Small 3 y.natAbs) : Small 6 (x * y).natAbs := by
  rw [Int.natAbs_mul]; exact hx.mul hy

set_option maxHeartbeats 4000000 in
set_option maxRecDepth 100000 in
theorem cross_num (ox oy ax ay bx by_ : Int) (h1 : I32 ox) (h2 : I32 oy) (h3 : I32 ax) (h4 : I32 ay) (h5 : I32 bx) (h6 : I32 by_) (w : World) :
    Calls Try.prog 79 #[(Value.agg #[.int .i32 (ox), .int .i32 (oy)]), (Value.agg #[.int .i32 (ax), .int .i32 (ay)]), (Value.agg #[.int .i32 (bx), .int .i32 (by_)])] w fun e w' => ∃ u, e = .returned u ∧ NumAt w' u ((ax - ox) * (by_ - oy) - (ay - oy) * (bx - ox)) ∧ Below w.heap.size w w' := by
  have Y1 := Lib.hid (fun W => way_ref ox ax h1 h3 W)
  have s1 := small_way h3 h1
  have Y2 := Lib.hid (fun W => way_ref oy by_ h2 h6 W)
  have s2 := small_way h6 h2
  have Y3 := Lib.hid (fun W => way_ref oy ay h2 h4 W)
  have s3 := small_way h4 h2
  have Y4 := Lib.hid (fun W => way_ref ox bx h1 h5 W)
  have s4 := small_way h5 h1
  have K := Lib.hid (And.intro (And.intro s1 s2) (And.intro (And.intro s3 s4) (And.intro (small_pr s1 s2) (small_pr s3 s4))))
  clear h1 h2 h3 h4 h5 h6 s1 s2 s3 s4
  go_enter Try.func79, Try.ntmps79
  go_wp2_with fail
  refine wp_gen (fun W hW => ?_)
  have vo : Var W w.heap.size 25 #[.int .i32 ox, .int .i32 oy] := by rw [hW]; exact (((Var.new _ _ _).alloc _).alloc _).alloc _
  have va : Var W (w.heap.size + 1) 25 #[.int .i32 ax, .int .i32 ay] := by rw [hW]; exact ((Var.new' _ _ _ (by simp)).alloc _).alloc _
  have vb : Var W (w.heap.size + 1 + 1) 25 #[.int .i32 bx, .int .i32 by_] := by rw [hW]; exact (Var.new' _ _ _ (by simp)).alloc _
  have vR : Var W (w.heap.size + 1 + 1 + 1) 67 #[.bool false, .slice none 0 0] := by rw [hW]; exact Var.new' _ _ _ (by simp)
  have hB_W : Below w.heap.size w W := by rw [hW]; go_grown
  clear hW
  have o0 : W.cell? ⟨w.heap.size, 0, none⟩ = some (.int .i32 ox) := vo.cell 0
  have o1 : W.cell? ⟨w.heap.size, 1, none⟩ = some (.int .i32 oy) := vo.cell 1
  have a0 : W.cell? ⟨w.heap.size + 1, 0, none⟩ = some (.int .i32 ax) := va.cell 0
  have a1 : W.cell? ⟨w.heap.size + 1, 1, none⟩ = some (.int .i32 ay) := va.cell 1
  have b0 : W.cell? ⟨w.heap.size + 1 + 1, 0, none⟩ = some (.int .i32 bx) := vb.cell 0
  have b1 : W.cell? ⟨w.heap.size + 1 + 1, 1, none⟩ = some (.int .i32 by_) := vb.cell 1
  have hT0 : HeldT (w.heap.size + 1 + 1 + 1) 2 67 W W.drew := heldT_start vR
  go_region_held3 (fun w' => Below (w.heap.size + 1 + 1 + 1) W w' ∧ w.heap.size + 1 + 1 + 1 < w'.heap.size ∧ (∀ b o, b < w.heap.size + 1 + 1 + 1 → w'.cell? ⟨b, o, none⟩ = W.cell? ⟨b, o, none⟩) ∧ (∀ o, o < 2 → w'.cell? ⟨w.heap.size + 1 + 1 + 1, o, none⟩ = some (rd w' (w.heap.size + 1 + 1 + 1) o)) ∧ (∀ o, w'.frozen? ⟨w.heap.size + 1 + 1 + 1, o, none⟩ = false) ∧ (∃ cs, w'.heap[w.heap.size + 1 + 1 + 1]? = some (.cells cs 67 (0, 0))))
    (first | assumption | (repeat (refine heldT_store ?_ _ _)); assumption)
    (first
      | (go_at_call 96; with_reducible refine (open_num (sub_ref (((m1.below hb_w4).below hb_w5).below hb_w6) m2 K.out.2.2.1 K.out.2.2.2 (by omega) _ (Below.refl _ _))).mono ?_; rintro e w7 ⟨d7, A7, n7, c7, e7, rfl, hs7, hr7, ht7, hv7, hb_w7⟩; have hS_w7 : HeldT (w.heap.size + 1 + 1 + 1) 2 67 W w7 := heldT_step hb_w7 (by assumption))
      | (go_at_call 97; with_reducible refine (mul_num (n3.below hb_w5) n4 K.out.2.1.1 K.out.2.1.2 (by omega) _ (Below.refl _ _)).mono ?_; rintro e w6 ⟨v6, rfl, m2, hb_w6⟩; have hS_w6 : HeldT (w.heap.size + 1 + 1 + 1) 2 67 W w6 := heldT_step hb_w6 (by assumption))
      | (go_at_call 98; with_reducible refine (Y4.out _).mono ?_; rintro e w5 ⟨v5, rfl, n4, hb_w5⟩; have hS_w5 : HeldT (w.heap.size + 1 + 1 + 1) 2 67 W w5 := heldT_step hb_w5 (by assumption))
      | (go_at_call 98; with_reducible refine (Y3.out _).mono ?_; rintro e w4 ⟨v4, rfl, n3, hb_w4⟩; have hS_w4 : HeldT (w.heap.size + 1 + 1 + 1) 2 67 W w4 := heldT_step hb_w4 (by assumption))
      | (go_at_call 97; with_reducible refine (mul_num (n1.below hb_w2) n2 K.out.1.1 K.out.1.2 (by omega) _ (Below.refl _ _)).mono ?_; rintro e w3 ⟨v3, rfl, m1, hb_w3⟩; have hS_w3 : HeldT (w.heap.size + 1 + 1 + 1) 2 67 W w3 := heldT_step hb_w3 (by assumption))
      | (go_at_call 98; with_reducible refine (Y2.out _).mono ?_; rintro e w2 ⟨v2, rfl, n2, hb_w2⟩; have hS_w2 : HeldT (w.heap.size + 1 + 1 + 1) 2 67 W w2 := heldT_step hb_w2 (by assumption))
      | (go_at_call 98; with_reducible refine (Y1.out _).mono ?_; rintro e w1 ⟨v1, rfl, n1, hb_w1⟩; have hS_w1 : HeldT (w.heap.size + 1 + 1 + 1) 2 67 W w1 := heldT_step hb_w1 (by assumption)))
  obtain ⟨W', e', hB', k0, k1, cs, hVR⟩ := heldT_two (T := 67) (by assumption)
  have hraw := hr7.over hVR (.bool d7) (.slice A7 n7 c7)
  rw [e'] at hraw
  rw [e']
  clear e'
  go_wp2_with fail
  refine bodyPost_ret (by simp [results, Try.results79, go_sem, *]; try rfl) rfl ?_
  exact ⟨_, rfl, num_mk hraw ht7 hs7.out hv7.out, Below.trans hB_W (hB'.mono (by omega))⟩

theorem small_cr {ox oy ax ay bx by_ : Int} (h1 : I32 ox) (h2 : I32 oy) (h3 : I32 ax) (h4 : I32 ay) (h5 : I32 bx) (h6 : I32 by_) :
    Small 7 (crs ox oy ax ay bx by_).natAbs ∧ Small 7 ((ax - ox) * (bx - ox) + (ay - oy) * (by_ - oy)).natAbs := by
  have a1 := small_pr (small_way h3 h1) (small_way h6 h2)
  have a2 := small_pr (small_way h4 h2) (small_way h5 h1)
  have a3 := small_pr (small_way h3 h1) (small_way h5 h1)
  have a4 := small_pr (small_way h4 h2) (small_way h6 h2)
  unfold crs
  exact ⟨(a1.add a2).le (by omega), (a3.add a4).le (by omega)⟩

theorem prod_bd {a b : Int} (ha : -2147483646 ≤ a ∧ a ≤ 2147483646) (hb : -2147483646 ≤ b ∧ b ≤ 2147483646) : -4611686009837453316 ≤ a * b ∧ a * b ≤ 4611686009837453316 := by
  have h1 : a.natAbs ≤ 2147483646 := by omega
  have h2 : b.natAbs ≤ 2147483646 := by omega
  have h3 := Nat.mul_le_mul h1 h2
  rw [← Int.natAbs_mul] at h3
  omega

theorem ret_i64 {a b : Int} (h : a = b) : Ending.returned (.int .i64 a) = .returned (.int .i64 b) := by rw [h]

theorem cmpI_diff (p q : Int) : cmpI (p - q) 0 = cmpI p q := by unfold cmpI; (repeat' split) <;> omega

set_option maxHeartbeats 1000000 in
theorem turn04 (ox oy ax ay bx by_ : Int) (h1 : I32 ox) (h2 : I32 oy) (h3 : I32 ax) (h4 : I32 ay) (h5 : I32 bx) (h6 : I32 by_) (w : World) :
    Calls Try.prog 60 #[(Value.agg #[.int .i32 (ox), .int .i32 (oy)]), (Value.agg #[.int .i32 (ax), .int .i32 (ay)]), (Value.agg #[.int .i32 (bx), .int .i32 (by_)])] w fun e w' => e = .returned (.int .i64 (trn ox oy ax ay bx by_)) ∧ Below w.heap.size w w' := by
  have C := Lib.hid (fun W => cross_num ox oy ax ay bx by_ h1 h2 h3 h4 h5 h6 W)
  have hs := (small_cr h1 h2 h3 h4 h5 h6).1
  unfold crs at hs
  have SG := Lib.hid (fun (w0 : World) (v : Value) (h : NumAt w0 v ((ax - ox) * (by_ - oy) - (ay - oy) * (bx - ox))) => sign_ref h hs (by omega) w0 (Below.refl _ _))
  rw [cmpI_diff] at SG
  have IO := Lib.hid (fun W => in_ref ox oy W)
  have IA := Lib.hid (fun W => in_ref ax ay W)
  have IB := Lib.hid (fun W => in_ref bx by_ W)
  have hlim : inB ox oy = true → inB ax ay = true → inB bx by_ = true → (-1073741823 ≤ ox ∧ ox ≤ 1073741823) ∧ (-1073741823 ≤ oy ∧ oy ≤ 1073741823) ∧ (-1073741823 ≤ ax ∧ ax ≤ 1073741823) ∧ (-1073741823 ≤ ay ∧ ay ≤ 1073741823) ∧ (-1073741823 ≤ bx ∧ bx ≤ 1073741823) ∧ (-1073741823 ≤ by_ ∧ by_ ≤ 1073741823) :=
    fun a b c => ⟨(in_bd a).1, (in_bd a).2, (in_bd b).1, (in_bd b).2, (in_bd c).1, (in_bd c).2⟩
  unfold trn
  have T : Ending.returned (.int .i64 (cmpI ((ax - ox) * (by_ - oy)) ((ay - oy) * (bx - ox)))) = .returned (.int .i64 (cmpI ((ax - ox) * (by_ - oy)) ((ay - oy) * (bx - ox)))) := rfl
  clear hs T
  obtain ⟨bo, hbo⟩ : ∃ z, inB ox oy = z := ⟨_, rfl⟩
  obtain ⟨ba, hba⟩ : ∃ z, inB ax ay = z := ⟨_, rfl⟩
  obtain ⟨bb, hbb⟩ : ∃ z, inB bx by_ = z := ⟨_, rfl⟩
  rw [hbo] at IO hlim
  rw [hba] at IA hlim
  rw [hbb] at IB hlim
  clear hbo hba hbb
  have HL := Lib.hid hlim
  clear hlim
  cases bo
  · obtain ⟨k, hk⟩ : ∃ z, cmpI ((ax - ox) * (by_ - oy)) ((ay - oy) * (bx - ox)) = z := ⟨_, rfl⟩
    rw [hk] at SG ⊢
    clear h1 h2 h3 h4 h5 h6 hk
    go_enter Try.func60, Try.ntmps60
    go_wp2_with fail
    refine (IO.out _).mono ?_
    rintro e w1 ⟨rfl, hb_w1⟩
    obtain ⟨hc_w1, hf_w1⟩ := bcell hb_w1
    have hz_w1 := hb_w1.size
    try simp at hz_w1
    have hB_w1 : Below w.heap.size w w1 := Below.trans (by go_grown) (hb_w1.mono (by go_size))
    have hs_w1_0 : w.heap.size < w1.heap.size := by omega
    have hs_w1_1 : w.heap.size + 1 < w1.heap.size := by omega
    have hs_w1_2 : w.heap.size + 1 + 1 < w1.heap.size := by omega
    go_wp2_with fail
    refine (C.out _).mono ?_
    rintro e w4 ⟨u, rfl, hn, hb_w4⟩
    obtain ⟨hc_w4, hf_w4⟩ := bcell hb_w4
    have hz_w4 := hb_w4.size
    try simp at hz_w4
    have hB_w4 : Below w.heap.size w w4 := Below.trans (by go_grown) (hb_w4.mono (by go_size))
    have hs_w4_0 : w.heap.size < w4.heap.size := by omega
    have hs_w4_1 : w.heap.size + 1 < w4.heap.size := by omega
    have hs_w4_2 : w.heap.size + 1 + 1 < w4.heap.size := by omega
    go_wp2_with fail
    refine (SG.out _ _ hn).mono ?_
    rintro e w5 ⟨rfl, hb_w5⟩
    obtain ⟨hc_w5, hf_w5⟩ := bcell hb_w5
    have hz_w5 := hb_w5.size
    try simp at hz_w5
    have hB_w5 : Below w.heap.size w w5 := Below.trans (by go_grown) (hb_w5.mono (by go_size))
    have hs_w5_0 : w.heap.size < w5.heap.size := by omega
    have hs_w5_1 : w.heap.size + 1 < w5.heap.size := by omega
    have hs_w5_2 : w.heap.size + 1 + 1 < w5.heap.size := by omega
    go_wp2_with fail
    refine bodyPost_ret (by simp [results, Try.results60, go_sem, *]; try rfl) rfl ?_
    exact ⟨rfl, by go_grown⟩
  · cases ba
    · obtain ⟨k, hk⟩ : ∃ z, cmpI ((ax - ox) * (by_ - oy)) ((ay - oy) * (bx - ox)) = z := ⟨_, rfl⟩
      rw [hk] at SG ⊢
      clear h1 h2 h3 h4 h5 h6 hk
      go_enter Try.func60, Try.ntmps60
      go_wp2_with fail
      refine (IO.out _).mono ?_
      rintro e w1 ⟨rfl, hb_w1⟩
      obtain ⟨hc_w1, hf_w1⟩ := bcell hb_w1
      have hz_w1 := hb_w1.size
      try simp at hz_w1
      have hB_w1 : Below w.heap.size w w1 := Below.trans (by go_grown) (hb_w1.mono (by go_size))
      have hs_w1_0 : w.heap.size < w1.heap.size := by omega
      have hs_w1_1 : w.heap.size + 1 < w1.heap.size := by omega
      have hs_w1_2 : w.heap.size + 1 + 1 < w1.heap.size := by omega
      go_wp2_with fail
      refine (IA.out _).mono ?_
      rintro e w2 ⟨rfl, hb_w2⟩
      obtain ⟨hc_w2, hf_w2⟩ := bcell hb_w2
      have hz_w2 := hb_w2.size
      try simp at hz_w2
      have hB_w2 : Below w.heap.size w w2 := Below.trans (by go_grown) (hb_w2.mono (by go_size))
      have hs_w2_0 : w.heap.size < w2.heap.size := by omega
      have hs_w2_1 : w.heap.size + 1 < w2.heap.size := by omega
      have hs_w2_2 : w.heap.size + 1 + 1 < w2.heap.size := by omega
      go_wp2_with fail
      refine (C.out _).mono ?_
      rintro e w4 ⟨u, rfl, hn, hb_w4⟩
      obtain ⟨hc_w4, hf_w4⟩ := bcell hb_w4
      have hz_w4 := hb_w4.size
      try simp at hz_w4
      have hB_w4 : Below w.heap.size w w4 := Below.trans (by go_grown) (hb_w4.mono (by go_size))
      have hs_w4_0 : w.heap.size < w4.heap.size := by omega
      have hs_w4_1 : w.heap.size + 1 < w4.heap.size := by omega
      have hs_w4_2 : w.heap.size + 1 + 1 < w4.heap.size := by omega
      go_wp2_with fail
      refine (SG.out _ _ hn).mono ?_
      rintro e w5 ⟨rfl, hb_w5⟩
      obtain ⟨hc_w5, hf_w5⟩ := bcell hb_w5
      have hz_w5 := hb_w5.size
      try simp at hz_w5
      have hB_w5 : Below w.heap.size w w5 := Below.trans (by go_grown) (hb_w5.mono (by go_size))
      have hs_w5_0 : w.heap.size < w5.heap.size := by omega
      have hs_w5_1 : w.heap.size + 1 < w5.heap.size := by omega
      have hs_w5_2 : w.heap.size + 1 + 1 < w5.heap.size := by omega
      go_wp2_with fail
      refine bodyPost_ret (by simp [results, Try.results60, go_sem, *]; try rfl) rfl ?_
      exact ⟨rfl, by go_grown⟩
    · cases bb
      · obtain ⟨k, hk⟩ : ∃ z, cmpI ((ax - ox) * (by_ - oy)) ((ay - oy) * (bx - ox)) = z := ⟨_, rfl⟩
        rw [hk] at SG ⊢
        clear h1 h2 h3 h4 h5 h6 hk
        go_enter Try.func60, Try.ntmps60
        go_wp2_with fail
        refine (IO.out _).mono ?_
        rintro e w1 ⟨rfl, hb_w1⟩
        obtain ⟨hc_w1, hf_w1⟩ := bcell hb_w1
        have hz_w1 := hb_w1.size
        try simp at hz_w1
        have hB_w1 : Below w.heap.size w w1 := Below.trans (by go_grown) (hb_w1.mono (by go_size))
        have hs_w1_0 : w.heap.size < w1.heap.size := by omega
        have hs_w1_1 : w.heap.size + 1 < w1.heap.size := by omega
        have hs_w1_2 : w.heap.size + 1 + 1 < w1.heap.size := by omega
        go_wp2_with fail
        refine (IA.out _).mono ?_
        rintro e w2 ⟨rfl, hb_w2⟩
        obtain ⟨hc_w2, hf_w2⟩ := bcell hb_w2
        have hz_w2 := hb_w2.size
        try simp at hz_w2
        have hB_w2 : Below w.heap.size w w2 := Below.trans (by go_grown) (hb_w2.mono (by go_size))
        have hs_w2_0 : w.heap.size < w2.heap.size := by omega
        have hs_w2_1 : w.heap.size + 1 < w2.heap.size := by omega
        have hs_w2_2 : w.heap.size + 1 + 1 < w2.heap.size := by omega
        go_wp2_with fail
        refine (IB.out _).mono ?_
        rintro e w3 ⟨rfl, hb_w3⟩
        obtain ⟨hc_w3, hf_w3⟩ := bcell hb_w3
        have hz_w3 := hb_w3.size
        try simp at hz_w3
        have hB_w3 : Below w.heap.size w w3 := Below.trans (by go_grown) (hb_w3.mono (by go_size))
        have hs_w3_0 : w.heap.size < w3.heap.size := by omega
        have hs_w3_1 : w.heap.size + 1 < w3.heap.size := by omega
        have hs_w3_2 : w.heap.size + 1 + 1 < w3.heap.size := by omega
        go_wp2_with fail
        refine (C.out _).mono ?_
        rintro e w4 ⟨u, rfl, hn, hb_w4⟩
        obtain ⟨hc_w4, hf_w4⟩ := bcell hb_w4
        have hz_w4 := hb_w4.size
        try simp at hz_w4
        have hB_w4 : Below w.heap.size w w4 := Below.trans (by go_grown) (hb_w4.mono (by go_size))
        have hs_w4_0 : w.heap.size < w4.heap.size := by omega
        have hs_w4_1 : w.heap.size + 1 < w4.heap.size := by omega
        have hs_w4_2 : w.heap.size + 1 + 1 < w4.heap.size := by omega
        go_wp2_with fail
        refine (SG.out _ _ hn).mono ?_
        rintro e w5 ⟨rfl, hb_w5⟩
        obtain ⟨hc_w5, hf_w5⟩ := bcell hb_w5
        have hz_w5 := hb_w5.size
        try simp at hz_w5
        have hB_w5 : Below w.heap.size w w5 := Below.trans (by go_grown) (hb_w5.mono (by go_size))
        have hs_w5_0 : w.heap.size < w5.heap.size := by omega
        have hs_w5_1 : w.heap.size + 1 < w5.heap.size := by omega
        have hs_w5_2 : w.heap.size + 1 + 1 < w5.heap.size := by omega
        go_wp2_with fail
        refine bodyPost_ret (by simp [results, Try.results60, go_sem, *]; try rfl) rfl ?_
        exact ⟨rfl, by go_grown⟩
      · obtain ⟨l1, l2, l3, l4, l5, l6⟩ := HL.out rfl rfl rfl
        have q1 := prod_bd (a := ax - ox) (b := by_ - oy) (by omega) (by omega)
        have q2 := prod_bd (a := ay - oy) (b := bx - ox) (by omega) (by omega)
        obtain ⟨d1, hd1⟩ : ∃ z, ax - ox = z := ⟨_, rfl⟩
        obtain ⟨d2, hd2⟩ : ∃ z, by_ - oy = z := ⟨_, rfl⟩
        obtain ⟨d3, hd3⟩ : ∃ z, ay - oy = z := ⟨_, rfl⟩
        obtain ⟨d4, hd4⟩ : ∃ z, bx - ox = z := ⟨_, rfl⟩
        have e1 : wrap64 (wrap64 ax - wrap64 ox) = d1 := by rw [← hd1]; exact wrap_sub h3 h1
        have e2 : wrap64 (wrap64 by_ - wrap64 oy) = d2 := by rw [← hd2]; exact wrap_sub h6 h2
        have e3 : wrap64 (wrap64 ay - wrap64 oy) = d3 := by rw [← hd3]; exact wrap_sub h4 h2
        have e4 : wrap64 (wrap64 bx - wrap64 ox) = d4 := by rw [← hd4]; exact wrap_sub h5 h1
        have x1 : wrap64 ax = ax := by unfold wrap64; omega
        have x2 : wrap64 ox = ox := by unfold wrap64; omega
        have x3 : wrap64 by_ = by_ := by unfold wrap64; omega
        have x4 : wrap64 oy = oy := by unfold wrap64; omega
        have x5 : wrap64 ay = ay := by unfold wrap64; omega
        have x6 : wrap64 bx = bx := by unfold wrap64; omega
        rw [hd1, hd2] at q1 ⊢
        rw [hd3, hd4] at q2 ⊢
        rw [x1, x2] at e1
        rw [x3, x4] at e2
        rw [x5, x4] at e3
        rw [x6, x2] at e4
        have p1 : wrap64 (d1 * d2) = d1 * d2 := by unfold wrap64; omega
        have p2 : wrap64 (d3 * d4) = d3 * d4 := by unfold wrap64; omega
        clear C SG HL
        go_enter Try.func60, Try.ntmps60
        go_wp2_with fail
        refine (IO.out _).mono ?_
        rintro e w1 ⟨rfl, hb_w1⟩
        obtain ⟨hc_w1, hf_w1⟩ := bcell hb_w1
        have hz_w1 := hb_w1.size
        try simp at hz_w1
        have hB_w1 : Below w.heap.size w w1 := Below.trans (by go_grown) (hb_w1.mono (by go_size))
        have hs_w1_0 : w.heap.size < w1.heap.size := by omega
        have hs_w1_1 : w.heap.size + 1 < w1.heap.size := by omega
        have hs_w1_2 : w.heap.size + 1 + 1 < w1.heap.size := by omega
        go_wp2_with fail
        refine (IA.out _).mono ?_
        rintro e w2 ⟨rfl, hb_w2⟩
        obtain ⟨hc_w2, hf_w2⟩ := bcell hb_w2
        have hz_w2 := hb_w2.size
        try simp at hz_w2
        have hB_w2 : Below w.heap.size w w2 := Below.trans (by go_grown) (hb_w2.mono (by go_size))
        have hs_w2_0 : w.heap.size < w2.heap.size := by omega
        have hs_w2_1 : w.heap.size + 1 < w2.heap.size := by omega
        have hs_w2_2 : w.heap.size + 1 + 1 < w2.heap.size := by omega
        go_wp2_with fail
        refine (IB.out _).mono ?_
        rintro e w3 ⟨rfl, hb_w3⟩
        obtain ⟨hc_w3, hf_w3⟩ := bcell hb_w3
        have hz_w3 := hb_w3.size
        try simp at hz_w3
        have hB_w3 : Below w.heap.size w w3 := Below.trans (by go_grown) (hb_w3.mono (by go_size))
        have hs_w3_0 : w.heap.size < w3.heap.size := by omega
        have hs_w3_1 : w.heap.size + 1 < w3.heap.size := by omega
        have hs_w3_2 : w.heap.size + 1 + 1 < w3.heap.size := by omega
        go_wp2_with fail
        all_goals
          refine bodyPost_ret (by simp [results, Try.results60, go_sem, *]; try rfl) rfl ?_
          exact ⟨ret_i64 (by unfold cmpI; (repeat' split) <;> omega), by go_grown⟩

theorem between04 (a b x : Int) (w : World) :
    Calls Try.prog 59 #[.int .i32 a, .int .i32 b, .int .i32 x] w fun e w' => e = .returned (.bool (btw a b x)) ∧ Below w.heap.size w w' := by
  go_enter Try.func59, Try.ntmps59
  go_wp2_with fail
  all_goals
    go_returns
    exact ⟨ret_bool (by unfold btw; rw [Bool.eq_iff_iff]; simp; try omega), by go_grown⟩

set_option maxHeartbeats 1000000 in
theorem on04 (px py ax ay bx by_ : Int) (h1 : I32 px) (h2 : I32 py) (h3 : I32 ax) (h4 : I32 ay) (h5 : I32 bx) (h6 : I32 by_) (w : World) :
    Calls Try.prog 34 #[(Value.agg #[.int .i32 (px), .int .i32 (py)]), (Value.agg #[.int .i32 (ax), .int .i32 (ay)]), (Value.agg #[.int .i32 (bx), .int .i32 (by_)])] w fun e w' => e = .returned (.bool (onB px py ax ay bx by_)) ∧ Below w.heap.size w w' := by
  have T := Lib.hid (fun W => turn04 ax ay bx by_ px py h3 h4 h5 h6 h1 h2 W)
  have B1 := Lib.hid (fun W => between04 ax bx px W)
  have B2 := Lib.hid (fun W => between04 ay by_ py W)
  clear h1 h2 h3 h4 h5 h6
  unfold onB
  rw [hasB_btw]
  obtain ⟨x, hx⟩ : ∃ z, btw ax bx px = z := ⟨_, rfl⟩
  obtain ⟨y, hy⟩ : ∃ z, btw ay by_ py = z := ⟨_, rfl⟩
  obtain ⟨k, hk⟩ : ∃ z, trn ax ay bx by_ px py = z := ⟨_, rfl⟩
  rw [hx] at B1 ⊢
  rw [hy] at B2 ⊢
  rw [hk] at T ⊢
  clear hx hy hk
  cases x
  · rw [Bool.false_and, Bool.false_and]
    go_enter Try.func34, Try.ntmps34
    go_wp2_with fail
    refine (B1.out _).mono ?_
    rintro e w1 ⟨rfl, hb_w1⟩
    obtain ⟨hc_w1, hf_w1⟩ := bcell hb_w1
    have hz_w1 := hb_w1.size
    try simp at hz_w1
    have hB_w1 : Below w.heap.size w w1 := Below.trans (by go_grown) (hb_w1.mono (by go_size))
    have hs_w1_0 : w.heap.size < w1.heap.size := by omega
    have hs_w1_1 : w.heap.size + 1 < w1.heap.size := by omega
    have hs_w1_2 : w.heap.size + 1 + 1 < w1.heap.size := by omega
    go_wp2_with fail
    refine bodyPost_ret (by simp [results, Try.results34, go_sem, *]; try rfl) rfl ?_
    exact ⟨rfl, by go_grown⟩
  · cases y
    · rw [Bool.true_and, Bool.false_and]
      go_enter Try.func34, Try.ntmps34
      go_wp2_with fail
      refine (B1.out _).mono ?_
      rintro e w1 ⟨rfl, hb_w1⟩
      obtain ⟨hc_w1, hf_w1⟩ := bcell hb_w1
      have hz_w1 := hb_w1.size
      try simp at hz_w1
      have hB_w1 : Below w.heap.size w w1 := Below.trans (by go_grown) (hb_w1.mono (by go_size))
      have hs_w1_0 : w.heap.size < w1.heap.size := by omega
      have hs_w1_1 : w.heap.size + 1 < w1.heap.size := by omega
      have hs_w1_2 : w.heap.size + 1 + 1 < w1.heap.size := by omega
      go_wp2_with fail
      refine (B2.out _).mono ?_
      rintro e w2 ⟨rfl, hb_w2⟩
      obtain ⟨hc_w2, hf_w2⟩ := bcell hb_w2
      have hz_w2 := hb_w2.size
      try simp at hz_w2
      have hB_w2 : Below w.heap.size w w2 := Below.trans (by go_grown) (hb_w2.mono (by go_size))
      have hs_w2_0 : w.heap.size < w2.heap.size := by omega
      have hs_w2_1 : w.heap.size + 1 < w2.heap.size := by omega
      have hs_w2_2 : w.heap.size + 1 + 1 < w2.heap.size := by omega
      go_wp2_with fail
      refine bodyPost_ret (by simp [results, Try.results34, go_sem, *]; try rfl) rfl ?_
      exact ⟨rfl, by go_grown⟩
    · rw [Bool.true_and, Bool.true_and]
      go_enter Try.func34, Try.ntmps34
      go_wp2_with fail
      refine (B1.out _).mono ?_
      rintro e w1 ⟨rfl, hb_w1⟩
      obtain ⟨hc_w1, hf_w1⟩ := bcell hb_w1
      have hz_w1 := hb_w1.size
      try simp at hz_w1
      have hB_w1 : Below w.heap.size w w1 := Below.trans (by go_grown) (hb_w1.mono (by go_size))
      have hs_w1_0 : w.heap.size < w1.heap.size := by omega
      have hs_w1_1 : w.heap.size + 1 < w1.heap.size := by omega
      have hs_w1_2 : w.heap.size + 1 + 1 < w1.heap.size := by omega
      go_wp2_with fail
      refine (B2.out _).mono ?_
      rintro e w2 ⟨rfl, hb_w2⟩
      obtain ⟨hc_w2, hf_w2⟩ := bcell hb_w2
      have hz_w2 := hb_w2.size
      try simp at hz_w2
      have hB_w2 : Below w.heap.size w w2 := Below.trans (by go_grown) (hb_w2.mono (by go_size))
      have hs_w2_0 : w.heap.size < w2.heap.size := by omega
      have hs_w2_1 : w.heap.size + 1 < w2.heap.size := by omega
      have hs_w2_2 : w.heap.size + 1 + 1 < w2.heap.size := by omega
      go_wp2_with fail
      refine (T.out _).mono ?_
      rintro e w3 ⟨rfl, hb_w3⟩
      obtain ⟨hc_w3, hf_w3⟩ := bcell hb_w3
      have hz_w3 := hb_w3.size
      try simp at hz_w3
      have hB_w3 : Below w.heap.size w w3 := Below.trans (by go_grown) (hb_w3.mono (by go_size))
      have hs_w3_0 : w.heap.size < w3.heap.size := by omega
      have hs_w3_1 : w.heap.size + 1 < w3.heap.size := by omega
      have hs_w3_2 : w.heap.size + 1 + 1 < w3.heap.size := by omega
      go_wp2_with fail
      refine bodyPost_ret (by simp [results, Try.results34, go_sem, *]; try rfl) rfl ?_
      exact ⟨ret_bool (by rw [Bool.eq_iff_iff]; simp), by go_grown⟩

theorem next_at {k L : Nat} (hk : k < L) : (k + 1 < L ∧ (k + 1) % L = k + 1) ∨ (¬ k + 1 < L ∧ (k + 1) % L = 0) := by
  rcases Nat.lt_or_ge (k + 1) L with h | h
  · exact .inl ⟨h, Nat.mod_eq_of_lt h⟩
  · have : k + 1 = L := by omega
    exact .inr ⟨by omega, by rw [this, Nat.mod_self]⟩

set_option maxHeartbeats 400000 in
theorem next_ref (sv : Value) (ps : List Pt) (k m : Nat) (hk : k < ps.length) (hreach : ps.length * 8 ≤ 140737488355328) (w : World) (hm : m ≤ w.heap.size) (hI : PtsAt m w sv ps) :
    Calls Try.prog 36 #[sv, .int .i64 (k : Int)] w fun e w' => e = .returned (.agg #[.int .i32 (sid ps k).2.1, .int .i32 (sid ps k).2.2]) ∧ Below w.heap.size w w' := by
  rcases hI with ⟨_, rfl⟩ | ⟨b, off, cap, rfl, hb, hc⟩
  · exact absurd hk (Nat.not_lt_zero _)
  · obtain ⟨q, hq⟩ : ∃ q, gp ps ((k + 1) % ps.length) = q := ⟨_, rfl⟩
    show Calls _ _ _ _ fun e w' => e = .returned (.agg #[.int .i32 (gp ps ((k + 1) % ps.length)).1, .int .i32 (gp ps ((k + 1) % ps.length)).2]) ∧ _
    rw [hq]
    obtain ⟨L, hL⟩ : ∃ L, ps.length = L := ⟨_, rfl⟩
    rw [hL] at hk hreach hc hq ⊢
    have hbw : b < w.heap.size := by omega
    rcases next_at hk with ⟨h1, h2⟩ | ⟨h1, h2⟩
    · rw [h2] at hq
      obtain ⟨c0, c1⟩ := hc _ h1
      rw [hq] at c0 c1
      clear hq hc h2
      go_enter Try.func36, Try.ntmps36
      go_wp2_with fail
      refine bodyPost_ret (by simp [results, Try.results36, go_sem, *]; try rfl) rfl ?_
      exact ⟨rfl, by go_grown⟩
    · rw [h2] at hq
      obtain ⟨c0, c1⟩ := hc 0 (by omega)
      rw [hq, Nat.zero_mul, Nat.add_zero] at c0 c1
      clear hq hc h2
      go_enter Try.func36, Try.ntmps36
      go_wp2_with fail
      refine bodyPost_ret (by simp [results, Try.results36, go_sem, *]; try rfl) rfl ?_
      exact ⟨rfl, by go_grown⟩

end Go.Proofs.Ytohnglcdophkfaa
