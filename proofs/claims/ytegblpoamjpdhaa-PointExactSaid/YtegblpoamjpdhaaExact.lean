/-
  Contracts of the document's On and Around; the law PointExact returns true for any four points.
-/
import Derived.Test.YtegblpoamjpdhaaTurnR
namespace Go.Proofs.Ytegblpoamjpdhaa
open Go.RowKit

set_option maxHeartbeats 1000000 in
theorem on04 (px py ax ay bx by_ : Int) (h1 : I32 px) (h2 : I32 py) (h3 : I32 ax) (h4 : I32 ay) (h5 : I32 bx) (h6 : I32 by_) (w : World) :
    Calls Try.prog 35 #[(Value.agg #[.int .i32 (px), .int .i32 (py)]), (Value.agg #[.int .i32 (ax), .int .i32 (ay)]), (Value.agg #[.int .i32 (bx), .int .i32 (by_)])] w fun e w' => e = .returned (.bool (onB px py ax ay bx by_)) ∧ Below w.heap.size w w' := by
  have T := Lib.hid (fun W => turn04 ax ay bx by_ px py h3 h4 h5 h6 h1 h2 W)
  have B1 := Lib.hid (fun W => between04 ax bx px W)
  have B2 := Lib.hid (fun W => between04 ay by_ py W)
  clear h1 h2 h3 h4 h5 h6
  unfold onB
  rw [hasB_btw]
  obtain ⟨x, hx⟩ : ∃ z, btw ax bx px = z := ⟨_, rfl⟩
  obtain ⟨y, hy⟩ : ∃ z, btw ay by_ py = z := ⟨_, rfl⟩
  obtain ⟨k, hk⟩ : ∃ z, trn ax ay bx by_ px py = z := ⟨_, rfl⟩
  rw [hx] at B1 ⊢
  rw [hy] at B2 ⊢
  rw [hk] at T ⊢
  clear hx hy hk
  cases x
  · rw [Bool.false_and, Bool.false_and]
    go_enter Try.func35, Try.ntmps35
    go_wp2_with fail
    refine (B1.out _).mono ?_
    rintro e w1 ⟨rfl, hb_w1⟩
    obtain ⟨hc_w1, hf_w1⟩ := bcell hb_w1
    have hz_w1 := hb_w1.size
    try simp at hz_w1
    have hB_w1 : Below w.heap.size w w1 := Below.trans (by go_grown) (hb_w1.mono (by go_size))
    have hs_w1_0 : w.heap.size < w1.heap.size := by omega
    have hs_w1_1 : w.heap.size + 1 < w1.heap.size := by omega
    have hs_w1_2 : w.heap.size + 1 + 1 < w1.heap.size := by omega
    go_wp2_with fail
    refine bodyPost_ret (by simp [results, Try.results35, go_sem, *]; try rfl) rfl ?_
    exact ⟨rfl, by go_grown⟩
  · cases y
    · rw [Bool.true_and, Bool.false_and]
      go_enter Try.func35, Try.ntmps35
      go_wp2_with fail
      refine (B1.out _).mono ?_
      rintro e w1 ⟨rfl, hb_w1⟩
      obtain ⟨hc_w1, hf_w1⟩ := bcell hb_w1
      have hz_w1 := hb_w1.size
      try simp at hz_w1
      have hB_w1 : Below w.heap.size w w1 := Below.trans (by go_grown) (hb_w1.mono (by go_size))
      have hs_w1_0 : w.heap.size < w1.heap.size := by omega
      have hs_w1_1 : w.heap.size + 1 < w1.heap.size := by omega
      have hs_w1_2 : w.heap.size + 1 + 1 < w1.heap.size := by omega
      go_wp2_with fail
      refine (B2.out _).mono ?_
      rintro e w2 ⟨rfl, hb_w2⟩
      obtain ⟨hc_w2, hf_w2⟩ := bcell hb_w2
      have hz_w2 := hb_w2.size
      try simp at hz_w2
      have hB_w2 : Below w.heap.size w w2 := Below.trans (by go_grown) (hb_w2.mono (by go_size))
      have hs_w2_0 : w.heap.size < w2.heap.size := by omega
      have hs_w2_1 : w.heap.size + 1 < w2.heap.size := by omega
      have hs_w2_2 : w.heap.size + 1 + 1 < w2.heap.size := by omega
      go_wp2_with fail
      refine bodyPost_ret (by simp [results, Try.results35, go_sem, *]; try rfl) rfl ?_
      exact ⟨rfl, by go_grown⟩
    · rw [Bool.true_and, Bool.true_and]
      go_enter Try.func35, Try.ntmps35
      go_wp2_with fail
      refine (B1.out _).mono ?_
      rintro e w1 ⟨rfl, hb_w1⟩
      obtain ⟨hc_w1, hf_w1⟩ := bcell hb_w1
      have hz_w1 := hb_w1.size
      try simp at hz_w1
      have hB_w1 : Below w.heap.size w w1 := Below.trans (by go_grown) (hb_w1.mono (by go_size))
      have hs_w1_0 : w.heap.size < w1.heap.size := by omega
      have hs_w1_1 : w.heap.size + 1 < w1.heap.size := by omega
      have hs_w1_2 : w.heap.size + 1 + 1 < w1.heap.size := by omega
      go_wp2_with fail
      refine (B2.out _).mono ?_
      rintro e w2 ⟨rfl, hb_w2⟩
      obtain ⟨hc_w2, hf_w2⟩ := bcell hb_w2
      have hz_w2 := hb_w2.size
      try simp at hz_w2
      have hB_w2 : Below w.heap.size w w2 := Below.trans (by go_grown) (hb_w2.mono (by go_size))
      have hs_w2_0 : w.heap.size < w2.heap.size := by omega
      have hs_w2_1 : w.heap.size + 1 < w2.heap.size := by omega
      have hs_w2_2 : w.heap.size + 1 + 1 < w2.heap.size := by omega
      go_wp2_with fail
      refine (T.out _).mono ?_
      rintro e w3 ⟨rfl, hb_w3⟩
      obtain ⟨hc_w3, hf_w3⟩ := bcell hb_w3
      have hz_w3 := hb_w3.size
      try simp at hz_w3
      have hB_w3 : Below w.heap.size w w3 := Below.trans (by go_grown) (hb_w3.mono (by go_size))
      have hs_w3_0 : w.heap.size < w3.heap.size := by omega
      have hs_w3_1 : w.heap.size + 1 < w3.heap.size := by omega
      have hs_w3_2 : w.heap.size + 1 + 1 < w3.heap.size := by omega
      go_wp2_with fail
      refine bodyPost_ret (by simp [results, Try.results35, go_sem, *]; try rfl) rfl ?_
      exact ⟨ret_bool (by rw [Bool.eq_iff_iff]; simp), by go_grown⟩

set_option maxHeartbeats 1000000 in
theorem around04 (ox oy ax ay bx by_ : Int) (h1 : I32 ox) (h2 : I32 oy) (h3 : I32 ax) (h4 : I32 ay) (h5 : I32 bx) (h6 : I32 by_) (w : World) :
    Calls Try.prog 34 #[(Value.agg #[.int .i32 (ox), .int .i32 (oy)]), (Value.agg #[.int .i32 (ax), .int .i32 (ay)]), (Value.agg #[.int .i32 (bx), .int .i32 (by_)])] w fun e w' => e = .returned (.int .i64 (arn (ax - ox) (ay - oy) (bx - ox) (by_ - oy))) ∧ Below w.heap.size w w' := by
  have T := fun W => turn04 ox oy ax ay bx by_ h1 h2 h3 h4 h5 h6 W
  unfold trn at T
  have S1 := Lib.hid (fun W => sector04 ox oy ax ay W)
  have S2 := Lib.hid (fun W => sector04 ox oy bx by_ W)
  rw [arn_sct]
  have hb := cmpI_bd ((ax - ox) * (by_ - oy)) ((ay - oy) * (bx - ox))
  obtain ⟨k, hk⟩ : ∃ z, cmpI ((ax - ox) * (by_ - oy)) ((ay - oy) * (bx - ox)) = z := ⟨_, rfl⟩
  obtain ⟨i, hi⟩ : ∃ z, sct (ax - ox) (ay - oy) = z := ⟨_, rfl⟩
  obtain ⟨j, hj⟩ : ∃ z, sct (bx - ox) (by_ - oy) = z := ⟨_, rfl⟩
  rw [hk] at T hb ⊢
  rw [hi] at S1 ⊢
  rw [hj] at S2 ⊢
  have hT := Lib.hid T
  have hng : wrap64 (-k) = -k := by unfold wrap64; omega
  clear h1 h2 h3 h4 h5 h6 hk hi hj T hb
  rcases Int.lt_trichotomy i j with h | h | h
  · rw [if_pos h]
    go_enter Try.func34, Try.ntmps34
    go_wp2_with fail
    refine (S1.out _).mono ?_
    rintro e w1 ⟨rfl, hb_w1⟩
    obtain ⟨hc_w1, hf_w1⟩ := bcell hb_w1
    have hz_w1 := hb_w1.size
    try simp at hz_w1
    have hB_w1 : Below w.heap.size w w1 := Below.trans (by go_grown) (hb_w1.mono (by go_size))
    have hs_w1_0 : w.heap.size < w1.heap.size := by omega
    have hs_w1_1 : w.heap.size + 1 < w1.heap.size := by omega
    have hs_w1_2 : w.heap.size + 1 + 1 < w1.heap.size := by omega
    go_wp2_with fail
    refine (S2.out _).mono ?_
    rintro e w2 ⟨rfl, hb_w2⟩
    obtain ⟨hc_w2, hf_w2⟩ := bcell hb_w2
    have hz_w2 := hb_w2.size
    try simp at hz_w2
    have hB_w2 : Below w.heap.size w w2 := Below.trans (by go_grown) (hb_w2.mono (by go_size))
    have hs_w2_0 : w.heap.size < w2.heap.size := by omega
    have hs_w2_1 : w.heap.size + 1 < w2.heap.size := by omega
    have hs_w2_2 : w.heap.size + 1 + 1 < w2.heap.size := by omega
    go_wp2_with fail
    refine bodyPost_ret (by simp [results, Try.results34, go_sem, *]; try rfl) rfl ?_
    exact ⟨rfl, by go_grown⟩
  · subst h
    rw [if_neg (Int.lt_irrefl i), if_neg (Int.lt_irrefl i)]
    go_enter Try.func34, Try.ntmps34
    go_wp2_with fail
    refine (S1.out _).mono ?_
    rintro e w1 ⟨rfl, hb_w1⟩
    obtain ⟨hc_w1, hf_w1⟩ := bcell hb_w1
    have hz_w1 := hb_w1.size
    try simp at hz_w1
    have hB_w1 : Below w.heap.size w w1 := Below.trans (by go_grown) (hb_w1.mono (by go_size))
    have hs_w1_0 : w.heap.size < w1.heap.size := by omega
    have hs_w1_1 : w.heap.size + 1 < w1.heap.size := by omega
    have hs_w1_2 : w.heap.size + 1 + 1 < w1.heap.size := by omega
    go_wp2_with fail
    refine (S2.out _).mono ?_
    rintro e w2 ⟨rfl, hb_w2⟩
    obtain ⟨hc_w2, hf_w2⟩ := bcell hb_w2
    have hz_w2 := hb_w2.size
    try simp at hz_w2
    have hB_w2 : Below w.heap.size w w2 := Below.trans (by go_grown) (hb_w2.mono (by go_size))
    have hs_w2_0 : w.heap.size < w2.heap.size := by omega
    have hs_w2_1 : w.heap.size + 1 < w2.heap.size := by omega
    have hs_w2_2 : w.heap.size + 1 + 1 < w2.heap.size := by omega
    go_wp2_with fail
    refine (hT.out _).mono ?_
    rintro e w3 ⟨rfl, hb_w3⟩
    obtain ⟨hc_w3, hf_w3⟩ := bcell hb_w3
    have hz_w3 := hb_w3.size
    try simp at hz_w3
    have hB_w3 : Below w.heap.size w w3 := Below.trans (by go_grown) (hb_w3.mono (by go_size))
    have hs_w3_0 : w.heap.size < w3.heap.size := by omega
    have hs_w3_1 : w.heap.size + 1 < w3.heap.size := by omega
    have hs_w3_2 : w.heap.size + 1 + 1 < w3.heap.size := by omega
    go_wp2_with fail
    refine bodyPost_ret (by simp [results, Try.results34, go_sem, *]; try rfl) rfl ?_
    exact ⟨rfl, by go_grown⟩
  · have h' : ¬ i < j := by omega
    rw [if_neg h', if_pos h]
    go_enter Try.func34, Try.ntmps34
    go_wp2_with fail
    refine (S1.out _).mono ?_
    rintro e w1 ⟨rfl, hb_w1⟩
    obtain ⟨hc_w1, hf_w1⟩ := bcell hb_w1
    have hz_w1 := hb_w1.size
    try simp at hz_w1
    have hB_w1 : Below w.heap.size w w1 := Below.trans (by go_grown) (hb_w1.mono (by go_size))
    have hs_w1_0 : w.heap.size < w1.heap.size := by omega
    have hs_w1_1 : w.heap.size + 1 < w1.heap.size := by omega
    have hs_w1_2 : w.heap.size + 1 + 1 < w1.heap.size := by omega
    go_wp2_with fail
    refine (S2.out _).mono ?_
    rintro e w2 ⟨rfl, hb_w2⟩
    obtain ⟨hc_w2, hf_w2⟩ := bcell hb_w2
    have hz_w2 := hb_w2.size
    try simp at hz_w2
    have hB_w2 : Below w.heap.size w w2 := Below.trans (by go_grown) (hb_w2.mono (by go_size))
    have hs_w2_0 : w.heap.size < w2.heap.size := by omega
    have hs_w2_1 : w.heap.size + 1 < w2.heap.size := by omega
    have hs_w2_2 : w.heap.size + 1 + 1 < w2.heap.size := by omega
    go_wp2_with fail
    refine bodyPost_ret (by simp [results, Try.results34, go_sem, *]; try rfl) rfl ?_
    exact ⟨rfl, by go_grown⟩

set_option maxHeartbeats 4000000 in
set_option maxRecDepth 100000 in
theorem pointExact_core (HR : RoundSays) (ox oy ax ay bx by_ px py : Int) (h1 : I32 ox) (h2 : I32 oy) (h3 : I32 ax) (h4 : I32 ay) (h5 : I32 bx) (h6 : I32 by_) (h7 : I32 px) (h8 : I32 py) (w : World) :
    Calls Try.prog 7 #[.agg #[.int .i32 ox, .int .i32 oy, .int .i32 ax, .int .i32 ay, .int .i32 bx, .int .i32 by_, .int .i32 px, .int .i32 py]] w fun e w' => e = .returned (.bool true) ∧ Below w.heap.size w w' := by
  have in1 := fun W => in_any ox oy W
  have in2 := fun W => in_ref ox oy W
  have cp1 := fun W => pcmp_any ax ay bx by_ W
  have cp2 := fun W => pcmp_ref ax ay bx by_ W
  have ls1 := fun W => pless_any ax ay bx by_ W
  have cr1 := fun W => cross_any ox oy ax ay bx by_ h1 h2 h3 h4 h5 h6 W
  have cr2 := fun W => cross04 HR ox oy ax ay bx by_ h1 h2 h3 h4 h5 h6 W
  have do1 := fun W => dot_any ox oy ax ay bx by_ h1 h2 h3 h4 h5 h6 W
  have do2 := fun W => dot04 HR ox oy ax ay bx by_ h1 h2 h3 h4 h5 h6 W
  have di1 := fun W => dist_any ax ay bx by_ h3 h4 h5 h6 W
  have di2 := fun W => dist04 HR ax ay bx by_ h3 h4 h5 h6 W
  have tu1 := fun W => turn_any ox oy ax ay bx by_ h1 h2 h3 h4 h5 h6 W
  have tu2 := fun W => turn04 ox oy ax ay bx by_ h1 h2 h3 h4 h5 h6 W
  have ar1 := fun W => around_turn ox oy ax ay bx by_ h1 h2 h3 h4 h5 h6 W
  have ar2 := fun W => around04 ox oy ax ay bx by_ h1 h2 h3 h4 h5 h6 W
  have op1 := fun W => on_any px py ax ay bx by_ h7 h8 h3 h4 h5 h6 W
  have op2 := fun W => on04 px py ax ay bx by_ h7 h8 h3 h4 h5 h6 W
  have oo1 := fun W => on_any ox oy ax ay bx by_ h1 h2 h3 h4 h5 h6 W
  have oo2 := fun W => on04 ox oy ax ay bx by_ h1 h2 h3 h4 h5 h6 W
  obtain ⟨v1, e1⟩ : ∃ z, inB ox oy = z := ⟨_, rfl⟩
  obtain ⟨v2, e2⟩ : ∃ z, ptCmp ax ay bx by_ = z := ⟨_, rfl⟩
  obtain ⟨v3, e3⟩ : ∃ z, wrap64 (crs ox oy ax ay bx by_) = z := ⟨_, rfl⟩
  obtain ⟨v4, e4⟩ : ∃ z, wrap64 ((ax - ox) * (bx - ox) + (ay - oy) * (by_ - oy)) = z := ⟨_, rfl⟩
  obtain ⟨v5, e5⟩ : ∃ z, wrap64 ((bx - ax) * (bx - ax) + (by_ - ay) * (by_ - ay)) = z := ⟨_, rfl⟩
  obtain ⟨v6, e6⟩ : ∃ z, trn ox oy ax ay bx by_ = z := ⟨_, rfl⟩
  obtain ⟨v7, e7⟩ : ∃ z, arn (ax - ox) (ay - oy) (bx - ox) (by_ - oy) = z := ⟨_, rfl⟩
  obtain ⟨v8, e8⟩ : ∃ z, onB px py ax ay bx by_ = z := ⟨_, rfl⟩
  obtain ⟨v9, e9⟩ : ∃ z, onB ox oy ax ay bx by_ = z := ⟨_, rfl⟩
  rw [e1] at in1 in2
  rw [e2] at cp1 cp2 ls1
  rw [e3] at cr1 cr2
  rw [e4] at do1 do2
  rw [e5] at di1 di2
  rw [e6] at tu1 tu2
  rw [e7] at ar1 ar2
  rw [e8] at op1 op2
  rw [e9] at oo1 oo2
  clear e1 e2 e3 e4 e5 e6 e7 e8 e9 h1 h2 h3 h4 h5 h6 h7 h8 HR
  have IN1 := Lib.hid in1
  have IN2 := Lib.hid in2
  have CP1 := Lib.hid cp1
  have CP2 := Lib.hid cp2
  have LS1 := Lib.hid ls1
  have CR1 := Lib.hid cr1
  have CR2 := Lib.hid cr2
  have DO1 := Lib.hid do1
  have DO2 := Lib.hid do2
  have DI1 := Lib.hid di1
  have DI2 := Lib.hid di2
  have TU1 := Lib.hid tu1
  have TU2 := Lib.hid tu2
  have AR1 := Lib.hid ar1
  have AR2 := Lib.hid ar2
  have OP1 := Lib.hid op1
  have OP2 := Lib.hid op2
  have OO1 := Lib.hid oo1
  have OO2 := Lib.hid oo2
  clear in1 in2 cp1 cp2 ls1 cr1 cr2 do1 do2 di1 di2 tu1 tu2 ar1 ar2 op1 op2 oo1 oo2
  go_enter Try.func7, Try.ntmps7
  go_wp2_with fail
  refine wp_gen (fun Qw4 hW0 => ?_)
  have hB_Qw4 : Below w.heap.size w Qw4 := by rw [hW0]; go_grown
  have hs_Qw4_0 : w.heap.size < Qw4.heap.size := by rw [hW0]; first | omega | (simp; done) | (simp; omega)
  have hs_Qw4_1 : w.heap.size + 1 < Qw4.heap.size := by rw [hW0]; first | omega | (simp; done) | (simp; omega)
  have hs_Qw4_2 : w.heap.size + 1 + 1 < Qw4.heap.size := by rw [hW0]; first | omega | (simp; done) | (simp; omega)
  have hs_Qw4_3 : w.heap.size + 1 + 1 + 1 < Qw4.heap.size := by rw [hW0]; first | omega | (simp; done) | (simp; omega)
  have hg_Qw4_0 : Qw4.cell? ⟨w.heap.size, 6, none⟩ = some (.int .i32 px) := by rw [hW0]; first | (go_simp; done) | (simp [*]; done)
  have hg_Qw4_1 : Qw4.cell? ⟨w.heap.size, 7, none⟩ = some (.int .i32 py) := by rw [hW0]; first | (go_simp; done) | (simp [*]; done)
  have hg_Qw4_2 : Qw4.cell? ⟨w.heap.size + 1, 0, none⟩ = some (.int .i32 ox) := by rw [hW0]; first | (go_simp; done) | (simp [*]; done)
  have hg_Qw4_3 : Qw4.cell? ⟨w.heap.size + 1, 1, none⟩ = some (.int .i32 oy) := by rw [hW0]; first | (go_simp; done) | (simp [*]; done)
  have hg_Qw4_4 : Qw4.cell? ⟨w.heap.size + 1 + 1, 0, none⟩ = some (.int .i32 ax) := by rw [hW0]; first | (go_simp; done) | (simp [*]; done)
  have hg_Qw4_5 : Qw4.cell? ⟨w.heap.size + 1 + 1, 1, none⟩ = some (.int .i32 ay) := by rw [hW0]; first | (go_simp; done) | (simp [*]; done)
  have hg_Qw4_6 : Qw4.cell? ⟨w.heap.size + 1 + 1 + 1, 0, none⟩ = some (.int .i32 bx) := by rw [hW0]; first | (go_simp; done) | (simp [*]; done)
  have hg_Qw4_7 : Qw4.cell? ⟨w.heap.size + 1 + 1 + 1, 1, none⟩ = some (.int .i32 by_) := by rw [hW0]; first | (go_simp; done) | (simp [*]; done)
  clear hW0
  have hq_Qw4 := @wd_cell Qw4
  refine wp_region_wd (by kernel_rfl) (by kernel_rfl) ?_
  repeat (go_big_quiet_step ((first | (go_at_call 9; with_reducible exact quiet_wd (IN1.out _)) | (go_at_call 25; with_reducible exact quiet_wd (IN2.out _)) | (go_at_call 26; with_reducible exact quiet_wd (CP1.out _)) | (go_at_call 27; with_reducible exact quiet_wd (CP2.out _)) | (go_at_call 28; with_reducible exact quiet_wd (LS1.out _)))))
  refine wpQuiet_nil ?_
  rintro w4 ⟨⟨wx, hb_w4⟩, hwx⟩
  obtain rfl : w4 = wx := hwx
  clear hq_Qw4
  obtain ⟨hc_w4, hf_w4⟩ := bcell hb_w4
  have hB_w4 : Below w.heap.size w w4 := Below.trans (by go_grown) (hb_w4.mono (by go_size))
  have hs_w4_0 : w.heap.size < w4.heap.size := Nat.lt_of_lt_of_le hs_Qw4_0 hb_w4.size
  have hs_w4_1 : w.heap.size + 1 < w4.heap.size := Nat.lt_of_lt_of_le hs_Qw4_1 hb_w4.size
  have hs_w4_2 : w.heap.size + 1 + 1 < w4.heap.size := Nat.lt_of_lt_of_le hs_Qw4_2 hb_w4.size
  have hs_w4_3 : w.heap.size + 1 + 1 + 1 < w4.heap.size := Nat.lt_of_lt_of_le hs_Qw4_3 hb_w4.size
  go_wp2_with fail
  have hq_w4 := @wd_cell w4
  refine wp_region_wd (by kernel_rfl) (by kernel_rfl) ?_
  repeat (go_big_quiet_step ((first | (go_at_call 21; with_reducible exact quiet_wd (CR1.out _)) | (go_at_call 29; with_reducible exact quiet_wd (CR2.out _)) | (go_at_call 30; with_reducible exact quiet_wd (DO1.out _)) | (go_at_call 31; with_reducible exact quiet_wd (DO2.out _)) | (go_at_call 22; with_reducible exact quiet_wd (DI1.out _)) | (go_at_call 32; with_reducible exact quiet_wd (DI2.out _)))))
  refine wpQuiet_nil ?_
  rintro w6 ⟨⟨wx, hb_w6⟩, hwx⟩
  obtain rfl : w6 = wx := hwx
  clear hq_w4
  obtain ⟨hc_w6, hf_w6⟩ := bcell hb_w6
  have hB_w6 : Below w.heap.size w w6 := Below.trans (by go_grown) (hb_w6.mono (by go_size))
  have hs_w6_0 : w.heap.size < w6.heap.size := Nat.lt_of_lt_of_le (by assumption) hb_w6.size
  have hs_w6_1 : w.heap.size + 1 < w6.heap.size := Nat.lt_of_lt_of_le (by assumption) hb_w6.size
  have hs_w6_2 : w.heap.size + 1 + 1 < w6.heap.size := Nat.lt_of_lt_of_le (by assumption) hb_w6.size
  have hs_w6_3 : w.heap.size + 1 + 1 + 1 < w6.heap.size := Nat.lt_of_lt_of_le (by assumption) hb_w6.size
  go_wp2_with fail
  have hq_w6 := @wd_cell w6
  refine wp_region_wd (by kernel_rfl) (by kernel_rfl) ?_
  repeat (go_big_quiet_step ((first | (go_at_call 18; with_reducible exact quiet_wd (TU1.out _)) | (go_at_call 33; with_reducible exact quiet_wd (TU2.out _)) | (go_at_call 24; with_reducible exact quiet_wd (AR1.out _)) | (go_at_call 34; with_reducible exact quiet_wd (AR2.out _)))))
  refine wpQuiet_nil ?_
  rintro w8 ⟨⟨wx, hb_w8⟩, hwx⟩
  obtain rfl : w8 = wx := hwx
  clear hq_w6
  obtain ⟨hc_w8, hf_w8⟩ := bcell hb_w8
  have hB_w8 : Below w.heap.size w w8 := Below.trans (by go_grown) (hb_w8.mono (by go_size))
  have hs_w8_0 : w.heap.size < w8.heap.size := Nat.lt_of_lt_of_le (by assumption) hb_w8.size
  have hs_w8_1 : w.heap.size + 1 < w8.heap.size := Nat.lt_of_lt_of_le (by assumption) hb_w8.size
  have hs_w8_2 : w.heap.size + 1 + 1 < w8.heap.size := Nat.lt_of_lt_of_le (by assumption) hb_w8.size
  have hs_w8_3 : w.heap.size + 1 + 1 + 1 < w8.heap.size := Nat.lt_of_lt_of_le (by assumption) hb_w8.size
  go_wp2_with fail
  have hq_w8 := @wd_cell w8
  refine wp_region_wd (by kernel_rfl) (by kernel_rfl) ?_
  repeat (go_big_quiet_step ((first | (go_at_call 20; with_reducible exact quiet_wd (OP1.out _)) | (go_at_call 35; with_reducible exact quiet_wd (OP2.out _)) | (go_at_call 20; with_reducible exact quiet_wd (OO1.out _)) | (go_at_call 35; with_reducible exact quiet_wd (OO2.out _)))))
  refine wpQuiet_nil ?_
  rintro w9 ⟨⟨wx, hb_w9⟩, hwx⟩
  obtain rfl : w9 = wx := hwx
  clear hq_w8
  obtain ⟨hc_w9, hf_w9⟩ := bcell hb_w9
  have hB_w9 : Below w.heap.size w w9 := Below.trans (by go_grown) (hb_w9.mono (by go_size))
  go_wp2_with fail
  go_ret
  exact ⟨rfl, by go_grown⟩

end Go.Proofs.Ytegblpoamjpdhaa
