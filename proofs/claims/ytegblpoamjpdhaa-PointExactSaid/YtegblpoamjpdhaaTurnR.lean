/-
  Contracts of the document's Turn, between, On, sector, Around.
-/
import Derived.Test.YtegblpoamjpdhaaPointR
namespace Go.Proofs.Ytegblpoamjpdhaa
open Go.RowKit

theorem cmpI_diff (p q : Int) : cmpI (p - q) 0 = cmpI p q := by unfold cmpI; (repeat' split) <;> omega

set_option maxHeartbeats 1000000 in
theorem turn04 (ox oy ax ay bx by_ : Int) (h1 : I32 ox) (h2 : I32 oy) (h3 : I32 ax) (h4 : I32 ay) (h5 : I32 bx) (h6 : I32 by_) (w : World) :
    Calls Try.prog 33 #[(Value.agg #[.int .i32 (ox), .int .i32 (oy)]), (Value.agg #[.int .i32 (ax), .int .i32 (ay)]), (Value.agg #[.int .i32 (bx), .int .i32 (by_)])] w fun e w' => e = .returned (.int .i64 (trn ox oy ax ay bx by_)) ∧ Below w.heap.size w w' := by
  have C := Lib.hid (fun W => cross_num ox oy ax ay bx by_ h1 h2 h3 h4 h5 h6 W)
  have hs := (small_cr h1 h2 h3 h4 h5 h6).1
  have hv := fun p q r => @crs_val ox oy ax ay bx by_ p q r
  unfold crs at hs
  have SG := Lib.hid (fun (w0 : World) (v : Value) (h : NumAt w0 v ((ax - ox) * (by_ - oy) - (ay - oy) * (bx - ox))) => sign_ref h hs (by omega) w0 (Below.refl _ _))
  rw [cmpI_diff] at SG
  have IO := Lib.hid (fun W => in_ref ox oy W)
  have IA := Lib.hid (fun W => in_ref ax ay W)
  have IB := Lib.hid (fun W => in_ref bx by_ W)
  have hlim : inB ox oy = true → inB ax ay = true → inB bx by_ = true → (-1073741823 ≤ ox ∧ ox ≤ 1073741823) ∧ (-1073741823 ≤ oy ∧ oy ≤ 1073741823) ∧ (-1073741823 ≤ ax ∧ ax ≤ 1073741823) ∧ (-1073741823 ≤ ay ∧ ay ≤ 1073741823) ∧ (-1073741823 ≤ bx ∧ bx ≤ 1073741823) ∧ (-1073741823 ≤ by_ ∧ by_ ≤ 1073741823) :=
    fun a b c => ⟨(in_bd a).1, (in_bd a).2, (in_bd b).1, (in_bd b).2, (in_bd c).1, (in_bd c).2⟩
  unfold trn
  have T : Ending.returned (.int .i64 (cmpI ((ax - ox) * (by_ - oy)) ((ay - oy) * (bx - ox)))) = .returned (.int .i64 (cmpI ((ax - ox) * (by_ - oy)) ((ay - oy) * (bx - ox)))) := rfl
  clear hs T hv
  obtain ⟨bo, hbo⟩ : ∃ z, inB ox oy = z := ⟨_, rfl⟩
  obtain ⟨ba, hba⟩ : ∃ z, inB ax ay = z := ⟨_, rfl⟩
  obtain ⟨bb, hbb⟩ : ∃ z, inB bx by_ = z := ⟨_, rfl⟩
  rw [hbo] at IO hlim
  rw [hba] at IA hlim
  rw [hbb] at IB hlim
  clear hbo hba hbb
  have HL := Lib.hid hlim
  clear hlim
  cases bo
  · obtain ⟨k, hk⟩ : ∃ z, cmpI ((ax - ox) * (by_ - oy)) ((ay - oy) * (bx - ox)) = z := ⟨_, rfl⟩
    rw [hk] at SG ⊢
    clear h1 h2 h3 h4 h5 h6 hk
    go_enter Try.func33, Try.ntmps33
    go_wp2_with fail
    refine (IO.out _).mono ?_
    rintro e w1 ⟨rfl, hb_w1⟩
    obtain ⟨hc_w1, hf_w1⟩ := bcell hb_w1
    have hz_w1 := hb_w1.size
    try simp at hz_w1
    have hB_w1 : Below w.heap.size w w1 := Below.trans (by go_grown) (hb_w1.mono (by go_size))
    have hs_w1_0 : w.heap.size < w1.heap.size := by omega
    have hs_w1_1 : w.heap.size + 1 < w1.heap.size := by omega
    have hs_w1_2 : w.heap.size + 1 + 1 < w1.heap.size := by omega
    go_wp2_with fail
    refine (C.out _).mono ?_
    rintro e w4 ⟨u, rfl, hn, hb_w4⟩
    obtain ⟨hc_w4, hf_w4⟩ := bcell hb_w4
    have hz_w4 := hb_w4.size
    try simp at hz_w4
    have hB_w4 : Below w.heap.size w w4 := Below.trans (by go_grown) (hb_w4.mono (by go_size))
    have hs_w4_0 : w.heap.size < w4.heap.size := by omega
    have hs_w4_1 : w.heap.size + 1 < w4.heap.size := by omega
    have hs_w4_2 : w.heap.size + 1 + 1 < w4.heap.size := by omega
    go_wp2_with fail
    refine (SG.out _ _ hn).mono ?_
    rintro e w5 ⟨rfl, hb_w5⟩
    obtain ⟨hc_w5, hf_w5⟩ := bcell hb_w5
    have hz_w5 := hb_w5.size
    try simp at hz_w5
    have hB_w5 : Below w.heap.size w w5 := Below.trans (by go_grown) (hb_w5.mono (by go_size))
    have hs_w5_0 : w.heap.size < w5.heap.size := by omega
    have hs_w5_1 : w.heap.size + 1 < w5.heap.size := by omega
    have hs_w5_2 : w.heap.size + 1 + 1 < w5.heap.size := by omega
    go_wp2_with fail
    refine bodyPost_ret (by simp [results, Try.results33, go_sem, *]; try rfl) rfl ?_
    exact ⟨rfl, by go_grown⟩
  · cases ba
    · obtain ⟨k, hk⟩ : ∃ z, cmpI ((ax - ox) * (by_ - oy)) ((ay - oy) * (bx - ox)) = z := ⟨_, rfl⟩
      rw [hk] at SG ⊢
      clear h1 h2 h3 h4 h5 h6 hk
      go_enter Try.func33, Try.ntmps33
      go_wp2_with fail
      refine (IO.out _).mono ?_
      rintro e w1 ⟨rfl, hb_w1⟩
      obtain ⟨hc_w1, hf_w1⟩ := bcell hb_w1
      have hz_w1 := hb_w1.size
      try simp at hz_w1
      have hB_w1 : Below w.heap.size w w1 := Below.trans (by go_grown) (hb_w1.mono (by go_size))
      have hs_w1_0 : w.heap.size < w1.heap.size := by omega
      have hs_w1_1 : w.heap.size + 1 < w1.heap.size := by omega
      have hs_w1_2 : w.heap.size + 1 + 1 < w1.heap.size := by omega
      go_wp2_with fail
      refine (IA.out _).mono ?_
      rintro e w2 ⟨rfl, hb_w2⟩
      obtain ⟨hc_w2, hf_w2⟩ := bcell hb_w2
      have hz_w2 := hb_w2.size
      try simp at hz_w2
      have hB_w2 : Below w.heap.size w w2 := Below.trans (by go_grown) (hb_w2.mono (by go_size))
      have hs_w2_0 : w.heap.size < w2.heap.size := by omega
      have hs_w2_1 : w.heap.size + 1 < w2.heap.size := by omega
      have hs_w2_2 : w.heap.size + 1 + 1 < w2.heap.size := by omega
      go_wp2_with fail
      refine (C.out _).mono ?_
      rintro e w4 ⟨u, rfl, hn, hb_w4⟩
      obtain ⟨hc_w4, hf_w4⟩ := bcell hb_w4
      have hz_w4 := hb_w4.size
      try simp at hz_w4
      have hB_w4 : Below w.heap.size w w4 := Below.trans (by go_grown) (hb_w4.mono (by go_size))
      have hs_w4_0 : w.heap.size < w4.heap.size := by omega
      have hs_w4_1 : w.heap.size + 1 < w4.heap.size := by omega
      have hs_w4_2 : w.heap.size + 1 + 1 < w4.heap.size := by omega
      go_wp2_with fail
      refine (SG.out _ _ hn).mono ?_
      rintro e w5 ⟨rfl, hb_w5⟩
      obtain ⟨hc_w5, hf_w5⟩ := bcell hb_w5
      have hz_w5 := hb_w5.size
      try simp at hz_w5
      have hB_w5 : Below w.heap.size w w5 := Below.trans (by go_grown) (hb_w5.mono (by go_size))
      have hs_w5_0 : w.heap.size < w5.heap.size := by omega
      have hs_w5_1 : w.heap.size + 1 < w5.heap.size := by omega
      have hs_w5_2 : w.heap.size + 1 + 1 < w5.heap.size := by omega
      go_wp2_with fail
      refine bodyPost_ret (by simp [results, Try.results33, go_sem, *]; try rfl) rfl ?_
      exact ⟨rfl, by go_grown⟩
    · cases bb
      · obtain ⟨k, hk⟩ : ∃ z, cmpI ((ax - ox) * (by_ - oy)) ((ay - oy) * (bx - ox)) = z := ⟨_, rfl⟩
        rw [hk] at SG ⊢
        clear h1 h2 h3 h4 h5 h6 hk
        go_enter Try.func33, Try.ntmps33
        go_wp2_with fail
        refine (IO.out _).mono ?_
        rintro e w1 ⟨rfl, hb_w1⟩
        obtain ⟨hc_w1, hf_w1⟩ := bcell hb_w1
        have hz_w1 := hb_w1.size
        try simp at hz_w1
        have hB_w1 : Below w.heap.size w w1 := Below.trans (by go_grown) (hb_w1.mono (by go_size))
        have hs_w1_0 : w.heap.size < w1.heap.size := by omega
        have hs_w1_1 : w.heap.size + 1 < w1.heap.size := by omega
        have hs_w1_2 : w.heap.size + 1 + 1 < w1.heap.size := by omega
        go_wp2_with fail
        refine (IA.out _).mono ?_
        rintro e w2 ⟨rfl, hb_w2⟩
        obtain ⟨hc_w2, hf_w2⟩ := bcell hb_w2
        have hz_w2 := hb_w2.size
        try simp at hz_w2
        have hB_w2 : Below w.heap.size w w2 := Below.trans (by go_grown) (hb_w2.mono (by go_size))
        have hs_w2_0 : w.heap.size < w2.heap.size := by omega
        have hs_w2_1 : w.heap.size + 1 < w2.heap.size := by omega
        have hs_w2_2 : w.heap.size + 1 + 1 < w2.heap.size := by omega
        go_wp2_with fail
        refine (IB.out _).mono ?_
        rintro e w3 ⟨rfl, hb_w3⟩
        obtain ⟨hc_w3, hf_w3⟩ := bcell hb_w3
        have hz_w3 := hb_w3.size
        try simp at hz_w3
        have hB_w3 : Below w.heap.size w w3 := Below.trans (by go_grown) (hb_w3.mono (by go_size))
        have hs_w3_0 : w.heap.size < w3.heap.size := by omega
        have hs_w3_1 : w.heap.size + 1 < w3.heap.size := by omega
        have hs_w3_2 : w.heap.size + 1 + 1 < w3.heap.size := by omega
        go_wp2_with fail
        refine (C.out _).mono ?_
        rintro e w4 ⟨u, rfl, hn, hb_w4⟩
        obtain ⟨hc_w4, hf_w4⟩ := bcell hb_w4
        have hz_w4 := hb_w4.size
        try simp at hz_w4
        have hB_w4 : Below w.heap.size w w4 := Below.trans (by go_grown) (hb_w4.mono (by go_size))
        have hs_w4_0 : w.heap.size < w4.heap.size := by omega
        have hs_w4_1 : w.heap.size + 1 < w4.heap.size := by omega
        have hs_w4_2 : w.heap.size + 1 + 1 < w4.heap.size := by omega
        go_wp2_with fail
        refine (SG.out _ _ hn).mono ?_
        rintro e w5 ⟨rfl, hb_w5⟩
        obtain ⟨hc_w5, hf_w5⟩ := bcell hb_w5
        have hz_w5 := hb_w5.size
        try simp at hz_w5
        have hB_w5 : Below w.heap.size w w5 := Below.trans (by go_grown) (hb_w5.mono (by go_size))
        have hs_w5_0 : w.heap.size < w5.heap.size := by omega
        have hs_w5_1 : w.heap.size + 1 < w5.heap.size := by omega
        have hs_w5_2 : w.heap.size + 1 + 1 < w5.heap.size := by omega
        go_wp2_with fail
        refine bodyPost_ret (by simp [results, Try.results33, go_sem, *]; try rfl) rfl ?_
        exact ⟨rfl, by go_grown⟩
      · obtain ⟨l1, l2, l3, l4, l5, l6⟩ := HL.out rfl rfl rfl
        have q1 := prod_bd (a := ax - ox) (b := by_ - oy) (by omega) (by omega)
        have q2 := prod_bd (a := ay - oy) (b := bx - ox) (by omega) (by omega)
        obtain ⟨d1, hd1⟩ : ∃ z, ax - ox = z := ⟨_, rfl⟩
        obtain ⟨d2, hd2⟩ : ∃ z, by_ - oy = z := ⟨_, rfl⟩
        obtain ⟨d3, hd3⟩ : ∃ z, ay - oy = z := ⟨_, rfl⟩
        obtain ⟨d4, hd4⟩ : ∃ z, bx - ox = z := ⟨_, rfl⟩
        have e1 : wrap64 (wrap64 ax - wrap64 ox) = d1 := by rw [← hd1]; exact wrap_sub h3 h1
        have e2 : wrap64 (wrap64 by_ - wrap64 oy) = d2 := by rw [← hd2]; exact wrap_sub h6 h2
        have e3 : wrap64 (wrap64 ay - wrap64 oy) = d3 := by rw [← hd3]; exact wrap_sub h4 h2
        have e4 : wrap64 (wrap64 bx - wrap64 ox) = d4 := by rw [← hd4]; exact wrap_sub h5 h1
        have x1 : wrap64 ax = ax := by unfold wrap64; omega
        have x2 : wrap64 ox = ox := by unfold wrap64; omega
        have x3 : wrap64 by_ = by_ := by unfold wrap64; omega
        have x4 : wrap64 oy = oy := by unfold wrap64; omega
        have x5 : wrap64 ay = ay := by unfold wrap64; omega
        have x6 : wrap64 bx = bx := by unfold wrap64; omega
        rw [hd1, hd2] at q1 ⊢
        rw [hd3, hd4] at q2 ⊢
        rw [x1, x2] at e1
        rw [x3, x4] at e2
        rw [x5, x4] at e3
        rw [x6, x2] at e4
        have p1 : wrap64 (d1 * d2) = d1 * d2 := by unfold wrap64; omega
        have p2 : wrap64 (d3 * d4) = d3 * d4 := by unfold wrap64; omega
        clear C SG HL
        go_enter Try.func33, Try.ntmps33
        go_wp2_with fail
        refine (IO.out _).mono ?_
        rintro e w1 ⟨rfl, hb_w1⟩
        obtain ⟨hc_w1, hf_w1⟩ := bcell hb_w1
        have hz_w1 := hb_w1.size
        try simp at hz_w1
        have hB_w1 : Below w.heap.size w w1 := Below.trans (by go_grown) (hb_w1.mono (by go_size))
        have hs_w1_0 : w.heap.size < w1.heap.size := by omega
        have hs_w1_1 : w.heap.size + 1 < w1.heap.size := by omega
        have hs_w1_2 : w.heap.size + 1 + 1 < w1.heap.size := by omega
        go_wp2_with fail
        refine (IA.out _).mono ?_
        rintro e w2 ⟨rfl, hb_w2⟩
        obtain ⟨hc_w2, hf_w2⟩ := bcell hb_w2
        have hz_w2 := hb_w2.size
        try simp at hz_w2
        have hB_w2 : Below w.heap.size w w2 := Below.trans (by go_grown) (hb_w2.mono (by go_size))
        have hs_w2_0 : w.heap.size < w2.heap.size := by omega
        have hs_w2_1 : w.heap.size + 1 < w2.heap.size := by omega
        have hs_w2_2 : w.heap.size + 1 + 1 < w2.heap.size := by omega
        go_wp2_with fail
        refine (IB.out _).mono ?_
        rintro e w3 ⟨rfl, hb_w3⟩
        obtain ⟨hc_w3, hf_w3⟩ := bcell hb_w3
        have hz_w3 := hb_w3.size
        try simp at hz_w3
        have hB_w3 : Below w.heap.size w w3 := Below.trans (by go_grown) (hb_w3.mono (by go_size))
        have hs_w3_0 : w.heap.size < w3.heap.size := by omega
        have hs_w3_1 : w.heap.size + 1 < w3.heap.size := by omega
        have hs_w3_2 : w.heap.size + 1 + 1 < w3.heap.size := by omega
        go_wp2_with fail
        all_goals
          refine bodyPost_ret (by simp [results, Try.results33, go_sem, *]; try rfl) rfl ?_
          exact ⟨ret_i64 (by unfold cmpI; (repeat' split) <;> omega), by go_grown⟩

theorem between04 (a b x : Int) (w : World) :
    Calls Try.prog 56 #[.int .i32 a, .int .i32 b, .int .i32 x] w fun e w' => e = .returned (.bool (btw a b x)) ∧ Below w.heap.size w w' := by
  go_enter Try.func56, Try.ntmps56
  go_wp2_with fail
  all_goals
    go_returns
    exact ⟨ret_bool (by unfold btw; rw [Bool.eq_iff_iff]; simp; try omega), by go_grown⟩

set_option maxHeartbeats 4000000 in
theorem sector04 (ox oy ax ay : Int) (w : World) :
    Calls Try.prog 55 #[(Value.agg #[.int .i32 (ox), .int .i32 (oy)]), (Value.agg #[.int .i32 (ax), .int .i32 (ay)])] w fun e w' => e = .returned (.int .i64 (sct (ax - ox) (ay - oy))) ∧ Below w.heap.size w w' := by
  have h := sct_ways (ax - ox) (ay - oy)
  obtain ⟨k, hk⟩ : ∃ z, sct (ax - ox) (ay - oy) = z := ⟨_, rfl⟩
  rw [hk] at h ⊢
  clear hk
  rcases h with ⟨rfl, _, h1, h2⟩ | ⟨rfl, _, h1, h2⟩ | ⟨rfl, _, h1, h2⟩ | ⟨rfl, _, h1, h2⟩ | ⟨rfl, _, h1, h2⟩ | ⟨rfl, _, h1, h2⟩ | ⟨rfl, _, h1, h2⟩ | ⟨rfl, _, h1, h2⟩ | ⟨rfl, _, h1, h2⟩
  all_goals
    obtain ⟨a1, ha1⟩ : ∃ z, decide (ox < ax) = z := ⟨_, rfl⟩
    obtain ⟨a2, ha2⟩ : ∃ z, decide (ax < ox) = z := ⟨_, rfl⟩
    obtain ⟨a3, ha3⟩ : ∃ z, decide (oy < ay) = z := ⟨_, rfl⟩
    obtain ⟨a4, ha4⟩ : ∃ z, decide (ay < oy) = z := ⟨_, rfl⟩
    cases a1 <;> first | (exfalso; simp at ha1; omega) | skip
    all_goals cases a2 <;> first | (exfalso; simp at ha2; omega) | skip
    all_goals cases a3 <;> first | (exfalso; simp at ha3; omega) | skip
    all_goals cases a4 <;> first | (exfalso; simp at ha4; omega) | skip
    all_goals clear h1 h2
    all_goals
      go_enter Try.func55, Try.ntmps55
      go_wp2_with fail
      go_returns
      exact ⟨rfl, by go_grown⟩

end Go.Proofs.Ytegblpoamjpdhaa
