/-
  Proved: the law PointOrder returns true for any four points. No condition.
-/
import Derived.Test.YtegblpoamjpdhaaTurnD
import Derived.Test.YtegblpoamjpdhaaTail
import Derived.Lib.SmallJoins
namespace Go.Proofs.Ytegblpoamjpdhaa
open Go.ChangeShapes Go.WideShapes Go.ChangeAt Go.RowKit

theorem arn_bd (ux uy vx vy : Int) : -1 ≤ arn ux uy vx vy ∧ arn ux uy vx vy ≤ 1 := by
  have h1 := cmpI_bd (ux * vy) (uy * vx)
  have h2 := cmpI_bd (hf ux uy) (hf vx vy)
  unfold arn
  split <;> omega
theorem right_turn (ox oy ax ay : Int) (h1 : I32 ox) (h2 : I32 oy) (h3 : I32 ax) (h4 : I32 ay) (hM : ¬ ox = 2147483647) (w : World) :
    Calls Try.prog 24 #[(Value.agg #[.int .i32 (ox), .int .i32 (oy)]), (Value.agg #[.int .i32 (wrap32 (ox + 1)), .int .i32 (oy)]), (Value.agg #[.int .i32 (ax), .int .i32 (ay)])] w fun e w' => e = .returned (.int .i64 (arn 1 0 (ax - ox) (ay - oy))) ∧ Below w.heap.size w w' := by
  have e : wrap32 (ox + 1) = ox + 1 := by unfold I32 at h1; unfold wrap32; omega
  have h := around_turn ox oy (ox + 1) oy ax ay h1 h2 (by unfold I32 at *; omega) h2 h3 h4 w
  rw [show ox + 1 - ox = 1 by omega, show oy - oy = 0 by omega] at h
  rw [e]
  exact h
theorem right_zero {ux uy : Int} (h : 0 < ux) (hy : uy = 0) : arn 1 0 ux uy = 0 := (arn_right (by omega)).2.2 ⟨hy, h⟩
theorem right_less {ux uy : Int} (h : ¬ (ux = 0 ∧ uy = 0)) (hy : ¬ (uy = 0 ∧ 0 < ux)) : arn 1 0 ux uy = -1 := by
  have h1 := arn_right h
  have h2 := arn_bd 1 0 ux uy
  have h3 : ¬ arn 1 0 ux uy = 0 := fun e => hy (h1.2.1 e)
  omega

set_option maxHeartbeats 2000000 in
set_option maxRecDepth 100000 in
theorem pointOrder_core (ox oy ax ay bx by_ px py : Int) (h1 : I32 ox) (h2 : I32 oy) (h3 : I32 ax) (h4 : I32 ay) (h5 : I32 bx) (h6 : I32 by_) (h7 : I32 px) (h8 : I32 py) (w : World) :
    Calls Try.prog 6 #[.agg #[.int .i32 ox, .int .i32 oy, .int .i32 ax, .int .i32 ay, .int .i32 bx, .int .i32 by_, .int .i32 px, .int .i32 py]] w fun e w' => e = .returned (.bool true) ∧ Below w.heap.size w w' := by
  have c1 := fun W => around_turn ox oy ax ay bx by_ h1 h2 h3 h4 h5 h6 W
  have c2 := fun W => around_turn ox oy bx by_ px py h1 h2 h5 h6 h7 h8 W
  have c3 := fun W => around_turn ox oy bx by_ ax ay h1 h2 h5 h6 h3 h4 W
  have c4 := fun W => around_turn ox oy ax ay ax ay h1 h2 h3 h4 h3 h4 W
  have c5 := fun W => around_turn ox oy ax ay px py h1 h2 h3 h4 h7 h8 W
  rw [arn_back] at c3
  rw [arn_self] at c4
  obtain ⟨ab, hab⟩ : ∃ z, arn (ax - ox) (ay - oy) (bx - ox) (by_ - oy) = z := ⟨_, rfl⟩
  obtain ⟨bp, hbp⟩ : ∃ z, arn (bx - ox) (by_ - oy) (px - ox) (py - oy) = z := ⟨_, rfl⟩
  obtain ⟨ap, hap⟩ : ∃ z, arn (ax - ox) (ay - oy) (px - ox) (py - oy) = z := ⟨_, rfl⟩
  have bab := arn_bd (ax - ox) (ay - oy) (bx - ox) (by_ - oy)
  have htr := @arn_trans (ax - ox) (ay - oy) (bx - ox) (by_ - oy) (px - ox) (py - oy)
  rw [hab, hbp, hap] at htr
  rw [hab] at bab
  rw [hab] at c1 c3
  rw [hbp] at c2
  rw [hap] at c5
  have C1 := Lib.hid c1
  have C2 := Lib.hid c2
  have C3 := Lib.hid c3
  have C4 := Lib.hid c4
  have C5 := Lib.hid c5
  clear c1 c2 c3 c4 c5 hab hbp hap
  have HT := Lib.hid htr
  clear htr
  have HS := Lib.hid (fun hM W => right_turn ox oy ax ay h1 h2 h3 h4 hM W)
  clear h1 h2 h3 h4 h5 h6 h7 h8
  have HC : (ab ≤ 0 ∧ bp ≤ 0 ∧ Hid (ap ≤ 0)) ∨ (ab ≤ 0 ∧ ¬ bp ≤ 0) ∨ ¬ ab ≤ 0 := by
    rcases Decidable.em (ab ≤ 0) with ha | ha
    · rcases Decidable.em (bp ≤ 0) with hb | hb
      · exact .inl ⟨ha, hb, Lib.hid (HT.out ha hb)⟩
      · exact .inr (.inl ⟨ha, hb⟩)
    · exact .inr (.inr ha)
  have hng : wrap64 (-ab) = -ab := by unfold wrap64; omega
  clear bab HT
  rcases HC with ⟨ha, hb, HP⟩ | ⟨ha, hb⟩ | ha
  · go_enter Try.func6, Try.ntmps6
    go_wp2_with fail
    refine (C1.out _).mono ?_
    rintro e w1 ⟨rfl, hb_w1⟩
    obtain ⟨hc_w1, hf_w1⟩ := bcell hb_w1
    have hz_w1 := hb_w1.size
    try simp at hz_w1
    have hB_w1 : Below w.heap.size w w1 := Below.trans (by go_grown) (hb_w1.mono (by go_size))
    have hs_w1_0 : w.heap.size < w1.heap.size := by omega
    go_wp2_with fail
    refine (C2.out _).mono ?_
    rintro e w2 ⟨rfl, hb_w2⟩
    obtain ⟨hc_w2, hf_w2⟩ := bcell hb_w2
    have hz_w2 := hb_w2.size
    try simp at hz_w2
    have hB_w2 : Below w.heap.size w w2 := Below.trans (by go_grown) (hb_w2.mono (by go_size))
    have hs_w2_0 : w.heap.size < w2.heap.size := by omega
    go_wp2_with fail
    refine (C3.out _).mono ?_
    rintro e w3 ⟨rfl, hb_w3⟩
    obtain ⟨hc_w3, hf_w3⟩ := bcell hb_w3
    have hz_w3 := hb_w3.size
    try simp at hz_w3
    have hB_w3 : Below w.heap.size w w3 := Below.trans (by go_grown) (hb_w3.mono (by go_size))
    have hs_w3_0 : w.heap.size < w3.heap.size := by omega
    go_wp2_with fail
    refine (C4.out _).mono ?_
    rintro e w4 ⟨rfl, hb_w4⟩
    obtain ⟨hc_w4, hf_w4⟩ := bcell hb_w4
    have hz_w4 := hb_w4.size
    try simp at hz_w4
    have hB_w4 : Below w.heap.size w w4 := Below.trans (by go_grown) (hb_w4.mono (by go_size))
    have hs_w4_0 : w.heap.size < w4.heap.size := by omega
    go_wp2_with fail
    refine (C5.out _).mono ?_
    rintro e w5 ⟨rfl, hb_w5⟩
    obtain ⟨hc_w5, hf_w5⟩ := bcell hb_w5
    have hz_w5 := hb_w5.size
    try simp at hz_w5
    have hB_w5 : Below w.heap.size w w5 := Below.trans (by go_grown) (hb_w5.mono (by go_size))
    have hs_w5_0 : w.heap.size < w5.heap.size := by omega
    have hp := HP.out
    go_wp2_with fail
    · refine bodyPost_ret (by simp [results, Try.results6, go_sem, *]; try rfl) rfl ?_
      exact ⟨rfl, by go_grown⟩
    · refine bodyPost_ret (by simp [results, Try.results6, go_sem, *]; try rfl) rfl ?_
      exact ⟨rfl, by go_grown⟩
    · obtain rfl : ax = ox := by assumption
      have hy : ¬ ay = oy := by assumption
      have hk : (ay == oy) = false := by simp; exact hy
      have c6 := HS.out (by assumption)
      rw [right_less (by omega) (by omega)] at c6
      have C6 := Lib.hid c6
      clear c6 HS
      refine wp_gen (fun Qv0 hW0 => ?_)
      have hB_Qv0 : Below w.heap.size w Qv0 := by rw [hW0]; go_grown
      have hs_Qv0_0 : w.heap.size < Qv0.heap.size := by rw [hW0]; first | omega | (simp; done) | (simp; omega)
      have hs_Qv0_1 : w5.heap.size < Qv0.heap.size := by rw [hW0]; first | omega | (simp; done) | (simp; omega)
      have hg_Qv0_0 : Qv0.cell? ⟨w.heap.size, 0, none⟩ = some (.int .i32 ax) := by rw [hW0]; first | (go_simp; done) | (simp [*]; done)
      have hg_Qv0_1 : Qv0.cell? ⟨w.heap.size, 1, none⟩ = some (.int .i32 oy) := by rw [hW0]; first | (go_simp; done) | (simp [*]; done)
      have hg_Qv0_2 : Qv0.cell? ⟨w.heap.size, 2, none⟩ = some (.int .i32 ax) := by rw [hW0]; first | (go_simp; done) | (simp [*]; done)
      have hg_Qv0_3 : Qv0.cell? ⟨w.heap.size, 3, none⟩ = some (.int .i32 ay) := by rw [hW0]; first | (go_simp; done) | (simp [*]; done)
      have hg_Qv0_4 : Qv0.cell? ⟨w5.heap.size, 0, none⟩ = some (.int .i32 (wrap32 (ax + 1))) := by rw [hW0]; first | (go_simp; done) | (simp [*]; done)
      have hg_Qv0_5 : Qv0.cell? ⟨w5.heap.size, 1, none⟩ = some (.int .i32 oy) := by rw [hW0]; first | (go_simp; done) | (simp [*]; done)
      clear hW0
      have hq_Qv0 := @wd_cell Qv0
      refine wp_region_wd (by kernel_rfl) (by kernel_rfl) ?_
      repeat (go_big_quiet_step ((first | (go_at_call 24; with_reducible exact quiet_wd (C6.out _)))))
      refine wpQuiet_nil ?_
      rintro v0 ⟨⟨wx, hb_v0⟩, hwx⟩
      obtain rfl : v0 = wx := hwx
      clear hq_Qv0
      obtain ⟨hc_v0, hf_v0⟩ := bcell hb_v0
      have hB_v0 : Below w.heap.size w v0 := Below.trans (by go_grown) (hb_v0.mono (by go_size))
      have hs_v0_0 : w.heap.size < v0.heap.size := Nat.lt_of_lt_of_le hs_Qv0_0 hb_v0.size
      have hs_v0_1 : w5.heap.size < v0.heap.size := Nat.lt_of_lt_of_le hs_Qv0_1 hb_v0.size
      go_wp2_with fail
      refine bodyPost_ret (by simp [results, Try.results6, go_sem, *]; try rfl) rfl ?_
      exact ⟨rfl, by go_grown⟩
    · have hx : ¬ ax = ox := by assumption
      rcases Decidable.em (ay = oy) with hy | hy
      · subst hy
        rcases Decidable.em (ox < ax) with hg | hg
        · have c6 := HS.out (by assumption)
          rw [right_zero (by omega) (by omega)] at c6
          have C6 := Lib.hid c6
          clear c6 HS
          refine wp_gen (fun Qv1 hW0 => ?_)
          have hB_Qv1 : Below w.heap.size w Qv1 := by rw [hW0]; go_grown
          have hs_Qv1_0 : w.heap.size < Qv1.heap.size := by rw [hW0]; first | omega | (simp; done) | (simp; omega)
          have hs_Qv1_1 : w5.heap.size < Qv1.heap.size := by rw [hW0]; first | omega | (simp; done) | (simp; omega)
          have hg_Qv1_0 : Qv1.cell? ⟨w.heap.size, 0, none⟩ = some (.int .i32 ox) := by rw [hW0]; first | (go_simp; done) | (simp [*]; done)
          have hg_Qv1_1 : Qv1.cell? ⟨w.heap.size, 1, none⟩ = some (.int .i32 ay) := by rw [hW0]; first | (go_simp; done) | (simp [*]; done)
          have hg_Qv1_2 : Qv1.cell? ⟨w.heap.size, 2, none⟩ = some (.int .i32 ax) := by rw [hW0]; first | (go_simp; done) | (simp [*]; done)
          have hg_Qv1_3 : Qv1.cell? ⟨w.heap.size, 3, none⟩ = some (.int .i32 ay) := by rw [hW0]; first | (go_simp; done) | (simp [*]; done)
          have hg_Qv1_4 : Qv1.cell? ⟨w5.heap.size, 0, none⟩ = some (.int .i32 (wrap32 (ox + 1))) := by rw [hW0]; first | (go_simp; done) | (simp [*]; done)
          have hg_Qv1_5 : Qv1.cell? ⟨w5.heap.size, 1, none⟩ = some (.int .i32 ay) := by rw [hW0]; first | (go_simp; done) | (simp [*]; done)
          clear hW0
          have hq_Qv1 := @wd_cell Qv1
          refine wp_region_wd (by kernel_rfl) (by kernel_rfl) ?_
          repeat (go_big_quiet_step ((first | (go_at_call 24; with_reducible exact quiet_wd (C6.out _)))))
          refine wpQuiet_nil ?_
          rintro v1 ⟨⟨wx, hb_v1⟩, hwx⟩
          obtain rfl : v1 = wx := hwx
          clear hq_Qv1
          obtain ⟨hc_v1, hf_v1⟩ := bcell hb_v1
          have hB_v1 : Below w.heap.size w v1 := Below.trans (by go_grown) (hb_v1.mono (by go_size))
          have hs_v1_0 : w.heap.size < v1.heap.size := Nat.lt_of_lt_of_le hs_Qv1_0 hb_v1.size
          have hs_v1_1 : w5.heap.size < v1.heap.size := Nat.lt_of_lt_of_le hs_Qv1_1 hb_v1.size
          go_wp2_with fail
          refine bodyPost_ret (by simp [results, Try.results6, go_sem, *]; try rfl) rfl ?_
          exact ⟨rfl, by go_grown⟩
        · have c6 := HS.out (by assumption)
          rw [right_less (by omega) (by omega)] at c6
          have C6 := Lib.hid c6
          clear c6 HS
          refine wp_gen (fun Qv2 hW0 => ?_)
          have hB_Qv2 : Below w.heap.size w Qv2 := by rw [hW0]; go_grown
          have hs_Qv2_0 : w.heap.size < Qv2.heap.size := by rw [hW0]; first | omega | (simp; done) | (simp; omega)
          have hs_Qv2_1 : w5.heap.size < Qv2.heap.size := by rw [hW0]; first | omega | (simp; done) | (simp; omega)
          have hg_Qv2_0 : Qv2.cell? ⟨w.heap.size, 0, none⟩ = some (.int .i32 ox) := by rw [hW0]; first | (go_simp; done) | (simp [*]; done)
          have hg_Qv2_1 : Qv2.cell? ⟨w.heap.size, 1, none⟩ = some (.int .i32 ay) := by rw [hW0]; first | (go_simp; done) | (simp [*]; done)
          have hg_Qv2_2 : Qv2.cell? ⟨w.heap.size, 2, none⟩ = some (.int .i32 ax) := by rw [hW0]; first | (go_simp; done) | (simp [*]; done)
          have hg_Qv2_3 : Qv2.cell? ⟨w.heap.size, 3, none⟩ = some (.int .i32 ay) := by rw [hW0]; first | (go_simp; done) | (simp [*]; done)
          have hg_Qv2_4 : Qv2.cell? ⟨w5.heap.size, 0, none⟩ = some (.int .i32 (wrap32 (ox + 1))) := by rw [hW0]; first | (go_simp; done) | (simp [*]; done)
          have hg_Qv2_5 : Qv2.cell? ⟨w5.heap.size, 1, none⟩ = some (.int .i32 ay) := by rw [hW0]; first | (go_simp; done) | (simp [*]; done)
          clear hW0
          have hq_Qv2 := @wd_cell Qv2
          refine wp_region_wd (by kernel_rfl) (by kernel_rfl) ?_
          repeat (go_big_quiet_step ((first | (go_at_call 24; with_reducible exact quiet_wd (C6.out _)))))
          refine wpQuiet_nil ?_
          rintro v2 ⟨⟨wx, hb_v2⟩, hwx⟩
          obtain rfl : v2 = wx := hwx
          clear hq_Qv2
          obtain ⟨hc_v2, hf_v2⟩ := bcell hb_v2
          have hB_v2 : Below w.heap.size w v2 := Below.trans (by go_grown) (hb_v2.mono (by go_size))
          have hs_v2_0 : w.heap.size < v2.heap.size := Nat.lt_of_lt_of_le hs_Qv2_0 hb_v2.size
          have hs_v2_1 : w5.heap.size < v2.heap.size := Nat.lt_of_lt_of_le hs_Qv2_1 hb_v2.size
          go_wp2_with fail
          refine bodyPost_ret (by simp [results, Try.results6, go_sem, *]; try rfl) rfl ?_
          exact ⟨rfl, by go_grown⟩
      · have hk : (ay == oy) = false := by simp; exact hy
        have c6 := HS.out (by assumption)
        rw [right_less (by omega) (by omega)] at c6
        have C6 := Lib.hid c6
        clear c6 HS
        refine wp_gen (fun Qv3 hW0 => ?_)
        have hB_Qv3 : Below w.heap.size w Qv3 := by rw [hW0]; go_grown
        have hs_Qv3_0 : w.heap.size < Qv3.heap.size := by rw [hW0]; first | omega | (simp; done) | (simp; omega)
        have hs_Qv3_1 : w5.heap.size < Qv3.heap.size := by rw [hW0]; first | omega | (simp; done) | (simp; omega)
        have hg_Qv3_0 : Qv3.cell? ⟨w.heap.size, 0, none⟩ = some (.int .i32 ox) := by rw [hW0]; first | (go_simp; done) | (simp [*]; done)
        have hg_Qv3_1 : Qv3.cell? ⟨w.heap.size, 1, none⟩ = some (.int .i32 oy) := by rw [hW0]; first | (go_simp; done) | (simp [*]; done)
        have hg_Qv3_2 : Qv3.cell? ⟨w.heap.size, 2, none⟩ = some (.int .i32 ax) := by rw [hW0]; first | (go_simp; done) | (simp [*]; done)
        have hg_Qv3_3 : Qv3.cell? ⟨w.heap.size, 3, none⟩ = some (.int .i32 ay) := by rw [hW0]; first | (go_simp; done) | (simp [*]; done)
        have hg_Qv3_4 : Qv3.cell? ⟨w5.heap.size, 0, none⟩ = some (.int .i32 (wrap32 (ox + 1))) := by rw [hW0]; first | (go_simp; done) | (simp [*]; done)
        have hg_Qv3_5 : Qv3.cell? ⟨w5.heap.size, 1, none⟩ = some (.int .i32 oy) := by rw [hW0]; first | (go_simp; done) | (simp [*]; done)
        clear hW0
        have hq_Qv3 := @wd_cell Qv3
        refine wp_region_wd (by kernel_rfl) (by kernel_rfl) ?_
        repeat (go_big_quiet_step ((first | (go_at_call 24; with_reducible exact quiet_wd (C6.out _)))))
        refine wpQuiet_nil ?_
        rintro v3 ⟨⟨wx, hb_v3⟩, hwx⟩
        obtain rfl : v3 = wx := hwx
        clear hq_Qv3
        obtain ⟨hc_v3, hf_v3⟩ := bcell hb_v3
        have hB_v3 : Below w.heap.size w v3 := Below.trans (by go_grown) (hb_v3.mono (by go_size))
        have hs_v3_0 : w.heap.size < v3.heap.size := Nat.lt_of_lt_of_le hs_Qv3_0 hb_v3.size
        have hs_v3_1 : w5.heap.size < v3.heap.size := Nat.lt_of_lt_of_le hs_Qv3_1 hb_v3.size
        go_wp2_with fail
        refine bodyPost_ret (by simp [results, Try.results6, go_sem, *]; try rfl) rfl ?_
        exact ⟨rfl, by go_grown⟩
  · go_enter Try.func6, Try.ntmps6
    go_wp2_with fail
    refine (C1.out _).mono ?_
    rintro e w1 ⟨rfl, hb_w1⟩
    obtain ⟨hc_w1, hf_w1⟩ := bcell hb_w1
    have hz_w1 := hb_w1.size
    try simp at hz_w1
    have hB_w1 : Below w.heap.size w w1 := Below.trans (by go_grown) (hb_w1.mono (by go_size))
    have hs_w1_0 : w.heap.size < w1.heap.size := by omega
    go_wp2_with fail
    refine (C2.out _).mono ?_
    rintro e w2 ⟨rfl, hb_w2⟩
    obtain ⟨hc_w2, hf_w2⟩ := bcell hb_w2
    have hz_w2 := hb_w2.size
    try simp at hz_w2
    have hB_w2 : Below w.heap.size w w2 := Below.trans (by go_grown) (hb_w2.mono (by go_size))
    have hs_w2_0 : w.heap.size < w2.heap.size := by omega
    go_wp2_with fail
    refine (C3.out _).mono ?_
    rintro e w3 ⟨rfl, hb_w3⟩
    obtain ⟨hc_w3, hf_w3⟩ := bcell hb_w3
    have hz_w3 := hb_w3.size
    try simp at hz_w3
    have hB_w3 : Below w.heap.size w w3 := Below.trans (by go_grown) (hb_w3.mono (by go_size))
    have hs_w3_0 : w.heap.size < w3.heap.size := by omega
    go_wp2_with fail
    refine (C4.out _).mono ?_
    rintro e w4 ⟨rfl, hb_w4⟩
    obtain ⟨hc_w4, hf_w4⟩ := bcell hb_w4
    have hz_w4 := hb_w4.size
    try simp at hz_w4
    have hB_w4 : Below w.heap.size w w4 := Below.trans (by go_grown) (hb_w4.mono (by go_size))
    have hs_w4_0 : w.heap.size < w4.heap.size := by omega
    go_wp2_with fail
    · refine bodyPost_ret (by simp [results, Try.results6, go_sem, *]; try rfl) rfl ?_
      exact ⟨rfl, by go_grown⟩
    · refine bodyPost_ret (by simp [results, Try.results6, go_sem, *]; try rfl) rfl ?_
      exact ⟨rfl, by go_grown⟩
    · obtain rfl : ax = ox := by assumption
      have hy : ¬ ay = oy := by assumption
      have hk : (ay == oy) = false := by simp; exact hy
      have c6 := HS.out (by assumption)
      rw [right_less (by omega) (by omega)] at c6
      have C6 := Lib.hid c6
      clear c6 HS
      refine wp_gen (fun Qv0 hW0 => ?_)
      have hB_Qv0 : Below w.heap.size w Qv0 := by rw [hW0]; go_grown
      have hs_Qv0_0 : w.heap.size < Qv0.heap.size := by rw [hW0]; first | omega | (simp; done) | (simp; omega)
      have hs_Qv0_1 : w4.heap.size < Qv0.heap.size := by rw [hW0]; first | omega | (simp; done) | (simp; omega)
      have hg_Qv0_0 : Qv0.cell? ⟨w.heap.size, 0, none⟩ = some (.int .i32 ax) := by rw [hW0]; first | (go_simp; done) | (simp [*]; done)
      have hg_Qv0_1 : Qv0.cell? ⟨w.heap.size, 1, none⟩ = some (.int .i32 oy) := by rw [hW0]; first | (go_simp; done) | (simp [*]; done)
      have hg_Qv0_2 : Qv0.cell? ⟨w.heap.size, 2, none⟩ = some (.int .i32 ax) := by rw [hW0]; first | (go_simp; done) | (simp [*]; done)
      have hg_Qv0_3 : Qv0.cell? ⟨w.heap.size, 3, none⟩ = some (.int .i32 ay) := by rw [hW0]; first | (go_simp; done) | (simp [*]; done)
      have hg_Qv0_4 : Qv0.cell? ⟨w4.heap.size, 0, none⟩ = some (.int .i32 (wrap32 (ax + 1))) := by rw [hW0]; first | (go_simp; done) | (simp [*]; done)
      have hg_Qv0_5 : Qv0.cell? ⟨w4.heap.size, 1, none⟩ = some (.int .i32 oy) := by rw [hW0]; first | (go_simp; done) | (simp [*]; done)
      clear hW0
      have hq_Qv0 := @wd_cell Qv0
      refine wp_region_wd (by kernel_rfl) (by kernel_rfl) ?_
      repeat (go_big_quiet_step ((first | (go_at_call 24; with_reducible exact quiet_wd (C6.out _)))))
      refine wpQuiet_nil ?_
      rintro v0 ⟨⟨wx, hb_v0⟩, hwx⟩
      obtain rfl : v0 = wx := hwx
      clear hq_Qv0
      obtain ⟨hc_v0, hf_v0⟩ := bcell hb_v0
      have hB_v0 : Below w.heap.size w v0 := Below.trans (by go_grown) (hb_v0.mono (by go_size))
      have hs_v0_0 : w.heap.size < v0.heap.size := Nat.lt_of_lt_of_le hs_Qv0_0 hb_v0.size
      have hs_v0_1 : w4.heap.size < v0.heap.size := Nat.lt_of_lt_of_le hs_Qv0_1 hb_v0.size
      go_wp2_with fail
      refine bodyPost_ret (by simp [results, Try.results6, go_sem, *]; try rfl) rfl ?_
      exact ⟨rfl, by go_grown⟩
    · have hx : ¬ ax = ox := by assumption
      rcases Decidable.em (ay = oy) with hy | hy
      · subst hy
        rcases Decidable.em (ox < ax) with hg | hg
        · have c6 := HS.out (by assumption)
          rw [right_zero (by omega) (by omega)] at c6
          have C6 := Lib.hid c6
          clear c6 HS
          refine wp_gen (fun Qv1 hW0 => ?_)
          have hB_Qv1 : Below w.heap.size w Qv1 := by rw [hW0]; go_grown
          have hs_Qv1_0 : w.heap.size < Qv1.heap.size := by rw [hW0]; first | omega | (simp; done) | (simp; omega)
          have hs_Qv1_1 : w4.heap.size < Qv1.heap.size := by rw [hW0]; first | omega | (simp; done) | (simp; omega)
          have hg_Qv1_0 : Qv1.cell? ⟨w.heap.size, 0, none⟩ = some (.int .i32 ox) := by rw [hW0]; first | (go_simp; done) | (simp [*]; done)
          have hg_Qv1_1 : Qv1.cell? ⟨w.heap.size, 1, none⟩ = some (.int .i32 ay) := by rw [hW0]; first | (go_simp; done) | (simp [*]; done)
          have hg_Qv1_2 : Qv1.cell? ⟨w.heap.size, 2, none⟩ = some (.int .i32 ax) := by rw [hW0]; first | (go_simp; done) | (simp [*]; done)
          have hg_Qv1_3 : Qv1.cell? ⟨w.heap.size, 3, none⟩ = some (.int .i32 ay) := by rw [hW0]; first | (go_simp; done) | (simp [*]; done)
          have hg_Qv1_4 : Qv1.cell? ⟨w4.heap.size, 0, none⟩ = some (.int .i32 (wrap32 (ox + 1))) := by rw [hW0]; first | (go_simp; done) | (simp [*]; done)
          have hg_Qv1_5 : Qv1.cell? ⟨w4.heap.size, 1, none⟩ = some (.int .i32 ay) := by rw [hW0]; first | (go_simp; done) | (simp [*]; done)
          clear hW0
          have hq_Qv1 := @wd_cell Qv1
          refine wp_region_wd (by kernel_rfl) (by kernel_rfl) ?_
          repeat (go_big_quiet_step ((first | (go_at_call 24; with_reducible exact quiet_wd (C6.out _)))))
          refine wpQuiet_nil ?_
          rintro v1 ⟨⟨wx, hb_v1⟩, hwx⟩
          obtain rfl : v1 = wx := hwx
          clear hq_Qv1
          obtain ⟨hc_v1, hf_v1⟩ := bcell hb_v1
          have hB_v1 : Below w.heap.size w v1 := Below.trans (by go_grown) (hb_v1.mono (by go_size))
          have hs_v1_0 : w.heap.size < v1.heap.size := Nat.lt_of_lt_of_le hs_Qv1_0 hb_v1.size
          have hs_v1_1 : w4.heap.size < v1.heap.size := Nat.lt_of_lt_of_le hs_Qv1_1 hb_v1.size
          go_wp2_with fail
          refine bodyPost_ret (by simp [results, Try.results6, go_sem, *]; try rfl) rfl ?_
          exact ⟨rfl, by go_grown⟩
        · have c6 := HS.out (by assumption)
          rw [right_less (by omega) (by omega)] at c6
          have C6 := Lib.hid c6
          clear c6 HS
          refine wp_gen (fun Qv2 hW0 => ?_)
          have hB_Qv2 : Below w.heap.size w Qv2 := by rw [hW0]; go_grown
          have hs_Qv2_0 : w.heap.size < Qv2.heap.size := by rw [hW0]; first | omega | (simp; done) | (simp; omega)
          have hs_Qv2_1 : w4.heap.size < Qv2.heap.size := by rw [hW0]; first | omega | (simp; done) | (simp; omega)
          have hg_Qv2_0 : Qv2.cell? ⟨w.heap.size, 0, none⟩ = some (.int .i32 ox) := by rw [hW0]; first | (go_simp; done) | (simp [*]; done)
          have hg_Qv2_1 : Qv2.cell? ⟨w.heap.size, 1, none⟩ = some (.int .i32 ay) := by rw [hW0]; first | (go_simp; done) | (simp [*]; done)
          have hg_Qv2_2 : Qv2.cell? ⟨w.heap.size, 2, none⟩ = some (.int .i32 ax) := by rw [hW0]; first | (go_simp; done) | (simp [*]; done)
          have hg_Qv2_3 : Qv2.cell? ⟨w.heap.size, 3, none⟩ = some (.int .i32 ay) := by rw [hW0]; first | (go_simp; done) | (simp [*]; done)
          have hg_Qv2_4 : Qv2.cell? ⟨w4.heap.size, 0, none⟩ = some (.int .i32 (wrap32 (ox + 1))) := by rw [hW0]; first | (go_simp; done) | (simp [*]; done)
          have hg_Qv2_5 : Qv2.cell? ⟨w4.heap.size, 1, none⟩ = some (.int .i32 ay) := by rw [hW0]; first | (go_simp; done) | (simp [*]; done)
          clear hW0
          have hq_Qv2 := @wd_cell Qv2
          refine wp_region_wd (by kernel_rfl) (by kernel_rfl) ?_
          repeat (go_big_quiet_step ((first | (go_at_call 24; with_reducible exact quiet_wd (C6.out _)))))
          refine wpQuiet_nil ?_
          rintro v2 ⟨⟨wx, hb_v2⟩, hwx⟩
          obtain rfl : v2 = wx := hwx
          clear hq_Qv2
          obtain ⟨hc_v2, hf_v2⟩ := bcell hb_v2
          have hB_v2 : Below w.heap.size w v2 := Below.trans (by go_grown) (hb_v2.mono (by go_size))
          have hs_v2_0 : w.heap.size < v2.heap.size := Nat.lt_of_lt_of_le hs_Qv2_0 hb_v2.size
          have hs_v2_1 : w4.heap.size < v2.heap.size := Nat.lt_of_lt_of_le hs_Qv2_1 hb_v2.size
          go_wp2_with fail
          refine bodyPost_ret (by simp [results, Try.results6, go_sem, *]; try rfl) rfl ?_
          exact ⟨rfl, by go_grown⟩
      · have hk : (ay == oy) = false := by simp; exact hy
        have c6 := HS.out (by assumption)
        rw [right_less (by omega) (by omega)] at c6
        have C6 := Lib.hid c6
        clear c6 HS
        refine wp_gen (fun Qv3 hW0 => ?_)
        have hB_Qv3 : Below w.heap.size w Qv3 := by rw [hW0]; go_grown
        have hs_Qv3_0 : w.heap.size < Qv3.heap.size := by rw [hW0]; first | omega | (simp; done) | (simp; omega)
        have hs_Qv3_1 : w4.heap.size < Qv3.heap.size := by rw [hW0]; first | omega | (simp; done) | (simp; omega)
        have hg_Qv3_0 : Qv3.cell? ⟨w.heap.size, 0, none⟩ = some (.int .i32 ox) := by rw [hW0]; first | (go_simp; done) | (simp [*]; done)
        have hg_Qv3_1 : Qv3.cell? ⟨w.heap.size, 1, none⟩ = some (.int .i32 oy) := by rw [hW0]; first | (go_simp; done) | (simp [*]; done)
        have hg_Qv3_2 : Qv3.cell? ⟨w.heap.size, 2, none⟩ = some (.int .i32 ax) := by rw [hW0]; first | (go_simp; done) | (simp [*]; done)
        have hg_Qv3_3 : Qv3.cell? ⟨w.heap.size, 3, none⟩ = some (.int .i32 ay) := by rw [hW0]; first | (go_simp; done) | (simp [*]; done)
        have hg_Qv3_4 : Qv3.cell? ⟨w4.heap.size, 0, none⟩ = some (.int .i32 (wrap32 (ox + 1))) := by rw [hW0]; first | (go_simp; done) | (simp [*]; done)
        have hg_Qv3_5 : Qv3.cell? ⟨w4.heap.size, 1, none⟩ = some (.int .i32 oy) := by rw [hW0]; first | (go_simp; done) | (simp [*]; done)
        clear hW0
        have hq_Qv3 := @wd_cell Qv3
        refine wp_region_wd (by kernel_rfl) (by kernel_rfl) ?_
        repeat (go_big_quiet_step ((first | (go_at_call 24; with_reducible exact quiet_wd (C6.out _)))))
        refine wpQuiet_nil ?_
        rintro v3 ⟨⟨wx, hb_v3⟩, hwx⟩
        obtain rfl : v3 = wx := hwx
        clear hq_Qv3
        obtain ⟨hc_v3, hf_v3⟩ := bcell hb_v3
        have hB_v3 : Below w.heap.size w v3 := Below.trans (by go_grown) (hb_v3.mono (by go_size))
        have hs_v3_0 : w.heap.size < v3.heap.size := Nat.lt_of_lt_of_le hs_Qv3_0 hb_v3.size
        have hs_v3_1 : w4.heap.size < v3.heap.size := Nat.lt_of_lt_of_le hs_Qv3_1 hb_v3.size
        go_wp2_with fail
        refine bodyPost_ret (by simp [results, Try.results6, go_sem, *]; try rfl) rfl ?_
        exact ⟨rfl, by go_grown⟩
  · go_enter Try.func6, Try.ntmps6
    go_wp2_with fail
    refine (C1.out _).mono ?_
    rintro e w1 ⟨rfl, hb_w1⟩
    obtain ⟨hc_w1, hf_w1⟩ := bcell hb_w1
    have hz_w1 := hb_w1.size
    try simp at hz_w1
    have hB_w1 : Below w.heap.size w w1 := Below.trans (by go_grown) (hb_w1.mono (by go_size))
    have hs_w1_0 : w.heap.size < w1.heap.size := by omega
    go_wp2_with fail
    refine (C2.out _).mono ?_
    rintro e w2 ⟨rfl, hb_w2⟩
    obtain ⟨hc_w2, hf_w2⟩ := bcell hb_w2
    have hz_w2 := hb_w2.size
    try simp at hz_w2
    have hB_w2 : Below w.heap.size w w2 := Below.trans (by go_grown) (hb_w2.mono (by go_size))
    have hs_w2_0 : w.heap.size < w2.heap.size := by omega
    go_wp2_with fail
    refine (C3.out _).mono ?_
    rintro e w3 ⟨rfl, hb_w3⟩
    obtain ⟨hc_w3, hf_w3⟩ := bcell hb_w3
    have hz_w3 := hb_w3.size
    try simp at hz_w3
    have hB_w3 : Below w.heap.size w w3 := Below.trans (by go_grown) (hb_w3.mono (by go_size))
    have hs_w3_0 : w.heap.size < w3.heap.size := by omega
    go_wp2_with fail
    refine (C4.out _).mono ?_
    rintro e w4 ⟨rfl, hb_w4⟩
    obtain ⟨hc_w4, hf_w4⟩ := bcell hb_w4
    have hz_w4 := hb_w4.size
    try simp at hz_w4
    have hB_w4 : Below w.heap.size w w4 := Below.trans (by go_grown) (hb_w4.mono (by go_size))
    have hs_w4_0 : w.heap.size < w4.heap.size := by omega
    go_wp2_with fail
    · refine bodyPost_ret (by simp [results, Try.results6, go_sem, *]; try rfl) rfl ?_
      exact ⟨rfl, by go_grown⟩
    · refine bodyPost_ret (by simp [results, Try.results6, go_sem, *]; try rfl) rfl ?_
      exact ⟨rfl, by go_grown⟩
    · obtain rfl : ax = ox := by assumption
      have hy : ¬ ay = oy := by assumption
      have hk : (ay == oy) = false := by simp; exact hy
      have c6 := HS.out (by assumption)
      rw [right_less (by omega) (by omega)] at c6
      have C6 := Lib.hid c6
      clear c6 HS
      refine wp_gen (fun Qv0 hW0 => ?_)
      have hB_Qv0 : Below w.heap.size w Qv0 := by rw [hW0]; go_grown
      have hs_Qv0_0 : w.heap.size < Qv0.heap.size := by rw [hW0]; first | omega | (simp; done) | (simp; omega)
      have hs_Qv0_1 : w4.heap.size < Qv0.heap.size := by rw [hW0]; first | omega | (simp; done) | (simp; omega)
      have hg_Qv0_0 : Qv0.cell? ⟨w.heap.size, 0, none⟩ = some (.int .i32 ax) := by rw [hW0]; first | (go_simp; done) | (simp [*]; done)
      have hg_Qv0_1 : Qv0.cell? ⟨w.heap.size, 1, none⟩ = some (.int .i32 oy) := by rw [hW0]; first | (go_simp; done) | (simp [*]; done)
      have hg_Qv0_2 : Qv0.cell? ⟨w.heap.size, 2, none⟩ = some (.int .i32 ax) := by rw [hW0]; first | (go_simp; done) | (simp [*]; done)
      have hg_Qv0_3 : Qv0.cell? ⟨w.heap.size, 3, none⟩ = some (.int .i32 ay) := by rw [hW0]; first | (go_simp; done) | (simp [*]; done)
      have hg_Qv0_4 : Qv0.cell? ⟨w4.heap.size, 0, none⟩ = some (.int .i32 (wrap32 (ax + 1))) := by rw [hW0]; first | (go_simp; done) | (simp [*]; done)
      have hg_Qv0_5 : Qv0.cell? ⟨w4.heap.size, 1, none⟩ = some (.int .i32 oy) := by rw [hW0]; first | (go_simp; done) | (simp [*]; done)
      clear hW0
      have hq_Qv0 := @wd_cell Qv0
      refine wp_region_wd (by kernel_rfl) (by kernel_rfl) ?_
      repeat (go_big_quiet_step ((first | (go_at_call 24; with_reducible exact quiet_wd (C6.out _)))))
      refine wpQuiet_nil ?_
      rintro v0 ⟨⟨wx, hb_v0⟩, hwx⟩
      obtain rfl : v0 = wx := hwx
      clear hq_Qv0
      obtain ⟨hc_v0, hf_v0⟩ := bcell hb_v0
      have hB_v0 : Below w.heap.size w v0 := Below.trans (by go_grown) (hb_v0.mono (by go_size))
      have hs_v0_0 : w.heap.size < v0.heap.size := Nat.lt_of_lt_of_le hs_Qv0_0 hb_v0.size
      have hs_v0_1 : w4.heap.size < v0.heap.size := Nat.lt_of_lt_of_le hs_Qv0_1 hb_v0.size
      go_wp2_with fail
      refine bodyPost_ret (by simp [results, Try.results6, go_sem, *]; try rfl) rfl ?_
      exact ⟨rfl, by go_grown⟩
    · have hx : ¬ ax = ox := by assumption
      rcases Decidable.em (ay = oy) with hy | hy
      · subst hy
        rcases Decidable.em (ox < ax) with hg | hg
        · have c6 := HS.out (by assumption)
          rw [right_zero (by omega) (by omega)] at c6
          have C6 := Lib.hid c6
          clear c6 HS
          refine wp_gen (fun Qv1 hW0 => ?_)
          have hB_Qv1 : Below w.heap.size w Qv1 := by rw [hW0]; go_grown
          have hs_Qv1_0 : w.heap.size < Qv1.heap.size := by rw [hW0]; first | omega | (simp; done) | (simp; omega)
          have hs_Qv1_1 : w4.heap.size < Qv1.heap.size := by rw [hW0]; first | omega | (simp; done) | (simp; omega)
          have hg_Qv1_0 : Qv1.cell? ⟨w.heap.size, 0, none⟩ = some (.int .i32 ox) := by rw [hW0]; first | (go_simp; done) | (simp [*]; done)
          have hg_Qv1_1 : Qv1.cell? ⟨w.heap.size, 1, none⟩ = some (.int .i32 ay) := by rw [hW0]; first | (go_simp; done) | (simp [*]; done)
          have hg_Qv1_2 : Qv1.cell? ⟨w.heap.size, 2, none⟩ = some (.int .i32 ax) := by rw [hW0]; first | (go_simp; done) | (simp [*]; done)
          have hg_Qv1_3 : Qv1.cell? ⟨w.heap.size, 3, none⟩ = some (.int .i32 ay) := by rw [hW0]; first | (go_simp; done) | (simp [*]; done)
          have hg_Qv1_4 : Qv1.cell? ⟨w4.heap.size, 0, none⟩ = some (.int .i32 (wrap32 (ox + 1))) := by rw [hW0]; first | (go_simp; done) | (simp [*]; done)
          have hg_Qv1_5 : Qv1.cell? ⟨w4.heap.size, 1, none⟩ = some (.int .i32 ay) := by rw [hW0]; first | (go_simp; done) | (simp [*]; done)
          clear hW0
          have hq_Qv1 := @wd_cell Qv1
          refine wp_region_wd (by kernel_rfl) (by kernel_rfl) ?_
          repeat (go_big_quiet_step ((first | (go_at_call 24; with_reducible exact quiet_wd (C6.out _)))))
          refine wpQuiet_nil ?_
          rintro v1 ⟨⟨wx, hb_v1⟩, hwx⟩
          obtain rfl : v1 = wx := hwx
          clear hq_Qv1
          obtain ⟨hc_v1, hf_v1⟩ := bcell hb_v1
          have hB_v1 : Below w.heap.size w v1 := Below.trans (by go_grown) (hb_v1.mono (by go_size))
          have hs_v1_0 : w.heap.size < v1.heap.size := Nat.lt_of_lt_of_le hs_Qv1_0 hb_v1.size
          have hs_v1_1 : w4.heap.size < v1.heap.size := Nat.lt_of_lt_of_le hs_Qv1_1 hb_v1.size
          go_wp2_with fail
          refine bodyPost_ret (by simp [results, Try.results6, go_sem, *]; try rfl) rfl ?_
          exact ⟨rfl, by go_grown⟩
        · have c6 := HS.out (by assumption)
          rw [right_less (by omega) (by omega)] at c6
          have C6 := Lib.hid c6
          clear c6 HS
          refine wp_gen (fun Qv2 hW0 => ?_)
          have hB_Qv2 : Below w.heap.size w Qv2 := by rw [hW0]; go_grown
          have hs_Qv2_0 : w.heap.size < Qv2.heap.size := by rw [hW0]; first | omega | (simp; done) | (simp; omega)
          have hs_Qv2_1 : w4.heap.size < Qv2.heap.size := by rw [hW0]; first | omega | (simp; done) | (simp; omega)
          have hg_Qv2_0 : Qv2.cell? ⟨w.heap.size, 0, none⟩ = some (.int .i32 ox) := by rw [hW0]; first | (go_simp; done) | (simp [*]; done)
          have hg_Qv2_1 : Qv2.cell? ⟨w.heap.size, 1, none⟩ = some (.int .i32 ay) := by rw [hW0]; first | (go_simp; done) | (simp [*]; done)
          have hg_Qv2_2 : Qv2.cell? ⟨w.heap.size, 2, none⟩ = some (.int .i32 ax) := by rw [hW0]; first | (go_simp; done) | (simp [*]; done)
          have hg_Qv2_3 : Qv2.cell? ⟨w.heap.size, 3, none⟩ = some (.int .i32 ay) := by rw [hW0]; first | (go_simp; done) | (simp [*]; done)
          have hg_Qv2_4 : Qv2.cell? ⟨w4.heap.size, 0, none⟩ = some (.int .i32 (wrap32 (ox + 1))) := by rw [hW0]; first | (go_simp; done) | (simp [*]; done)
          have hg_Qv2_5 : Qv2.cell? ⟨w4.heap.size, 1, none⟩ = some (.int .i32 ay) := by rw [hW0]; first | (go_simp; done) | (simp [*]; done)
          clear hW0
          have hq_Qv2 := @wd_cell Qv2
          refine wp_region_wd (by kernel_rfl) (by kernel_rfl) ?_
          repeat (go_big_quiet_step ((first | (go_at_call 24; with_reducible exact quiet_wd (C6.out _)))))
          refine wpQuiet_nil ?_
          rintro v2 ⟨⟨wx, hb_v2⟩, hwx⟩
          obtain rfl : v2 = wx := hwx
          clear hq_Qv2
          obtain ⟨hc_v2, hf_v2⟩ := bcell hb_v2
          have hB_v2 : Below w.heap.size w v2 := Below.trans (by go_grown) (hb_v2.mono (by go_size))
          have hs_v2_0 : w.heap.size < v2.heap.size := Nat.lt_of_lt_of_le hs_Qv2_0 hb_v2.size
          have hs_v2_1 : w4.heap.size < v2.heap.size := Nat.lt_of_lt_of_le hs_Qv2_1 hb_v2.size
          go_wp2_with fail
          refine bodyPost_ret (by simp [results, Try.results6, go_sem, *]; try rfl) rfl ?_
          exact ⟨rfl, by go_grown⟩
      · have hk : (ay == oy) = false := by simp; exact hy
        have c6 := HS.out (by assumption)
        rw [right_less (by omega) (by omega)] at c6
        have C6 := Lib.hid c6
        clear c6 HS
        refine wp_gen (fun Qv3 hW0 => ?_)
        have hB_Qv3 : Below w.heap.size w Qv3 := by rw [hW0]; go_grown
        have hs_Qv3_0 : w.heap.size < Qv3.heap.size := by rw [hW0]; first | omega | (simp; done) | (simp; omega)
        have hs_Qv3_1 : w4.heap.size < Qv3.heap.size := by rw [hW0]; first | omega | (simp; done) | (simp; omega)
        have hg_Qv3_0 : Qv3.cell? ⟨w.heap.size, 0, none⟩ = some (.int .i32 ox) := by rw [hW0]; first | (go_simp; done) | (simp [*]; done)
        have hg_Qv3_1 : Qv3.cell? ⟨w.heap.size, 1, none⟩ = some (.int .i32 oy) := by rw [hW0]; first | (go_simp; done) | (simp [*]; done)
        have hg_Qv3_2 : Qv3.cell? ⟨w.heap.size, 2, none⟩ = some (.int .i32 ax) := by rw [hW0]; first | (go_simp; done) | (simp [*]; done)
        have hg_Qv3_3 : Qv3.cell? ⟨w.heap.size, 3, none⟩ = some (.int .i32 ay) := by rw [hW0]; first | (go_simp; done) | (simp [*]; done)
        have hg_Qv3_4 : Qv3.cell? ⟨w4.heap.size, 0, none⟩ = some (.int .i32 (wrap32 (ox + 1))) := by rw [hW0]; first | (go_simp; done) | (simp [*]; done)
        have hg_Qv3_5 : Qv3.cell? ⟨w4.heap.size, 1, none⟩ = some (.int .i32 oy) := by rw [hW0]; first | (go_simp; done) | (simp [*]; done)
        clear hW0
        have hq_Qv3 := @wd_cell Qv3
        refine wp_region_wd (by kernel_rfl) (by kernel_rfl) ?_
        repeat (go_big_quiet_step ((first | (go_at_call 24; with_reducible exact quiet_wd (C6.out _)))))
        refine wpQuiet_nil ?_
        rintro v3 ⟨⟨wx, hb_v3⟩, hwx⟩
        obtain rfl : v3 = wx := hwx
        clear hq_Qv3
        obtain ⟨hc_v3, hf_v3⟩ := bcell hb_v3
        have hB_v3 : Below w.heap.size w v3 := Below.trans (by go_grown) (hb_v3.mono (by go_size))
        have hs_v3_0 : w.heap.size < v3.heap.size := Nat.lt_of_lt_of_le hs_Qv3_0 hb_v3.size
        have hs_v3_1 : w4.heap.size < v3.heap.size := Nat.lt_of_lt_of_le hs_Qv3_1 hb_v3.size
        go_wp2_with fail
        refine bodyPost_ret (by simp [results, Try.results6, go_sem, *]; try rfl) rfl ?_
        exact ⟨rfl, by go_grown⟩

end Go.Proofs.Ytegblpoamjpdhaa
