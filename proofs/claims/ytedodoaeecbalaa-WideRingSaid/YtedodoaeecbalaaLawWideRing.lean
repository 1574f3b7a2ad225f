/-
  Proved: the law WideRing returns true for every three numbers. No condition.
-/
import Derived.Test.YtedodoaeecbalaaLawOne
namespace Go.Proofs.Ytedodoaeecbalaa
open Go.ChangeShapes Go.WideShapes Go.ChangeAt Go.RowKit

set_option maxHeartbeats 4000000 in
set_option maxRecDepth 100000 in
theorem wideRing_core (x y z : Int) (hx : In128 x) (hy : In128 y) (hz : In128 z) (w : World) :
    Calls Try.prog 4 #[.agg #[.int .i64 (hi64 x), .int .u64 (lo64 x)], .agg #[.int .i64 (hi64 y), .int .u64 (lo64 y)], .agg #[.int .i64 (hi64 z), .int .u64 (lo64 z)]] w fun e w' =>
      e = .returned (.bool true) ∧ Below w.heap.size w w' := by
  have e1 : hi64 (y + x) = hi64 (x + y) := by rw [Int.add_comm]
  have e2 : lo64 (y + x) = lo64 (x + y) := by rw [Int.add_comm]
  have e3 : hi64 (x + y + z) = hi64 (x + (y + z)) := by rw [Int.add_assoc]
  have e4 : lo64 (x + y + z) = lo64 (x + (y + z)) := by rw [Int.add_assoc]
  have e5 : hi64 (x + y - y) = hi64 x := by rw [Int.add_sub_cancel]
  have e6 : lo64 (x + y - y) = lo64 x := by rw [Int.add_sub_cancel]
  have e7 : hi64 (- -x) = hi64 x := by rw [Int.neg_neg]
  have e8 : lo64 (- -x) = lo64 x := by rw [Int.neg_neg]
  have e9 : hi64 (x + -x) = 0 := by rw [Int.add_right_neg]; decide +kernel
  have e10 : lo64 (x + -x) = 0 := by rw [Int.add_right_neg]; decide +kernel
  have e11 : hi64 (x - y) = hi64 (x + -y) := by rw [Int.sub_eq_add_neg]
  have e12 : lo64 (x - y) = lo64 (x + -y) := by rw [Int.sub_eq_add_neg]
  go_enter Try.func4, Try.ntmps4
  go_wp2_with fail
  refine (lawof_any _ _).mono ?_
  rintro e w1 ⟨rfl, hb_w1⟩
  obtain ⟨hc_w1, hf_w1⟩ := bcell hb_w1
  have hz_w1 := hb_w1.size
  try simp at hz_w1
  have hB_w1 : Below w.heap.size w w1 := Below.trans (by go_grown) (hb_w1.mono (by go_size))
  have hs_w1_w_0 : w.heap.size < w1.heap.size := by omega
  have hs_w1_w_1 : w.heap.size + 1 < w1.heap.size := by omega
  have hs_w1_w_2 : w.heap.size + 1 + 1 < w1.heap.size := by omega
  go_wp2_with fail
  refine (lawof_any _ _).mono ?_
  rintro e w2 ⟨rfl, hb_w2⟩
  obtain ⟨hc_w2, hf_w2⟩ := bcell hb_w2
  have hz_w2 := hb_w2.size
  try simp at hz_w2
  have hB_w2 : Below w.heap.size w w2 := Below.trans (by go_grown) (hb_w2.mono (by go_size))
  have hs_w2_w_0 : w.heap.size < w2.heap.size := by omega
  have hs_w2_w_1 : w.heap.size + 1 < w2.heap.size := by omega
  have hs_w2_w_2 : w.heap.size + 1 + 1 < w2.heap.size := by omega
  have hs_w2_w1_0 : w1.heap.size < w2.heap.size := by omega
  go_wp2_with fail
  refine (lawof_any _ _).mono ?_
  rintro e w3 ⟨rfl, hb_w3⟩
  obtain ⟨hc_w3, hf_w3⟩ := bcell hb_w3
  have hz_w3 := hb_w3.size
  try simp at hz_w3
  have hB_w3 : Below w.heap.size w w3 := Below.trans (by go_grown) (hb_w3.mono (by go_size))
  have hs_w3_w_0 : w.heap.size < w3.heap.size := by omega
  have hs_w3_w_1 : w.heap.size + 1 < w3.heap.size := by omega
  have hs_w3_w_2 : w.heap.size + 1 + 1 < w3.heap.size := by omega
  have hs_w3_w1_0 : w1.heap.size < w3.heap.size := by omega
  have hs_w3_w2_0 : w2.heap.size < w3.heap.size := by omega
  go_wp2_with fail
  refine wp_gen (fun Qw4 hW0 => ?_)
  have hB_Qw4 : Below w.heap.size w Qw4 := by rw [hW0]; go_grown
  have hs_Qw4_0 : w1.heap.size < Qw4.heap.size := by rw [hW0]; first | omega | (simp; done) | (simp; omega)
  have hs_Qw4_1 : w2.heap.size < Qw4.heap.size := by rw [hW0]; first | omega | (simp; done) | (simp; omega)
  have hs_Qw4_2 : w3.heap.size < Qw4.heap.size := by rw [hW0]; first | omega | (simp; done) | (simp; omega)
  have hg_Qw4_0 : Qw4.cell? ⟨w1.heap.size, 0, none⟩ = some (.int .i64 (hi64 x)) := by rw [hW0]; first | (go_simp; done) | (simp [*]; done)
  have hg_Qw4_1 : Qw4.cell? ⟨w1.heap.size, 1, none⟩ = some (.int .u64 (lo64 x)) := by rw [hW0]; first | (go_simp; done) | (simp [*]; done)
  have hg_Qw4_2 : Qw4.cell? ⟨w2.heap.size, 0, none⟩ = some (.int .i64 (hi64 y)) := by rw [hW0]; first | (go_simp; done) | (simp [*]; done)
  have hg_Qw4_3 : Qw4.cell? ⟨w2.heap.size, 1, none⟩ = some (.int .u64 (lo64 y)) := by rw [hW0]; first | (go_simp; done) | (simp [*]; done)
  have hg_Qw4_4 : Qw4.cell? ⟨w3.heap.size, 0, none⟩ = some (.int .i64 (hi64 z)) := by rw [hW0]; first | (go_simp; done) | (simp [*]; done)
  have hg_Qw4_5 : Qw4.cell? ⟨w3.heap.size, 1, none⟩ = some (.int .u64 (lo64 z)) := by rw [hW0]; first | (go_simp; done) | (simp [*]; done)
  clear hW0
  have hq_Qw4 := @wd_cell Qw4
  refine wp_region_wd (by kernel_rfl) (by kernel_rfl) ?_
  repeat (go_big_quiet_step ((first | (go_at_call 12; with_reducible exact quiet_wd (add_any _ _ _)) | (go_at_call 13; with_reducible exact quiet_wd (sub_any _ _ _)) | (go_at_call 14; with_reducible exact quiet_wd (neg_any _ _)))))
  refine wpQuiet_nil ?_
  rintro w4 ⟨⟨wx, hb_w4⟩, hwx⟩
  obtain rfl : w4 = wx := hwx
  clear hq_Qw4
  obtain ⟨hc_w4, hf_w4⟩ := bcell hb_w4
  have hB_w4 : Below w.heap.size w w4 := Below.trans (by go_grown) (hb_w4.mono (by go_size))
  have hs_w4_0 : w1.heap.size < w4.heap.size := Nat.lt_of_lt_of_le hs_Qw4_0 hb_w4.size
  have hs_w4_1 : w2.heap.size < w4.heap.size := Nat.lt_of_lt_of_le hs_Qw4_1 hb_w4.size
  have hs_w4_2 : w3.heap.size < w4.heap.size := Nat.lt_of_lt_of_le hs_Qw4_2 hb_w4.size
  go_wp2_with fail
  have sx := s128_eq hx
  have sy := s128_eq hy
  have sz := s128_eq hz
  have hself := cmp_self y
  rcases cmp_ways x y with ⟨c1, c2, lt⟩ | ⟨c1, c2, le1, le2⟩ | ⟨c1, c2, lt⟩
  · rcases halves_ways hx hy (.inl lt) with n1 | ⟨n0, n1⟩
    all_goals
      try clear n0
      refine wp_gen (fun Qw5 hW0 => ?_)
      have hB_Qw5 : Below w.heap.size w Qw5 := by rw [hW0]; go_grown
      have hs_Qw5_0 : w1.heap.size < Qw5.heap.size := by rw [hW0]; first | omega | (simp; done) | (simp; omega)
      have hs_Qw5_1 : w2.heap.size < Qw5.heap.size := by rw [hW0]; first | omega | (simp; done) | (simp; omega)
      have hs_Qw5_2 : w3.heap.size < Qw5.heap.size := by rw [hW0]; first | omega | (simp; done) | (simp; omega)
      have hg_Qw5_0 : Qw5.cell? ⟨w1.heap.size, 0, none⟩ = some (.int .i64 (hi64 x)) := by rw [hW0]; first | (go_simp; done) | (simp [*]; done)
      have hg_Qw5_1 : Qw5.cell? ⟨w1.heap.size, 1, none⟩ = some (.int .u64 (lo64 x)) := by rw [hW0]; first | (go_simp; done) | (simp [*]; done)
      have hg_Qw5_2 : Qw5.cell? ⟨w2.heap.size, 0, none⟩ = some (.int .i64 (hi64 y)) := by rw [hW0]; first | (go_simp; done) | (simp [*]; done)
      have hg_Qw5_3 : Qw5.cell? ⟨w2.heap.size, 1, none⟩ = some (.int .u64 (lo64 y)) := by rw [hW0]; first | (go_simp; done) | (simp [*]; done)
      have hg_Qw5_4 : Qw5.cell? ⟨w3.heap.size, 0, none⟩ = some (.int .i64 (hi64 z)) := by rw [hW0]; first | (go_simp; done) | (simp [*]; done)
      have hg_Qw5_5 : Qw5.cell? ⟨w3.heap.size, 1, none⟩ = some (.int .u64 (lo64 z)) := by rw [hW0]; first | (go_simp; done) | (simp [*]; done)
      clear hW0
      have hq_Qw5 := @wd_cell Qw5
      refine wp_region_wd (by kernel_rfl) (by kernel_rfl) ?_
      repeat (go_big_quiet_step ((first | (go_at_call_of 15 (Value.agg #[.int .i64 0, .int .u64 0]); with_reducible exact quiet_wd (cmp_s0 _ _)) | (go_at_call 15; with_reducible exact quiet_wd (cmp_s _ _ _)) | (go_at_call 16; with_reducible exact quiet_wd (sign_s _ _)))))
      refine wpQuiet_nil ?_
      rintro w5 ⟨⟨wx, hb_w5⟩, hwx⟩
      obtain rfl : w5 = wx := hwx
      clear hq_Qw5
      obtain ⟨hc_w5, hf_w5⟩ := bcell hb_w5
      have hB_w5 : Below w.heap.size w w5 := Below.trans (by go_grown) (hb_w5.mono (by go_size))
      have hs_w5_0 : w1.heap.size < w5.heap.size := Nat.lt_of_lt_of_le hs_Qw5_0 hb_w5.size
      have hs_w5_1 : w2.heap.size < w5.heap.size := Nat.lt_of_lt_of_le hs_Qw5_1 hb_w5.size
      have hs_w5_2 : w3.heap.size < w5.heap.size := Nat.lt_of_lt_of_le hs_Qw5_2 hb_w5.size
      go_wp2_with fail
      clear n1
      rcases cmp_ways y z with ⟨d1, d2, lt2⟩ | ⟨d1, d2, le21, le22⟩ | ⟨d1, d2, lt2⟩
      · skip
        have d3 : cmpI x z = -1 := by unfold cmpI; rw [if_pos (by omega)]
        refine (cmp_s _ _ _).mono ?_
        rintro e w6 ⟨rfl, hb_w6⟩
        obtain ⟨hc_w6, hf_w6⟩ := bcell hb_w6
        have hz_w6 := hb_w6.size
        try simp at hz_w6
        have hB_w6 : Below w.heap.size w w6 := Below.trans (by go_grown) (hb_w6.mono (by go_size))
        have hs_w6_0 : w1.heap.size < w6.heap.size := by omega
        have hs_w6_1 : w2.heap.size < w6.heap.size := by omega
        have hs_w6_2 : w3.heap.size < w6.heap.size := by omega
        go_wp2_with fail
        refine (cmp_s _ _ _).mono ?_
        rintro e w7 ⟨rfl, hb_w7⟩
        obtain ⟨hc_w7, hf_w7⟩ := bcell hb_w7
        have hz_w7 := hb_w7.size
        try simp at hz_w7
        have hB_w7 : Below w.heap.size w w7 := Below.trans (by go_grown) (hb_w7.mono (by go_size))
        have hs_w7_0 : w1.heap.size < w7.heap.size := by omega
        have hs_w7_1 : w2.heap.size < w7.heap.size := by omega
        have hs_w7_2 : w3.heap.size < w7.heap.size := by omega
        go_wp2_with fail
        refine (cmp_s _ _ _).mono ?_
        rintro e w8 ⟨rfl, hb_w8⟩
        obtain ⟨hc_w8, hf_w8⟩ := bcell hb_w8
        have hz_w8 := hb_w8.size
        try simp at hz_w8
        have hB_w8 : Below w.heap.size w w8 := Below.trans (by go_grown) (hb_w8.mono (by go_size))
        have hs_w8_0 : w1.heap.size < w8.heap.size := by omega
        have hs_w8_1 : w2.heap.size < w8.heap.size := by omega
        have hs_w8_2 : w3.heap.size < w8.heap.size := by omega
        go_wp2_with fail
        go_ret
        exact ⟨rfl, by go_grown⟩
      · skip
        have d3 : cmpI x z = -1 := by unfold cmpI; rw [if_pos (by omega)]
        refine (cmp_s _ _ _).mono ?_
        rintro e w6 ⟨rfl, hb_w6⟩
        obtain ⟨hc_w6, hf_w6⟩ := bcell hb_w6
        have hz_w6 := hb_w6.size
        try simp at hz_w6
        have hB_w6 : Below w.heap.size w w6 := Below.trans (by go_grown) (hb_w6.mono (by go_size))
        have hs_w6_0 : w1.heap.size < w6.heap.size := by omega
        have hs_w6_1 : w2.heap.size < w6.heap.size := by omega
        have hs_w6_2 : w3.heap.size < w6.heap.size := by omega
        go_wp2_with fail
        refine (cmp_s _ _ _).mono ?_
        rintro e w7 ⟨rfl, hb_w7⟩
        obtain ⟨hc_w7, hf_w7⟩ := bcell hb_w7
        have hz_w7 := hb_w7.size
        try simp at hz_w7
        have hB_w7 : Below w.heap.size w w7 := Below.trans (by go_grown) (hb_w7.mono (by go_size))
        have hs_w7_0 : w1.heap.size < w7.heap.size := by omega
        have hs_w7_1 : w2.heap.size < w7.heap.size := by omega
        have hs_w7_2 : w3.heap.size < w7.heap.size := by omega
        go_wp2_with fail
        refine (cmp_s _ _ _).mono ?_
        rintro e w8 ⟨rfl, hb_w8⟩
        obtain ⟨hc_w8, hf_w8⟩ := bcell hb_w8
        have hz_w8 := hb_w8.size
        try simp at hz_w8
        have hB_w8 : Below w.heap.size w w8 := Below.trans (by go_grown) (hb_w8.mono (by go_size))
        have hs_w8_0 : w1.heap.size < w8.heap.size := by omega
        have hs_w8_1 : w2.heap.size < w8.heap.size := by omega
        have hs_w8_2 : w3.heap.size < w8.heap.size := by omega
        go_wp2_with fail
        go_ret
        exact ⟨rfl, by go_grown⟩
      · skip
        refine (cmp_s _ _ _).mono ?_
        rintro e w6 ⟨rfl, hb_w6⟩
        obtain ⟨hc_w6, hf_w6⟩ := bcell hb_w6
        have hz_w6 := hb_w6.size
        try simp at hz_w6
        have hB_w6 : Below w.heap.size w w6 := Below.trans (by go_grown) (hb_w6.mono (by go_size))
        have hs_w6_0 : w1.heap.size < w6.heap.size := by omega
        have hs_w6_1 : w2.heap.size < w6.heap.size := by omega
        have hs_w6_2 : w3.heap.size < w6.heap.size := by omega
        go_wp2_with fail
        refine (cmp_s _ _ _).mono ?_
        rintro e w7 ⟨rfl, hb_w7⟩
        obtain ⟨hc_w7, hf_w7⟩ := bcell hb_w7
        have hz_w7 := hb_w7.size
        try simp at hz_w7
        have hB_w7 : Below w.heap.size w w7 := Below.trans (by go_grown) (hb_w7.mono (by go_size))
        have hs_w7_0 : w1.heap.size < w7.heap.size := by omega
        have hs_w7_1 : w2.heap.size < w7.heap.size := by omega
        have hs_w7_2 : w3.heap.size < w7.heap.size := by omega
        go_wp2_with fail
        go_ret
        exact ⟨rfl, by go_grown⟩
  · obtain ⟨n1, n2⟩ := halves_same le1 le2
    refine wp_gen (fun Qw5 hW0 => ?_)
    have hB_Qw5 : Below w.heap.size w Qw5 := by rw [hW0]; go_grown
    have hs_Qw5_0 : w1.heap.size < Qw5.heap.size := by rw [hW0]; first | omega | (simp; done) | (simp; omega)
    have hs_Qw5_1 : w2.heap.size < Qw5.heap.size := by rw [hW0]; first | omega | (simp; done) | (simp; omega)
    have hs_Qw5_2 : w3.heap.size < Qw5.heap.size := by rw [hW0]; first | omega | (simp; done) | (simp; omega)
    have hg_Qw5_0 : Qw5.cell? ⟨w1.heap.size, 0, none⟩ = some (.int .i64 (hi64 x)) := by rw [hW0]; first | (go_simp; done) | (simp [*]; done)
    have hg_Qw5_1 : Qw5.cell? ⟨w1.heap.size, 1, none⟩ = some (.int .u64 (lo64 x)) := by rw [hW0]; first | (go_simp; done) | (simp [*]; done)
    have hg_Qw5_2 : Qw5.cell? ⟨w2.heap.size, 0, none⟩ = some (.int .i64 (hi64 y)) := by rw [hW0]; first | (go_simp; done) | (simp [*]; done)
    have hg_Qw5_3 : Qw5.cell? ⟨w2.heap.size, 1, none⟩ = some (.int .u64 (lo64 y)) := by rw [hW0]; first | (go_simp; done) | (simp [*]; done)
    have hg_Qw5_4 : Qw5.cell? ⟨w3.heap.size, 0, none⟩ = some (.int .i64 (hi64 z)) := by rw [hW0]; first | (go_simp; done) | (simp [*]; done)
    have hg_Qw5_5 : Qw5.cell? ⟨w3.heap.size, 1, none⟩ = some (.int .u64 (lo64 z)) := by rw [hW0]; first | (go_simp; done) | (simp [*]; done)
    clear hW0
    have hq_Qw5 := @wd_cell Qw5
    refine wp_region_wd (by kernel_rfl) (by kernel_rfl) ?_
    repeat (go_big_quiet_step ((first | (go_at_call_of 15 (Value.agg #[.int .i64 0, .int .u64 0]); with_reducible exact quiet_wd (cmp_s0 _ _)) | (go_at_call 15; with_reducible exact quiet_wd (cmp_s _ _ _)) | (go_at_call 16; with_reducible exact quiet_wd (sign_s _ _)))))
    refine wpQuiet_nil ?_
    rintro w5 ⟨⟨wx, hb_w5⟩, hwx⟩
    obtain rfl : w5 = wx := hwx
    clear hq_Qw5
    obtain ⟨hc_w5, hf_w5⟩ := bcell hb_w5
    have hB_w5 : Below w.heap.size w w5 := Below.trans (by go_grown) (hb_w5.mono (by go_size))
    have hs_w5_0 : w1.heap.size < w5.heap.size := Nat.lt_of_lt_of_le hs_Qw5_0 hb_w5.size
    have hs_w5_1 : w2.heap.size < w5.heap.size := Nat.lt_of_lt_of_le hs_Qw5_1 hb_w5.size
    have hs_w5_2 : w3.heap.size < w5.heap.size := Nat.lt_of_lt_of_le hs_Qw5_2 hb_w5.size
    go_wp2_with fail
    have e0 : cmpI y z = cmpI x z := by rw [show x = y by omega]
    have e1 := Lib.hid e0
    clear n1 n2 e0
    rcases cmp_ways y z with ⟨d1, d2, lt2⟩ | ⟨d1, d2, le21, le22⟩ | ⟨d1, d2, lt2⟩
    · skip
      have d3 : cmpI x z = -1 := by rw [← e1.out, d1]
      refine (cmp_s _ _ _).mono ?_
      rintro e w6 ⟨rfl, hb_w6⟩
      obtain ⟨hc_w6, hf_w6⟩ := bcell hb_w6
      have hz_w6 := hb_w6.size
      try simp at hz_w6
      have hB_w6 : Below w.heap.size w w6 := Below.trans (by go_grown) (hb_w6.mono (by go_size))
      have hs_w6_0 : w1.heap.size < w6.heap.size := by omega
      have hs_w6_1 : w2.heap.size < w6.heap.size := by omega
      have hs_w6_2 : w3.heap.size < w6.heap.size := by omega
      go_wp2_with fail
      refine (cmp_s _ _ _).mono ?_
      rintro e w7 ⟨rfl, hb_w7⟩
      obtain ⟨hc_w7, hf_w7⟩ := bcell hb_w7
      have hz_w7 := hb_w7.size
      try simp at hz_w7
      have hB_w7 : Below w.heap.size w w7 := Below.trans (by go_grown) (hb_w7.mono (by go_size))
      have hs_w7_0 : w1.heap.size < w7.heap.size := by omega
      have hs_w7_1 : w2.heap.size < w7.heap.size := by omega
      have hs_w7_2 : w3.heap.size < w7.heap.size := by omega
      go_wp2_with fail
      refine (cmp_s _ _ _).mono ?_
      rintro e w8 ⟨rfl, hb_w8⟩
      obtain ⟨hc_w8, hf_w8⟩ := bcell hb_w8
      have hz_w8 := hb_w8.size
      try simp at hz_w8
      have hB_w8 : Below w.heap.size w w8 := Below.trans (by go_grown) (hb_w8.mono (by go_size))
      have hs_w8_0 : w1.heap.size < w8.heap.size := by omega
      have hs_w8_1 : w2.heap.size < w8.heap.size := by omega
      have hs_w8_2 : w3.heap.size < w8.heap.size := by omega
      go_wp2_with fail
      go_ret
      exact ⟨rfl, by go_grown⟩
    · skip
      have d3 : cmpI x z = 0 := by rw [← e1.out, d1]
      refine (cmp_s _ _ _).mono ?_
      rintro e w6 ⟨rfl, hb_w6⟩
      obtain ⟨hc_w6, hf_w6⟩ := bcell hb_w6
      have hz_w6 := hb_w6.size
      try simp at hz_w6
      have hB_w6 : Below w.heap.size w w6 := Below.trans (by go_grown) (hb_w6.mono (by go_size))
      have hs_w6_0 : w1.heap.size < w6.heap.size := by omega
      have hs_w6_1 : w2.heap.size < w6.heap.size := by omega
      have hs_w6_2 : w3.heap.size < w6.heap.size := by omega
      go_wp2_with fail
      refine (cmp_s _ _ _).mono ?_
      rintro e w7 ⟨rfl, hb_w7⟩
      obtain ⟨hc_w7, hf_w7⟩ := bcell hb_w7
      have hz_w7 := hb_w7.size
      try simp at hz_w7
      have hB_w7 : Below w.heap.size w w7 := Below.trans (by go_grown) (hb_w7.mono (by go_size))
      have hs_w7_0 : w1.heap.size < w7.heap.size := by omega
      have hs_w7_1 : w2.heap.size < w7.heap.size := by omega
      have hs_w7_2 : w3.heap.size < w7.heap.size := by omega
      go_wp2_with fail
      refine (cmp_s _ _ _).mono ?_
      rintro e w8 ⟨rfl, hb_w8⟩
      obtain ⟨hc_w8, hf_w8⟩ := bcell hb_w8
      have hz_w8 := hb_w8.size
      try simp at hz_w8
      have hB_w8 : Below w.heap.size w w8 := Below.trans (by go_grown) (hb_w8.mono (by go_size))
      have hs_w8_0 : w1.heap.size < w8.heap.size := by omega
      have hs_w8_1 : w2.heap.size < w8.heap.size := by omega
      have hs_w8_2 : w3.heap.size < w8.heap.size := by omega
      go_wp2_with fail
      go_ret
      exact ⟨rfl, by go_grown⟩
    · skip
      refine (cmp_s _ _ _).mono ?_
      rintro e w6 ⟨rfl, hb_w6⟩
      obtain ⟨hc_w6, hf_w6⟩ := bcell hb_w6
      have hz_w6 := hb_w6.size
      try simp at hz_w6
      have hB_w6 : Below w.heap.size w w6 := Below.trans (by go_grown) (hb_w6.mono (by go_size))
      have hs_w6_0 : w1.heap.size < w6.heap.size := by omega
      have hs_w6_1 : w2.heap.size < w6.heap.size := by omega
      have hs_w6_2 : w3.heap.size < w6.heap.size := by omega
      go_wp2_with fail
      refine (cmp_s _ _ _).mono ?_
      rintro e w7 ⟨rfl, hb_w7⟩
      obtain ⟨hc_w7, hf_w7⟩ := bcell hb_w7
      have hz_w7 := hb_w7.size
      try simp at hz_w7
      have hB_w7 : Below w.heap.size w w7 := Below.trans (by go_grown) (hb_w7.mono (by go_size))
      have hs_w7_0 : w1.heap.size < w7.heap.size := by omega
      have hs_w7_1 : w2.heap.size < w7.heap.size := by omega
      have hs_w7_2 : w3.heap.size < w7.heap.size := by omega
      go_wp2_with fail
      go_ret
      exact ⟨rfl, by go_grown⟩
  · rcases halves_ways hx hy (.inr lt) with n1 | ⟨n0, n1⟩
    all_goals
      try clear n0
      refine wp_gen (fun Qw5 hW0 => ?_)
      have hB_Qw5 : Below w.heap.size w Qw5 := by rw [hW0]; go_grown
      have hs_Qw5_0 : w1.heap.size < Qw5.heap.size := by rw [hW0]; first | omega | (simp; done) | (simp; omega)
      have hs_Qw5_1 : w2.heap.size < Qw5.heap.size := by rw [hW0]; first | omega | (simp; done) | (simp; omega)
      have hs_Qw5_2 : w3.heap.size < Qw5.heap.size := by rw [hW0]; first | omega | (simp; done) | (simp; omega)
      have hg_Qw5_0 : Qw5.cell? ⟨w1.heap.size, 0, none⟩ = some (.int .i64 (hi64 x)) := by rw [hW0]; first | (go_simp; done) | (simp [*]; done)
      have hg_Qw5_1 : Qw5.cell? ⟨w1.heap.size, 1, none⟩ = some (.int .u64 (lo64 x)) := by rw [hW0]; first | (go_simp; done) | (simp [*]; done)
      have hg_Qw5_2 : Qw5.cell? ⟨w2.heap.size, 0, none⟩ = some (.int .i64 (hi64 y)) := by rw [hW0]; first | (go_simp; done) | (simp [*]; done)
      have hg_Qw5_3 : Qw5.cell? ⟨w2.heap.size, 1, none⟩ = some (.int .u64 (lo64 y)) := by rw [hW0]; first | (go_simp; done) | (simp [*]; done)
      have hg_Qw5_4 : Qw5.cell? ⟨w3.heap.size, 0, none⟩ = some (.int .i64 (hi64 z)) := by rw [hW0]; first | (go_simp; done) | (simp [*]; done)
      have hg_Qw5_5 : Qw5.cell? ⟨w3.heap.size, 1, none⟩ = some (.int .u64 (lo64 z)) := by rw [hW0]; first | (go_simp; done) | (simp [*]; done)
      clear hW0
      have hq_Qw5 := @wd_cell Qw5
      refine wp_region_wd (by kernel_rfl) (by kernel_rfl) ?_
      repeat (go_big_quiet_step ((first | (go_at_call_of 15 (Value.agg #[.int .i64 0, .int .u64 0]); with_reducible exact quiet_wd (cmp_s0 _ _)) | (go_at_call 15; with_reducible exact quiet_wd (cmp_s _ _ _)) | (go_at_call 16; with_reducible exact quiet_wd (sign_s _ _)))))
      refine wpQuiet_nil ?_
      rintro w5 ⟨⟨wx, hb_w5⟩, hwx⟩
      obtain rfl : w5 = wx := hwx
      clear hq_Qw5
      obtain ⟨hc_w5, hf_w5⟩ := bcell hb_w5
      have hB_w5 : Below w.heap.size w w5 := Below.trans (by go_grown) (hb_w5.mono (by go_size))
      have hs_w5_0 : w1.heap.size < w5.heap.size := Nat.lt_of_lt_of_le hs_Qw5_0 hb_w5.size
      have hs_w5_1 : w2.heap.size < w5.heap.size := Nat.lt_of_lt_of_le hs_Qw5_1 hb_w5.size
      have hs_w5_2 : w3.heap.size < w5.heap.size := Nat.lt_of_lt_of_le hs_Qw5_2 hb_w5.size
      go_wp2_with fail
      clear n1
      refine (cmp_s _ _ _).mono ?_
      rintro e w6 ⟨rfl, hb_w6⟩
      obtain ⟨hc_w6, hf_w6⟩ := bcell hb_w6
      have hz_w6 := hb_w6.size
      try simp at hz_w6
      have hB_w6 : Below w.heap.size w w6 := Below.trans (by go_grown) (hb_w6.mono (by go_size))
      have hs_w6_0 : w1.heap.size < w6.heap.size := by omega
      have hs_w6_1 : w2.heap.size < w6.heap.size := by omega
      have hs_w6_2 : w3.heap.size < w6.heap.size := by omega
      go_wp2_with fail
      go_ret
      exact ⟨rfl, by go_grown⟩

set_option maxRecDepth 100000 in
theorem wideRing_walk {H : Type} {enc : TypeId × Value → H} (w : World) (base : Nat) (v0 v1 v2 : Value) {d0 d1 d2 : DataW H} {p0 p1 p2 : List MemPlace}
    (k0 : Value.okWide Try.prog w .any base 25 v0) (k1 : Value.okWide Try.prog w .any base 25 v1) (k2 : Value.okWide Try.prog w .any base 25 v2)
    (h0 : DataW.Trod enc Try.prog w 0 (fun _ => true) true 25 v0 d0 p0) (h1 : DataW.Trod enc Try.prog w 0 (fun _ => true) true 25 v1 d1 p1) (h2 : DataW.Trod enc Try.prog w 0 (fun _ => true) true 25 v2 d2 p2) :
    Calls Try.prog 4 #[v0, v1, v2] w fun e w' => e = .returned (.bool true) ∧ Below w.heap.size w w' := by
  obtain ⟨x, hx, rfl⟩ := open_pair k0 h0
  obtain ⟨y, hy, rfl⟩ := open_pair k1 h1
  obtain ⟨z, hz, rfl⟩ := open_pair k2 h2
  exact wideRing_core x y z hx hy hz w

set_option maxRecDepth 100000 in
theorem wideRing_lifted (os : Os) (started : os.Started) (H : Type) (enc : TypeId × Value → H) :
    ReturnsInHanded {} Try.checked os 4 .any (Rows.wideRingSpec.pre6 enc Try.prog Try.f4 Rows.wideRingRow.domain false) (Rows.wideRingSpec.post enc Try.prog Try.f4 false true false false) := by
  refine returnsInHanded_of_change (C := Try.checked) own started (by kernel_rfl) Try.func4
    (ChangeSpec.witness6 (enc := enc) (C := Try.checked) false ⟨#[], #[.agg #[.int .i64 0, .int .u64 0], .agg #[.int .i64 0, .int .u64 0], .agg #[.int .i64 0, .int .u64 0]], []⟩ 8 (by kernel_rfl) (by kernel_rfl) (by kernel_rfl) (by kernel_rfl)) ?_
  intro W base args ds gs before hval0 hW hcnd _
  have hval : ∀ (j : Nat) t v, Try.f4.params[j]? = some t → args[j]? = some v → Value.okWide Try.prog W .any base t v := hval0
  have hW' := hW
  obtain ⟨p, q, hA0, hV, rfl, hfz, hnd⟩ := hW
  have hA : DataW.TrodAll enc Try.prog W 0 (fun _ => true) true Try.f4.params.toList args.toList ds p := hA0
  rw [Try.params4] at hA hval
  obtain ⟨v0, v1, v2, d0, d1, d2, p0, p1, p2, rfl, rfl, rfl, h0, h1, h2⟩ := trodAll_three hA
  obtain ⟨rfl, rfl⟩ := trodVars_none hV
  clear hA0 hval0
  refine (wideRing_walk W base v0 v1 v2 (hval 0 25 v0 rfl rfl) (hval 1 25 v1 rfl rfl) (hval 2 25 v2 rfl rfl) h0 h1 h2).mono fun e W' ⟨he, hb⟩ => ?_
  subst he
  exact ⟨_, rfl, law_post laidOut (by kernel_rfl) hW' rfl rfl Try.underlying4 rfl rfl rfl hb⟩

/-- For every input, whatever it is: the call returns true, and each argument reads as it did. -/
theorem wideRing_holds : Rows.WideRingSaid :=
  OpenClaim.holds_of_wide 4 Try.f4 rfl rfl rfl rfl rfl rfl rfl ⟨rfl, rfl, rfl, rfl, rfl⟩ rfl rfl rfl rfl rfl (by kernel_rfl) Try.func4 (by kernel_rfl)
    (of_decide_eq_true (by kernel_rfl)) (by unfold Func.isWrapper; first | (rw [if_pos (by decide +kernel)]; kernel_rfl) | (rw [if_neg (by decide +kernel)]; exact ⟨rfl, rfl⟩))
    (fun os started H enc _ => wideRing_lifted os started H enc)
#print axioms wideRing_holds

end Go.Proofs.Ytedodoaeecbalaa
