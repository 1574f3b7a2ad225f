/-
  The laws' helpers of chapter 05: at, In, less, lives.
-/
import Derived.Test.YtpjgghakeaajbaaSegH
namespace Go.Proofs.Ytpjgghakeaajbaa
open Go.RowKit

theorem at_any (x y : Int) (w : World) :
    Calls Try.prog 36 #[.int .i32 x, .int .i32 y] w fun e w' => e = .returned (.agg #[.int .i32 x, .int .i32 y]) ∧ Below w.heap.size w w' := by
  go_enter Try.func36, Try.ntmps36
  go_wp2_with fail
  refine bodyPost_ret (by simp [results, Try.results36, go_sem, *]; try rfl) rfl ?_
  exact ⟨rfl, by go_grown⟩

theorem rin_any (p : Pt) (w : World) : Calls Try.prog 14 #[.agg #[.int .i32 p.1, .int .i32 p.2]] w fun e w' => e = .returned (.bool (inP p)) ∧ Below w.heap.size w w' := by
  go_enter Try.func14, Try.ntmps14
  go_wp2
  all_goals
    go_ret
    exact ⟨ret_in (by unfold inP; rw [Bool.eq_iff_iff]; simp; try omega), by go_grown⟩

theorem less_any (n d : Int) (w : World) :
    Calls Try.prog 11 #[.agg #[.int .i64 n, .int .i64 d]] w fun e w' => e = .returned (.agg #[.int .i64 (wrap64 (d - n)), .int .i64 d]) ∧ Below w.heap.size w w' := by
  go_enter Try.func11, Try.ntmps11
  go_wp2_with fail
  refine bodyPost_ret (by simp [results, Try.results11, go_sem, *]; try rfl) rfl ?_
  exact ⟨rfl, by go_grown⟩

theorem meet_lives : meet (0, 0) (4, 4) (0, 4) (4, 0) = ⟨1, true, (1, 2), (1, 2)⟩ := by rfl
theorem near_lives4 : near (0, 5) (-3, 1) (3, 1) 4 = true := by decide
theorem near_lives3 : near (0, 5) (-3, 1) (3, 1) 3 = false := by decide

set_option maxRecDepth 100000 in
set_option maxHeartbeats 800000 in
theorem lives_of (H : MeetSays) (w : World) : Calls Try.prog 10 #[] w fun e w' => e = .returned (.bool true) ∧ Below w.heap.size w w' := by
  have h := fun W => H (0, 0) (4, 4) (0, 4) (4, 0) W
  rw [meet_lives] at h
  have HM := Lib.hid h
  have h4 := fun W => near_any (0, 5) (-3, 1) (3, 1) 4 (by unfold I64; omega) W
  rw [near_lives4] at h4
  have H4 := Lib.hid h4
  have h3 := fun W => near_any (0, 5) (-3, 1) (3, 1) 3 (by unfold I64; omega) W
  rw [near_lives3] at h3
  have H3 := Lib.hid h3
  clear h h3 h4 H
  go_enter Try.func10, Try.ntmps10
  go_wp2_with fail
  refine (at_any _ _ _).mono ?_
  rintro e w1 ⟨rfl, hb_w1⟩
  obtain ⟨hc_w1, hf_w1⟩ := bcell hb_w1
  have hz_w1 := hb_w1.size
  try simp at hz_w1
  have hB_w1 : Below w.heap.size w w1 := Below.trans (by go_grown) (hb_w1.mono (by go_size))
  go_wp2_with fail
  refine (at_any _ _ _).mono ?_
  rintro e w2 ⟨rfl, hb_w2⟩
  obtain ⟨hc_w2, hf_w2⟩ := bcell hb_w2
  have hz_w2 := hb_w2.size
  try simp at hz_w2
  have hB_w2 : Below w.heap.size w w2 := Below.trans (by go_grown) (hb_w2.mono (by go_size))
  go_wp2_with fail
  refine (at_any _ _ _).mono ?_
  rintro e w3 ⟨rfl, hb_w3⟩
  obtain ⟨hc_w3, hf_w3⟩ := bcell hb_w3
  have hz_w3 := hb_w3.size
  try simp at hz_w3
  have hB_w3 : Below w.heap.size w w3 := Below.trans (by go_grown) (hb_w3.mono (by go_size))
  go_wp2_with fail
  refine (at_any _ _ _).mono ?_
  rintro e w4 ⟨rfl, hb_w4⟩
  obtain ⟨hc_w4, hf_w4⟩ := bcell hb_w4
  have hz_w4 := hb_w4.size
  try simp at hz_w4
  have hB_w4 : Below w.heap.size w w4 := Below.trans (by go_grown) (hb_w4.mono (by go_size))
  go_wp2_with fail
  refine (HM.out _).mono ?_
  rintro e w5 ⟨rfl, hb_w5⟩
  obtain ⟨hc_w5, hf_w5⟩ := bcell hb_w5
  have hz_w5 := hb_w5.size
  try simp at hz_w5
  have hB_w5 : Below w.heap.size w w5 := Below.trans (by go_grown) (hb_w5.mono (by go_size))
  go_wp2_with fail
  refine (at_any _ _ _).mono ?_
  rintro e w6 ⟨rfl, hb_w6⟩
  obtain ⟨hc_w6, hf_w6⟩ := bcell hb_w6
  have hz_w6 := hb_w6.size
  try simp at hz_w6
  have hB_w6 : Below w.heap.size w w6 := Below.trans (by go_grown) (hb_w6.mono (by go_size))
  go_wp2_with fail
  refine (at_any _ _ _).mono ?_
  rintro e w7 ⟨rfl, hb_w7⟩
  obtain ⟨hc_w7, hf_w7⟩ := bcell hb_w7
  have hz_w7 := hb_w7.size
  try simp at hz_w7
  have hB_w7 : Below w.heap.size w w7 := Below.trans (by go_grown) (hb_w7.mono (by go_size))
  go_wp2_with fail
  refine (at_any _ _ _).mono ?_
  rintro e w8 ⟨rfl, hb_w8⟩
  obtain ⟨hc_w8, hf_w8⟩ := bcell hb_w8
  have hz_w8 := hb_w8.size
  try simp at hz_w8
  have hB_w8 : Below w.heap.size w w8 := Below.trans (by go_grown) (hb_w8.mono (by go_size))
  go_wp2_with fail
  refine (H4.out _).mono ?_
  rintro e w9 ⟨rfl, hb_w9⟩
  obtain ⟨hc_w9, hf_w9⟩ := bcell hb_w9
  have hz_w9 := hb_w9.size
  try simp at hz_w9
  have hB_w9 : Below w.heap.size w w9 := Below.trans (by go_grown) (hb_w9.mono (by go_size))
  go_wp2_with fail
  refine (at_any _ _ _).mono ?_
  rintro e w10 ⟨rfl, hb_w10⟩
  obtain ⟨hc_w10, hf_w10⟩ := bcell hb_w10
  have hz_w10 := hb_w10.size
  try simp at hz_w10
  have hB_w10 : Below w.heap.size w w10 := Below.trans (by go_grown) (hb_w10.mono (by go_size))
  go_wp2_with fail
  refine (at_any _ _ _).mono ?_
  rintro e w11 ⟨rfl, hb_w11⟩
  obtain ⟨hc_w11, hf_w11⟩ := bcell hb_w11
  have hz_w11 := hb_w11.size
  try simp at hz_w11
  have hB_w11 : Below w.heap.size w w11 := Below.trans (by go_grown) (hb_w11.mono (by go_size))
  go_wp2_with fail
  refine (at_any _ _ _).mono ?_
  rintro e w12 ⟨rfl, hb_w12⟩
  obtain ⟨hc_w12, hf_w12⟩ := bcell hb_w12
  have hz_w12 := hb_w12.size
  try simp at hz_w12
  have hB_w12 : Below w.heap.size w w12 := Below.trans (by go_grown) (hb_w12.mono (by go_size))
  go_wp2_with fail
  refine (H3.out _).mono ?_
  rintro e w13 ⟨rfl, hb_w13⟩
  obtain ⟨hc_w13, hf_w13⟩ := bcell hb_w13
  have hz_w13 := hb_w13.size
  try simp at hz_w13
  have hB_w13 : Below w.heap.size w w13 := Below.trans (by go_grown) (hb_w13.mono (by go_size))
  go_wp2_with fail
  refine bodyPost_ret (by simp [results, Try.results10, go_sem, *]; try rfl) rfl ?_
  exact ⟨rfl, by go_grown⟩

end Go.Proofs.Ytpjgghakeaajbaa
