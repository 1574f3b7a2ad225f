/-
  Contracts of point.Cmp, point.Less, and of the document's Cmp and In.
-/
import Derived.Test.YthbndilnobjjgaaTurnC
namespace Go.Proofs.Ythbndilnobjjgaa
open Go.RowKit

/-- The order of two points: by X, then by Y. -/
def ptCmp (ax ay bx by_ : Int) : Int := if ax < bx ∨ (ax = bx ∧ ay < by_) then -1 else if ax = bx ∧ ay = by_ then 0 else 1
theorem ptCmp_bd (ax ay bx by_ : Int) : -1 ≤ ptCmp ax ay bx by_ ∧ ptCmp ax ay bx by_ ≤ 1 := by unfold ptCmp; (repeat' split) <;> omega

theorem ptCmp_or (ax ay bx by_ : Int) : (if cmpI ax bx = 0 then cmpI ay by_ else cmpI ax bx) = ptCmp ax ay bx by_ := by
  unfold ptCmp cmpI
  (repeat' split) <;> omega
theorem ret_cmp {a b : Int} (h : a = b) : Ending.returned (.int .i64 a) = .returned (.int .i64 b) := by rw [h]

set_option maxHeartbeats 1000000 in
set_option maxRecDepth 100000 in
theorem pcmp_any (ax ay bx by_ : Int) (w : World) :
    Calls Try.prog 56 #[(Value.agg #[.int .i32 (ax), .int .i32 (ay)]), (Value.agg #[.int .i32 (bx), .int .i32 (by_)])] w fun e w' => e = .returned (.int .i64 (ptCmp ax ay bx by_)) ∧ Below w.heap.size w w' := by
  have H5 := Lib.hid compare_int32
  have h6 := fun (b : Nat) (W : World) => or_two (cmpI ax bx) (cmpI ay by_) b W
  rw [ptCmp_or] at h6
  have H6 := Lib.hid h6
  clear h6
  rcases Decidable.em (ax = bx) with h | h
  · subst h
    rcases Decidable.em (ay = by_) with h | h
    · subst h
      rw [show ptCmp ax ay ax ay = 0 by unfold ptCmp; simp]
      go_enter Try.func56, Try.ntmps56
      go_wp2_with fail
      go_returns
      exact ⟨rfl, by go_grown⟩
    · go_enter Try.func56, Try.ntmps56
      go_wp2_with fail
      refine wp_gen (fun Qw1 hW0 => ?_)
      have hB_Qw1 : Below w.heap.size w Qw1 := by rw [hW0]; go_grown
      have hs_Qw1_0 : w.heap.size < Qw1.heap.size := by rw [hW0]; first | omega | (simp; done) | (simp; omega)
      have hs_Qw1_1 : w.heap.size + 1 < Qw1.heap.size := by rw [hW0]; first | omega | (simp; done) | (simp; omega)
      have hg_Qw1_0 : Qw1.cell? ⟨w.heap.size, 0, none⟩ = some (.int .i32 ax) := by rw [hW0]; first | (go_simp; done) | (simp [*]; done)
      have hg_Qw1_1 : Qw1.cell? ⟨w.heap.size, 1, none⟩ = some (.int .i32 ay) := by rw [hW0]; first | (go_simp; done) | (simp [*]; done)
      have hg_Qw1_2 : Qw1.cell? ⟨w.heap.size + 1, 0, none⟩ = some (.int .i32 ax) := by rw [hW0]; first | (go_simp; done) | (simp [*]; done)
      have hg_Qw1_3 : Qw1.cell? ⟨w.heap.size + 1, 1, none⟩ = some (.int .i32 by_) := by rw [hW0]; first | (go_simp; done) | (simp [*]; done)
      clear hW0
      have hq_Qw1 := @wd_cell Qw1
      refine wp_region_wd_tail 10 (by kernel_rfl) (by kernel_rfl) ?_
      simp only [List.take_succ_cons, List.take_zero, List.drop_succ_cons, List.drop_zero]
      repeat (go_big_quiet_step ((first | (go_at_call 74; with_reducible exact quiet_wd_same (H5.out _ _ _)))))
      refine wpQuiet_nil ?_
      rintro w1 ⟨⟨wx, hb_w1⟩, hwx⟩
      obtain rfl : w1 = wx := hwx
      clear hq_Qw1
      obtain ⟨hc_w1, hf_w1⟩ := bcell hb_w1
      have hB_w1 : Below w.heap.size w w1 := Below.trans (by go_grown) (hb_w1.mono (by go_size))
      have hs_w1_0 : w.heap.size < w1.heap.size := Nat.lt_of_lt_of_le hs_Qw1_0 hb_w1.size
      have hs_w1_1 : w.heap.size + 1 < w1.heap.size := Nat.lt_of_lt_of_le hs_Qw1_1 hb_w1.size
      go_wp2_with fail
      refine (H6.out w1.heap.size _ (by go_size) (by go_simp) (by go_simp)).mono ?_
      rintro e w2 ⟨rfl, hb_w2⟩
      obtain ⟨hc_w2, hf_w2⟩ := bcell hb_w2
      have hz_w2 := hb_w2.size
      try simp at hz_w2
      have hB_w2 : Below w.heap.size w w2 := Below.trans (by go_grown) (hb_w2.mono (by go_size))
      go_wp2_with fail
      refine bodyPost_ret (by simp [results, Try.results56, go_sem, *]; try rfl) rfl ?_
      exact ⟨rfl, by go_grown⟩
  · go_enter Try.func56, Try.ntmps56
    go_wp2_with fail
    refine wp_gen (fun Qw1 hW0 => ?_)
    have hB_Qw1 : Below w.heap.size w Qw1 := by rw [hW0]; go_grown
    have hs_Qw1_0 : w.heap.size < Qw1.heap.size := by rw [hW0]; first | omega | (simp; done) | (simp; omega)
    have hs_Qw1_1 : w.heap.size + 1 < Qw1.heap.size := by rw [hW0]; first | omega | (simp; done) | (simp; omega)
    have hg_Qw1_0 : Qw1.cell? ⟨w.heap.size, 0, none⟩ = some (.int .i32 ax) := by rw [hW0]; first | (go_simp; done) | (simp [*]; done)
    have hg_Qw1_1 : Qw1.cell? ⟨w.heap.size, 1, none⟩ = some (.int .i32 ay) := by rw [hW0]; first | (go_simp; done) | (simp [*]; done)
    have hg_Qw1_2 : Qw1.cell? ⟨w.heap.size + 1, 0, none⟩ = some (.int .i32 bx) := by rw [hW0]; first | (go_simp; done) | (simp [*]; done)
    have hg_Qw1_3 : Qw1.cell? ⟨w.heap.size + 1, 1, none⟩ = some (.int .i32 by_) := by rw [hW0]; first | (go_simp; done) | (simp [*]; done)
    clear hW0
    have hq_Qw1 := @wd_cell Qw1
    refine wp_region_wd_tail 10 (by kernel_rfl) (by kernel_rfl) ?_
    simp only [List.take_succ_cons, List.take_zero, List.drop_succ_cons, List.drop_zero]
    repeat (go_big_quiet_step ((first | (go_at_call 74; with_reducible exact quiet_wd_same (H5.out _ _ _)))))
    refine wpQuiet_nil ?_
    rintro w1 ⟨⟨wx, hb_w1⟩, hwx⟩
    obtain rfl : w1 = wx := hwx
    clear hq_Qw1
    obtain ⟨hc_w1, hf_w1⟩ := bcell hb_w1
    have hB_w1 : Below w.heap.size w w1 := Below.trans (by go_grown) (hb_w1.mono (by go_size))
    have hs_w1_0 : w.heap.size < w1.heap.size := Nat.lt_of_lt_of_le hs_Qw1_0 hb_w1.size
    have hs_w1_1 : w.heap.size + 1 < w1.heap.size := Nat.lt_of_lt_of_le hs_Qw1_1 hb_w1.size
    go_wp2_with fail
    refine (H6.out w1.heap.size _ (by go_size) (by go_simp) (by go_simp)).mono ?_
    rintro e w2 ⟨rfl, hb_w2⟩
    obtain ⟨hc_w2, hf_w2⟩ := bcell hb_w2
    have hz_w2 := hb_w2.size
    try simp at hz_w2
    have hB_w2 : Below w.heap.size w w2 := Below.trans (by go_grown) (hb_w2.mono (by go_size))
    go_wp2_with fail
    refine bodyPost_ret (by simp [results, Try.results56, go_sem, *]; try rfl) rfl ?_
    exact ⟨rfl, by go_grown⟩

theorem pless_any (ax ay bx by_ : Int) (w : World) :
    Calls Try.prog 37 #[(Value.agg #[.int .i32 (ax), .int .i32 (ay)]), (Value.agg #[.int .i32 (bx), .int .i32 (by_)])] w fun e w' => e = .returned (.bool (decide (ptCmp ax ay bx by_ < 0))) ∧ Below w.heap.size w w' := by
  have H := Lib.hid (fun W => pcmp_any ax ay bx by_ W)
  go_enter Try.func37, Try.ntmps37
  go_wp2_with fail
  refine (H.out _).mono ?_
  rintro e w1 ⟨rfl, hb_w1⟩
  obtain ⟨hc_w1, hf_w1⟩ := bcell hb_w1
  have hz_w1 := hb_w1.size
  try simp at hz_w1
  have hB_w1 : Below w.heap.size w w1 := Below.trans (by go_grown) (hb_w1.mono (by go_size))
  go_wp2_with fail
  refine bodyPost_ret (by simp [results, Try.results37, go_sem, *]; try rfl) rfl ?_
  exact ⟨rfl, by go_grown⟩

end Go.Proofs.Ythbndilnobjjgaa
