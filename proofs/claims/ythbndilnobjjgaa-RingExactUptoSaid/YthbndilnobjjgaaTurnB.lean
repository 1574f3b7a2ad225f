/-
  More contracts of package point: on a segment, cross product, inner product, half turns, the order of directions, the box around two points.
-/
import Derived.Test.YthbndilnobjjgaaTurn
namespace Go.Proofs.Ythbndilnobjjgaa
open Go.RowKit

def onB (px py ax ay bx by_ : Int) : Bool := hasB (min ax bx) (min ay by_) (max ax bx) (max ay by_) px py && decide (trn ax ay bx by_ px py = 0)

theorem has_ways (a b c d x y : Int) : hasB a b c d x y = true ∨ hasB a b c d x y = false := by cases hasB a b c d x y <;> simp

set_option maxHeartbeats 1000000 in
theorem on_any (px py ax ay bx by_ : Int) (h1 : I32 px) (h2 : I32 py) (h3 : I32 ax) (h4 : I32 ay) (h5 : I32 bx) (h6 : I32 by_) (w : World) :
    Calls Try.prog 52 #[(Value.agg #[.int .i32 (px), .int .i32 (py)]), (Value.agg #[.int .i32 (ax), .int .i32 (ay)]), (Value.agg #[.int .i32 (bx), .int .i32 (by_)])] w fun e w' => e = .returned (.bool (onB px py ax ay bx by_)) ∧ Below w.heap.size w w' := by
  have H1 := Lib.hid (fun W => turn_any ax ay bx by_ px py h3 h4 h5 h6 h1 h2 W)
  clear h1 h2 h3 h4 h5 h6
  have H0 := Lib.hid (fun W => around_any ax ay bx by_ W)
  have h2 := fun W => has_any (min ax bx) (min ay by_) (max ax bx) (max ay by_) px py W
  unfold onB
  rcases has_ways (min ax bx) (min ay by_) (max ax bx) (max ay by_) px py with hh | hh
  all_goals rw [hh]
  all_goals rw [hh] at h2
  all_goals have H2 := Lib.hid h2
  all_goals clear h2 hh
  all_goals
    go_enter Try.func52, Try.ntmps52
    go_wp2_with fail
    refine wp_gen (fun Qw1 hW0 => ?_)
    have hB_Qw1 : Below w.heap.size w Qw1 := by rw [hW0]; go_grown
    have hs_Qw1_0 : w.heap.size < Qw1.heap.size := by rw [hW0]; first | omega | (simp; done) | (simp; omega)
    have hs_Qw1_1 : w.heap.size + 1 < Qw1.heap.size := by rw [hW0]; first | omega | (simp; done) | (simp; omega)
    have hs_Qw1_2 : w.heap.size + 1 + 1 < Qw1.heap.size := by rw [hW0]; first | omega | (simp; done) | (simp; omega)
    have hg_Qw1_0 : Qw1.cell? ⟨w.heap.size, 0, none⟩ = some (.int .i32 px) := by rw [hW0]; first | (go_simp; done) | (simp [*]; done)
    have hg_Qw1_1 : Qw1.cell? ⟨w.heap.size, 1, none⟩ = some (.int .i32 py) := by rw [hW0]; first | (go_simp; done) | (simp [*]; done)
    have hg_Qw1_2 : Qw1.cell? ⟨w.heap.size + 1, 0, none⟩ = some (.int .i32 ax) := by rw [hW0]; first | (go_simp; done) | (simp [*]; done)
    have hg_Qw1_3 : Qw1.cell? ⟨w.heap.size + 1, 1, none⟩ = some (.int .i32 ay) := by rw [hW0]; first | (go_simp; done) | (simp [*]; done)
    have hg_Qw1_4 : Qw1.cell? ⟨w.heap.size + 1 + 1, 0, none⟩ = some (.int .i32 bx) := by rw [hW0]; first | (go_simp; done) | (simp [*]; done)
    have hg_Qw1_5 : Qw1.cell? ⟨w.heap.size + 1 + 1, 1, none⟩ = some (.int .i32 by_) := by rw [hW0]; first | (go_simp; done) | (simp [*]; done)
    clear hW0
    have hq_Qw1 := @wd_cell Qw1
    refine wp_region_wd (by kernel_rfl) (by kernel_rfl) ?_
    repeat (go_big_quiet_step ((first | (go_at_call 65; with_reducible exact quiet_wd (H0.out _)) | (go_at_call 64; with_reducible exact quiet_wd (H2.out _)) | (go_at_call 35; with_reducible exact quiet_wd (H1.out _)))))
    refine wpQuiet_nil ?_
    rintro w1 ⟨⟨wx, hb_w1⟩, hwx⟩
    obtain rfl : w1 = wx := hwx
    clear hq_Qw1
    obtain ⟨hc_w1, hf_w1⟩ := bcell hb_w1
    have hB_w1 : Below w.heap.size w w1 := Below.trans (by go_grown) (hb_w1.mono (by go_size))
    have hs_w1_0 : w.heap.size < w1.heap.size := Nat.lt_of_lt_of_le hs_Qw1_0 hb_w1.size
    have hs_w1_1 : w.heap.size + 1 < w1.heap.size := Nat.lt_of_lt_of_le hs_Qw1_1 hb_w1.size
    have hs_w1_2 : w.heap.size + 1 + 1 < w1.heap.size := Nat.lt_of_lt_of_le hs_Qw1_2 hb_w1.size
    go_wp2_with fail
    refine bodyPost_ret (by simp [results, Try.results52, go_sem, *]; try rfl) rfl ?_
    exact ⟨ret_bool (by rfl), by go_grown⟩

end Go.Proofs.Ythbndilnobjjgaa
