/-
  More contracts of package point: on a segment, cross product, inner product, half turns, the order of directions, the box around two points.
-/
import Derived.Test.YtcpojadinkonnaaTurn
namespace Go.Proofs.Ytcpojadinkonnaa
open Go.RowKit

def onB (px py ax ay bx by_ : Int) : Bool := hasB (min ax bx) (min ay by_) (max ax bx) (max ay by_) px py && decide (trn ax ay bx by_ px py = 0)

theorem has_ways (a b c d x y : Int) : hasB a b c d x y = true ∨ hasB a b c d x y = false := by cases hasB a b c d x y <;> simp

set_option maxHeartbeats 1000000 in
theorem on_any (px py ax ay bx by_ : Int) (h1 : I32 px) (h2 : I32 py) (h3 : I32 ax) (h4 : I32 ay) (h5 : I32 bx) (h6 : I32 by_) (w : World) :
    Calls Try.prog 46 #[(Value.agg #[.int .i32 (px), .int .i32 (py)]), (Value.agg #[.int .i32 (ax), .int .i32 (ay)]), (Value.agg #[.int .i32 (bx), .int .i32 (by_)])] w fun e w' => e = .returned (.bool (onB px py ax ay bx by_)) ∧ Below w.heap.size w w' := by
  have H1 := Lib.hid (fun W => turn_any ax ay bx by_ px py h3 h4 h5 h6 h1 h2 W)
  clear h1 h2 h3 h4 h5 h6
  have H0 := Lib.hid (fun W => around_any ax ay bx by_ W)
  have h2 := fun W => has_any (min ax bx) (min ay by_) (max ax bx) (max ay by_) px py W
  unfold onB
  rcases has_ways (min ax bx) (min ay by_) (max ax bx) (max ay by_) px py with hh | hh
  all_goals rw [hh]
  all_goals rw [hh] at h2
  all_goals have H2 := Lib.hid h2
  all_goals clear h2 hh
  all_goals
    go_enter Try.func46, Try.ntmps46
    go_wp2_with fail
    refine wp_gen (fun Qw1 hW0 => ?_)
    have hB_Qw1 : Below w.heap.size w Qw1 := by rw [hW0]; go_grown
    have hs_Qw1_0 : w.heap.size < Qw1.heap.size := by rw [hW0]; first | omega | (simp; done) | (simp; omega)
    have hs_Qw1_1 : w.heap.size + 1 < Qw1.heap.size := by rw [hW0]; first | omega | (simp; done) | (simp; omega)
    have hs_Qw1_2 : w.heap.size + 1 + 1 < Qw1.heap.size := by rw [hW0]; first | omega | (simp; done) | (simp; omega)
    have hg_Qw1_0 : Qw1.cell? ⟨w.heap.size, 0, none⟩ = some (.int .i32 px) := by rw [hW0]; first | (go_simp; done) | (simp [*]; done)
    have hg_Qw1_1 : Qw1.cell? ⟨w.heap.size, 1, none⟩ = some (.int .i32 py) := by rw [hW0]; first | (go_simp; done) | (simp [*]; done)
    have hg_Qw1_2 : Qw1.cell? ⟨w.heap.size + 1, 0, none⟩ = some (.int .i32 ax) := by rw [hW0]; first | (go_simp; done) | (simp [*]; done)
    have hg_Qw1_3 : Qw1.cell? ⟨w.heap.size + 1, 1, none⟩ = some (.int .i32 ay) := by rw [hW0]; first | (go_simp; done) | (simp [*]; done)
    have hg_Qw1_4 : Qw1.cell? ⟨w.heap.size + 1 + 1, 0, none⟩ = some (.int .i32 bx) := by rw [hW0]; first | (go_simp; done) | (simp [*]; done)
    have hg_Qw1_5 : Qw1.cell? ⟨w.heap.size + 1 + 1, 1, none⟩ = some (.int .i32 by_) := by rw [hW0]; first | (go_simp; done) | (simp [*]; done)
    clear hW0
    have hq_Qw1 := @wd_cell Qw1
    refine wp_region_wd (by kernel_rfl) (by kernel_rfl) ?_
    repeat (go_big_quiet_step ((first | (go_at_call 72; with_reducible exact quiet_wd (H0.out _)) | (go_at_call 71; with_reducible exact quiet_wd (H2.out _)) | (go_at_call 47; with_reducible exact quiet_wd (H1.out _)))))
    refine wpQuiet_nil ?_
    rintro w1 ⟨⟨wx, hb_w1⟩, hwx⟩
    obtain rfl : w1 = wx := hwx
    clear hq_Qw1
    obtain ⟨hc_w1, hf_w1⟩ := bcell hb_w1
    have hB_w1 : Below w.heap.size w w1 := Below.trans (by go_grown) (hb_w1.mono (by go_size))
    have hs_w1_0 : w.heap.size < w1.heap.size := Nat.lt_of_lt_of_le hs_Qw1_0 hb_w1.size
    have hs_w1_1 : w.heap.size + 1 < w1.heap.size := Nat.lt_of_lt_of_le hs_Qw1_1 hb_w1.size
    have hs_w1_2 : w.heap.size + 1 + 1 < w1.heap.size := Nat.lt_of_lt_of_le hs_Qw1_2 hb_w1.size
    go_wp2_with fail
    refine bodyPost_ret (by simp [results, Try.results46, go_sem, *]; try rfl) rfl ?_
    exact ⟨ret_bool (by rfl), by go_grown⟩

theorem cross_any (ox oy ax ay bx by_ : Int) (h1 : I32 ox) (h2 : I32 oy) (h3 : I32 ax) (h4 : I32 ay) (h5 : I32 bx) (h6 : I32 by_) (w : World) :
    Calls Try.prog 62 #[(Value.agg #[.int .i32 (ox), .int .i32 (oy)]), (Value.agg #[.int .i32 (ax), .int .i32 (ay)]), (Value.agg #[.int .i32 (bx), .int .i32 (by_)])] w fun e w' => e = .returned (.int .i64 (wrap64 (crs ox oy ax ay bx by_))) ∧ Below w.heap.size w w' := by
  have H1 := Lib.hid (fun W => from_any ox oy ax ay h1 h2 h3 h4 W)
  have H2 := Lib.hid (fun W => from_any ox oy bx by_ h1 h2 h5 h6 W)
  clear h1 h2 h3 h4 h5 h6
  go_enter Try.func62, Try.ntmps62
  go_wp2_with fail
  refine (H1.out _).mono ?_
  rintro e w1 ⟨rfl, hb_w1⟩
  obtain ⟨hc_w1, hf_w1⟩ := bcell hb_w1
  have hz_w1 := hb_w1.size
  try simp at hz_w1
  have hB_w1 : Below w.heap.size w w1 := Below.trans (by go_grown) (hb_w1.mono (by go_size))
  go_wp2_with fail
  refine (H2.out _).mono ?_
  rintro e w2 ⟨rfl, hb_w2⟩
  obtain ⟨hc_w2, hf_w2⟩ := bcell hb_w2
  have hz_w2 := hb_w2.size
  try simp at hz_w2
  have hB_w2 : Below w.heap.size w w2 := Below.trans (by go_grown) (hb_w2.mono (by go_size))
  go_wp2_with fail
  refine bodyPost_ret (by simp [results, Try.results62, go_sem, *]; try rfl) rfl ?_
  exact ⟨ret_intw (by unfold crs; unfold wrap64; omega), by go_grown⟩

theorem dot_any (ox oy ax ay bx by_ : Int) (h1 : I32 ox) (h2 : I32 oy) (h3 : I32 ax) (h4 : I32 ay) (h5 : I32 bx) (h6 : I32 by_) (w : World) :
    Calls Try.prog 61 #[(Value.agg #[.int .i32 (ox), .int .i32 (oy)]), (Value.agg #[.int .i32 (ax), .int .i32 (ay)]), (Value.agg #[.int .i32 (bx), .int .i32 (by_)])] w fun e w' => e = .returned (.int .i64 (wrap64 ((ax - ox) * (bx - ox) + (ay - oy) * (by_ - oy)))) ∧ Below w.heap.size w w' := by
  have H1 := Lib.hid (fun W => from_any ox oy ax ay h1 h2 h3 h4 W)
  have H2 := Lib.hid (fun W => from_any ox oy bx by_ h1 h2 h5 h6 W)
  clear h1 h2 h3 h4 h5 h6
  go_enter Try.func61, Try.ntmps61
  go_wp2_with fail
  refine (H1.out _).mono ?_
  rintro e w1 ⟨rfl, hb_w1⟩
  obtain ⟨hc_w1, hf_w1⟩ := bcell hb_w1
  have hz_w1 := hb_w1.size
  try simp at hz_w1
  have hB_w1 : Below w.heap.size w w1 := Below.trans (by go_grown) (hb_w1.mono (by go_size))
  go_wp2_with fail
  refine (H2.out _).mono ?_
  rintro e w2 ⟨rfl, hb_w2⟩
  obtain ⟨hc_w2, hf_w2⟩ := bcell hb_w2
  have hz_w2 := hb_w2.size
  try simp at hz_w2
  have hB_w2 : Below w.heap.size w w2 := Below.trans (by go_grown) (hb_w2.mono (by go_size))
  go_wp2_with fail
  refine bodyPost_ret (by simp [results, Try.results61, go_sem, *]; try rfl) rfl ?_
  exact ⟨ret_intw (by unfold wrap64; omega), by go_grown⟩

theorem dist_any (ax ay bx by_ : Int) (h3 : I32 ax) (h4 : I32 ay) (h5 : I32 bx) (h6 : I32 by_) (w : World) :
    Calls Try.prog 52 #[(Value.agg #[.int .i32 (ax), .int .i32 (ay)]), (Value.agg #[.int .i32 (bx), .int .i32 (by_)])] w fun e w' => e = .returned (.int .i64 (wrap64 ((bx - ax) * (bx - ax) + (by_ - ay) * (by_ - ay)))) ∧ Below w.heap.size w w' := by
  have H1 := Lib.hid (fun W => dot_any ax ay bx by_ bx by_ h3 h4 h5 h6 h5 h6 W)
  clear h3 h4 h5 h6
  go_enter Try.func52, Try.ntmps52
  go_wp2_with fail
  refine (H1.out _).mono ?_
  rintro e w1 ⟨rfl, hb_w1⟩
  obtain ⟨hc_w1, hf_w1⟩ := bcell hb_w1
  have hz_w1 := hb_w1.size
  try simp at hz_w1
  have hB_w1 : Below w.heap.size w w1 := Below.trans (by go_grown) (hb_w1.mono (by go_size))
  go_wp2_with fail
  refine bodyPost_ret (by simp [results, Try.results52, go_sem, *]; try rfl) rfl ?_
  exact ⟨rfl, by go_grown⟩

end Go.Proofs.Ytcpojadinkonnaa
