/-
  Contract of point.Around: the order of directions.
-/
import Derived.Test.YtegblpoamjpdhaaTurnC
import Derived.Test.YtegblpoamjpdhaaTail
namespace Go.Proofs.Ytegblpoamjpdhaa
open Go.RowKit
theorem below_same {w w' : World} (h : w = w') : Below w.heap.size w w' := h ▸ Below.refl _ _
set_option maxHeartbeats 1000000 in
set_option maxRecDepth 100000 in
theorem around_turn (ox oy ax ay bx by_ : Int) (h1 : I32 ox) (h2 : I32 oy) (h3 : I32 ax) (h4 : I32 ay) (h5 : I32 bx) (h6 : I32 by_) (w : World) :
    Calls Try.prog 24 #[(Value.agg #[.int .i32 (ox), .int .i32 (oy)]), (Value.agg #[.int .i32 (ax), .int .i32 (ay)]), (Value.agg #[.int .i32 (bx), .int .i32 (by_)])] w fun e w' => e = .returned (.int .i64 (arn (ax - ox) (ay - oy) (bx - ox) (by_ - oy))) ∧ Below w.heap.size w w' := by
  have H1 := Lib.hid (fun W => from_any ox oy ax ay h1 h2 h3 h4 W)
  have H2 := Lib.hid (fun W => from_any ox oy bx by_ h1 h2 h5 h6 W)
  have H3 := Lib.hid (fun W => turn_any ox oy ax ay bx by_ h1 h2 h3 h4 h5 h6 W)
  have H4 := Lib.hid half_any
  have H5 := Lib.hid compare_int
  have h7 := fun (b : Nat) (W : World) => or_two (cmpI (hf (ax - ox) (ay - oy)) (hf (bx - ox) (by_ - oy))) (wrap64 (-trn ox oy ax ay bx by_)) b W
  rw [arn_trn] at h7
  have H6 := Lib.hid h7
  clear h7
  clear h1 h2 h3 h4 h5 h6
  go_enter Try.func24, Try.ntmps24
  go_wp2_with fail
  refine wp_gen (fun Qw1 hW0 => ?_)
  have hB_Qw1 : Below w.heap.size w Qw1 := by rw [hW0]; go_grown
  have hs_Qw1_0 : w.heap.size < Qw1.heap.size := by rw [hW0]; first | omega | (simp; done) | (simp; omega)
  have hs_Qw1_1 : w.heap.size + 1 < Qw1.heap.size := by rw [hW0]; first | omega | (simp; done) | (simp; omega)
  have hs_Qw1_2 : w.heap.size + 1 + 1 < Qw1.heap.size := by rw [hW0]; first | omega | (simp; done) | (simp; omega)
  have hg_Qw1_0 : Qw1.cell? ⟨w.heap.size, 0, none⟩ = some (.int .i32 ox) := by rw [hW0]; first | (go_simp; done) | (simp [*]; done)
  have hg_Qw1_1 : Qw1.cell? ⟨w.heap.size, 1, none⟩ = some (.int .i32 oy) := by rw [hW0]; first | (go_simp; done) | (simp [*]; done)
  have hg_Qw1_2 : Qw1.cell? ⟨w.heap.size + 1, 0, none⟩ = some (.int .i32 ax) := by rw [hW0]; first | (go_simp; done) | (simp [*]; done)
  have hg_Qw1_3 : Qw1.cell? ⟨w.heap.size + 1, 1, none⟩ = some (.int .i32 ay) := by rw [hW0]; first | (go_simp; done) | (simp [*]; done)
  have hg_Qw1_4 : Qw1.cell? ⟨w.heap.size + 1 + 1, 0, none⟩ = some (.int .i32 bx) := by rw [hW0]; first | (go_simp; done) | (simp [*]; done)
  have hg_Qw1_5 : Qw1.cell? ⟨w.heap.size + 1 + 1, 1, none⟩ = some (.int .i32 by_) := by rw [hW0]; first | (go_simp; done) | (simp [*]; done)
  clear hW0
  have hq_Qw1 := @wd_cell Qw1
  refine wp_region_wd_tail 18 (by kernel_rfl) (by kernel_rfl) ?_
  simp only [List.take_succ_cons, List.take_zero, List.drop_succ_cons, List.drop_zero]
  repeat (go_big_quiet_step ((first | (go_at_call 44; with_reducible exact quiet_wd (H1.out _)) | (go_at_call 44; with_reducible exact quiet_wd (H2.out _)) | (go_at_call 48; with_reducible exact quiet_wd_same (H4.out _ _ _)) | (go_at_call 47; with_reducible exact quiet_wd_same (H5.out _ _ _)) | (go_at_call 18; with_reducible exact quiet_wd (H3.out _)))))
  refine wpQuiet_nil ?_
  rintro w1 ⟨⟨wx, hb_w1⟩, hwx⟩
  obtain rfl : w1 = wx := hwx
  clear hq_Qw1
  obtain ⟨hc_w1, hf_w1⟩ := bcell hb_w1
  have hB_w1 : Below w.heap.size w w1 := Below.trans (by go_grown) (hb_w1.mono (by go_size))
  have hs_w1_0 : w.heap.size < w1.heap.size := Nat.lt_of_lt_of_le hs_Qw1_0 hb_w1.size
  have hs_w1_1 : w.heap.size + 1 < w1.heap.size := Nat.lt_of_lt_of_le hs_Qw1_1 hb_w1.size
  have hs_w1_2 : w.heap.size + 1 + 1 < w1.heap.size := Nat.lt_of_lt_of_le hs_Qw1_2 hb_w1.size
  go_wp2_with fail
  refine (H6.out w1.heap.size _ (by go_size) (by go_simp) (by go_simp)).mono ?_
  rintro e w2 ⟨rfl, hb_w2⟩
  obtain ⟨hc_w2, hf_w2⟩ := bcell hb_w2
  have hz_w2 := hb_w2.size
  try simp at hz_w2
  have hB_w2 : Below w.heap.size w w2 := Below.trans (by go_grown) (hb_w2.mono (by go_size))
  go_wp2_with fail
  refine bodyPost_ret (by simp [results, Try.results24, go_sem, *]; try rfl) rfl ?_
  exact ⟨rfl, by go_grown⟩

end Go.Proofs.Ytegblpoamjpdhaa
