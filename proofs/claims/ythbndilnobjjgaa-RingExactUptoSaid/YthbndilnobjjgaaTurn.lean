/-
  Contracts of package point's functions on turns: what each computes; older memory is left alone.
-/
import Derived.Test.YthbndilnobjjgaaJoin
import Derived.Test.YthbndilnobjjgaaMul
import Derived.Test.YthbndilnobjjgaaTurnMath
namespace Go.Proofs.Ythbndilnobjjgaa
open Go.RowKit

/-- A coordinate. -/
def I32 (a : Int) : Prop := -2147483648 ≤ a ∧ a ≤ 2147483647
theorem d_in {a b : Int} (ha : I32 a) (hb : I32 b) : -4294967295 ≤ a - b ∧ a - b ≤ 4294967295 := by unfold I32 at *; omega
theorem d_64 {a b : Int} (ha : I32 a) (hb : I32 b) : I64 (a - b) := by unfold I64 I32 at *; omega

theorem wrap_sub {a b : Int} (ha : I32 a) (hb : I32 b) : wrap64 (wrap64 a - wrap64 b) = a - b := by unfold I32 at *; unfold wrap64; omega

theorem ret_two {a b c d : Int} (h : a = c) (h' : b = d) : Ending.returned (.tuple #[.int .i64 a, .int .i64 b]) = .returned (.tuple #[.int .i64 c, .int .i64 d]) := by rw [h, h']

theorem from_any (ox oy ax ay : Int) (h1 : I32 ox) (h2 : I32 oy) (h3 : I32 ax) (h4 : I32 ay) (w : World) :
    Calls Try.prog 54 #[(Value.agg #[.int .i32 (ox), .int .i32 (oy)]), (Value.agg #[.int .i32 (ax), .int .i32 (ay)])] w fun e w' => e = .returned (.tuple #[.int .i64 (ax - ox), .int .i64 (ay - oy)]) ∧ Below w.heap.size w w' := by
  have e1 := d_in h3 h1
  have e2 := d_in h4 h2
  go_enter Try.func54, Try.ntmps54
  go_wp2_with fail
  refine wp_gen (fun Qw1 hW0 => ?_)
  have hB_Qw1 : Below w.heap.size w Qw1 := by rw [hW0]; go_grown
  have hs_Qw1_0 : w.heap.size < Qw1.heap.size := by rw [hW0]; first | omega | (simp; done) | (simp; omega)
  have hs_Qw1_1 : w.heap.size + 1 < Qw1.heap.size := by rw [hW0]; first | omega | (simp; done) | (simp; omega)
  have hg_Qw1_0 : Qw1.cell? ⟨w.heap.size, 0, none⟩ = some (.int .i32 ox) := by rw [hW0]; first | (go_simp; done) | (simp [*]; done)
  have hg_Qw1_1 : Qw1.cell? ⟨w.heap.size, 1, none⟩ = some (.int .i32 oy) := by rw [hW0]; first | (go_simp; done) | (simp [*]; done)
  have hg_Qw1_2 : Qw1.cell? ⟨w.heap.size + 1, 0, none⟩ = some (.int .i32 ax) := by rw [hW0]; first | (go_simp; done) | (simp [*]; done)
  have hg_Qw1_3 : Qw1.cell? ⟨w.heap.size + 1, 1, none⟩ = some (.int .i32 ay) := by rw [hW0]; first | (go_simp; done) | (simp [*]; done)
  clear hW0
  have hq_Qw1 := @wd_cell Qw1
  refine wp_region_wd (by kernel_rfl) (by kernel_rfl) ?_
  repeat (go_big_quiet_step ((first | (fail))))
  refine wpQuiet_nil ?_
  rintro w1 ⟨⟨wx, hb_w1⟩, hwx⟩
  obtain rfl : w1 = wx := hwx
  clear hq_Qw1
  obtain ⟨hc_w1, hf_w1⟩ := bcell hb_w1
  have hB_w1 : Below w.heap.size w w1 := Below.trans (by go_grown) (hb_w1.mono (by go_size))
  have hs_w1_0 : w.heap.size < w1.heap.size := Nat.lt_of_lt_of_le hs_Qw1_0 hb_w1.size
  have hs_w1_1 : w.heap.size + 1 < w1.heap.size := Nat.lt_of_lt_of_le hs_Qw1_1 hb_w1.size
  go_wp2_with fail
  go_ret2
  exact ⟨ret_two (wrap_sub h3 h1) (wrap_sub h4 h2), by go_grown⟩

theorem cmpmul_any (a b c d : Int) (ha : I64 a) (hb : I64 b) (hc : I64 c) (hd : I64 d) (w : World) :
    Calls Try.prog 55 #[.int .i64 a, .int .i64 b, .int .i64 c, .int .i64 d] w fun e w' =>
      e = .returned (.int .i64 (cmpI (a * b) (c * d))) ∧ Below w.heap.size w w' := by
  have H1 := Lib.hid (fun W => mul_any a b ha hb W)
  have H2 := Lib.hid (fun W => mul_any c d hc hd W)
  have H3 := Lib.hid (fun W => cmp_any (a * b) (c * d) (mul_in ha hb) (mul_in hc hd) W)
  clear ha hb hc hd
  go_enter Try.func55, Try.ntmps55
  go_wp2_with fail
  refine (H1.out _).mono ?_
  rintro e w1 ⟨rfl, hb_w1⟩
  obtain ⟨hc_w1, hf_w1⟩ := bcell hb_w1
  have hz_w1 := hb_w1.size
  try simp at hz_w1
  have hB_w1 : Below w.heap.size w w1 := Below.trans (by go_grown) (hb_w1.mono (by go_size))
  go_wp2_with fail
  refine (H2.out _).mono ?_
  rintro e w2 ⟨rfl, hb_w2⟩
  obtain ⟨hc_w2, hf_w2⟩ := bcell hb_w2
  have hz_w2 := hb_w2.size
  try simp at hz_w2
  have hB_w2 : Below w.heap.size w w2 := Below.trans (by go_grown) (hb_w2.mono (by go_size))
  go_wp2_with fail
  refine (H3.out _).mono ?_
  rintro e w3 ⟨rfl, hb_w3⟩
  obtain ⟨hc_w3, hf_w3⟩ := bcell hb_w3
  have hz_w3 := hb_w3.size
  try simp at hz_w3
  have hB_w3 : Below w.heap.size w w3 := Below.trans (by go_grown) (hb_w3.mono (by go_size))
  go_wp2_with fail
  refine bodyPost_ret (by simp [results, Try.results55, go_sem, *]; try rfl) rfl ?_
  exact ⟨rfl, by go_grown⟩

theorem turn_any (ox oy ax ay bx by_ : Int) (h1 : I32 ox) (h2 : I32 oy) (h3 : I32 ax) (h4 : I32 ay) (h5 : I32 bx) (h6 : I32 by_) (w : World) :
    Calls Try.prog 35 #[(Value.agg #[.int .i32 (ox), .int .i32 (oy)]), (Value.agg #[.int .i32 (ax), .int .i32 (ay)]), (Value.agg #[.int .i32 (bx), .int .i32 (by_)])] w fun e w' => e = .returned (.int .i64 (trn ox oy ax ay bx by_)) ∧ Below w.heap.size w w' := by
  unfold trn
  have H1 := Lib.hid (fun W => from_any ox oy ax ay h1 h2 h3 h4 W)
  have H2 := Lib.hid (fun W => from_any ox oy bx by_ h1 h2 h5 h6 W)
  have H3 := Lib.hid (fun W => cmpmul_any (ax - ox) (by_ - oy) (ay - oy) (bx - ox) (d_64 h3 h1) (d_64 h6 h2) (d_64 h4 h2) (d_64 h5 h1) W)
  clear h1 h2 h3 h4 h5 h6
  go_enter Try.func35, Try.ntmps35
  go_wp2_with fail
  refine (H1.out _).mono ?_
  rintro e w1 ⟨rfl, hb_w1⟩
  obtain ⟨hc_w1, hf_w1⟩ := bcell hb_w1
  have hz_w1 := hb_w1.size
  try simp at hz_w1
  have hB_w1 : Below w.heap.size w w1 := Below.trans (by go_grown) (hb_w1.mono (by go_size))
  go_wp2_with fail
  refine (H2.out _).mono ?_
  rintro e w2 ⟨rfl, hb_w2⟩
  obtain ⟨hc_w2, hf_w2⟩ := bcell hb_w2
  have hz_w2 := hb_w2.size
  try simp at hz_w2
  have hB_w2 : Below w.heap.size w w2 := Below.trans (by go_grown) (hb_w2.mono (by go_size))
  go_wp2_with fail
  refine (H3.out _).mono ?_
  rintro e w3 ⟨rfl, hb_w3⟩
  obtain ⟨hc_w3, hf_w3⟩ := bcell hb_w3
  have hz_w3 := hb_w3.size
  try simp at hz_w3
  have hB_w3 : Below w.heap.size w w3 := Below.trans (by go_grown) (hb_w3.mono (by go_size))
  go_wp2_with fail
  refine bodyPost_ret (by simp [results, Try.results35, go_sem, *]; try rfl) rfl ?_
  exact ⟨rfl, by go_grown⟩

end Go.Proofs.Ythbndilnobjjgaa
