/-
  Package seg: Meet.
-/
import Derived.Test.YthbndilnobjjgaaSegC
import Derived.Test.YthbndilnobjjgaaFresh
import Derived.Test.YthbndilnobjjgaaTail
namespace Go.Proofs.Ythbndilnobjjgaa
open Go.RowKit

def four (a b c d : Pt) : Nat → Pt
  | 0 => a
  | 1 => b
  | 2 => c
  | _ => d
theorem four_all (a b c d : Pt) : ((List.range 4).all fun j => inP (four a b c d j)) = (inP a && inP b && inP c && inP d) := by
  rw [show List.range 4 = [0, 1, 2, 3] from rfl]
  simp only [List.all_cons, List.all_nil, four, Bool.and_true, Bool.and_assoc]
theorem lattice4 (g : Nat) (a b c d : Pt) (W : World) (h : Var W g 28 #[.int .i32 a.1, .int .i32 a.2, .int .i32 b.1, .int .i32 b.2, .int .i32 c.1, .int .i32 c.2, .int .i32 d.1, .int .i32 d.2]) :
    Calls Try.prog 66 #[.slice (some ⟨g, 0, none⟩) 4 4] W fun e w' => e = .returned (.bool (inP a && inP b && inP c && inP d)) ∧ Below W.heap.size W w' := by
  rw [← four_all]
  refine lattice_any g 4 4 (four a b c d) (by decide) W h.lt (fun j hj => ?_)
  match j, hj with
  | 0, _ => exact ⟨h.cell 0, h.cell 1⟩
  | 1, _ => exact ⟨h.cell 2, h.cell 3⟩
  | 2, _ => exact ⟨h.cell 4, h.cell 5⟩
  | 3, _ => exact ⟨h.cell 6, h.cell 7⟩

theorem dv_sb {p q : Pt} (hp : inP p = true) (hq : inP q = true) : DvS (sb p q) := by
  unfold inP at hp hq
  rw [decide_eq_true_eq] at hp hq
  unfold DvS sb
  simp only
  omega
theorem i32_in {p : Pt} (hp : inP p = true) : I32 p.1 ∧ I32 p.2 := by
  unfold inP at hp
  rw [decide_eq_true_eq] at hp
  unfold I32
  omega

theorem cr_bd {u v : Pt} (hu : DvS u) (hv : DvS v) : -9223372036854775807 ≤ cr u v ∧ cr u v ≤ 9223372036854775807 := by
  have b1 := pr_bd hu.1 hv.2
  have b2 := pr_bd hu.2 hv.1
  unfold cr
  omega
theorem dt_bd {u v : Pt} (hu : DvS u) (hv : DvS v) : -9223372036854775807 ≤ dt u v ∧ dt u v ≤ 9223372036854775807 := by
  have b1 := pr_bd hu.1 hv.1
  have b2 := pr_bd hu.2 hv.2
  unfold dt
  omega
theorem dt_pos {u : Pt} (h : ¬ (u.1 = 0 ∧ u.2 = 0)) : 0 < dt u u := by
  unfold dt
  have sq : ∀ z : Int, 0 ≤ z * z ∧ (z ≠ 0 → 0 < z * z) := fun z => by
    refine ⟨?_, fun hz => ?_⟩
    · rcases Int.le_total 0 z with h1 | h1
      · exact Int.mul_nonneg h1 h1
      · have := Int.mul_nonneg (show 0 ≤ -z by omega) (show 0 ≤ -z by omega)
        rw [Int.neg_mul_neg] at this
        exact this
    · rcases Int.lt_or_gt_of_ne hz with h1 | h1
      · have := Int.mul_pos (show 0 < -z by omega) (show 0 < -z by omega)
        rw [Int.neg_mul_neg] at this
        exact this
      · exact Int.mul_pos h1 h1
  have p1 := sq u.1
  have p2 := sq u.2
  rcases Decidable.em (u.1 = 0) with h1 | h1
  · have := p2.2 (fun e => h ⟨h1, e⟩)
    omega
  · have := p1.2 h1
    omega

set_option maxRecDepth 100000 in
set_option maxHeartbeats 800000 in
theorem segMeet_out (a b c d : Pt) (hl : (inP a && inP b && inP c && inP d) = false) (w : World) :
    Calls Try.prog 53 #[.agg #[.int .i32 a.1, .int .i32 a.2], .agg #[.int .i32 b.1, .int .i32 b.2], .agg #[.int .i32 c.1, .int .i32 c.2], .agg #[.int .i32 d.1, .int .i32 d.2]] w fun e w' => e = .returned (.agg #[.int .u8 (meet a b c d).k, .bool (meet a b c d).inn, .int .i64 (meet a b c d).f.1, .int .i64 (meet a b c d).f.2, .int .i64 (meet a b c d).t.1, .int .i64 (meet a b c d).t.2]) ∧ Below w.heap.size w w' := by
  have HL := Lib.hid (fun g W h => lattice4 g a b c d W h)
  unfold meet
  rw [hl, if_neg Bool.false_ne_true]
  rw [hl] at HL
  clear hl
  go_enter Try.func53, Try.ntmps53
  go_wp2_with fail
  refine (HL.out _ _ (Var.new' _ _ _ (by simp))).mono ?_
  rintro e w1 ⟨rfl, hb_w1⟩
  obtain ⟨hc_w1, hf_w1⟩ := bcell hb_w1
  have hz_w1 := hb_w1.size
  try simp at hz_w1
  have hB_w1 : Below w.heap.size w w1 := Below.trans (by go_grown) (hb_w1.mono (by go_size))
  have hs_w1_0 : w.heap.size < w1.heap.size := by omega
  have hs_w1_1 : w.heap.size + 1 < w1.heap.size := by omega
  have hs_w1_2 : w.heap.size + 1 + 1 < w1.heap.size := by omega
  have hs_w1_3 : w.heap.size + 1 + 1 + 1 < w1.heap.size := by omega
  have hs_w1_4 : w.heap.size + 1 + 1 + 1 + 1 < w1.heap.size := by omega
  have vR : Var w1 (w.heap.size + 1 + 1 + 1 + 1) 77 #[.int .u8 0, .bool false, .int .i64 0, .int .i64 0, .int .i64 0, .int .i64 0] := ((Var.new' _ _ _ (by simp)).alloc _).keep hb_w1
  clear hc_w1 hf_w1
  go_wp2_with (refine wpList_store6 rfl 77 (.tmp 8) (.tmp 22) rfl (w.heap.size + 1 + 1 + 1 + 1) _ _ _ _ _ _ rfl rfl _ _ _ _ _ _ vR (by kernel_rfl) (six_cells rfl rfl rfl rfl rfl rfl) ?_; intro wS vM hbM hsM; obtain ⟨m0, m1, m2, m3, m4, m5⟩ := var6 vM)
  refine bodyPost_ret (by simp [results, Try.results53, go_sem, *]; try rfl) rfl ?_
  exact ⟨rfl, Below.trans (by go_grown) (hbM.mono (by omega))⟩


end Go.Proofs.Ythbndilnobjjgaa
