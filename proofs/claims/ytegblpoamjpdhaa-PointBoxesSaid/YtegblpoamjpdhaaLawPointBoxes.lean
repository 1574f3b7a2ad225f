/-
  Proved: the law PointBoxes returns true for any two boxes and any point. No condition.
-/
import Derived.Test.YtegblpoamjpdhaaJoinRef
import Derived.Lib.SmallJoins
namespace Go.Proofs.Ytegblpoamjpdhaa
open Go.ChangeShapes Go.WideShapes Go.ChangeAt Go.RowKit

set_option maxHeartbeats 1000000 in
set_option maxRecDepth 100000 in
theorem pointBoxes_core (a b c d a' b' c' d' x y : Int) (w : World) :
    Calls Try.prog 4 #[(Value.agg #[.int .i32 (a), .int .i32 (b), .int .i32 (c), .int .i32 (d)]), (Value.agg #[.int .i32 (a'), .int .i32 (b'), .int .i32 (c'), .int .i32 (d')]), (Value.agg #[.int .i32 (x), .int .i32 (y)])] w fun e w' => e = .returned (.bool true) ∧ Below w.heap.size w w' := by
  go_enter Try.func4, Try.ntmps4
  go_wp2_with fail
  refine wp_gen (fun Qw1 hW0 => ?_)
  have hB_Qw1 : Below w.heap.size w Qw1 := by rw [hW0]; go_grown
  have hs_Qw1_0 : w.heap.size < Qw1.heap.size := by rw [hW0]; first | omega | (simp; done) | (simp; omega)
  have hs_Qw1_1 : w.heap.size + 1 < Qw1.heap.size := by rw [hW0]; first | omega | (simp; done) | (simp; omega)
  have hs_Qw1_2 : w.heap.size + 1 + 1 < Qw1.heap.size := by rw [hW0]; first | omega | (simp; done) | (simp; omega)
  have hg_Qw1_0 : Qw1.cell? ⟨w.heap.size, 0, none⟩ = some (.int .i32 a) := by rw [hW0]; first | (go_simp; done) | (simp [*]; done)
  have hg_Qw1_1 : Qw1.cell? ⟨w.heap.size, 1, none⟩ = some (.int .i32 b) := by rw [hW0]; first | (go_simp; done) | (simp [*]; done)
  have hg_Qw1_2 : Qw1.cell? ⟨w.heap.size, 2, none⟩ = some (.int .i32 c) := by rw [hW0]; first | (go_simp; done) | (simp [*]; done)
  have hg_Qw1_3 : Qw1.cell? ⟨w.heap.size, 3, none⟩ = some (.int .i32 d) := by rw [hW0]; first | (go_simp; done) | (simp [*]; done)
  have hg_Qw1_4 : Qw1.cell? ⟨w.heap.size + 1, 0, none⟩ = some (.int .i32 a') := by rw [hW0]; first | (go_simp; done) | (simp [*]; done)
  have hg_Qw1_5 : Qw1.cell? ⟨w.heap.size + 1, 1, none⟩ = some (.int .i32 b') := by rw [hW0]; first | (go_simp; done) | (simp [*]; done)
  have hg_Qw1_6 : Qw1.cell? ⟨w.heap.size + 1, 2, none⟩ = some (.int .i32 c') := by rw [hW0]; first | (go_simp; done) | (simp [*]; done)
  have hg_Qw1_7 : Qw1.cell? ⟨w.heap.size + 1, 3, none⟩ = some (.int .i32 d') := by rw [hW0]; first | (go_simp; done) | (simp [*]; done)
  have hg_Qw1_8 : Qw1.cell? ⟨w.heap.size + 1 + 1, 0, none⟩ = some (.int .i32 x) := by rw [hW0]; first | (go_simp; done) | (simp [*]; done)
  have hg_Qw1_9 : Qw1.cell? ⟨w.heap.size + 1 + 1, 1, none⟩ = some (.int .i32 y) := by rw [hW0]; first | (go_simp; done) | (simp [*]; done)
  clear hW0
  have hq_Qw1 := @wd_cell Qw1
  refine wp_region_wd (by kernel_rfl) (by kernel_rfl) ?_
  repeat (go_big_quiet_step ((first | (go_at_call 10; with_reducible exact quiet_wd (right_any _ _ _ _ _)) | (go_at_call 11; with_reducible exact quiet_wd (right_ref _ _ _ _ _)) | (go_at_call 12; with_reducible exact quiet_wd (has_any _ _ _ _ _ _ _)) | (go_at_call 13; with_reducible exact quiet_wd (has_ref _ _ _ _ _ _ _)) | (go_at_call 14; with_reducible exact quiet_wd (meet_any _ _ _ _ _ _ _ _ _)) | (go_at_call 15; with_reducible exact quiet_wd (meet_ref _ _ _ _ _ _ _ _ _)) | (go_at_call 16; with_reducible exact quiet_wd (join_any _ _ _ _ _ _ _ _ _)) | (go_at_call 17; with_reducible exact quiet_wd (join_ref _ _ _ _ _ _ _ _ _)))))
  refine wpQuiet_nil ?_
  rintro w1 ⟨⟨wx, hb_w1⟩, hwx⟩
  obtain rfl : w1 = wx := hwx
  clear hq_Qw1
  obtain ⟨hc_w1, hf_w1⟩ := bcell hb_w1
  have hB_w1 : Below w.heap.size w w1 := Below.trans (by go_grown) (hb_w1.mono (by go_size))
  have hs_w1_0 : w.heap.size < w1.heap.size := Nat.lt_of_lt_of_le hs_Qw1_0 hb_w1.size
  have hs_w1_1 : w.heap.size + 1 < w1.heap.size := Nat.lt_of_lt_of_le hs_Qw1_1 hb_w1.size
  have hs_w1_2 : w.heap.size + 1 + 1 < w1.heap.size := Nat.lt_of_lt_of_le hs_Qw1_2 hb_w1.size
  go_wp2_with fail
  refine wp_gen (fun Qw2 hW0 => ?_)
  have hB_Qw2 : Below w.heap.size w Qw2 := by rw [hW0]; go_grown
  have hs_Qw2_0 : w.heap.size < Qw2.heap.size := by rw [hW0]; first | omega | (simp; done) | (simp; omega)
  have hs_Qw2_1 : w.heap.size + 1 < Qw2.heap.size := by rw [hW0]; first | omega | (simp; done) | (simp; omega)
  have hs_Qw2_2 : w.heap.size + 1 + 1 < Qw2.heap.size := by rw [hW0]; first | omega | (simp; done) | (simp; omega)
  have hg_Qw2_0 : Qw2.cell? ⟨w.heap.size, 0, none⟩ = some (.int .i32 a) := by rw [hW0]; first | (go_simp; done) | (simp [*]; done)
  have hg_Qw2_1 : Qw2.cell? ⟨w.heap.size, 1, none⟩ = some (.int .i32 b) := by rw [hW0]; first | (go_simp; done) | (simp [*]; done)
  have hg_Qw2_2 : Qw2.cell? ⟨w.heap.size, 2, none⟩ = some (.int .i32 c) := by rw [hW0]; first | (go_simp; done) | (simp [*]; done)
  have hg_Qw2_3 : Qw2.cell? ⟨w.heap.size, 3, none⟩ = some (.int .i32 d) := by rw [hW0]; first | (go_simp; done) | (simp [*]; done)
  have hg_Qw2_4 : Qw2.cell? ⟨w.heap.size + 1, 0, none⟩ = some (.int .i32 a') := by rw [hW0]; first | (go_simp; done) | (simp [*]; done)
  have hg_Qw2_5 : Qw2.cell? ⟨w.heap.size + 1, 1, none⟩ = some (.int .i32 b') := by rw [hW0]; first | (go_simp; done) | (simp [*]; done)
  have hg_Qw2_6 : Qw2.cell? ⟨w.heap.size + 1, 2, none⟩ = some (.int .i32 c') := by rw [hW0]; first | (go_simp; done) | (simp [*]; done)
  have hg_Qw2_7 : Qw2.cell? ⟨w.heap.size + 1, 3, none⟩ = some (.int .i32 d') := by rw [hW0]; first | (go_simp; done) | (simp [*]; done)
  have hg_Qw2_8 : Qw2.cell? ⟨w.heap.size + 1 + 1, 0, none⟩ = some (.int .i32 x) := by rw [hW0]; first | (go_simp; done) | (simp [*]; done)
  have hg_Qw2_9 : Qw2.cell? ⟨w.heap.size + 1 + 1, 1, none⟩ = some (.int .i32 y) := by rw [hW0]; first | (go_simp; done) | (simp [*]; done)
  clear hW0
  have hq_Qw2 := @wd_cell Qw2
  refine wp_region_wd (by kernel_rfl) (by kernel_rfl) ?_
  repeat (go_big_quiet_step ((first | (go_at_call 10; with_reducible exact quiet_wd (right_any _ _ _ _ _)) | (go_at_call 11; with_reducible exact quiet_wd (right_ref _ _ _ _ _)) | (go_at_call 12; with_reducible exact quiet_wd (has_any _ _ _ _ _ _ _)) | (go_at_call 13; with_reducible exact quiet_wd (has_ref _ _ _ _ _ _ _)) | (go_at_call 14; with_reducible exact quiet_wd (meet_any _ _ _ _ _ _ _ _ _)) | (go_at_call 15; with_reducible exact quiet_wd (meet_ref _ _ _ _ _ _ _ _ _)) | (go_at_call 16; with_reducible exact quiet_wd (join_any _ _ _ _ _ _ _ _ _)) | (go_at_call 17; with_reducible exact quiet_wd (join_ref _ _ _ _ _ _ _ _ _)))))
  refine wpQuiet_nil ?_
  rintro w2 ⟨⟨wx, hb_w2⟩, hwx⟩
  obtain rfl : w2 = wx := hwx
  clear hq_Qw2
  obtain ⟨hc_w2, hf_w2⟩ := bcell hb_w2
  have hB_w2 : Below w.heap.size w w2 := Below.trans (by go_grown) (hb_w2.mono (by go_size))
  have hs_w2_0 : w.heap.size < w2.heap.size := Nat.lt_of_lt_of_le hs_Qw2_0 hb_w2.size
  have hs_w2_1 : w.heap.size + 1 < w2.heap.size := Nat.lt_of_lt_of_le hs_Qw2_1 hb_w2.size
  have hs_w2_2 : w.heap.size + 1 + 1 < w2.heap.size := Nat.lt_of_lt_of_le hs_Qw2_2 hb_w2.size
  go_wp2_with fail
  go_ret
  exact ⟨rfl, by go_grown⟩

set_option maxRecDepth 100000 in
theorem open_point {H : Type} {enc : TypeId × Value → H} {W : World} {base : Nat} {v : Value} {d : DataW H} {p : List MemPlace} (hv : Value.okWide Try.prog W .any base 24 v)
    (h : DataW.Trod enc Try.prog W 0 (fun _ => true) true 24 v d p) : ∃ x y, (-2147483648 ≤ x ∧ x ≤ 2147483647) ∧ (-2147483648 ≤ y ∧ y ≤ 2147483647) ∧ v = (Value.agg #[.int .i32 (x), .int .i32 (y)]) := by
  obtain ⟨c0, c1, y0, y1, m, rfl, rfl, rfl, hy0, hy1⟩ := Joins.open_agg2 Try.underlying24 (by kernel_rfl) (show Try.prog.cellsOf 24 = 2 by kernel_rfl) hv h
  obtain ⟨a, e0, _, wa⟩ := DataW.trod_int Try.underlying21 hy0
  obtain ⟨b, e1, _, wb⟩ := DataW.trod_int Try.underlying21 hy1
  simp at e0 e1
  subst e0 e1
  exact ⟨a, b, bounds_i32 wa, bounds_i32 wb, rfl⟩

set_option maxRecDepth 100000 in
theorem open_box {W : World} {base : Nat} {v : Value} (hv : Value.okWide Try.prog W .any base 27 v) : ∃ a b c d, v = (Value.agg #[.int .i32 (a), .int .i32 (b), .int .i32 (c), .int .i32 (d)]) := by
  obtain ⟨cs, rfl, hl, hall⟩ := open_cells (ts := [21, 21, 21, 21]) Try.underlying27 (by kernel_rfl) (by kernel_rfl) hv
  match cs, hl with
  | [c0, c1, c2, c3], _ =>
    obtain ⟨t0, e0, h0⟩ := hall 0 c0 rfl
    obtain ⟨t1, e1, h1⟩ := hall 1 c1 rfl
    obtain ⟨t2, e2, h2⟩ := hall 2 c2 rfl
    obtain ⟨t3, e3, h3⟩ := hall 3 c3 rfl
    injection e0 with e0
    injection e1 with e1
    injection e2 with e2
    injection e3 with e3
    subst e0 e1 e2 e3
    obtain ⟨a, rfl, _⟩ := cell_int Try.underlying21 h0
    obtain ⟨b, rfl, _⟩ := cell_int Try.underlying21 h1
    obtain ⟨c, rfl, _⟩ := cell_int Try.underlying21 h2
    obtain ⟨d, rfl, _⟩ := cell_int Try.underlying21 h3
    exact ⟨a, b, c, d, rfl⟩

set_option maxRecDepth 100000 in
theorem pointBoxes_walk {H : Type} {enc : TypeId × Value → H} (w : World) (base : Nat) (v0 v1 v2 : Value) {d0 d1 d2 : DataW H} {p0 p1 p2 : List MemPlace}
    (k0 : Value.okWide Try.prog w .any base 27 v0) (k1 : Value.okWide Try.prog w .any base 27 v1) (k2 : Value.okWide Try.prog w .any base 24 v2)
    (h0 : DataW.Trod enc Try.prog w 0 (fun _ => true) true 27 v0 d0 p0) (h1 : DataW.Trod enc Try.prog w 0 (fun _ => true) true 27 v1 d1 p1) (h2 : DataW.Trod enc Try.prog w 0 (fun _ => true) true 24 v2 d2 p2) :
    Calls Try.prog 4 #[v0, v1, v2] w fun e w' => e = .returned (.bool true) ∧ Below w.heap.size w w' := by
  obtain ⟨a, b, c, d, rfl⟩ := open_box k0
  obtain ⟨a', b', c', d', rfl⟩ := open_box k1
  obtain ⟨x, y, _, _, rfl⟩ := open_point k2 h2
  exact pointBoxes_core a b c d a' b' c' d' x y w

set_option maxRecDepth 100000 in
theorem pointBoxes_lifted (os : Os) (started : os.Started) (H : Type) (enc : TypeId × Value → H) :
    ReturnsInHanded {} Try.checked os 4 .any (Rows.pointBoxesSpec.pre6 enc Try.prog Try.f4 Rows.pointBoxesRow.domain false) (Rows.pointBoxesSpec.post enc Try.prog Try.f4 false true false false) := by
  refine returnsInHanded_of_change (C := Try.checked) own started (by kernel_rfl) Try.func4
    (ChangeSpec.witness6 (enc := enc) (C := Try.checked) false ⟨#[], #[.agg #[.int .i32 0, .int .i32 0, .int .i32 0, .int .i32 0], .agg #[.int .i32 0, .int .i32 0, .int .i32 0, .int .i32 0], .agg #[.int .i32 0, .int .i32 0]], []⟩ 8 (by kernel_rfl) (by kernel_rfl) (by kernel_rfl) (by kernel_rfl)) ?_
  intro W base args ds gs before hval0 hW hcnd _
  have hval : ∀ (j : Nat) t v, Try.f4.params[j]? = some t → args[j]? = some v → Value.okWide Try.prog W .any base t v := hval0
  have hW' := hW
  obtain ⟨p, q, hA0, hV, rfl, hfz, hnd⟩ := hW
  have hA : DataW.TrodAll enc Try.prog W 0 (fun _ => true) true Try.f4.params.toList args.toList ds p := hA0
  rw [Try.params4] at hA hval
  obtain ⟨v0, v1, v2, d0, d1, d2, p0, p1, p2, rfl, rfl, rfl, h0, h1, h2⟩ := trodAll_three hA
  obtain ⟨rfl, rfl⟩ := trodVars_none hV
  clear hA0 hval0
  refine (pointBoxes_walk W base v0 v1 v2 (hval 0 27 v0 rfl rfl) (hval 1 27 v1 rfl rfl) (hval 2 24 v2 rfl rfl) h0 h1 h2).mono fun e W' ⟨he, hb⟩ => ?_
  subst he
  exact ⟨_, rfl, law_post laidOut (by kernel_rfl) hW' rfl rfl Try.underlying4 rfl rfl rfl hb⟩

/-- For every input, whatever it is: the call returns true, and each argument reads as it did. -/
theorem pointBoxes_holds : Rows.PointBoxesSaid :=
  OpenClaim.holds_of_wide 4 Try.f4 rfl rfl rfl rfl rfl rfl rfl ⟨rfl, rfl, rfl, rfl, rfl⟩ rfl rfl rfl rfl rfl (by kernel_rfl) Try.func4 (by kernel_rfl)
    (of_decide_eq_true (by kernel_rfl)) (by unfold Func.isWrapper; first | (rw [if_pos (by decide +kernel)]; kernel_rfl) | (rw [if_neg (by decide +kernel)]; exact ⟨rfl, rfl⟩))
    (fun os started H enc _ => pointBoxes_lifted os started H enc)
#print axioms pointBoxes_holds

end Go.Proofs.Ytegblpoamjpdhaa
