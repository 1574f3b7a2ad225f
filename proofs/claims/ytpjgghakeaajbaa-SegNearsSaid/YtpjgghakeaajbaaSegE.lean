/-
  Package seg: Foot.
-/
import Derived.Test.YtpjgghakeaajbaaSegD
namespace Go.Proofs.Ytpjgghakeaajbaa
open Go.RowKit

def three (a b c : Pt) : Nat → Pt
  | 0 => a
  | 1 => b
  | _ => c
theorem three_all (a b c : Pt) : ((List.range 3).all fun j => inP (three a b c j)) = (inP a && inP b && inP c) := by
  rw [show List.range 3 = [0, 1, 2] from rfl]
  simp only [List.all_cons, List.all_nil, three, Bool.and_true, Bool.and_assoc]
theorem lattice3 (g : Nat) (a b c : Pt) (W : World) (h : Var W g 23 #[.int .i32 a.1, .int .i32 a.2, .int .i32 b.1, .int .i32 b.2, .int .i32 c.1, .int .i32 c.2]) :
    Calls Try.prog 29 #[.slice (some ⟨g, 0, none⟩) 3 3] W fun e w' => e = .returned (.bool (inP a && inP b && inP c)) ∧ Below W.heap.size W w' := by
  rw [← three_all]
  refine lattice_any g 3 3 (three a b c) (by decide) W h.lt (fun j hj => ?_)
  match j, hj with
  | 0, _ => exact ⟨h.cell 0, h.cell 1⟩
  | 1, _ => exact ⟨h.cell 2, h.cell 3⟩
  | 2, _ => exact ⟨h.cell 4, h.cell 5⟩

set_option maxRecDepth 100000 in
set_option maxHeartbeats 800000 in
theorem foot_out (p a b : Pt) (hl : (inP p && inP a && inP b) = false) (w : World) :
    Calls Try.prog 15 #[.agg #[.int .i32 p.1, .int .i32 p.2], .agg #[.int .i32 a.1, .int .i32 a.2], .agg #[.int .i32 b.1, .int .i32 b.2]] w fun e w' => e = .returned (.agg #[.int .i64 (foot p a b).1, .int .i64 (foot p a b).2]) ∧ Below w.heap.size w w' := by
  have HL := Lib.hid (fun g W h => lattice3 g p a b W h)
  unfold foot
  rw [hl, if_neg Bool.false_ne_true]
  rw [hl] at HL
  clear hl
  go_enter Try.func15, Try.ntmps15
  go_wp2_with fail
  refine (HL.out _ _ (Var.new' _ _ _ (by simp))).mono ?_
  rintro e w1 ⟨rfl, hb_w1⟩
  obtain ⟨hc_w1, hf_w1⟩ := bcell hb_w1
  have hz_w1 := hb_w1.size
  try simp at hz_w1
  have hB_w1 : Below w.heap.size w w1 := Below.trans (by go_grown) (hb_w1.mono (by go_size))
  have hs_w1_0 : w.heap.size < w1.heap.size := by omega
  have hs_w1_1 : w.heap.size + 1 < w1.heap.size := by omega
  have hs_w1_2 : w.heap.size + 1 + 1 < w1.heap.size := by omega
  have hs_w1_3 : w.heap.size + 1 + 1 + 1 < w1.heap.size := by omega
  go_wp2_with fail
  refine bodyPost_ret (by simp [results, Try.results15, go_sem, *]; try rfl) rfl ?_
  exact ⟨rfl, by go_grown⟩

set_option maxRecDepth 100000 in
set_option maxHeartbeats 800000 in
theorem foot_same (a1 a2 : Int) (p : Pt) (hl : (inP p && inP (a1, a2) && inP (a1, a2)) = true) (w : World) :
    Calls Try.prog 15 #[.agg #[.int .i32 p.1, .int .i32 p.2], .agg #[.int .i32 a1, .int .i32 a2], .agg #[.int .i32 a1, .int .i32 a2]] w fun e w' => e = .returned (.agg #[.int .i64 (foot p (a1, a2) (a1, a2)).1, .int .i64 (foot p (a1, a2) (a1, a2)).2]) ∧ Below w.heap.size w w' := by
  have HL := Lib.hid (fun g W h => lattice3 g p (a1, a2) (a1, a2) W h)
  unfold foot
  rw [hl, if_pos rfl]
  rw [hl] at HL
  rw [if_pos rfl]
  clear hl
  go_enter Try.func15, Try.ntmps15
  go_wp2_with fail
  refine (HL.out _ _ (Var.new' _ _ _ (by simp))).mono ?_
  rintro e w1 ⟨rfl, hb_w1⟩
  obtain ⟨hc_w1, hf_w1⟩ := bcell hb_w1
  have hz_w1 := hb_w1.size
  try simp at hz_w1
  have hB_w1 : Below w.heap.size w w1 := Below.trans (by go_grown) (hb_w1.mono (by go_size))
  have hs_w1_0 : w.heap.size < w1.heap.size := by omega
  have hs_w1_1 : w.heap.size + 1 < w1.heap.size := by omega
  have hs_w1_2 : w.heap.size + 1 + 1 < w1.heap.size := by omega
  have hs_w1_3 : w.heap.size + 1 + 1 + 1 < w1.heap.size := by omega
  go_wp2_with fail
  refine bodyPost_ret (by simp [results, Try.results15, go_sem, *]; try rfl) rfl ?_
  exact ⟨rfl, by go_grown⟩

set_option maxRecDepth 100000 in
set_option maxHeartbeats 1600000 in
theorem foot_way1 (a1 a2 b1 b2 : Int) (p : Pt) (hl : (inP p && inP (a1, a2) && inP (b1, b2)) = true) (hne : ¬ a1 = b1) (w : World) :
    Calls Try.prog 15 #[.agg #[.int .i32 p.1, .int .i32 p.2], .agg #[.int .i32 a1, .int .i32 a2], .agg #[.int .i32 b1, .int .i32 b2]] w fun e w' => e = .returned (.agg #[.int .i64 (foot p (a1, a2) (b1, b2)).1, .int .i64 (foot p (a1, a2) (b1, b2)).2]) ∧ Below w.heap.size w w' := by
  have HL := Lib.hid (fun g W h => lattice3 g p (a1, a2) (b1, b2) W h)
  unfold foot
  rw [hl, if_pos rfl]
  rw [hl] at HL
  simp only [Bool.and_eq_true] at hl
  obtain ⟨⟨ip, ia⟩, ib⟩ := hl
  have hab : ¬ ((a1, a2) : Pt) = (b1, b2) := fun e => by injection e with e1 e2; exact hne e1
  rw [if_neg hab]
  have HW1 := Lib.hid (fun W => way_any (a1, a2) (b1, b2) (i32_in ia) (i32_in ib) W)
  have HW2 := Lib.hid (fun W => way_any (a1, a2) p (i32_in ia) (i32_in ip) W)
  have du := dv_sb ia ib
  have do' := dv_sb ia ip
  have hu : ¬ ((sb (a1, a2) (b1, b2)).1 = 0 ∧ (sb (a1, a2) (b1, b2)).2 = 0) := fun e => hab (by
    obtain ⟨e1, e2⟩ := e
    simp only [sb] at e1 e2
    exact Prod.ext (by show a1 = b1; omega) (by show a2 = b2; omega))
  obtain ⟨u, hue⟩ : ∃ u, sb (a1, a2) (b1, b2) = u := ⟨_, rfl⟩
  obtain ⟨o, hoe⟩ : ∃ u, sb (a1, a2) p = u := ⟨_, rfl⟩
  rw [hue] at HW1 du hu ⊢
  rw [hoe] at HW2 do' ⊢
  clear hue hoe ia ib ip hab
  have HD1 := Lib.hid (fun W => vdot_any u u du du W)
  have HD2 := Lib.hid (fun W => vdot_any o u do' du W)
  have bl := dt_bd du du
  have bo := dt_bd do' du
  have bp := dt_pos hu
  obtain ⟨L, hL⟩ : ∃ L, dt u u = L := ⟨_, rfl⟩
  obtain ⟨s, hs⟩ : ∃ s, dt o u = s := ⟨_, rfl⟩
  rw [hL] at HD1 bl bp ⊢
  rw [hs] at HD2 bo ⊢
  clear hL hs hu du do'
  obtain ⟨m, hm⟩ : ∃ m, max s 0 = m := ⟨_, rfl⟩
  obtain ⟨n, hn⟩ : ∃ n, min m L = n := ⟨_, rfl⟩
  have bn : 0 ≤ n ∧ n ≤ 9223372036854775807 := by omega
  rw [hm, hn]
  have f1 : (if s < 0 then 0 else s) = m := by rw [← hm]; split <;> omega
  have f2 : (if L < m then L else m) = n := by rw [← hn]; split <;> omega
  clear hm hn
  have HF := Lib.hid (fun W => frac_any n L ⟨⟨bn.1, bn.2⟩, bp, bl.2⟩ W)
  obtain ⟨q1, hq1⟩ : ∃ q, (fr n L).1 = q := ⟨_, rfl⟩
  obtain ⟨q2, hq2⟩ : ∃ q, (fr n L).2 = q := ⟨_, rfl⟩
  rw [hq1, hq2] at HF ⊢
  clear hq1 hq2
  go_enter Try.func15, Try.ntmps15
  go_wp2_with fail
  refine (HL.out _ _ (Var.new' _ _ _ (by simp))).mono ?_
  rintro e w1 ⟨rfl, hb_w1⟩
  obtain ⟨hc_w1, hf_w1⟩ := bcell hb_w1
  have hz_w1 := hb_w1.size
  try simp at hz_w1
  have hB_w1 : Below w.heap.size w w1 := Below.trans (by go_grown) (hb_w1.mono (by go_size))
  have hs_w1_0 : w.heap.size < w1.heap.size := by omega
  have hs_w1_1 : w.heap.size + 1 < w1.heap.size := by omega
  have hs_w1_2 : w.heap.size + 1 + 1 < w1.heap.size := by omega
  have hs_w1_3 : w.heap.size + 1 + 1 + 1 < w1.heap.size := by omega
  go_wp2_with fail
  clear hne
  refine (HW1.out _).mono ?_
  rintro e w2 ⟨rfl, hb_w2⟩
  obtain ⟨hc_w2, hf_w2⟩ := bcell hb_w2
  have hz_w2 := hb_w2.size
  try simp at hz_w2
  have hB_w2 : Below w.heap.size w w2 := Below.trans (by go_grown) (hb_w2.mono (by go_size))
  have hs_w2_0 : w.heap.size < w2.heap.size := by omega
  have hs_w2_1 : w.heap.size + 1 < w2.heap.size := by omega
  have hs_w2_2 : w.heap.size + 1 + 1 < w2.heap.size := by omega
  have hs_w2_3 : w.heap.size + 1 + 1 + 1 < w2.heap.size := by omega
  go_wp2_with fail
  have vR : Var w1 (w.heap.size + 1 + 1 + 1) 28 #[.int .i64 0, .int .i64 0] := ((Var.new' _ _ _ (by simp)).alloc _).keep hb_w1
  have vP : Var w1 w.heap.size 23 #[.int .i32 p.1, .int .i32 p.2] := (((((Var.new _ _ _).alloc _).alloc _).alloc _).alloc _).keep hb_w1
  have vA : Var w1 (w.heap.size + 1) 23 #[.int .i32 a1, .int .i32 a2] := ((((Var.new' _ _ _ (by simp)).alloc _).alloc _).alloc _).keep hb_w1
  have vR2 := vR.keep hb_w2
  have vP2 := vP.keep hb_w2
  have vA2 := vA.keep hb_w2
  clear hc_w1 hf_w1 hc_w2 hf_w2
  refine (HD1.out _).mono ?_
  rintro e w3 ⟨rfl, hb_w3⟩
  obtain ⟨hc_w3, hf_w3⟩ := bcell hb_w3
  have hz_w3 := hb_w3.size
  try simp at hz_w3
  have hB_w3 : Below w.heap.size w w3 := Below.trans (by go_grown) (hb_w3.mono (by go_size))
  have hs_w3_0 : w.heap.size < w3.heap.size := by omega
  have hs_w3_1 : w.heap.size + 1 < w3.heap.size := by omega
  have hs_w3_2 : w.heap.size + 1 + 1 < w3.heap.size := by omega
  have hs_w3_3 : w.heap.size + 1 + 1 + 1 < w3.heap.size := by omega
  have hs_w3_4 : w2.heap.size < w3.heap.size := by omega
  have vR3 := (vR2.alloc (.cells #[.int .i64 u.1, .int .i64 u.2] 63)).keep hb_w3
  have vP3 := (vP2.alloc (.cells #[.int .i64 u.1, .int .i64 u.2] 63)).keep hb_w3
  have vA3 := (vA2.alloc (.cells #[.int .i64 u.1, .int .i64 u.2] 63)).keep hb_w3
  have vU3 : Var w3 w2.heap.size 63 #[.int .i64 u.1, .int .i64 u.2] := (Var.new _ _ _).keep hb_w3
  clear hc_w3 hf_w3
  have cp0 : w3.cell? ⟨w.heap.size, 0, none⟩ = some (.int .i32 p.1) := vP3.cell 0
  have cp1 : w3.cell? ⟨w.heap.size, 1, none⟩ = some (.int .i32 p.2) := vP3.cell 1
  have ca0 : w3.cell? ⟨w.heap.size + 1, 0, none⟩ = some (.int .i32 a1) := vA3.cell 0
  have ca1 : w3.cell? ⟨w.heap.size + 1, 1, none⟩ = some (.int .i32 a2) := vA3.cell 1
  have u0 : w3.cell? ⟨w2.heap.size, 0, none⟩ = some (.int .i64 u.1) := vU3.cell 0
  have u1 : w3.cell? ⟨w2.heap.size, 1, none⟩ = some (.int .i64 u.2) := vU3.cell 1
  go_wp2_with fail
  have hq_w3 := @wd_cell w3
  refine wp_region_wd_tail 10 (by kernel_rfl) (by kernel_rfl) ?_
  simp only [List.take_succ_cons, List.take_zero, List.drop_succ_cons, List.drop_zero]
  repeat (go_big_quiet_step ((first | (go_at_call 35; with_reducible exact quiet_wd (HD2.out _)) | (go_at_call 32; with_reducible exact quiet_wd (HW2.out _)) | (go_at_call 38; with_reducible exact quiet_wd (HF.out _)))))
  refine wpQuiet_nil ?_
  rintro w4 ⟨⟨wx, hb_w4⟩, hwx⟩
  obtain rfl : w4 = wx := hwx
  clear hq_w3
  have hz_w4 := hb_w4.size
  obtain ⟨hc_w4, hf_w4⟩ := bcell hb_w4
  have hB_w4 : Below w.heap.size w w4 := Below.trans (by go_grown) (hb_w4.mono (by go_size))
  have hs_w4_0 : w.heap.size + 1 + 1 + 1 < w4.heap.size := Nat.lt_of_lt_of_le (by assumption) hb_w4.size
  have vR4 := vR3.keep hb_w4
  clear hc_w4 hf_w4
  go_wp2_with (refine wpList_store2 rfl 28 (.tmp 6) (.tmp 36) rfl (w.heap.size + 1 + 1 + 1) _ _ rfl rfl _ _ vR4 (by kernel_rfl) (pair_cells rfl rfl) ?_; intro wS vM Kx hbM hsM)
  have m0 : wS.cell? ⟨w.heap.size + 1 + 1 + 1, 0, none⟩ = some (.int .i64 q1) := vM.cell 0
  have m1 : wS.cell? ⟨w.heap.size + 1 + 1 + 1, 1, none⟩ = some (.int .i64 q2) := vM.cell 1
  refine bodyPost_ret (by simp [results, Try.results15, go_sem, *]; try rfl) rfl ?_
  exact ⟨rfl, Below.trans (by go_grown) (hbM.mono (by omega))⟩
set_option maxRecDepth 100000 in
set_option maxHeartbeats 1600000 in
theorem foot_way2 (a1 a2 b2 : Int) (p : Pt) (hl : (inP p && inP (a1, a2) && inP (a1, b2)) = true) (hne : ¬ a2 = b2) (w : World) :
    Calls Try.prog 15 #[.agg #[.int .i32 p.1, .int .i32 p.2], .agg #[.int .i32 a1, .int .i32 a2], .agg #[.int .i32 a1, .int .i32 b2]] w fun e w' => e = .returned (.agg #[.int .i64 (foot p (a1, a2) (a1, b2)).1, .int .i64 (foot p (a1, a2) (a1, b2)).2]) ∧ Below w.heap.size w w' := by
  have HL := Lib.hid (fun g W h => lattice3 g p (a1, a2) (a1, b2) W h)
  unfold foot
  rw [hl, if_pos rfl]
  rw [hl] at HL
  simp only [Bool.and_eq_true] at hl
  obtain ⟨⟨ip, ia⟩, ib⟩ := hl
  have hab : ¬ ((a1, a2) : Pt) = (a1, b2) := fun e => by injection e with e1 e2; exact hne e2
  rw [if_neg hab]
  have HW1 := Lib.hid (fun W => way_any (a1, a2) (a1, b2) (i32_in ia) (i32_in ib) W)
  have HW2 := Lib.hid (fun W => way_any (a1, a2) p (i32_in ia) (i32_in ip) W)
  have du := dv_sb ia ib
  have do' := dv_sb ia ip
  have hu : ¬ ((sb (a1, a2) (a1, b2)).1 = 0 ∧ (sb (a1, a2) (a1, b2)).2 = 0) := fun e => hab (by
    obtain ⟨e1, e2⟩ := e
    simp only [sb] at e1 e2
    exact Prod.ext (by show a1 = a1; omega) (by show a2 = b2; omega))
  obtain ⟨u, hue⟩ : ∃ u, sb (a1, a2) (a1, b2) = u := ⟨_, rfl⟩
  obtain ⟨o, hoe⟩ : ∃ u, sb (a1, a2) p = u := ⟨_, rfl⟩
  rw [hue] at HW1 du hu ⊢
  rw [hoe] at HW2 do' ⊢
  clear hue hoe ia ib ip hab
  have HD1 := Lib.hid (fun W => vdot_any u u du du W)
  have HD2 := Lib.hid (fun W => vdot_any o u do' du W)
  have bl := dt_bd du du
  have bo := dt_bd do' du
  have bp := dt_pos hu
  obtain ⟨L, hL⟩ : ∃ L, dt u u = L := ⟨_, rfl⟩
  obtain ⟨s, hs⟩ : ∃ s, dt o u = s := ⟨_, rfl⟩
  rw [hL] at HD1 bl bp ⊢
  rw [hs] at HD2 bo ⊢
  clear hL hs hu du do'
  obtain ⟨m, hm⟩ : ∃ m, max s 0 = m := ⟨_, rfl⟩
  obtain ⟨n, hn⟩ : ∃ n, min m L = n := ⟨_, rfl⟩
  have bn : 0 ≤ n ∧ n ≤ 9223372036854775807 := by omega
  rw [hm, hn]
  have f1 : (if s < 0 then 0 else s) = m := by rw [← hm]; split <;> omega
  have f2 : (if L < m then L else m) = n := by rw [← hn]; split <;> omega
  clear hm hn
  have HF := Lib.hid (fun W => frac_any n L ⟨⟨bn.1, bn.2⟩, bp, bl.2⟩ W)
  obtain ⟨q1, hq1⟩ : ∃ q, (fr n L).1 = q := ⟨_, rfl⟩
  obtain ⟨q2, hq2⟩ : ∃ q, (fr n L).2 = q := ⟨_, rfl⟩
  rw [hq1, hq2] at HF ⊢
  clear hq1 hq2
  go_enter Try.func15, Try.ntmps15
  go_wp2_with fail
  refine (HL.out _ _ (Var.new' _ _ _ (by simp))).mono ?_
  rintro e w1 ⟨rfl, hb_w1⟩
  obtain ⟨hc_w1, hf_w1⟩ := bcell hb_w1
  have hz_w1 := hb_w1.size
  try simp at hz_w1
  have hB_w1 : Below w.heap.size w w1 := Below.trans (by go_grown) (hb_w1.mono (by go_size))
  have hs_w1_0 : w.heap.size < w1.heap.size := by omega
  have hs_w1_1 : w.heap.size + 1 < w1.heap.size := by omega
  have hs_w1_2 : w.heap.size + 1 + 1 < w1.heap.size := by omega
  have hs_w1_3 : w.heap.size + 1 + 1 + 1 < w1.heap.size := by omega
  go_wp2_with fail
  clear hne
  refine (HW1.out _).mono ?_
  rintro e w2 ⟨rfl, hb_w2⟩
  obtain ⟨hc_w2, hf_w2⟩ := bcell hb_w2
  have hz_w2 := hb_w2.size
  try simp at hz_w2
  have hB_w2 : Below w.heap.size w w2 := Below.trans (by go_grown) (hb_w2.mono (by go_size))
  have hs_w2_0 : w.heap.size < w2.heap.size := by omega
  have hs_w2_1 : w.heap.size + 1 < w2.heap.size := by omega
  have hs_w2_2 : w.heap.size + 1 + 1 < w2.heap.size := by omega
  have hs_w2_3 : w.heap.size + 1 + 1 + 1 < w2.heap.size := by omega
  go_wp2_with fail
  have vR : Var w1 (w.heap.size + 1 + 1 + 1) 28 #[.int .i64 0, .int .i64 0] := ((Var.new' _ _ _ (by simp)).alloc _).keep hb_w1
  have vP : Var w1 w.heap.size 23 #[.int .i32 p.1, .int .i32 p.2] := (((((Var.new _ _ _).alloc _).alloc _).alloc _).alloc _).keep hb_w1
  have vA : Var w1 (w.heap.size + 1) 23 #[.int .i32 a1, .int .i32 a2] := ((((Var.new' _ _ _ (by simp)).alloc _).alloc _).alloc _).keep hb_w1
  have vR2 := vR.keep hb_w2
  have vP2 := vP.keep hb_w2
  have vA2 := vA.keep hb_w2
  clear hc_w1 hf_w1 hc_w2 hf_w2
  refine (HD1.out _).mono ?_
  rintro e w3 ⟨rfl, hb_w3⟩
  obtain ⟨hc_w3, hf_w3⟩ := bcell hb_w3
  have hz_w3 := hb_w3.size
  try simp at hz_w3
  have hB_w3 : Below w.heap.size w w3 := Below.trans (by go_grown) (hb_w3.mono (by go_size))
  have hs_w3_0 : w.heap.size < w3.heap.size := by omega
  have hs_w3_1 : w.heap.size + 1 < w3.heap.size := by omega
  have hs_w3_2 : w.heap.size + 1 + 1 < w3.heap.size := by omega
  have hs_w3_3 : w.heap.size + 1 + 1 + 1 < w3.heap.size := by omega
  have hs_w3_4 : w2.heap.size < w3.heap.size := by omega
  have vR3 := (vR2.alloc (.cells #[.int .i64 u.1, .int .i64 u.2] 63)).keep hb_w3
  have vP3 := (vP2.alloc (.cells #[.int .i64 u.1, .int .i64 u.2] 63)).keep hb_w3
  have vA3 := (vA2.alloc (.cells #[.int .i64 u.1, .int .i64 u.2] 63)).keep hb_w3
  have vU3 : Var w3 w2.heap.size 63 #[.int .i64 u.1, .int .i64 u.2] := (Var.new _ _ _).keep hb_w3
  clear hc_w3 hf_w3
  have cp0 : w3.cell? ⟨w.heap.size, 0, none⟩ = some (.int .i32 p.1) := vP3.cell 0
  have cp1 : w3.cell? ⟨w.heap.size, 1, none⟩ = some (.int .i32 p.2) := vP3.cell 1
  have ca0 : w3.cell? ⟨w.heap.size + 1, 0, none⟩ = some (.int .i32 a1) := vA3.cell 0
  have ca1 : w3.cell? ⟨w.heap.size + 1, 1, none⟩ = some (.int .i32 a2) := vA3.cell 1
  have u0 : w3.cell? ⟨w2.heap.size, 0, none⟩ = some (.int .i64 u.1) := vU3.cell 0
  have u1 : w3.cell? ⟨w2.heap.size, 1, none⟩ = some (.int .i64 u.2) := vU3.cell 1
  go_wp2_with fail
  have hq_w3 := @wd_cell w3
  refine wp_region_wd_tail 10 (by kernel_rfl) (by kernel_rfl) ?_
  simp only [List.take_succ_cons, List.take_zero, List.drop_succ_cons, List.drop_zero]
  repeat (go_big_quiet_step ((first | (go_at_call 35; with_reducible exact quiet_wd (HD2.out _)) | (go_at_call 32; with_reducible exact quiet_wd (HW2.out _)) | (go_at_call 38; with_reducible exact quiet_wd (HF.out _)))))
  refine wpQuiet_nil ?_
  rintro w4 ⟨⟨wx, hb_w4⟩, hwx⟩
  obtain rfl : w4 = wx := hwx
  clear hq_w3
  have hz_w4 := hb_w4.size
  obtain ⟨hc_w4, hf_w4⟩ := bcell hb_w4
  have hB_w4 : Below w.heap.size w w4 := Below.trans (by go_grown) (hb_w4.mono (by go_size))
  have hs_w4_0 : w.heap.size + 1 + 1 + 1 < w4.heap.size := Nat.lt_of_lt_of_le (by assumption) hb_w4.size
  have vR4 := vR3.keep hb_w4
  clear hc_w4 hf_w4
  go_wp2_with (refine wpList_store2 rfl 28 (.tmp 6) (.tmp 36) rfl (w.heap.size + 1 + 1 + 1) _ _ rfl rfl _ _ vR4 (by kernel_rfl) (pair_cells rfl rfl) ?_; intro wS vM Kx hbM hsM)
  have m0 : wS.cell? ⟨w.heap.size + 1 + 1 + 1, 0, none⟩ = some (.int .i64 q1) := vM.cell 0
  have m1 : wS.cell? ⟨w.heap.size + 1 + 1 + 1, 1, none⟩ = some (.int .i64 q2) := vM.cell 1
  refine bodyPost_ret (by simp [results, Try.results15, go_sem, *]; try rfl) rfl ?_
  exact ⟨rfl, Below.trans (by go_grown) (hbM.mono (by omega))⟩

theorem foot_any (p a b : Pt) (w : World) :
    Calls Try.prog 15 #[.agg #[.int .i32 p.1, .int .i32 p.2], .agg #[.int .i32 a.1, .int .i32 a.2], .agg #[.int .i32 b.1, .int .i32 b.2]] w fun e w' => e = .returned (.agg #[.int .i64 (foot p a b).1, .int .i64 (foot p a b).2]) ∧ Below w.heap.size w w' := by
  cases hl : inP p && inP a && inP b with
  | false => exact foot_out p a b hl w
  | true =>
    obtain ⟨a1, a2⟩ := a
    obtain ⟨b1, b2⟩ := b
    rcases Decidable.em (a1 = b1) with h1 | h1
    · subst h1
      rcases Decidable.em (a2 = b2) with h2 | h2
      · subst h2
        exact foot_same a1 a2 p hl w
      · exact foot_way2 a1 a2 b2 p hl h2 w
    · exact foot_way1 a1 a2 b1 b2 p hl h1 w

end Go.Proofs.Ytpjgghakeaajbaa
