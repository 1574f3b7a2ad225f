/-
  Package seg: Near.
-/
import Derived.Test.YtpjgghakeaajbaaSegE
namespace Go.Proofs.Ytpjgghakeaajbaa
open Go.RowKit

set_option maxRecDepth 100000 in
set_option maxHeartbeats 800000 in
theorem near_out (p a b : Pt) (r : Int) (_ : I64 r) (hl : r < 0 ∨ 3037000498 ≤ r ∨ (inP p && inP a && inP b) = false) (w : World) :
    Calls Try.prog 13 #[.agg #[.int .i32 p.1, .int .i32 p.2], .agg #[.int .i32 a.1, .int .i32 a.2], .agg #[.int .i32 b.1, .int .i32 b.2], .int .i64 r] w fun e w' => e = .returned (.bool (near p a b r)) ∧ Below w.heap.size w w' := by
  have HL := Lib.hid (fun g W h => lattice3 g p a b W h)
  unfold near
  rcases Int.lt_or_le r 0 with h0 | h0
  · rw [if_pos h0]
    clear HL hl
    go_enter Try.func13, Try.ntmps13
    go_wp2_with fail
    refine bodyPost_ret (by simp [results, Try.results13, go_sem, *]; try rfl) rfl ?_
    exact ⟨rfl, by go_grown⟩
  · rw [if_neg (by omega)]
    have h0' : ¬ r < 0 := by omega
    cases hi : inP p && inP a && inP b with
    | false =>
      rw [if_neg Bool.false_ne_true]
      rw [hi] at HL
      clear hi hl h0
      go_enter Try.func13, Try.ntmps13
      go_wp2_with fail
      refine (HL.out _ _ (Var.new' _ _ _ (by simp))).mono ?_
      rintro e w1 ⟨rfl, hb_w1⟩
      obtain ⟨hc_w1, hf_w1⟩ := bcell hb_w1
      have hz_w1 := hb_w1.size
      try simp at hz_w1
      have hB_w1 : Below w.heap.size w w1 := Below.trans (by go_grown) (hb_w1.mono (by go_size))
      have hs_w1_0 : w.heap.size < w1.heap.size := by omega
      have hs_w1_1 : w.heap.size + 1 < w1.heap.size := by omega
      have hs_w1_2 : w.heap.size + 1 + 1 < w1.heap.size := by omega
      go_wp2_with fail
      refine bodyPost_ret (by simp [results, Try.results13, go_sem, *]; try rfl) rfl ?_
      exact ⟨rfl, by go_grown⟩
    | true =>
      have h1 : 3037000498 ≤ r := by
        rcases hl with h | h | h
        · omega
        · exact h
        · rw [hi] at h; exact absurd h.symm Bool.false_ne_true
      rw [if_pos rfl, if_pos h1]
      rw [hi] at HL
      clear hi hl h0
      go_enter Try.func13, Try.ntmps13
      go_wp2_with fail
      refine (HL.out _ _ (Var.new' _ _ _ (by simp))).mono ?_
      rintro e w1 ⟨rfl, hb_w1⟩
      obtain ⟨hc_w1, hf_w1⟩ := bcell hb_w1
      have hz_w1 := hb_w1.size
      try simp at hz_w1
      have hB_w1 : Below w.heap.size w w1 := Below.trans (by go_grown) (hb_w1.mono (by go_size))
      have hs_w1_0 : w.heap.size < w1.heap.size := by omega
      have hs_w1_1 : w.heap.size + 1 < w1.heap.size := by omega
      have hs_w1_2 : w.heap.size + 1 + 1 < w1.heap.size := by omega
      go_wp2_with fail
      refine bodyPost_ret (by simp [results, Try.results13, go_sem, *]; try rfl) rfl ?_
      exact ⟨rfl, by go_grown⟩

theorem cmp_le (x y : Int) : (decide (cmpI x y ≤ 0)) = decide (x ≤ y) := by
  unfold cmpI
  rw [decide_eq_decide]
  split
  · omega
  · split <;> omega

theorem sq_bd {r : Int} (h0 : 0 ≤ r) (h1 : r < 3037000498) : 0 ≤ r * r ∧ r * r ≤ 9223372036854775807 := by
  have := Int.mul_le_mul (show r ≤ 3037000497 by omega) (show r ≤ 3037000497 by omega) h0 (by omega)
  exact ⟨Int.mul_nonneg h0 h0, by omega⟩

set_option maxRecDepth 100000 in
set_option maxHeartbeats 4000000 in
theorem near_in (p a b : Pt) (r : Int) (h0 : 0 ≤ r) (h1 : r < 3037000498) (hl : (inP p && inP a && inP b) = true) (w : World) :
    Calls Try.prog 13 #[.agg #[.int .i32 p.1, .int .i32 p.2], .agg #[.int .i32 a.1, .int .i32 a.2], .agg #[.int .i32 b.1, .int .i32 b.2], .int .i64 r] w fun e w' => e = .returned (.bool (near p a b r)) ∧ Below w.heap.size w w' := by
  have HL := Lib.hid (fun g W h => lattice3 g p a b W h)
  unfold near nearR
  rw [if_neg (by omega), hl, if_pos rfl, if_neg (by omega)]
  rw [hl] at HL
  have h0' : ¬ r < 0 := by omega
  have h1' : ¬ 3037000498 ≤ r := by omega
  have br := sq_bd h0 h1
  obtain ⟨R, hR⟩ : ∃ R, r * r = R := ⟨_, rfl⟩
  rw [hR] at br ⊢
  simp only [Bool.and_eq_true] at hl
  obtain ⟨⟨ip, ia⟩, ib⟩ := hl
  have HW1 := Lib.hid (fun W => way_any a b (i32_in ia) (i32_in ib) W)
  have HW2 := Lib.hid (fun W => way_any a p (i32_in ia) (i32_in ip) W)
  have HW3 := Lib.hid (fun W => way_any b p (i32_in ib) (i32_in ip) W)
  have du := dv_sb ia ib
  have do' := dv_sb ia ip
  have de := dv_sb ib ip
  obtain ⟨u, hue⟩ : ∃ u, sb a b = u := ⟨_, rfl⟩
  obtain ⟨o, hoe⟩ : ∃ u, sb a p = u := ⟨_, rfl⟩
  obtain ⟨x, hxe⟩ : ∃ u, sb b p = u := ⟨_, rfl⟩
  rw [hue] at HW1 du ⊢
  rw [hoe] at HW2 do' ⊢
  rw [hxe] at HW3 de ⊢
  clear hue hoe hxe ia ib ip
  have HDu := Lib.hid (fun W => vdot_any u u du du W)
  have HDo := Lib.hid (fun W => vdot_any o u do' du W)
  have HDoo := Lib.hid (fun W => vdot_any o o do' do' W)
  have HDxx := Lib.hid (fun W => vdot_any x x de de W)
  have HX := Lib.hid (fun W => vcross_any u o du do' W)
  have bL := dt_bd du du
  have bs := dt_bd do' du
  have bc := cr_bd du do'
  obtain ⟨L, hL⟩ : ∃ L, dt u u = L := ⟨_, rfl⟩
  obtain ⟨s, hs⟩ : ∃ L, dt o u = L := ⟨_, rfl⟩
  obtain ⟨c, hc⟩ : ∃ L, cr u o = L := ⟨_, rfl⟩
  obtain ⟨oo, hoo⟩ : ∃ L, dt o o = L := ⟨_, rfl⟩
  obtain ⟨xx, hxx⟩ : ∃ L, dt x x = L := ⟨_, rfl⟩
  rw [hL] at HDu bL
  rw [hs] at HDo bs
  rw [hc] at HX bc
  rw [hoo] at HDoo
  rw [hxx] at HDxx
  rw [hL, hs, hc, hoo, hxx]
  clear hL hs hc hoo hxx du do' de
  have HC := Lib.hid (fun W => cmpmul_any c c R L (by unfold I64; omega) (by unfold I64; omega) (by unfold I64; omega) (by unfold I64; omega) W)
  have hk := cmp_le (c * c) (R * L)
  obtain ⟨k, hk'⟩ : ∃ k, cmpI (c * c) (R * L) = k := ⟨_, rfl⟩
  rw [hk'] at hk HC
  clear hk'
  rw [← hk]
  obtain ⟨q, hq⟩ : ∃ q, (if 0 < s ∧ s < L then decide (k ≤ 0) else if 0 < s then decide (xx ≤ R) else decide (oo ≤ R)) = q := ⟨_, rfl⟩
  rw [hq]
  have HQ := Lib.hid hq
  clear hq hk
  go_enter Try.func13, Try.ntmps13
  go_wp2_with fail
  refine (HL.out _ _ (Var.new' _ _ _ (by simp))).mono ?_
  rintro e w1 ⟨rfl, hb_w1⟩
  obtain ⟨hc_w1, hf_w1⟩ := bcell hb_w1
  have hz_w1 := hb_w1.size
  try simp at hz_w1
  have hB_w1 : Below w.heap.size w w1 := Below.trans (by go_grown) (hb_w1.mono (by go_size))
  have hs_w1_0 : w.heap.size < w1.heap.size := by omega
  have hs_w1_1 : w.heap.size + 1 < w1.heap.size := by omega
  have hs_w1_2 : w.heap.size + 1 + 1 < w1.heap.size := by omega
  have vP : Var w1 w.heap.size 23 #[.int .i32 p.1, .int .i32 p.2] := ((((Var.new _ _ _).alloc _).alloc _).alloc _).keep hb_w1
  have vA : Var w1 (w.heap.size + 1) 23 #[.int .i32 a.1, .int .i32 a.2] := (((Var.new' _ _ _ (by simp)).alloc _).alloc _).keep hb_w1
  have vB : Var w1 (w.heap.size + 1 + 1) 23 #[.int .i32 b.1, .int .i32 b.2] := ((Var.new' _ _ _ (by simp)).alloc _).keep hb_w1
  have ca0 : w1.cell? ⟨w.heap.size, 0, none⟩ = some (.int .i32 p.1) := vP.cell 0
  have ca1 : w1.cell? ⟨w.heap.size, 1, none⟩ = some (.int .i32 p.2) := vP.cell 1
  have cb0 : w1.cell? ⟨w.heap.size + 1, 0, none⟩ = some (.int .i32 a.1) := vA.cell 0
  have cb1 : w1.cell? ⟨w.heap.size + 1, 1, none⟩ = some (.int .i32 a.2) := vA.cell 1
  have cc0 : w1.cell? ⟨w.heap.size + 1 + 1, 0, none⟩ = some (.int .i32 b.1) := vB.cell 0
  have cc1 : w1.cell? ⟨w.heap.size + 1 + 1, 1, none⟩ = some (.int .i32 b.2) := vB.cell 1
  clear hc_w1 hf_w1
  go_wp2_with fail
  refine wp_region_fresh_lit 6 2 [⟨6, 9, 63, #[.int .i64 0, .int .i64 0]⟩, ⟨7, 10, 63, #[.int .i64 0, .int .i64 0]⟩] 72 (by kernel_rfl) (by decide) (by kernel_rfl)
    (fun f hf => by simp only [List.mem_cons, List.not_mem_nil, or_false] at hf; rcases hf with rfl | rfl <;> simp) (fun f hf => by simp only [List.mem_cons, List.not_mem_nil, or_false] at hf; rcases hf with rfl | rfl <;> simp)
    (fun j h1 h2 => by
      rcases Nat.lt_or_ge j 7 with h3 | h3
      · exact ⟨_, List.mem_cons_self, show 6 = j by omega⟩
      · exact ⟨_, List.mem_cons_of_mem _ List.mem_cons_self, show 7 = j by omega⟩)
    (fun f hf => by
      simp only [List.mem_cons, List.not_mem_nil, or_false] at hf
      rcases hf with rfl | rfl
      all_goals exact laysB_of rfl rfl rfl (fun ρ w => by go_simp; rfl) (by kernel_rfl))
    (fun f hf f' hf' e => by
      simp only [List.mem_cons, List.not_mem_nil, or_false] at hf hf'
      rcases hf with rfl | rfl <;> rcases hf' with rfl | rfl <;> first | rfl | (simp at e))
    (fun f hf => by simp only [List.mem_cons, List.not_mem_nil, or_false] at hf; rcases hf with rfl | rfl <;> simp) rfl ?_
  simp only [List.take_succ_cons, List.take_zero, List.drop_succ_cons, List.drop_zero]
  refine wpRel_cons (.agg #[.int .i32 a.1, .int .i32 a.2]) rfl (fun W1 hb => by have hq := below_cells hb; go_simp; done) ?_
  go_simp
  refine wpRel_cons (.agg #[.int .i32 b.1, .int .i32 b.2]) rfl (fun W1 hb => by have hq := below_cells hb; go_simp; done) ?_
  go_simp
  refine wpRel_cons (.agg #[.int .i64 u.1, .int .i64 u.2]) rfl (fun W1 hb => by go_simp; exact HW1.out _) ?_
  go_simp
  refine wpRel_cons (.agg #[.int .i32 a.1, .int .i32 a.2]) rfl (fun W1 hb => by have hq := below_cells hb; go_simp; done) ?_
  go_simp
  refine wpRel_cons (.agg #[.int .i32 p.1, .int .i32 p.2]) rfl (fun W1 hb => by have hq := below_cells hb; go_simp; done) ?_
  go_simp
  refine wpRel_cons (.agg #[.int .i64 o.1, .int .i64 o.2]) rfl (fun W1 hb => by go_simp; exact HW2.out _) ?_
  go_simp
  intro g9 g10 w2 hgot
  obtain ⟨lg9, Vg9⟩ := hgot.one ⟨6, 9, 63, #[.int .i64 0, .int .i64 0]⟩ List.mem_cons_self (g := g9) rfl
  obtain ⟨lg10, Vg10⟩ := hgot.one ⟨7, 10, 63, #[.int .i64 0, .int .i64 0]⟩ (List.mem_cons_of_mem _ List.mem_cons_self) (g := g10) rfl
  have n01 := hgot.ne ⟨6, 9, 63, #[.int .i64 0, .int .i64 0]⟩ ⟨7, 10, 63, #[.int .i64 0, .int .i64 0]⟩ List.mem_cons_self (List.mem_cons_of_mem _ List.mem_cons_self) (by decide) (g := g9) (g' := g10) rfl rfl
  have hb_w2 := hgot.beh
  clear hgot
  refine wpList_store2 rfl 63 (.tmp 9) (.tmp 31) rfl g9 _ _ rfl rfl _ _ Vg9 (by kernel_rfl) (pair_cells rfl rfl) ?_
  intro w3 Ug9 Kg9 Bg9 Sg9
  have Vg10' : Var w3 g10 63 #[.int .i64 0, .int .i64 0] := (Kg9 g10 (Ne.symm n01)).trans Vg10
  refine wpList_store2 rfl 63 (.tmp 10) (.tmp 34) rfl g10 _ _ rfl rfl _ _ Vg10' (by kernel_rfl) (pair_cells rfl rfl) ?_
  intro w4 Ug10 Kg10 Bg10 Sg10
  have vU : Var w4 g9 63 #[.int .i64 u.1, .int .i64 u.2] := (Kg10 g9 n01).trans Ug9
  have vO : Var w4 g10 63 #[.int .i64 o.1, .int .i64 o.2] := Ug10
  have hb4 : Below w1.heap.size w1 w4 := (hb_w2.trans (Bg9.mono lg9)).trans (Bg10.mono lg10)
  have vP4 := vP.keep hb4
  have vB4 := vB.keep hb4
  have u0 : w4.cell? ⟨g9, 0, none⟩ = some (.int .i64 u.1) := vU.cell 0
  have u1 : w4.cell? ⟨g9, 1, none⟩ = some (.int .i64 u.2) := vU.cell 1
  have o0 : w4.cell? ⟨g10, 0, none⟩ = some (.int .i64 o.1) := vO.cell 0
  have o1 : w4.cell? ⟨g10, 1, none⟩ = some (.int .i64 o.2) := vO.cell 1
  have hB_w4 : Below w.heap.size w w4 := hB_w1.trans (hb4.mono hB_w1.size)
  clear ca0 ca1 cb0 cb1 cc0 cc1 vA vB vP Vg9 Vg10 Vg10' Ug9 Kg9 Kg10 Bg9 Bg10 hb_w2 HW1 HW2 HL
  unfold ptr
  have z9 := vU.lt
  have z10 := vO.lt
  have hs_w4_0 : w.heap.size < w4.heap.size := vP4.lt
  have hs_w4_1 : w.heap.size + 1 + 1 < w4.heap.size := vB4.lt
  clear Sg9 Sg10
  go_wp2_with fail
  go_simp
  have hq_w4 := @wd_cell w4
  refine wp_region_wd (by kernel_rfl) (by kernel_rfl) ?_
  repeat (go_big_quiet_step ((first | (go_at_call 35; with_reducible exact quiet_wd (HDu.out _)) | (go_at_call 35; with_reducible exact quiet_wd (HDo.out _)))))
  refine wpQuiet_nil ?_
  rintro w5 ⟨⟨wx, hb_w5⟩, hwx⟩
  obtain rfl : w5 = wx := hwx
  clear hq_w4
  have hz_w5 := hb_w5.size
  obtain ⟨hc_w5, hf_w5⟩ := bcell hb_w5
  have hB_w5 : Below w.heap.size w w5 := Below.trans (by go_grown) (hb_w5.mono (by go_size))
  have hs_w5_0 : g9 < w5.heap.size := Nat.lt_of_lt_of_le (by assumption) hb_w5.size
  have hs_w5_1 : g10 < w5.heap.size := Nat.lt_of_lt_of_le (by assumption) hb_w5.size
  have hs_w5_2 : w.heap.size < w5.heap.size := Nat.lt_of_lt_of_le (by assumption) hb_w5.size
  have hs_w5_3 : w.heap.size + 1 + 1 < w5.heap.size := Nat.lt_of_lt_of_le (by assumption) hb_w5.size
  have vU5 := vU.keep hb_w5
  have vO5 := vO.keep hb_w5
  have vP5 := vP4.keep hb_w5
  have vB5 := vB4.keep hb_w5
  clear hc_w5 hf_w5 vU vO vP4 vB4 u0 u1 o0 o1 hb4 Ug10
  have u0 : w5.cell? ⟨g9, 0, none⟩ = some (.int .i64 u.1) := vU5.cell 0
  have u1 : w5.cell? ⟨g9, 1, none⟩ = some (.int .i64 u.2) := vU5.cell 1
  have o0 : w5.cell? ⟨g10, 0, none⟩ = some (.int .i64 o.1) := vO5.cell 0
  have o1 : w5.cell? ⟨g10, 1, none⟩ = some (.int .i64 o.2) := vO5.cell 1
  have p0 : w5.cell? ⟨w.heap.size, 0, none⟩ = some (.int .i32 p.1) := vP5.cell 0
  have p1 : w5.cell? ⟨w.heap.size, 1, none⟩ = some (.int .i32 p.2) := vP5.cell 1
  have b0 : w5.cell? ⟨w.heap.size + 1 + 1, 0, none⟩ = some (.int .i32 b.1) := vB5.cell 0
  have b1 : w5.cell? ⟨w.heap.size + 1 + 1, 1, none⟩ = some (.int .i32 b.2) := vB5.cell 1
  rcases Decidable.em (0 < s) with hs | hs
  · rcases Decidable.em (s < L) with hs2 | hs2
    · obtain rfl : decide (k ≤ 0) = q := by have h := HQ.out; rw [if_pos ⟨hs, hs2⟩] at h; exact h
      clear HQ
      go_wp2_with fail
      refine (HX.out _).mono ?_
      rintro e w6 ⟨rfl, hb_w6⟩
      obtain ⟨hc_w6, hf_w6⟩ := bcell hb_w6
      have hz_w6 := hb_w6.size
      try simp at hz_w6
      have hB_w6 : Below w.heap.size w w6 := Below.trans (by go_grown) (hb_w6.mono (by go_size))
      go_wp2_with fail
      refine (HC.out _).mono ?_
      rintro e w7 ⟨rfl, hb_w7⟩
      obtain ⟨hc_w7, hf_w7⟩ := bcell hb_w7
      have hz_w7 := hb_w7.size
      try simp at hz_w7
      have hB_w7 : Below w.heap.size w w7 := Below.trans (by go_grown) (hb_w7.mono (by go_size))
      go_wp2_with fail
      refine bodyPost_ret (by simp [results, Try.results13, go_sem, *]; try rfl) rfl ?_
      exact ⟨ret_bool (by rfl), by go_grown⟩
    · obtain rfl : decide (xx ≤ R) = q := by have h := HQ.out; rw [if_neg (fun e => hs2 e.2), if_pos hs] at h; exact h
      clear HQ
      go_wp2_with fail
      refine (HW3.out _).mono ?_
      rintro e w6 ⟨rfl, hb_w6⟩
      obtain ⟨hc_w6, hf_w6⟩ := bcell hb_w6
      have hz_w6 := hb_w6.size
      try simp at hz_w6
      have hB_w6 : Below w.heap.size w w6 := Below.trans (by go_grown) (hb_w6.mono (by go_size))
      have hs_w6_0 : w5.heap.size < w6.heap.size := by omega
      have vE : Var w6 w5.heap.size 63 #[.int .i64 o.1, .int .i64 o.2] := (Var.new _ _ _).keep hb_w6
      clear hc_w6 hf_w6
      go_wp2_with (refine wpList_store2 rfl 63 (.tmp 14) (.tmp 64) rfl w5.heap.size _ _ rfl rfl _ _ vE (by kernel_rfl) (pair_cells rfl rfl) ?_; intro w7 vE7 Kx hb_w7 hs_w7; obtain ⟨e0, e1⟩ := (And.intro (vE7.cell 0) (vE7.cell 1) : w7.cell? ⟨w5.heap.size, 0, none⟩ = some (.int .i64 x.1) ∧ w7.cell? ⟨w5.heap.size, 1, none⟩ = some (.int .i64 x.2)))
      have hB_w7 : Below w.heap.size w w7 := hB_w6.trans (hb_w7.mono (by omega))
      have hz_w7 := hb_w7.size
      clear hs_w7 Kx
      refine (HDxx.out _).mono ?_
      rintro e w8 ⟨rfl, hb_w8⟩
      obtain ⟨hc_w8, hf_w8⟩ := bcell hb_w8
      have hz_w8 := hb_w8.size
      try simp at hz_w8
      have hB_w8 : Below w.heap.size w w8 := Below.trans (by go_grown) (hb_w8.mono (by go_size))
      go_wp2_with fail
      refine bodyPost_ret (by simp [results, Try.results13, go_sem, *]; try rfl) rfl ?_
      exact ⟨ret_bool (by rfl), by go_grown⟩
  · obtain rfl : decide (oo ≤ R) = q := by have h := HQ.out; rw [if_neg (fun e => hs e.1), if_neg hs] at h; exact h
    clear HQ
    go_wp2_with fail
    refine (HDoo.out _).mono ?_
    rintro e w6 ⟨rfl, hb_w6⟩
    obtain ⟨hc_w6, hf_w6⟩ := bcell hb_w6
    have hz_w6 := hb_w6.size
    try simp at hz_w6
    have hB_w6 : Below w.heap.size w w6 := Below.trans (by go_grown) (hb_w6.mono (by go_size))
    go_wp2_with fail
    refine bodyPost_ret (by simp [results, Try.results13, go_sem, *]; try rfl) rfl ?_
    exact ⟨ret_bool (by rfl), by go_grown⟩

theorem near_any (p a b : Pt) (r : Int) (hr : I64 r) (w : World) :
    Calls Try.prog 13 #[.agg #[.int .i32 p.1, .int .i32 p.2], .agg #[.int .i32 a.1, .int .i32 a.2], .agg #[.int .i32 b.1, .int .i32 b.2], .int .i64 r] w fun e w' => e = .returned (.bool (near p a b r)) ∧ Below w.heap.size w w' := by
  rcases Decidable.em (r < 0 ∨ 3037000498 ≤ r ∨ (inP p && inP a && inP b) = false) with h | h
  · exact near_out p a b r hr h w
  · refine near_in p a b r (by omega) (by omega) ?_ w
    cases hb : inP p && inP a && inP b
    · exact absurd (Or.inr (Or.inr hb)) h
    · rfl

end Go.Proofs.Ytpjgghakeaajbaa
