/-
  Package seg: Meet, where a and b differ (in their second coordinate). Printed by gen_meet.py.
-/
import Derived.Test.YthbndilnobjjgaaSegD
namespace Go.Proofs.Ythbndilnobjjgaa
open Go.RowKit

set_option maxRecDepth 100000 in
set_option maxHeartbeats 4000000 in
theorem segMeet_way2 (a1 a2 b2 : Int) (c d : Pt) (hl : (inP (a1, a2) && inP (a1, b2) && inP c && inP d) = true) (hne : ¬ a2 = b2) (w : World) :
    Calls Try.prog 53 #[.agg #[.int .i32 a1, .int .i32 a2], .agg #[.int .i32 a1, .int .i32 b2], .agg #[.int .i32 c.1, .int .i32 c.2], .agg #[.int .i32 d.1, .int .i32 d.2]] w fun e w' => e = .returned (.agg #[.int .u8 (meet (a1, a2) (a1, b2) c d).k, .bool (meet (a1, a2) (a1, b2) c d).inn, .int .i64 (meet (a1, a2) (a1, b2) c d).f.1, .int .i64 (meet (a1, a2) (a1, b2) c d).f.2, .int .i64 (meet (a1, a2) (a1, b2) c d).t.1, .int .i64 (meet (a1, a2) (a1, b2) c d).t.2]) ∧ Below w.heap.size w w' := by
  have HL := Lib.hid (fun g W h => lattice4 g (a1, a2) (a1, b2) c d W h)
  unfold meet
  rw [hl, if_pos rfl]
  rw [hl] at HL
  simp only [Bool.and_eq_true] at hl
  obtain ⟨⟨⟨ia, ib⟩, ic⟩, id'⟩ := hl
  have hab : ¬ ((a1, a2) : Pt) = (a1, b2) := fun e => by injection e with e1 e2; exact hne e2
  have HW1 := Lib.hid (fun W => way_any (a1, a2) (a1, b2) (i32_in ia) (i32_in ib) W)
  have HW2 := Lib.hid (fun W => way_any c d (i32_in ic) (i32_in id') W)
  have HW3 := Lib.hid (fun W => way_any (a1, a2) c (i32_in ia) (i32_in ic) W)
  have HW4 := Lib.hid (fun W => way_any (a1, a2) d (i32_in ia) (i32_in id') W)
  have du := dv_sb ia ib
  have dw := dv_sb ic id'
  have do' := dv_sb ia ic
  have dd := dv_sb ia id'
  rw [if_neg hab]
  have hu : ¬ ((sb (a1, a2) (a1, b2)).1 = 0 ∧ (sb (a1, a2) (a1, b2)).2 = 0) := fun e => hab (by
    obtain ⟨e1, e2⟩ := e
    simp only [sb] at e1 e2
    exact Prod.ext (by show a1 = a1; omega) (by show a2 = b2; omega))
  obtain ⟨u, hue⟩ : ∃ u, sb (a1, a2) (a1, b2) = u := ⟨_, rfl⟩
  obtain ⟨v, hve⟩ : ∃ u, sb c d = u := ⟨_, rfl⟩
  obtain ⟨o, hoe⟩ : ∃ u, sb (a1, a2) c = u := ⟨_, rfl⟩
  obtain ⟨x, hxe⟩ : ∃ u, sb (a1, a2) d = u := ⟨_, rfl⟩
  rw [hue] at HW1 du hu ⊢
  rw [hve] at HW2 dw ⊢
  rw [hoe] at HW3 do' ⊢
  rw [hxe] at HW4 dd ⊢
  clear hue hve hoe hxe ia ib ic id'
  clear hab
  obtain ⟨r, hr⟩ : ∃ r, (if cr u v = 0 then (if cr u o = 0 then mtAlong (dt u u) (dt o u) (dt x u) else mt0) else mtCross (sg (cr u v) * cr u v) (sg (cr u v) * cr o v) (sg (cr u v) * cr o u)) = r := ⟨_, rfl⟩
  rw [hr]
  have HR := Lib.hid hr
  clear hr
  go_enter Try.func53, Try.ntmps53
  go_wp2_with fail
  refine (HL.out _ _ (Var.new' _ _ _ (by simp))).mono ?_
  rintro e w1 ⟨rfl, hb_w1⟩
  obtain ⟨hc_w1, hf_w1⟩ := bcell hb_w1
  have hz_w1 := hb_w1.size
  try simp at hz_w1
  have hB_w1 : Below w.heap.size w w1 := Below.trans (by go_grown) (hb_w1.mono (by go_size))
  have hs_w1_0 : w.heap.size < w1.heap.size := by omega
  have hs_w1_1 : w.heap.size + 1 < w1.heap.size := by omega
  have hs_w1_2 : w.heap.size + 1 + 1 < w1.heap.size := by omega
  have hs_w1_3 : w.heap.size + 1 + 1 + 1 < w1.heap.size := by omega
  have hs_w1_4 : w.heap.size + 1 + 1 + 1 + 1 < w1.heap.size := by omega
  have vR : Var w1 (w.heap.size + 1 + 1 + 1 + 1) 77 #[.int .u8 0, .bool false, .int .i64 0, .int .i64 0, .int .i64 0, .int .i64 0] := ((Var.new' _ _ _ (by simp)).alloc _).keep hb_w1
  have vA : Var w1 w.heap.size 28 #[.int .i32 a1, .int .i32 a2] := ((((((Var.new _ _ _).alloc _).alloc _).alloc _).alloc _).alloc _).keep hb_w1
  have vB : Var w1 (w.heap.size + 1) 28 #[.int .i32 a1, .int .i32 b2] := (((((Var.new' _ _ _ (by simp)).alloc _).alloc _).alloc _).alloc _).keep hb_w1
  have vC : Var w1 (w.heap.size + 1 + 1) 28 #[.int .i32 c.1, .int .i32 c.2] := ((((Var.new' _ _ _ (by simp)).alloc _).alloc _).alloc _).keep hb_w1
  have vD : Var w1 (w.heap.size + 1 + 1 + 1) 28 #[.int .i32 d.1, .int .i32 d.2] := (((Var.new' _ _ _ (by simp)).alloc _).alloc _).keep hb_w1
  have ca0 : w1.cell? ⟨w.heap.size, 0, none⟩ = some (.int .i32 a1) := vA.cell 0
  have ca1 : w1.cell? ⟨w.heap.size, 1, none⟩ = some (.int .i32 a2) := vA.cell 1
  have cb0 : w1.cell? ⟨w.heap.size + 1, 0, none⟩ = some (.int .i32 a1) := vB.cell 0
  have cb1 : w1.cell? ⟨w.heap.size + 1, 1, none⟩ = some (.int .i32 b2) := vB.cell 1
  have cc0 : w1.cell? ⟨w.heap.size + 1 + 1, 0, none⟩ = some (.int .i32 c.1) := vC.cell 0
  have cc1 : w1.cell? ⟨w.heap.size + 1 + 1, 1, none⟩ = some (.int .i32 c.2) := vC.cell 1
  have cd0 : w1.cell? ⟨w.heap.size + 1 + 1 + 1, 0, none⟩ = some (.int .i32 d.1) := vD.cell 0
  have cd1 : w1.cell? ⟨w.heap.size + 1 + 1 + 1, 1, none⟩ = some (.int .i32 d.2) := vD.cell 1
  clear hc_w1 hf_w1
  go_wp2_with fail
  clear hne
  refine wp_region_fresh_lit 9 3 [⟨9, 9, 94, #[.int .i64 0, .int .i64 0]⟩, ⟨10, 10, 94, #[.int .i64 0, .int .i64 0]⟩, ⟨11, 11, 94, #[.int .i64 0, .int .i64 0]⟩] 111 (by kernel_rfl) (by decide) (by kernel_rfl)
    (fun f hf => by simp only [List.mem_cons, List.not_mem_nil, or_false] at hf; rcases hf with rfl | rfl | rfl <;> simp) (fun f hf => by simp only [List.mem_cons, List.not_mem_nil, or_false] at hf; rcases hf with rfl | rfl | rfl <;> simp)
    (fun j h1 h2 => by
      rcases Nat.lt_or_ge j 10 with h3 | h3
      · exact ⟨_, List.mem_cons_self, show 9 = j by omega⟩
      · rcases Nat.lt_or_ge j 11 with h4 | h4
        · exact ⟨_, List.mem_cons_of_mem _ List.mem_cons_self, show 10 = j by omega⟩
        · exact ⟨_, List.mem_cons_of_mem _ (List.mem_cons_of_mem _ List.mem_cons_self), show 11 = j by omega⟩)
    (fun f hf => by
      simp only [List.mem_cons, List.not_mem_nil, or_false] at hf
      rcases hf with rfl | rfl | rfl
      all_goals exact laysB_of rfl rfl rfl (fun ρ w => by go_simp; rfl) (by kernel_rfl))
    (fun f hf f' hf' e => by
      simp only [List.mem_cons, List.not_mem_nil, or_false] at hf hf'
      rcases hf with rfl | rfl | rfl <;> rcases hf' with rfl | rfl | rfl <;> first | rfl | (simp at e))
    (fun f hf => by simp only [List.mem_cons, List.not_mem_nil, or_false] at hf; rcases hf with rfl | rfl | rfl <;> simp) rfl ?_
  simp only [List.take_succ_cons, List.take_zero, List.drop_succ_cons, List.drop_zero]
  have hs_w1_5 : w.heap.size + 1 + 1 + 1 < w1.heap.size := by omega
  refine wpRel_cons (.agg #[.int .i32 a1, .int .i32 a2]) rfl (fun W1 hb => by have hq := below_cells hb; go_simp; done) ?_
  go_simp
  refine wpRel_cons (.agg #[.int .i32 a1, .int .i32 b2]) rfl (fun W1 hb => by have hq := below_cells hb; go_simp; done) ?_
  go_simp
  refine wpRel_cons (.agg #[.int .i64 u.1, .int .i64 u.2]) rfl (fun W1 hb => by go_simp; exact HW1.out _) ?_
  go_simp
  refine wpRel_cons (.agg #[.int .i32 c.1, .int .i32 c.2]) rfl (fun W1 hb => by have hq := below_cells hb; go_simp; done) ?_
  go_simp
  refine wpRel_cons (.agg #[.int .i32 d.1, .int .i32 d.2]) rfl (fun W1 hb => by have hq := below_cells hb; go_simp; done) ?_
  go_simp
  refine wpRel_cons (.agg #[.int .i64 v.1, .int .i64 v.2]) rfl (fun W1 hb => by go_simp; exact HW2.out _) ?_
  go_simp
  refine wpRel_cons (.agg #[.int .i32 a1, .int .i32 a2]) rfl (fun W1 hb => by have hq := below_cells hb; go_simp; done) ?_
  go_simp
  refine wpRel_cons (.agg #[.int .i32 c.1, .int .i32 c.2]) rfl (fun W1 hb => by have hq := below_cells hb; go_simp; done) ?_
  go_simp
  refine wpRel_cons (.agg #[.int .i64 o.1, .int .i64 o.2]) rfl (fun W1 hb => by go_simp; exact HW3.out _) ?_
  go_simp
  intro g9 g10 g11 w2 hgot
  obtain ⟨lg9, Vg9⟩ := hgot.one ⟨9, 9, 94, #[.int .i64 0, .int .i64 0]⟩ List.mem_cons_self (g := g9) rfl
  obtain ⟨lg10, Vg10⟩ := hgot.one ⟨10, 10, 94, #[.int .i64 0, .int .i64 0]⟩ (List.mem_cons_of_mem _ List.mem_cons_self) (g := g10) rfl
  obtain ⟨lg11, Vg11⟩ := hgot.one ⟨11, 11, 94, #[.int .i64 0, .int .i64 0]⟩ (List.mem_cons_of_mem _ (List.mem_cons_of_mem _ List.mem_cons_self)) (g := g11) rfl
  have n01 := hgot.ne ⟨9, 9, 94, #[.int .i64 0, .int .i64 0]⟩ ⟨10, 10, 94, #[.int .i64 0, .int .i64 0]⟩ List.mem_cons_self (List.mem_cons_of_mem _ List.mem_cons_self) (by decide) (g := g9) (g' := g10) rfl rfl
  have n02 := hgot.ne ⟨9, 9, 94, #[.int .i64 0, .int .i64 0]⟩ ⟨11, 11, 94, #[.int .i64 0, .int .i64 0]⟩ List.mem_cons_self (List.mem_cons_of_mem _ (List.mem_cons_of_mem _ List.mem_cons_self)) (by decide) (g := g9) (g' := g11) rfl rfl
  have n12 := hgot.ne ⟨10, 10, 94, #[.int .i64 0, .int .i64 0]⟩ ⟨11, 11, 94, #[.int .i64 0, .int .i64 0]⟩ (List.mem_cons_of_mem _ List.mem_cons_self) (List.mem_cons_of_mem _ (List.mem_cons_of_mem _ List.mem_cons_self)) (by decide) (g := g10) (g' := g11) rfl rfl
  have hb_w2 := hgot.beh
  clear hgot
  refine wpList_store2 rfl 94 (.tmp 9) (.tmp 34) rfl g9 _ _ rfl rfl _ _ Vg9 (by kernel_rfl) (pair_cells rfl rfl) ?_
  intro w3 Ug9 Kg9 Bg9 Sg9
  have Vg10' : Var w3 g10 94 #[.int .i64 0, .int .i64 0] := (Kg9 g10 (Ne.symm n01)).trans Vg10
  refine wpList_store2 rfl 94 (.tmp 10) (.tmp 37) rfl g10 _ _ rfl rfl _ _ Vg10' (by kernel_rfl) (pair_cells rfl rfl) ?_
  intro w4 Ug10 Kg10 Bg10 Sg10
  have Vg11' : Var w4 g11 94 #[.int .i64 0, .int .i64 0] := (Kg10 g11 (Ne.symm n12)).trans ((Kg9 g11 (Ne.symm n02)).trans Vg11)
  refine wpList_store2 rfl 94 (.tmp 11) (.tmp 40) rfl g11 _ _ rfl rfl _ _ Vg11' (by kernel_rfl) (pair_cells rfl rfl) ?_
  intro w5 Ug11 Kg11 Bg11 Sg11
  have vU : Var w5 g9 94 #[.int .i64 u.1, .int .i64 u.2] := (Kg11 g9 n02).trans ((Kg10 g9 n01).trans Ug9)
  have vV : Var w5 g10 94 #[.int .i64 v.1, .int .i64 v.2] := (Kg11 g10 n12).trans Ug10
  have vO : Var w5 g11 94 #[.int .i64 o.1, .int .i64 o.2] := Ug11
  have hb5 : Below w1.heap.size w1 w5 := ((hb_w2.trans (Bg9.mono lg9)).trans (Bg10.mono lg10)).trans (Bg11.mono lg11)
  have vR5 := vR.keep hb5
  have vA5 := vA.keep hb5
  have vD5 := vD.keep hb5
  have u0 : w5.cell? ⟨g9, 0, none⟩ = some (.int .i64 u.1) := vU.cell 0
  have u1 : w5.cell? ⟨g9, 1, none⟩ = some (.int .i64 u.2) := vU.cell 1
  have v0 : w5.cell? ⟨g10, 0, none⟩ = some (.int .i64 v.1) := vV.cell 0
  have v1 : w5.cell? ⟨g10, 1, none⟩ = some (.int .i64 v.2) := vV.cell 1
  have o0 : w5.cell? ⟨g11, 0, none⟩ = some (.int .i64 o.1) := vO.cell 0
  have o1 : w5.cell? ⟨g11, 1, none⟩ = some (.int .i64 o.2) := vO.cell 1
  have hB_w5 : Below w.heap.size w w5 := hB_w1.trans (hb5.mono hB_w1.size)
  clear ca0 ca1 cb0 cb1 cc0 cc1 cd0 cd1 vA vB vC vD vR Vg9 Vg10 Vg11 Vg10' Vg11' Ug9 Ug10 Kg9 Kg10 Kg11 Bg9 Bg10 Bg11 hb_w2 HW1 HW2 HW3 HL
  have HX1 := Lib.hid (fun W => vcross_any u v du dw W)
  have bden := cr_bd du dw
  obtain ⟨den, hden⟩ : ∃ z, cr u v = z := ⟨_, rfl⟩
  rw [hden] at HX1 bden
  have h := HR.out
  rw [hden] at h
  have HR1 := Lib.hid h
  clear h
  clear HR hden
  unfold ptr
  have z9 := vU.lt
  have z10 := vV.lt
  have z11 := vO.lt
  go_wp2_with fail
  refine (HX1.out _).mono ?_
  rintro e w6 ⟨rfl, hb_w6⟩
  obtain ⟨hc_w6, hf_w6⟩ := bcell hb_w6
  have hz_w6 := hb_w6.size
  try simp at hz_w6
  have hB_w6 : Below w.heap.size w w6 := Below.trans (by go_grown) (hb_w6.mono (by go_size))
  have hs_w6_0 : g9 < w6.heap.size := by omega
  have hs_w6_1 : g10 < w6.heap.size := by omega
  have hs_w6_2 : g11 < w6.heap.size := by omega
  have hs_w6_3 : w.heap.size < w6.heap.size := by omega
  have hs_w6_4 : w.heap.size + 1 + 1 + 1 < w6.heap.size := by omega
  have hs_w6_5 : w.heap.size + 1 + 1 + 1 + 1 < w6.heap.size := by omega
  clear HX1
  have vU6 := vU.keep hb_w6
  have vV6 := vV.keep hb_w6
  have vO6 := vO.keep hb_w6
  have vA6 := vA5.keep hb_w6
  have vD6 := vD5.keep hb_w6
  have vR6 := vR5.keep hb_w6
  clear u0 u1 v0 v1 o0 o1 vU vV vO vA5 vD5 vR5 hc_w6 hf_w6 hb5 Ug11
  have u0 : w6.cell? ⟨g9, 0, none⟩ = some (.int .i64 u.1) := vU6.cell 0
  have u1 : w6.cell? ⟨g9, 1, none⟩ = some (.int .i64 u.2) := vU6.cell 1
  have v0 : w6.cell? ⟨g10, 0, none⟩ = some (.int .i64 v.1) := vV6.cell 0
  have v1 : w6.cell? ⟨g10, 1, none⟩ = some (.int .i64 v.2) := vV6.cell 1
  have o0 : w6.cell? ⟨g11, 0, none⟩ = some (.int .i64 o.1) := vO6.cell 0
  have o1 : w6.cell? ⟨g11, 1, none⟩ = some (.int .i64 o.2) := vO6.cell 1
  rcases Decidable.em (den = 0) with h0 | h0
  · subst h0
    have h := HR1.out
    rw [if_pos rfl] at h
    have HR2 := Lib.hid h
    clear h
    have HX2 := Lib.hid (fun W => vcross_any u o du do' W)
    obtain ⟨c1, hc1⟩ : ∃ z, cr u o = z := ⟨_, rfl⟩
    rw [hc1] at HX2
    have h := HR2.out
    rw [hc1] at h
    have HR3 := Lib.hid h
    clear h
    clear hc1 HR1 HR2
    rcases Decidable.em (c1 = 0) with h1 | h1
    · subst h1
      have h := HR3.out
      rw [if_pos rfl] at h
      have HR4 := Lib.hid h
      clear h
      clear HR3
      have HDo := Lib.hid (fun W => vdot_any o u do' du W)
      have HDx := Lib.hid (fun W => vdot_any x u dd du W)
      have HAl := Lib.hid (fun W => along_any u (dt o u) (dt x u) du (dt_pos hu) (dt_bd do' du) (dt_bd dd du) W)
      obtain ⟨m, hm⟩ : ∃ z, mtAlong (dt u u) (dt o u) (dt x u) = z := ⟨_, rfl⟩
      rw [hm] at HAl
      obtain rfl : m = r := by rw [← hm]; exact HR4.out
      obtain ⟨p, hp⟩ : ∃ z, dt o u = z := ⟨_, rfl⟩
      obtain ⟨q, hq⟩ : ∃ z, dt x u = z := ⟨_, rfl⟩
      rw [hp] at HDo HAl
      rw [hq] at HDx HAl
      clear hm HR4 hp hq hu
      obtain ⟨mk, mi, ⟨mf1, mf2⟩, mt1, mt2⟩ := m
      simp only at HAl ⊢
      go_wp2_with fail
      refine (HX2.out _).mono ?_
      rintro e w7 ⟨rfl, hb_w7⟩
      obtain ⟨hc_w7, hf_w7⟩ := bcell hb_w7
      have hz_w7 := hb_w7.size
      try simp at hz_w7
      have hB_w7 : Below w.heap.size w w7 := Below.trans (by go_grown) (hb_w7.mono (by go_size))
      have hs_w7_0 : g9 < w7.heap.size := by omega
      have hs_w7_1 : g10 < w7.heap.size := by omega
      have hs_w7_2 : g11 < w7.heap.size := by omega
      have hs_w7_3 : w.heap.size < w7.heap.size := by omega
      have hs_w7_4 : w.heap.size + 1 + 1 + 1 < w7.heap.size := by omega
      have hs_w7_5 : w.heap.size + 1 + 1 + 1 + 1 < w7.heap.size := by omega
      have vA7 := vA6.keep hb_w7
      have vD7 := vD6.keep hb_w7
      have vR7 := vR6.keep hb_w7
      have vU7 := vU6.keep hb_w7
      have vO7 := vO6.keep hb_w7
      clear u0 u1 v0 v1 o0 o1 vU6 vV6 vO6 vA6 vD6 vR6 hc_w7 hf_w7
      have u0 : w7.cell? ⟨g9, 0, none⟩ = some (.int .i64 u.1) := vU7.cell 0
      have u1 : w7.cell? ⟨g9, 1, none⟩ = some (.int .i64 u.2) := vU7.cell 1
      have o0 : w7.cell? ⟨g11, 0, none⟩ = some (.int .i64 o.1) := vO7.cell 0
      have o1 : w7.cell? ⟨g11, 1, none⟩ = some (.int .i64 o.2) := vO7.cell 1
      have ca0 : w7.cell? ⟨w.heap.size, 0, none⟩ = some (.int .i32 a1) := vA7.cell 0
      have ca1 : w7.cell? ⟨w.heap.size, 1, none⟩ = some (.int .i32 a2) := vA7.cell 1
      have cd0 : w7.cell? ⟨w.heap.size + 1 + 1 + 1, 0, none⟩ = some (.int .i32 d.1) := vD7.cell 0
      have cd1 : w7.cell? ⟨w.heap.size + 1 + 1 + 1, 1, none⟩ = some (.int .i32 d.2) := vD7.cell 1
      go_wp2_with fail
      have hq_w7 := @wd_cell w7
      refine wp_region_wd_tail 10 (by kernel_rfl) (by kernel_rfl) ?_
      simp only [List.take_succ_cons, List.take_zero, List.drop_succ_cons, List.drop_zero]
      repeat (go_big_quiet_step ((first | (go_at_call 71; with_reducible exact quiet_wd (HDo.out _)) | (go_at_call 71; with_reducible exact quiet_wd (HDx.out _)) | (go_at_call 68; with_reducible exact quiet_wd (HW4.out _)) | (go_at_call 70; with_reducible exact quiet_wd (HAl.out _)))))
      refine wpQuiet_nil ?_
      rintro w8 ⟨⟨wx, hb_w8⟩, hwx⟩
      obtain rfl : w8 = wx := hwx
      clear hq_w7
      have hz_w8 := hb_w8.size
      obtain ⟨hc_w8, hf_w8⟩ := bcell hb_w8
      have hB_w8 : Below w.heap.size w w8 := Below.trans (by go_grown) (hb_w8.mono (by go_size))
      have hs_w8_0 : g9 < w8.heap.size := Nat.lt_of_lt_of_le (by assumption) hb_w8.size
      have hs_w8_1 : g10 < w8.heap.size := Nat.lt_of_lt_of_le (by assumption) hb_w8.size
      have hs_w8_2 : g11 < w8.heap.size := Nat.lt_of_lt_of_le (by assumption) hb_w8.size
      have hs_w8_3 : w.heap.size + 1 + 1 + 1 + 1 < w8.heap.size := Nat.lt_of_lt_of_le (by assumption) hb_w8.size
      have vR8 := vR7.keep hb_w8
      clear hc_w8 hf_w8
      go_wp2_with (refine wpList_store6 rfl 77 (.tmp 8) (.tmp 60) rfl (w.heap.size + 1 + 1 + 1 + 1) _ _ _ _ _ _ rfl rfl _ _ _ _ _ _ vR8 (by kernel_rfl) (six_cells rfl rfl rfl rfl rfl rfl) ?_; intro wS vM hbM hsM; obtain ⟨m0, m1, m2, m3, m4, m5⟩ := var6 vM)
      refine bodyPost_ret (by simp [results, Try.results53, go_sem, *]; try rfl) rfl ?_
      exact ⟨rfl, Below.trans (by go_grown) (hbM.mono (by omega))⟩
    · obtain rfl : mt0 = r := by have h := HR3.out; rw [if_neg h1] at h; exact h
      clear HR3 hu
      go_wp2_with fail
      refine (HX2.out _).mono ?_
      rintro e w7 ⟨rfl, hb_w7⟩
      obtain ⟨hc_w7, hf_w7⟩ := bcell hb_w7
      have hz_w7 := hb_w7.size
      try simp at hz_w7
      have hB_w7 : Below w.heap.size w w7 := Below.trans (by go_grown) (hb_w7.mono (by go_size))
      have hs_w7_0 : g9 < w7.heap.size := by omega
      have hs_w7_1 : g10 < w7.heap.size := by omega
      have hs_w7_2 : g11 < w7.heap.size := by omega
      have hs_w7_3 : w.heap.size < w7.heap.size := by omega
      have hs_w7_4 : w.heap.size + 1 + 1 + 1 < w7.heap.size := by omega
      have hs_w7_5 : w.heap.size + 1 + 1 + 1 + 1 < w7.heap.size := by omega
      have vR7 := vR6.keep hb_w7
      clear hc_w7 hf_w7
      go_wp2_with (refine wpList_store6 rfl 77 (.tmp 8) (.tmp 50) rfl (w.heap.size + 1 + 1 + 1 + 1) _ _ _ _ _ _ rfl rfl _ _ _ _ _ _ vR7 (by kernel_rfl) (six_cells rfl rfl rfl rfl rfl rfl) ?_; intro wS vM hbM hsM; obtain ⟨m0, m1, m2, m3, m4, m5⟩ := var6 vM)
      refine bodyPost_ret (by simp [results, Try.results53, go_sem, *]; try rfl) rfl ?_
      exact ⟨rfl, Below.trans (by go_grown) (hbM.mono (by omega))⟩
  · have h := HR1.out
    rw [if_neg h0] at h
    have HR2 := Lib.hid h
    clear h HR1
    have HX3 := Lib.hid (fun W => vcross_any o v do' dw W)
    have HX4 := Lib.hid (fun W => vcross_any o u do' du W)
    have bt := cr_bd do' dw
    have bs := cr_bd do' du
    obtain ⟨t, ht⟩ : ∃ z, cr o v = z := ⟨_, rfl⟩
    obtain ⟨s, hs⟩ : ∃ z, cr o u = z := ⟨_, rfl⟩
    rw [ht] at HX3 bt
    rw [hs] at HX4 bs
    have h := HR2.out
    rw [ht, hs] at h
    have HR3 := Lib.hid h
    clear h HR2 ht hs hu HW4
    have h0' : (den == 0) = false := by simp; exact h0
    go_wp2_with fail
    have hq_w6 := @wd_cell w6
    refine wp_region_wd (by kernel_rfl) (by kernel_rfl) ?_
    repeat (go_big_quiet_step ((first | (go_at_call 69; with_reducible exact quiet_wd (HX3.out _)) | (go_at_call 69; with_reducible exact quiet_wd (HX4.out _)))))
    refine wpQuiet_nil ?_
    rintro w7 ⟨⟨wx, hb_w7⟩, hwx⟩
    obtain rfl : w7 = wx := hwx
    clear hq_w6
    have hz_w7 := hb_w7.size
    obtain ⟨hc_w7, hf_w7⟩ := bcell hb_w7
    have hB_w7 : Below w.heap.size w w7 := Below.trans (by go_grown) (hb_w7.mono (by go_size))
    have hs_w7_0 : g9 < w7.heap.size := Nat.lt_of_lt_of_le (by assumption) hb_w7.size
    have hs_w7_1 : g10 < w7.heap.size := Nat.lt_of_lt_of_le (by assumption) hb_w7.size
    have hs_w7_2 : g11 < w7.heap.size := Nat.lt_of_lt_of_le (by assumption) hb_w7.size
    have hs_w7_3 : w.heap.size + 1 + 1 + 1 + 1 < w7.heap.size := Nat.lt_of_lt_of_le (by assumption) hb_w7.size
    have vR7 := vR6.keep hb_w7
    clear hc_w7 hf_w7 vR6 vU6 vV6 vO6 vA6 vD6 u0 u1 v0 v1 o0 o1 HX3 HX4 h0'
    rcases Int.lt_or_gt_of_ne h0 with h2 | h2
    · obtain ⟨D, rfl⟩ : ∃ D, den = -D := ⟨-den, by omega⟩
      obtain ⟨T, rfl⟩ : ∃ D, t = -D := ⟨-t, by omega⟩
      obtain ⟨S, rfl⟩ : ∃ D, s = -D := ⟨-s, by omega⟩
      have HR4 : Hid (mtCross D T S = r) := Lib.hid (by
        have h := HR3.out
        rw [show sg (-D) = -1 by unfold sg; rw [if_pos h2]] at h
        rw [← h]
        congr 1 <;> omega)
      have bD : 0 < D ∧ D ≤ 9223372036854775807 := by omega
      have bT : -9223372036854775807 ≤ T ∧ T ≤ 9223372036854775807 := by omega
      have bS : -9223372036854775807 ≤ S ∧ S ≤ 9223372036854775807 := by omega
      clear HR3 bden bt bs h0
      have h3 : 0 < D := bD.1
      rcases Decidable.em (T < 0 ∨ D < T ∨ S < 0 ∨ D < S) with hout | hin
      · obtain rfl : mt0 = r := by have h := HR4.out; unfold mtCross at h; rw [if_pos hout] at h; exact h
        clear HR4
        go_wp2_with (refine wpList_store6 rfl 77 (.tmp 8) (.tmp 91) rfl (w.heap.size + 1 + 1 + 1 + 1) _ _ _ _ _ _ rfl rfl _ _ _ _ _ _ vR7 (by kernel_rfl) (six_cells rfl rfl rfl rfl rfl rfl) ?_; intro wS vM hbM hsM; obtain ⟨m0, m1, m2, m3, m4, m5⟩ := var6 vM)
        all_goals
          refine bodyPost_ret (by simp [results, Try.results53, go_sem, *]; try rfl) rfl ?_
          exact ⟨rfl, Below.trans (by go_grown) (hbM.mono (by omega))⟩
      · have hin' : (0 ≤ T ∧ T ≤ D) ∧ (0 ≤ S ∧ S ≤ D) := by omega
        have HO := Lib.hid (fun i W => one_any T D i ⟨⟨hin'.1.1, by omega⟩, by omega⟩ W)
        have h := HR4.out
        unfold mtCross mtOne at h
        rw [if_neg hin] at h
        obtain ⟨q1, hq1⟩ : ∃ q, (fr T D).1 = q := ⟨_, rfl⟩
        obtain ⟨q2, hq2⟩ : ∃ q, (fr T D).2 = q := ⟨_, rfl⟩
        rw [show fr T D = (q1, q2) from Prod.ext hq1 hq2] at h
        rw [hq1, hq2] at HO
        obtain ⟨i, hi⟩ : ∃ i, decide (0 < T ∧ T < D ∧ 0 < S ∧ S < D) = i := ⟨_, rfl⟩
        rw [hi] at h
        subst h
        clear HR4 hin hq1 hq2
        have g1 : ¬ T < 0 := by omega
        have g2 : ¬ D < T := by omega
        have g3 : ¬ S < 0 := by omega
        have g4 : ¬ D < S := by omega
        clear hin'
        have HO2 := Lib.hid (HO.out)
        clear HO
        rcases Decidable.em (0 < T) with i1 | i1
        · rcases Decidable.em (T < D) with i2 | i2
          · rcases Decidable.em (0 < S) with i3 | i3
            · skip
              obtain rfl : decide (S < D) = i := by rw [← hi]; exact decide_eq_decide.2 ⟨fun h => ⟨i1, i2, i3, h⟩, fun h => h.2.2.2⟩
              clear hi
              go_wp2_with fail
              refine (HO2.out _ _).mono ?_
              rintro e w8 ⟨rfl, hb_w8⟩
              obtain ⟨hc_w8, hf_w8⟩ := bcell hb_w8
              have hz_w8 := hb_w8.size
              try simp at hz_w8
              have hB_w8 : Below w.heap.size w w8 := Below.trans (by go_grown) (hb_w8.mono (by go_size))
              have hs_w8_0 : w.heap.size + 1 + 1 + 1 + 1 < w8.heap.size := by omega
              have vR8 := vR7.keep hb_w8
              clear hc_w8 hf_w8
              go_wp2_with (refine wpList_store6 rfl 77 (.tmp 8) (.tmp 110) rfl (w.heap.size + 1 + 1 + 1 + 1) _ _ _ _ _ _ rfl rfl _ _ _ _ _ _ vR8 (by kernel_rfl) (six_cells rfl rfl rfl rfl rfl rfl) ?_; intro wS vM hbM hsM; obtain ⟨m0, m1, m2, m3, m4, m5⟩ := var6 vM)
              refine bodyPost_ret (by simp [results, Try.results53, go_sem, *]; try rfl) rfl ?_
              exact ⟨rfl, Below.trans (by go_grown) (hbM.mono (by omega))⟩
            · skip
              obtain rfl : false = i := by rw [← hi]; exact (decide_eq_false (fun h => i3 h.2.2.1)).symm
              clear hi
              go_wp2_with fail
              refine (HO2.out _ _).mono ?_
              rintro e w8 ⟨rfl, hb_w8⟩
              obtain ⟨hc_w8, hf_w8⟩ := bcell hb_w8
              have hz_w8 := hb_w8.size
              try simp at hz_w8
              have hB_w8 : Below w.heap.size w w8 := Below.trans (by go_grown) (hb_w8.mono (by go_size))
              have hs_w8_0 : w.heap.size + 1 + 1 + 1 + 1 < w8.heap.size := by omega
              have vR8 := vR7.keep hb_w8
              clear hc_w8 hf_w8
              go_wp2_with (refine wpList_store6 rfl 77 (.tmp 8) (.tmp 110) rfl (w.heap.size + 1 + 1 + 1 + 1) _ _ _ _ _ _ rfl rfl _ _ _ _ _ _ vR8 (by kernel_rfl) (six_cells rfl rfl rfl rfl rfl rfl) ?_; intro wS vM hbM hsM; obtain ⟨m0, m1, m2, m3, m4, m5⟩ := var6 vM)
              refine bodyPost_ret (by simp [results, Try.results53, go_sem, *]; try rfl) rfl ?_
              exact ⟨rfl, Below.trans (by go_grown) (hbM.mono (by omega))⟩
          · skip
            obtain rfl : false = i := by rw [← hi]; exact (decide_eq_false (fun h => i2 h.2.1)).symm
            clear hi
            go_wp2_with fail
            refine (HO2.out _ _).mono ?_
            rintro e w8 ⟨rfl, hb_w8⟩
            obtain ⟨hc_w8, hf_w8⟩ := bcell hb_w8
            have hz_w8 := hb_w8.size
            try simp at hz_w8
            have hB_w8 : Below w.heap.size w w8 := Below.trans (by go_grown) (hb_w8.mono (by go_size))
            have hs_w8_0 : w.heap.size + 1 + 1 + 1 + 1 < w8.heap.size := by omega
            have vR8 := vR7.keep hb_w8
            clear hc_w8 hf_w8
            go_wp2_with (refine wpList_store6 rfl 77 (.tmp 8) (.tmp 110) rfl (w.heap.size + 1 + 1 + 1 + 1) _ _ _ _ _ _ rfl rfl _ _ _ _ _ _ vR8 (by kernel_rfl) (six_cells rfl rfl rfl rfl rfl rfl) ?_; intro wS vM hbM hsM; obtain ⟨m0, m1, m2, m3, m4, m5⟩ := var6 vM)
            refine bodyPost_ret (by simp [results, Try.results53, go_sem, *]; try rfl) rfl ?_
            exact ⟨rfl, Below.trans (by go_grown) (hbM.mono (by omega))⟩
        · skip
          obtain rfl : false = i := by rw [← hi]; exact (decide_eq_false (fun h => i1 h.1)).symm
          clear hi
          go_wp2_with fail
          refine (HO2.out _ _).mono ?_
          rintro e w8 ⟨rfl, hb_w8⟩
          obtain ⟨hc_w8, hf_w8⟩ := bcell hb_w8
          have hz_w8 := hb_w8.size
          try simp at hz_w8
          have hB_w8 : Below w.heap.size w w8 := Below.trans (by go_grown) (hb_w8.mono (by go_size))
          have hs_w8_0 : w.heap.size + 1 + 1 + 1 + 1 < w8.heap.size := by omega
          have vR8 := vR7.keep hb_w8
          clear hc_w8 hf_w8
          go_wp2_with (refine wpList_store6 rfl 77 (.tmp 8) (.tmp 110) rfl (w.heap.size + 1 + 1 + 1 + 1) _ _ _ _ _ _ rfl rfl _ _ _ _ _ _ vR8 (by kernel_rfl) (six_cells rfl rfl rfl rfl rfl rfl) ?_; intro wS vM hbM hsM; obtain ⟨m0, m1, m2, m3, m4, m5⟩ := var6 vM)
          refine bodyPost_ret (by simp [results, Try.results53, go_sem, *]; try rfl) rfl ?_
          exact ⟨rfl, Below.trans (by go_grown) (hbM.mono (by omega))⟩
    · obtain ⟨D, rfl⟩ : ∃ D, D = den := ⟨den, rfl⟩
      obtain ⟨T, rfl⟩ : ∃ T, T = t := ⟨t, rfl⟩
      obtain ⟨S, rfl⟩ : ∃ S, S = s := ⟨s, rfl⟩
      have h3' : ¬ D < 0 := by omega
      have HR4 : Hid (mtCross D T S = r) := Lib.hid (by
        have h := HR3.out
        rw [show sg D = 1 by unfold sg; rw [if_neg h3']] at h
        rw [← h]
        congr 1 <;> omega)
      have bD : 0 < D ∧ D ≤ 9223372036854775807 := by omega
      have bT : -9223372036854775807 ≤ T ∧ T ≤ 9223372036854775807 := by omega
      have bS : -9223372036854775807 ≤ S ∧ S ≤ 9223372036854775807 := by omega
      clear HR3 bden bt bs h0
      have h3 : 0 < D := bD.1
      rcases Decidable.em (T < 0 ∨ D < T ∨ S < 0 ∨ D < S) with hout | hin
      · obtain rfl : mt0 = r := by have h := HR4.out; unfold mtCross at h; rw [if_pos hout] at h; exact h
        clear HR4
        go_wp2_with (refine wpList_store6 rfl 77 (.tmp 8) (.tmp 91) rfl (w.heap.size + 1 + 1 + 1 + 1) _ _ _ _ _ _ rfl rfl _ _ _ _ _ _ vR7 (by kernel_rfl) (six_cells rfl rfl rfl rfl rfl rfl) ?_; intro wS vM hbM hsM; obtain ⟨m0, m1, m2, m3, m4, m5⟩ := var6 vM)
        all_goals
          refine bodyPost_ret (by simp [results, Try.results53, go_sem, *]; try rfl) rfl ?_
          exact ⟨rfl, Below.trans (by go_grown) (hbM.mono (by omega))⟩
      · have hin' : (0 ≤ T ∧ T ≤ D) ∧ (0 ≤ S ∧ S ≤ D) := by omega
        have HO := Lib.hid (fun i W => one_any T D i ⟨⟨hin'.1.1, by omega⟩, by omega⟩ W)
        have h := HR4.out
        unfold mtCross mtOne at h
        rw [if_neg hin] at h
        obtain ⟨q1, hq1⟩ : ∃ q, (fr T D).1 = q := ⟨_, rfl⟩
        obtain ⟨q2, hq2⟩ : ∃ q, (fr T D).2 = q := ⟨_, rfl⟩
        rw [show fr T D = (q1, q2) from Prod.ext hq1 hq2] at h
        rw [hq1, hq2] at HO
        obtain ⟨i, hi⟩ : ∃ i, decide (0 < T ∧ T < D ∧ 0 < S ∧ S < D) = i := ⟨_, rfl⟩
        rw [hi] at h
        subst h
        clear HR4 hin hq1 hq2
        have g1 : ¬ T < 0 := by omega
        have g2 : ¬ D < T := by omega
        have g3 : ¬ S < 0 := by omega
        have g4 : ¬ D < S := by omega
        clear hin'
        have HO2 := Lib.hid (HO.out)
        clear HO
        rcases Decidable.em (0 < T) with i1 | i1
        · rcases Decidable.em (T < D) with i2 | i2
          · rcases Decidable.em (0 < S) with i3 | i3
            · skip
              obtain rfl : decide (S < D) = i := by rw [← hi]; exact decide_eq_decide.2 ⟨fun h => ⟨i1, i2, i3, h⟩, fun h => h.2.2.2⟩
              clear hi
              go_wp2_with fail
              refine (HO2.out _ _).mono ?_
              rintro e w8 ⟨rfl, hb_w8⟩
              obtain ⟨hc_w8, hf_w8⟩ := bcell hb_w8
              have hz_w8 := hb_w8.size
              try simp at hz_w8
              have hB_w8 : Below w.heap.size w w8 := Below.trans (by go_grown) (hb_w8.mono (by go_size))
              have hs_w8_0 : w.heap.size + 1 + 1 + 1 + 1 < w8.heap.size := by omega
              have vR8 := vR7.keep hb_w8
              clear hc_w8 hf_w8
              go_wp2_with (refine wpList_store6 rfl 77 (.tmp 8) (.tmp 110) rfl (w.heap.size + 1 + 1 + 1 + 1) _ _ _ _ _ _ rfl rfl _ _ _ _ _ _ vR8 (by kernel_rfl) (six_cells rfl rfl rfl rfl rfl rfl) ?_; intro wS vM hbM hsM; obtain ⟨m0, m1, m2, m3, m4, m5⟩ := var6 vM)
              refine bodyPost_ret (by simp [results, Try.results53, go_sem, *]; try rfl) rfl ?_
              exact ⟨rfl, Below.trans (by go_grown) (hbM.mono (by omega))⟩
            · skip
              obtain rfl : false = i := by rw [← hi]; exact (decide_eq_false (fun h => i3 h.2.2.1)).symm
              clear hi
              go_wp2_with fail
              refine (HO2.out _ _).mono ?_
              rintro e w8 ⟨rfl, hb_w8⟩
              obtain ⟨hc_w8, hf_w8⟩ := bcell hb_w8
              have hz_w8 := hb_w8.size
              try simp at hz_w8
              have hB_w8 : Below w.heap.size w w8 := Below.trans (by go_grown) (hb_w8.mono (by go_size))
              have hs_w8_0 : w.heap.size + 1 + 1 + 1 + 1 < w8.heap.size := by omega
              have vR8 := vR7.keep hb_w8
              clear hc_w8 hf_w8
              go_wp2_with (refine wpList_store6 rfl 77 (.tmp 8) (.tmp 110) rfl (w.heap.size + 1 + 1 + 1 + 1) _ _ _ _ _ _ rfl rfl _ _ _ _ _ _ vR8 (by kernel_rfl) (six_cells rfl rfl rfl rfl rfl rfl) ?_; intro wS vM hbM hsM; obtain ⟨m0, m1, m2, m3, m4, m5⟩ := var6 vM)
              refine bodyPost_ret (by simp [results, Try.results53, go_sem, *]; try rfl) rfl ?_
              exact ⟨rfl, Below.trans (by go_grown) (hbM.mono (by omega))⟩
          · skip
            obtain rfl : false = i := by rw [← hi]; exact (decide_eq_false (fun h => i2 h.2.1)).symm
            clear hi
            go_wp2_with fail
            refine (HO2.out _ _).mono ?_
            rintro e w8 ⟨rfl, hb_w8⟩
            obtain ⟨hc_w8, hf_w8⟩ := bcell hb_w8
            have hz_w8 := hb_w8.size
            try simp at hz_w8
            have hB_w8 : Below w.heap.size w w8 := Below.trans (by go_grown) (hb_w8.mono (by go_size))
            have hs_w8_0 : w.heap.size + 1 + 1 + 1 + 1 < w8.heap.size := by omega
            have vR8 := vR7.keep hb_w8
            clear hc_w8 hf_w8
            go_wp2_with (refine wpList_store6 rfl 77 (.tmp 8) (.tmp 110) rfl (w.heap.size + 1 + 1 + 1 + 1) _ _ _ _ _ _ rfl rfl _ _ _ _ _ _ vR8 (by kernel_rfl) (six_cells rfl rfl rfl rfl rfl rfl) ?_; intro wS vM hbM hsM; obtain ⟨m0, m1, m2, m3, m4, m5⟩ := var6 vM)
            refine bodyPost_ret (by simp [results, Try.results53, go_sem, *]; try rfl) rfl ?_
            exact ⟨rfl, Below.trans (by go_grown) (hbM.mono (by omega))⟩
        · skip
          obtain rfl : false = i := by rw [← hi]; exact (decide_eq_false (fun h => i1 h.1)).symm
          clear hi
          go_wp2_with fail
          refine (HO2.out _ _).mono ?_
          rintro e w8 ⟨rfl, hb_w8⟩
          obtain ⟨hc_w8, hf_w8⟩ := bcell hb_w8
          have hz_w8 := hb_w8.size
          try simp at hz_w8
          have hB_w8 : Below w.heap.size w w8 := Below.trans (by go_grown) (hb_w8.mono (by go_size))
          have hs_w8_0 : w.heap.size + 1 + 1 + 1 + 1 < w8.heap.size := by omega
          have vR8 := vR7.keep hb_w8
          clear hc_w8 hf_w8
          go_wp2_with (refine wpList_store6 rfl 77 (.tmp 8) (.tmp 110) rfl (w.heap.size + 1 + 1 + 1 + 1) _ _ _ _ _ _ rfl rfl _ _ _ _ _ _ vR8 (by kernel_rfl) (six_cells rfl rfl rfl rfl rfl rfl) ?_; intro wS vM hbM hsM; obtain ⟨m0, m1, m2, m3, m4, m5⟩ := var6 vM)
          refine bodyPost_ret (by simp [results, Try.results53, go_sem, *]; try rfl) rfl ?_
          exact ⟨rfl, Below.trans (by go_grown) (hbM.mono (by omega))⟩

end Go.Proofs.Ythbndilnobjjgaa
