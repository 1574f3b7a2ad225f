/-
  A due cut out of the heap.
-/
import Derived.Test.YtlogidnadfimlaaDueQ
namespace Go.Proofs.Ytlogidnadfimlaa
open Go.RowKit Go.Maps

theorem rowD_cut {cs : Array Value} {l : List Du} (h : RowD cs l) (m : Nat) : RowD cs (l.take m) := fun k hk => by
  rw [List.length_take] at hk
  rw [gd_take (by omega)]
  exact h k (by omega)
theorem RowAt.cut {W : World} {g cap : Nat} {l : List Du} (h : RowAt W g cap l) (m : Nat) : RowAt W g cap (l.take m) := by
  obtain ⟨h1, cs, h2, h3, h4⟩ := h
  exact ⟨by rw [List.length_take]; omega, cs, h2, h3, rowD_cut h4 m⟩
theorem take_last {l : List Du} {m : Nat} (h : l.length = m + 1) : l = l.take m ++ [gd l m] := by
  have h1 : l.take (m + 1) = l.take m ++ [gd l m] := by
    rw [List.take_add_one, gd_get (by omega)]; rfl
  rw [← h1, List.take_of_length_le (by omega)]

set_option maxHeartbeats 4000000 in
set_option maxRecDepth 100000 in
theorem cutH_any (d vb mb g cap n i : Nat) (most : Int) (l : List Du) (w : World) (H : HpAt w d vb mb g cap n most l []) (hh : HeapL l) (hcap : n ≤ cap) (_hcm : cap ≤ maxLen) (hi : i < n) :
    Calls Try.prog 40 #[.pointer (some ⟨d, 0, none⟩), .int .i64 (i : Int)] w fun e w' => e = .returned (.agg #[.int .u32 (gd l i).1, .int .u32 (gd l i).2.1, .int .u32 (gd l i).2.2]) ∧ ∃ l', l.Perm (gd l i :: l') ∧ HeapL l' ∧ HpAt w' d vb mb g cap (n - 1) most l' [(gd l i).2] ∧ Turn (fun b => b = d ∨ b = g ∨ b = mb) w w' := by
  obtain ⟨m, rfl⟩ : ∃ m, n = m + 1 := ⟨n - 1, by omega⟩
  have hil : i < l.length := by rw [H.len]; exact hi
  have hD : w.cell? ⟨d, 0, none⟩ = some (.slice (some ⟨g, 0, none⟩) (m + 1) cap) := H.dv.cell 0
  obtain ⟨a0, a1, a2⟩ := H.row.cells hil
  have zd := H.dv.lt
  have zg := H.row.lt
  have hbd := H.bd
  simp only [List.length_nil, Nat.add_zero] at hbd
  have hiI : (i : Int) < (m : Int) + 1 := by omega
  have HI := Lib.hid (And.intro H (And.intro hh hil))
  obtain ⟨⟨x0, x1, x2⟩, hx⟩ : ∃ x, gd l i = x := ⟨_, rfl⟩
  rw [hx] at a0 a1 a2 ⊢
  dsimp only at a0 a1 a2 ⊢
  have HX := Lib.hid hx
  clear H hh hil hx
  go_enter Try.func40, Try.ntmps40
  go_upto_region 1 with fail
  refine wp_gen (fun W0 hW0 => ?_)
  have hb0 : Below w.heap.size w W0 := by rw [hW0]; go_grown
  have vR := Lib.hid (show Var W0 w.heap.size 31 #[.int .u32 0, .int .u32 0, .int .u32 0] by rw [hW0]; exact Var.new _ _ _)
  have hD := (hb0.cell (p := ⟨d, 0, none⟩) zd).trans hD
  have a0 := (hb0.cell (p := ⟨g, i * 3, none⟩) zg).trans a0
  have a1 := (hb0.cell (p := ⟨g, i * 3 + 1, none⟩) zg).trans a1
  have a2 := (hb0.cell (p := ⟨g, i * 3 + 2, none⟩) zg).trans a2
  have zd0 : d < W0.heap.size := by have := hb0.size; omega
  have zg0 : g < W0.heap.size := by have := hb0.size; omega
  have zR := vR.out.lt
  have H0 := Lib.hid hb0
  have hsub : IntKind.i64.wrap ((m : Int) + 1 - 1) = (m : Int) := by rw [show (m : Int) + 1 - 1 = (m : Int) by omega]; exact w64_16 ⟨by omega, by omega⟩
  obtain ⟨R, hR⟩ : ∃ R, w.heap.size = R := ⟨_, rfl⟩
  rw [hR] at vR zR ⊢
  have HR := Lib.hid hR
  clear hW0 hb0 hR
  go_region
  go_upto_region 2 with fail
  refine wp_gen (fun W1 hW1 => ?_)
  have hb1 : Below W0.heap.size W0 W1 := by rw [hW1]; go_grown
  have vX := Lib.hid (show Var W1 W0.heap.size 31 #[.int .u32 x0, .int .u32 x1, .int .u32 x2] by rw [hW1]; exact Var.new _ _ _)
  have vR := Lib.hid (vR.out.keep hb1)
  have HB1 := Lib.hid (H0.out.trans (hb1.mono H0.out.size))
  have hz0 : R < W0.heap.size := zR
  obtain ⟨X, hX⟩ : ∃ X, W0.heap.size = X := ⟨_, rfl⟩
  rw [hX] at vX hz0 ⊢
  clear hW1 hb1 hX hD a0 a1 a2 zd0 zg0 zR hsub H0
  go_wp2_with fail
  refine (swap_any d vb mb g cap (m + 1) i m most l [] W1 (HI.out.1.below HB1.out) hi (by omega)).mono ?_
  rintro e w2 ⟨⟨u2, rfl⟩, hH2, hT2⟩
  have zgR : g < R ∧ d < R ∧ mb < R := by
    rw [← HR.out]
    obtain ⟨D, hm, _⟩ := HI.out.1.mp
    exact ⟨zg, zd, hm.lt⟩
  have vR2 := vR.out.turn hT2 (by omega)
  have vX2 := vX.out.turn hT2 (by omega)
  have c0 : w2.cell? ⟨d, 0, none⟩ = some (.slice (some ⟨g, 0, none⟩) (m + 1) cap) := hH2.dv.cell 0
  have f0 := hH2.dv.free 0
  have y0 := hH2.dv.lt
  have hmI : (m : Int) ≤ (cap : Int) := by omega
  have H2 := Lib.hid (And.intro hH2 (And.intro vR2 (And.intro vX2 ((Turn.of_below HB1.out).trans (hT2.mono (S' := fun b => b = d ∨ b = g ∨ b = mb) (fun k h => .inr h))))))
  clear hH2 hT2 vR vX vR2 vX2 HB1
  go_upto_region 4 with fail
  refine wp_gen (fun W3 hW3 => ?_)
  have H3 : Hid (HpAt W3 d vb mb g cap m most ((swp l i m).take m) [(x1, x2)] ∧ Var W3 R 31 #[.int .u32 0, .int .u32 0, .int .u32 0] ∧ Var W3 X 31 #[.int .u32 x0, .int .u32 x1, .int .u32 x2] ∧ Turn (fun b => b = d ∨ b = g ∨ b = mb) w W3) := Lib.hid (by
    obtain ⟨hH2, vR2, vX2, hT⟩ := H2.out
    obtain ⟨hH, hh, hil⟩ := HI.out
    obtain ⟨n1, n2, n3, n4, n5, n6⟩ := hH.ne
    have hml : m < l.length := by rw [hH.len]; omega
    have hsl : (swp l i m).length = m + 1 := by rw [swp_len, hH.len]
    have hlast := take_last hsl
    have hgm : gd (swp l i m) m = (x0, x1, x2) := by rw [swp_at hil hml, if_pos rfl, HX.out]
    rw [hgm] at hlast
    have hTd : Turn (· = d) w2 W3 := by rw [hW3]; exact Turn.set (Turn.refl (· = d) w2) (p := ⟨d, 0, none⟩) rfl _
    obtain ⟨D, hm, hp⟩ := hH2.mp
    refine ⟨⟨?_, hH2.vv.turn hTd (fun e => n5 e.symm), (hH2.row.turn hTd n1).cut m, by rw [List.length_take, hsl]; omega, ⟨D, hm.turn hTd (fun e => n4 e.symm), place_cut hp hlast⟩, hH2.keys.sublist (List.take_sublist _ _), fun x hx => hH2.ud x (List.mem_of_mem_take hx), by simp; omega, hH.ne⟩, vR2.turn hTd (by omega), vX2.turn hTd (by omega), hT.trans (hTd.mono fun k h => .inl h)⟩
    have hs := hH2.dv.store 0 (.slice (some ⟨g, 0, none⟩) m cap)
    rw [hW3]
    exact hs)
  clear hW3 H2 c0 f0 y0
  rcases Nat.lt_or_ge i m with him | him
  · have himI : (i : Int) < (m : Int) := by omega
    go_wp2_with fail
    refine (up_any d vb mb g cap m i most ((swp l i m).take m) [(x1, x2)] W3 H3.out.1 him (cut_near HI.out.2.1 HI.out.1.len him)).mono ?_
    rintro e w4 ⟨⟨u4, rfl⟩, l4, hp4, hd4, hH4, hT4⟩
    have H4 := Lib.hid (And.intro hp4 (And.intro hd4 (And.intro hH4 hT4)))
    clear hp4 hd4 hH4 hT4
    go_wp2_with fail
    refine (down_any d vb mb g cap m i most l4 [(x1, x2)] w4 H4.out.2.2.1 him H4.out.2.1).mono ?_
    rintro e w5 ⟨⟨u5, rfl⟩, l5, hp5, hh5, hH5, hT5⟩
    have hT35 := H4.out.2.2.2.trans hT5
    have vR5 := H3.out.2.1.turn hT35 (by omega)
    have vX5 := H3.out.2.2.1.turn hT35 (by omega)
    have d0 := vX5.cell 0
    have d1 := vX5.cell 1
    have d2 := vX5.cell 2
    have r0 := vR5.cell 0
    have r1 := vR5.cell 1
    have r2 := vR5.cell 2
    have fr0 := vR5.free 0
    have fr1 := vR5.free 1
    have fr2 := vR5.free 2
    simp only [List.getElem?_toArray, List.getElem?_cons_zero, List.getElem?_cons_succ] at d0 d1 d2 r0 r1 r2
    have yX := vX5.lt
    have yR := vR5.lt
    have H5 := Lib.hid (And.intro ((hp5.trans H4.out.1)) (And.intro hh5 (And.intro hH5 (And.intro vR5 (H3.out.2.2.2.trans (hT35.mono (S' := fun b => b = d ∨ b = g ∨ b = mb) (fun k h => .inr h)))))))
    clear hp5 hh5 hH5 hT5 hT35 vR5 vX5 H4
    go_wp2_with fail
    refine bodyPost_ret (by simp [results, Try.results40, go_sem, *]; try rfl) rfl ?_
    obtain ⟨hp, hh5, hH5, vR5, hT⟩ := H5.out
    have hT3 : Turn (· = R) w5 (((w5.setCell ⟨R, 0, none⟩ (.int .u32 x0)).setCell ⟨R, 1, none⟩ (.int .u32 x1)).setCell ⟨R, 2, none⟩ (.int .u32 x2)) := Turn.set (Turn.set (Turn.set (Turn.refl (· = R) w5) (p := ⟨R, 0, none⟩) rfl _) (p := ⟨R, 1, none⟩) rfl _) (p := ⟨R, 2, none⟩) rfl _
    have zvR : vb < R := by rw [← HR.out]; exact HI.out.1.vv.lt
    refine ⟨rfl, l5, ?_, hh5, hH5.wide hT3 (by omega) (by omega) (by omega) (by omega), ?_⟩
    · have := cut_perm (l := l) (i := i) (m := m) HI.out.1.len (by omega)
      rw [HX.out] at this
      exact this.trans (List.Perm.cons _ hp.symm)
    · exact hT.transN hT3 (fun b hb => .inr (by rw [HR.out]; exact Nat.le_of_eq hb.symm))
  · obtain rfl : i = m := by omega
    have hdi : decide ((i : Int) < (i : Int)) = false := by simp
    have hT35 : Turn (fun b => b = g ∨ b = mb) W3 W3 := Turn.refl _ _
    have hh5 : HeapL ((swp l i i).take i) := cut_last HI.out.2.1 HI.out.1.len
    have hH5 := H3.out.1
    have hp5 := List.Perm.refl ((swp l i i).take i)
    have vR5 := H3.out.2.1.turn hT35 (by omega)
    have vX5 := H3.out.2.2.1.turn hT35 (by omega)
    have d0 := vX5.cell 0
    have d1 := vX5.cell 1
    have d2 := vX5.cell 2
    have r0 := vR5.cell 0
    have r1 := vR5.cell 1
    have r2 := vR5.cell 2
    have fr0 := vR5.free 0
    have fr1 := vR5.free 1
    have fr2 := vR5.free 2
    simp only [List.getElem?_toArray, List.getElem?_cons_zero, List.getElem?_cons_succ] at d0 d1 d2 r0 r1 r2
    have yX := vX5.lt
    have yR := vR5.lt
    have H5 := Lib.hid (And.intro (hp5) (And.intro hh5 (And.intro hH5 (And.intro vR5 (H3.out.2.2.2.trans (hT35.mono (S' := fun b => b = d ∨ b = g ∨ b = mb) (fun k h => .inr h)))))))
    clear hp5 hh5 hH5 hT35 vR5 vX5
    go_wp2_with fail
    refine bodyPost_ret (by simp [results, Try.results40, go_sem, *]; try rfl) rfl ?_
    obtain ⟨hp, hh5, hH5, vR5, hT⟩ := H5.out
    have hT3 : Turn (· = R) W3 (((W3.setCell ⟨R, 0, none⟩ (.int .u32 x0)).setCell ⟨R, 1, none⟩ (.int .u32 x1)).setCell ⟨R, 2, none⟩ (.int .u32 x2)) := Turn.set (Turn.set (Turn.set (Turn.refl (· = R) W3) (p := ⟨R, 0, none⟩) rfl _) (p := ⟨R, 1, none⟩) rfl _) (p := ⟨R, 2, none⟩) rfl _
    have zvR : vb < R := by rw [← HR.out]; exact HI.out.1.vv.lt
    refine ⟨rfl, ((swp l i i).take i), ?_, hh5, hH5.wide hT3 (by omega) (by omega) (by omega) (by omega), ?_⟩
    · have := cut_perm (l := l) (i := i) (m := i) HI.out.1.len (by omega)
      rw [HX.out] at this
      exact this.trans (List.Perm.cons _ hp.symm)
    · exact hT.transN hT3 (fun b hb => .inr (by rw [HR.out]; exact Nat.le_of_eq hb.symm))
end Go.Proofs.Ytlogidnadfimlaa
