/-
  The reference's Quo: below 0, with a rest. (Printed by wip/tools/gen_quor.py.)
-/
import Derived.Test.YtedodoaeecbalaaQuoRM
namespace Go.Proofs.Ytedodoaeecbalaa
open Go.RowKit

set_option maxHeartbeats 4000000 in
theorem quo_ref_c {w0 : World} {v : Value} {x : Int} (hx : NumAt w0 v x) (hin : In128 x) (d : Int) (hd : I64 d) (hd0 : d ≠ 0) (hx0 : x < 0) (hR0 : ¬ x.natAbs % d.natAbs = 0) (w : World) (hw : Below w0.heap.size w0 w) :
    Calls Try.prog 39 #[v, .int .i64 d] w fun e w' => (∃ u u', e = .returned (.tuple #[u, u']) ∧ NumAt w' u (x / d) ∧ NumAt w' u' (x % d)) ∧ Below w.heap.size w w' := by
  have hq := quo_sizes x d hd0
  have OD := Lib.hid (fun W => of_ref d hd W)
  have HU1 := Lib.hid (fun W => unsigned_ref 1 (by omega) W)
  have hn9 : Small 9 x.natAbs := small_in hin
  have hm9 : Small 9 d.natAbs := small_64 hd
  have hm0 : 0 < d.natAbs := by omega
  obtain ⟨n, hn⟩ : ∃ z, x.natAbs = z := ⟨_, rfl⟩
  obtain ⟨m, hm⟩ : ∃ z, d.natAbs = z := ⟨_, rfl⟩
  obtain ⟨q, hqq⟩ : ∃ z, x / d = z := ⟨_, rfl⟩
  obtain ⟨r, hrr⟩ : ∃ z, x % d = z := ⟨_, rfl⟩
  rw [hn] at hn9
  rw [hm] at hm9 hm0
  rw [hn, hm, hqq, hrr] at hq
  rw [hqq, hrr]
  have hmod := Nat.mod_lt n hm0
  have hdl := Nat.div_le_self n m
  have HQ := Lib.hid (And.intro hq hmod)
  have HNM := Lib.hid (And.intro hn9 (And.intro hm9 hm0))
  have HD : Small 9 (n / m) := hn9.le hdl
  have HDM := Lib.hid (And.intro HD (hm9.le (Nat.le_of_lt hmod)))
  clear hq hn9 hm9 hm0 hqq hrr hmod HD hdl
  obtain ⟨b, A, na, ca, ds, rfl, hs, hr, ht, hv⟩ := num_open (hx.below hw)
  rw [hn] at hv
  have HV := Lib.hid hv.out
  clear hx hw hin hd hv
  rw [hn, hm] at hR0
  obtain rfl : b = true := by rw [hs.out]; simp; omega
  have HX0 := Lib.hid hx0
  clear hx0 hs
  have HR0 := Lib.hid hR0
  clear hR0
  go_enter Try.func39, Try.ntmps39
  go_wp2_with fail
  refine (open_num (OD.out _)).mono ?_
  rintro e w1 ⟨bd, Ad, nd, cd, dd, rfl, hsd, hrd, htd, hvd, hb_w1⟩
  obtain ⟨hc_w1, hf_w1⟩ := bcell hb_w1
  have hz_w1 := hb_w1.size
  try simp at hz_w1
  have hB_w1 : Below w.heap.size w w1 := Below.trans (by go_grown) (hb_w1.mono (by go_size))
  have hs_w1_0 : w.heap.size < w1.heap.size := by omega
  have hs_w1_1 : w.heap.size + 1 < w1.heap.size := by omega
  have hs_w1_2 : w.heap.size + 2 < w1.heap.size := by omega
  rw [hm] at hvd
  have va1 : Var w1 w.heap.size 35 #[.bool true, .slice A na ca] := (((Var.new _ _ _).alloc _).alloc _).keep hb_w1
  have vr1 : Var w1 (w.heap.size + 1) 35 #[.bool false, .slice none 0 0] := ((Var.new' _ _ _ (by simp)).alloc _).keep hb_w1
  have vs1 : Var w1 (w.heap.size + 1 + 1) 35 #[.bool false, .slice none 0 0] := (Var.new' _ _ _ (by simp)).keep hb_w1
  have hl1 : na ≤ 9 := num_len hr ht HV.out HNM.out.1
  have hl2 : nd ≤ 9 := num_len hrd htd hvd.out HNM.out.2.1
  have HQ1 := Lib.hid (HQ.out.1.2.2 HX0.out HR0.out)
  have SG := Lib.hid (sg_more hsd.out HQ1.out.1)
  clear hsd
  go_wp2_with fail
  refine (open_div (div_ref (raw_alloc (hr.below hB_w1) _) (raw_alloc hrd _) false false (by omega) (by omega) (by rw [hvd.out]; exact HNM.out.2.2) _ (Below.refl _ _))).mono ?_
  rintro e w2 ⟨AQ, nQ, cQ, dQ, AR, nR, cR, dR, rfl, ⟨hrq, htq, hvq⟩, ⟨hrr, htr, hvr⟩, hb_w2⟩
  obtain ⟨hc_w2, hf_w2⟩ := bcell hb_w2
  have hz_w2 := hb_w2.size
  try simp at hz_w2
  have hB_w2 : Below w.heap.size w w2 := Below.trans (by go_grown) (hb_w2.mono (by go_size))
  have hs_w2_0 : w.heap.size < w2.heap.size := by omega
  have hs_w2_1 : w.heap.size + 1 < w2.heap.size := by omega
  have hs_w2_2 : w.heap.size + 2 < w2.heap.size := by omega
  have hs_w2_3 : w1.heap.size < w2.heap.size := by omega
  rw [HV.out, hvd.out] at hvq hvr
  have va2 := (va1.alloc (.cells #[.bool bd, .slice Ad nd cd] 35)).keep hb_w2
  have vr2 := (vr1.alloc (.cells #[.bool bd, .slice Ad nd cd] 35)).keep hb_w2
  have vs2 := (vs1.alloc (.cells #[.bool bd, .slice Ad nd cd] 35)).keep hb_w2
  have vd2 := (Var.new w1 35 #[.bool bd, .slice Ad nd cd]).keep hb_w2
  have rd2 := (raw_alloc hrd (.cells #[.bool bd, .slice Ad nd cd] 35)).below hb_w2
  have a0_w2 : w2.cell? ⟨w.heap.size, 0, none⟩ = some (.bool true) := va2.cell 0
  have a1_w2 : w2.cell? ⟨w.heap.size, 1, none⟩ = some (.slice A na ca) := va2.cell 1
  have d0_w2 : w2.cell? ⟨w1.heap.size, 0, none⟩ = some (.bool bd) := vd2.cell 0
  have d1_w2 : w2.cell? ⟨w1.heap.size, 1, none⟩ = some (.slice Ad nd cd) := vd2.cell 1
  have r0_w2 : w2.cell? ⟨w.heap.size + 1, 0, none⟩ = some (.bool false) := vr2.cell 0
  have r1_w2 : w2.cell? ⟨w.heap.size + 1, 1, none⟩ = some (.slice none 0 0) := vr2.cell 1
  have s0_w2 : w2.cell? ⟨w.heap.size + 1 + 1, 0, none⟩ = some (.bool false) := vs2.cell 0
  have s1_w2 : w2.cell? ⟨w.heap.size + 1 + 1, 1, none⟩ = some (.slice none 0 0) := vs2.cell 1
  have hnR : 0 < nR := by
    rcases Nat.eq_zero_or_pos nR with h | h
    · exact absurd ((raw_len0 hrr htr).1 h) (by rw [hvr.out]; exact HR0.out)
    · exact h
  have hnRI : (0 : Int) < (nR : Int) := by omega
  have hlq : nQ ≤ 9 := num_len hrq htq hvq.out HDM.out.1
  have hlr : nR ≤ 9 := num_len hrr htr hvr.out HDM.out.2
  clear hc_w1 hf_w1 hz_w1 hs_w1_0 hs_w1_1 hs_w1_2 hc_w2 hf_w2 hz_w2 va1 vr1 vs1 hb_w1 hb_w2
  go_wp2_with fail
  refine wp_gen (fun w3 hW3 => ?_)
  have va3 : Var w3 w.heap.size 35 #[.bool true, .slice A na ca] := by rw [hW3]; exact (va2.alloc _).alloc _
  have vr3 : Var w3 (w.heap.size + 1) 35 #[.bool false, .slice none 0 0] := by rw [hW3]; exact (vr2.alloc _).alloc _
  have vs3 : Var w3 (w.heap.size + 1 + 1) 35 #[.bool false, .slice none 0 0] := by rw [hW3]; exact (vs2.alloc _).alloc _
  have vd3 : Var w3 w1.heap.size 35 #[.bool bd, .slice Ad nd cd] := by rw [hW3]; exact (vd2.alloc _).alloc _
  have vq3 : Var w3 w2.heap.size 35 #[.bool false, .slice AQ nQ cQ] := by rw [hW3]; exact (Var.new _ _ _).alloc _
  have vl3 : Var w3 (w2.heap.size + 1) 35 #[.bool false, .slice AR nR cR] := by rw [hW3]; exact Var.new' _ _ _ (by simp)
  have rq3 : RawAt w3 AQ nQ cQ dQ := by rw [hW3]; exact raw_alloc (raw_alloc hrq _) _
  have rl3 : RawAt w3 AR nR cR dR := by rw [hW3]; exact raw_alloc (raw_alloc hrr _) _
  have rd3 : RawAt w3 Ad nd cd dd := by rw [hW3]; exact raw_alloc (raw_alloc rd2 _) _
  have hB_3 : Below w.heap.size w w3 := by rw [hW3]; go_grown
  have a0_w3 : w3.cell? ⟨w.heap.size, 0, none⟩ = some (.bool true) := va3.cell 0
  have a1_w3 : w3.cell? ⟨w.heap.size, 1, none⟩ = some (.slice A na ca) := va3.cell 1
  have d0_w3 : w3.cell? ⟨w1.heap.size, 0, none⟩ = some (.bool bd) := vd3.cell 0
  have d1_w3 : w3.cell? ⟨w1.heap.size, 1, none⟩ = some (.slice Ad nd cd) := vd3.cell 1
  have r0_w3 : w3.cell? ⟨w.heap.size + 1, 0, none⟩ = some (.bool false) := vr3.cell 0
  have r1_w3 : w3.cell? ⟨w.heap.size + 1, 1, none⟩ = some (.slice none 0 0) := vr3.cell 1
  have s0_w3 : w3.cell? ⟨w.heap.size + 1 + 1, 0, none⟩ = some (.bool false) := vs3.cell 0
  have s1_w3 : w3.cell? ⟨w.heap.size + 1 + 1, 1, none⟩ = some (.slice none 0 0) := vs3.cell 1
  have q0_w3 : w3.cell? ⟨w2.heap.size, 0, none⟩ = some (.bool false) := vq3.cell 0
  have q1_w3 : w3.cell? ⟨w2.heap.size, 1, none⟩ = some (.slice AQ nQ cQ) := vq3.cell 1
  have l0_w3 : w3.cell? ⟨w2.heap.size + 1, 0, none⟩ = some (.bool false) := vl3.cell 0
  have l1_w3 : w3.cell? ⟨w2.heap.size + 1, 1, none⟩ = some (.slice AR nR cR) := vl3.cell 1
  have fq0_w3 := vq3.free 0
  have fq1_w3 := vq3.free 1
  have za3 := va3.lt
  have zr3 := vr3.lt
  have zs3 := vs3.lt
  have zd3 := vd3.lt
  have zq3 := vq3.lt
  have zl3 := vl3.lt
  clear hW3
  go_region_with (first | (go_at_call 37; refine (open_mag (HU1.out _)).mono ?_; rintro e wk ⟨b3, A3, n3, c3, d3, rfl, hs3, hr3, ht3, hv3, hb_wk⟩; (first | replace hb_wk := undrew hb_wk | skip); obtain ⟨hc_wk, hf_wk⟩ := bcell hb_wk; have hz_wk := hb_wk.size; (try simp at hz_wk); have hB_wk : Below w.heap.size w wk := Below.trans (by go_grown) (hb_wk.mono (by go_size)); have hs_wk_0 : w.heap.size < wk.heap.size := (by omega); have hs_wk_1 : w.heap.size + 1 < wk.heap.size := (by omega); have hs_wk_2 : w.heap.size + 1 + 1 < wk.heap.size := (by omega); have hs_wk_3 : w1.heap.size < wk.heap.size := (by omega); have hs_wk_4 : w2.heap.size < wk.heap.size := (by omega); have hs_wk_5 : w2.heap.size + 1 < wk.heap.size := (by omega); obtain rfl : b3 = false := hs3.out; have hl3 : n3 ≤ 1 := raw_len hr3 ht3 (by rw [hv3.out]; exact one_small); have hB_4u : Below w.heap.size w wk := hB_3.trans (hb_wk.mono hB_3.size); have vau := va3.keep hb_wk; have vru := vr3.keep hb_wk; have vsu := vs3.keep hb_wk; have vdu := vd3.keep hb_wk; have vqu := vq3.keep hb_wk; have vlu := vl3.keep hb_wk; have rqu := rq3.below hb_wk; have rlu := rl3.below hb_wk; have rdu := rd3.below hb_wk) | (go_at_call 56; refine (open_mag (size_any rqu hr3 false false (by omega) (by omega) _ (Below.refl _ _))).mono ?_; rintro e w4 ⟨b4, A4, n4, c4, d4, rfl, hs4, hr4, ht4, hv4, hb_w4⟩; (first | replace hb_w4 := undrew hb_w4 | skip); obtain ⟨hc_w4, hf_w4⟩ := bcell hb_w4; have hz_w4 := hb_w4.size; (try simp at hz_w4); have hB_w4 : Below w.heap.size w w4 := Below.trans (by go_grown) (hb_w4.mono (by go_size)); have hs_w4_0 : w.heap.size < w4.heap.size := (by omega); have hs_w4_1 : w.heap.size + 1 < w4.heap.size := (by omega); have hs_w4_2 : w.heap.size + 1 + 1 < w4.heap.size := (by omega); have hs_w4_3 : w1.heap.size < w4.heap.size := (by omega); have hs_w4_4 : w2.heap.size < w4.heap.size := (by omega); have hs_w4_5 : w2.heap.size + 1 < w4.heap.size := (by omega); obtain rfl : b4 = false := hs4.out; have hB_4 : Below w.heap.size w w4 := hB_4u.trans (hb_w4.mono hB_4u.size); have va4 := vau.keep hb_w4; have vr4 := vru.keep hb_w4; have vs4 := vsu.keep hb_w4; have vd4 := vdu.keep hb_w4; have vq4 := vqu.keep hb_w4; have vl4 := vlu.keep hb_w4; have rq4 := rqu.below hb_w4; have rl4 := rlu.below hb_w4; have rd4 := rdu.below hb_w4))
  all_goals
    rw [hvq.out, hv3.out] at hv4
    have a0_w4 : w4.cell? ⟨w.heap.size, 0, none⟩ = some (.bool true) := va4.cell 0
    have a1_w4 : w4.cell? ⟨w.heap.size, 1, none⟩ = some (.slice A na ca) := va4.cell 1
    have d0_w4 : w4.cell? ⟨w1.heap.size, 0, none⟩ = some (.bool bd) := vd4.cell 0
    have d1_w4 : w4.cell? ⟨w1.heap.size, 1, none⟩ = some (.slice Ad nd cd) := vd4.cell 1
    have r0_w4 : w4.cell? ⟨w.heap.size + 1, 0, none⟩ = some (.bool false) := vr4.cell 0
    have r1_w4 : w4.cell? ⟨w.heap.size + 1, 1, none⟩ = some (.slice none 0 0) := vr4.cell 1
    have s0_w4 : w4.cell? ⟨w.heap.size + 1 + 1, 0, none⟩ = some (.bool false) := vs4.cell 0
    have s1_w4 : w4.cell? ⟨w.heap.size + 1 + 1, 1, none⟩ = some (.slice none 0 0) := vs4.cell 1
    have l0_w4 : w4.cell? ⟨w2.heap.size + 1, 0, none⟩ = some (.bool false) := vl4.cell 0
    have l1_w4 : w4.cell? ⟨w2.heap.size + 1, 1, none⟩ = some (.slice AR nR cR) := vl4.cell 1
    have za4 := va4.lt
    have zr4 := vr4.lt
    have zs4 := vs4.lt
    have zd4 := vd4.lt
    have zq4 := vq4.lt
    have zl4 := vl4.lt
    go_wp2_with fail
    refine calls_gen (fun W4 hW4 => ?_)
    have va5 := var_far2 va4 (g' := w2.heap.size) (by omega) (.bool false) (.slice A4 n4 c4)
    have vr5 := var_far2 vr4 (g' := w2.heap.size) (by omega) (.bool false) (.slice A4 n4 c4)
    have vs5 := var_far2 vs4 (g' := w2.heap.size) (by omega) (.bool false) (.slice A4 n4 c4)
    have vd5 := var_far2 vd4 (g' := w2.heap.size) (by omega) (.bool false) (.slice A4 n4 c4)
    have vl5 := var_far2 vl4 (g' := w2.heap.size) (by omega) (.bool false) (.slice A4 n4 c4)
    have vq5 := var_two vq4 (.bool false) (.slice A4 n4 c4)
    have rq5 := hr4.over vq4 (.bool false) (.slice A4 n4 c4)
    have rl5 := rl4.over vq4 (.bool false) (.slice A4 n4 c4)
    have rd5 := rd4.over vq4 (.bool false) (.slice A4 n4 c4)
    have hB_5 : Below w.heap.size w ((w4.setCell ⟨w2.heap.size, 0, none⟩ (.bool false)).setCell ⟨w2.heap.size, 1, none⟩ (.slice A4 n4 c4)) := (hB_4.setCell (p := ⟨w2.heap.size, 0, none⟩) (by simp; omega) _).setCell (p := ⟨w2.heap.size, 1, none⟩) (by simp; omega) _
    rw [← hW4] at va5 vr5 vs5 vd5 vl5 vq5 rq5 rl5 rd5 hB_5
    clear hW4 va3 vr3 vs3 vd3 vq3 vl3 vau vru vsu vdu vqu vlu va4 vr4 vs4 vd4 vq4 vl4
    refine (open_mag (less_any rd5 rl5 false false (by omega) (by rw [hvd.out, hvr.out]; have := HQ.out.2; omega) _ (Below.refl _ _))).mono ?_
    rintro e w6 ⟨b6, A6, n6, c6, d6, rfl, hs6, hr6, ht6, hv6, hb_w6⟩
    obtain rfl : b6 = false := hs6.out
    rw [hvd.out, hvr.out] at hv6
    have va6 := va5.keep hb_w6
    have vr6 := vr5.keep hb_w6
    have vs6 := vs5.keep hb_w6
    have vd6 := vd5.keep hb_w6
    have vq6 := vq5.keep hb_w6
    have vl6 := vl5.keep hb_w6
    have rq6 := rq5.below hb_w6
    have a0_w6 : w6.cell? ⟨w.heap.size, 0, none⟩ = some (.bool true) := va6.cell 0
    have a1_w6 : w6.cell? ⟨w.heap.size, 1, none⟩ = some (.slice A na ca) := va6.cell 1
    have d0_w6 : w6.cell? ⟨w1.heap.size, 0, none⟩ = some (.bool bd) := vd6.cell 0
    have d1_w6 : w6.cell? ⟨w1.heap.size, 1, none⟩ = some (.slice Ad nd cd) := vd6.cell 1
    have r0_w6 : w6.cell? ⟨w.heap.size + 1, 0, none⟩ = some (.bool false) := vr6.cell 0
    have r1_w6 : w6.cell? ⟨w.heap.size + 1, 1, none⟩ = some (.slice none 0 0) := vr6.cell 1
    have s0_w6 : w6.cell? ⟨w.heap.size + 1 + 1, 0, none⟩ = some (.bool false) := vs6.cell 0
    have s1_w6 : w6.cell? ⟨w.heap.size + 1 + 1, 1, none⟩ = some (.slice none 0 0) := vs6.cell 1
    have q0_w6 : w6.cell? ⟨w2.heap.size, 0, none⟩ = some (.bool false) := vq6.cell 0
    have q1_w6 : w6.cell? ⟨w2.heap.size, 1, none⟩ = some (.slice A4 n4 c4) := vq6.cell 1
    have l0_w6 : w6.cell? ⟨w2.heap.size + 1, 0, none⟩ = some (.bool false) := vl6.cell 0
    have l1_w6 : w6.cell? ⟨w2.heap.size + 1, 1, none⟩ = some (.slice AR nR cR) := vl6.cell 1
    have fq0_w6 := vq6.free 0
    have fq1_w6 := vq6.free 1
    have fl0_w6 := vl6.free 0
    have fl1_w6 := vl6.free 1
    have hB_6 : Below w.heap.size w w6 := hB_5.trans (hb_w6.mono hB_5.size)
    have za6 := va6.lt
    have zr6 := vr6.lt
    have zs6 := vs6.lt
    have zd6 := vd6.lt
    have zq6 := vq6.lt
    have zl6 := vl6.lt
    clear hb_w6 va5 vr5 vs5 vd5 vl5 vq5 rl5 rd5 rq5 hB_5
    go_wp2_with fail
    refine wp_gen (fun W hW => ?_)
    have vl7 := var_two vl6 (.bool false) (.slice A6 n6 c6)
    have vr7 := var_far2 vr6 (g' := w2.heap.size + 1) (by omega) (.bool false) (.slice A6 n6 c6)
    have vs7 := var_far2 vs6 (g' := w2.heap.size + 1) (by omega) (.bool false) (.slice A6 n6 c6)
    have vq7 := var_far2 vq6 (g' := w2.heap.size + 1) (by omega) (.bool false) (.slice A6 n6 c6)
    have vr : Var W (w.heap.size + 1) 35 #[.bool false, .slice none 0 0] := by rw [hW]; exact vr7.far (p := ⟨w2.heap.size, 0, none⟩) (by simp; omega) _
    have vs : Var W (w.heap.size + 1 + 1) 35 #[.bool false, .slice none 0 0] := by rw [hW]; exact vs7.far (p := ⟨w2.heap.size, 0, none⟩) (by simp; omega) _
    have vq : Var W w2.heap.size 35 #[.bool (!bd), .slice A4 n4 c4] := by rw [hW]; exact vq7.store 0 _
    have vl : Var W (w2.heap.size + 1) 35 #[.bool false, .slice A6 n6 c6] := by rw [hW]; exact vl7.far (p := ⟨w2.heap.size, 0, none⟩) (by simp) _
    have rq := raw_set1 (rq6.over vl6 (.bool false) (.slice A6 n6 c6)) vq7 0 (.bool (!bd))
    have rl := raw_set1 (hr6.over vl6 (.bool false) (.slice A6 n6 c6)) vq7 0 (.bool (!bd))
    rw [← hW] at rq rl
    have hB_W : Below w.heap.size w W := by rw [hW]; go_grown
    have q0 : W.cell? ⟨w2.heap.size, 0, none⟩ = some (.bool (!bd)) := vq.cell 0
    have q1 : W.cell? ⟨w2.heap.size, 1, none⟩ = some (.slice A4 n4 c4) := vq.cell 1
    have l0 : W.cell? ⟨w2.heap.size + 1, 0, none⟩ = some (.bool false) := vl.cell 0
    have l1 : W.cell? ⟨w2.heap.size + 1, 1, none⟩ = some (.slice A6 n6 c6) := vl.cell 1
    have r0 : W.cell? ⟨w.heap.size + 1, 0, none⟩ = some (.bool false) := vr.cell 0
    have r1 : W.cell? ⟨w.heap.size + 1, 1, none⟩ = some (.slice none 0 0) := vr.cell 1
    have fr0 := vr.free 0
    have fr1 := vr.free 1
    have s0 : W.cell? ⟨w.heap.size + 1 + 1, 0, none⟩ = some (.bool false) := vs.cell 0
    have s1 : W.cell? ⟨w.heap.size + 1 + 1, 1, none⟩ = some (.slice none 0 0) := vs.cell 1
    have fs0 := vs.free 0
    have fs1 := vs.free 1
    have zq := vq.lt
    have zl := vl.lt
    have zr := vr.lt
    have zs := vs.lt
    clear hW
    clear va6 vr6 vs6 vd6 vq6 vl6 rq6 hr6 vl7 vr7 vs7 vq7 a0_w6 a1_w6 d0_w6 d1_w6 r0_w6 r1_w6 s0_w6 s1_w6 q0_w6 q1_w6 l0_w6 l1_w6 fq0_w6 fq1_w6 fl0_w6 fl1_w6
    have hQ : HeldQ w2.heap.size (.bool (!bd)) (.slice A4 n4 c4) (.bool false) (.slice A6 n6 c6) W := ⟨vq.lt, vl.lt, q0, q1, l0, l1⟩
    have nq1 : w.heap.size + 1 ≠ w2.heap.size := by omega
    have nq2 : w.heap.size + 1 ≠ w2.heap.size + 1 := by omega
    have nq3 : w.heap.size + 1 + 1 ≠ w2.heap.size := by omega
    have nq4 : w.heap.size + 1 + 1 ≠ w2.heap.size + 1 := by omega
    go_region_held3 (fun w' => w2.heap.size < w'.heap.size ∧ w2.heap.size + 1 < w'.heap.size ∧ w'.cell? ⟨w2.heap.size, 0, none⟩ = some (.bool (!bd)) ∧ w'.cell? ⟨w2.heap.size, 1, none⟩ = some (.slice A4 n4 c4) ∧ w'.cell? ⟨w2.heap.size + 1, 0, none⟩ = some (.bool false) ∧ w'.cell? ⟨w2.heap.size + 1, 1, none⟩ = some (.slice A6 n6 c6))
      (first | assumption | exact heldQ_drew hQ | exact heldQ_step hb_wk (by first | assumption | exact heldQ_drew hQ) | ((repeat (refine heldQ_store (by assumption) (by assumption) _ ?_)); first | assumption | exact hQ_wk))
      (first
        | (go_at_call 57; refine (open_mag (trimmed_any rq (!bd) _ (by first | exact Below.refl _ _ | exact (Below.refl _ _).drew))).mono ?_; rintro e wk ⟨b1, A1, n1, c1, e1, rfl, hs1, hr1, ht1, hv1, hb_wk⟩; (first | replace hb_wk := undrew hb_wk | skip); have hQ_wk := heldQ_step hb_wk hQ; obtain ⟨hc_wk, hf_wk⟩ := bcell hb_wk; have vr' := vr.keep hb_wk; have vs' := vs.keep hb_wk; have rl' := rl.below hb_wk; have hBk : Below w.heap.size w wk := hB_W.trans (hb_wk.mono hB_W.size)))
    all_goals go_wp2_with fail
    all_goals
      refine bodyPost_ret (by simp [results, Try.results39, go_sem, *]; try rfl) rfl ?_
      have fr1 := (hr1.over vr' (.bool b1) (.slice A1 n1 c1)).over (var_far2 vs' (by omega) (.bool b1) (.slice A1 n1 c1)) (.bool false) (.slice A6 n6 c6)
      have fl1 := (rl'.over vr' (.bool b1) (.slice A1 n1 c1)).over (var_far2 vs' (by omega) (.bool b1) (.slice A1 n1 c1)) (.bool false) (.slice A6 n6 c6)
      exact ⟨⟨_, _, rfl, num_trim (s' := (!bd)) (m := n / m + 1) fr1 ht1 (by rw [hs1.out, hv4.out]) (by rw [hv1.out, hv4.out]) SG.out.1 SG.out.2.1 SG.out.2.2, num_mk fl1 ht6 (by have := HQ1.out.2; have := HQ.out.2; exact (decide_eq_false (by omega)).symm) (by rw [hv6.out]; have := HQ1.out.2; have := HQ.out.2; omega)⟩, by go_grown⟩

end Go.Proofs.Ytedodoaeecbalaa
