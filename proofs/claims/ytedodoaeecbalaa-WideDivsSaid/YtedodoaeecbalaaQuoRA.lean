/-
  The reference's Quo: a number that is not below 0. (Printed by wip/tools/gen_quor.py.)
-/
import Derived.Test.YtedodoaeecbalaaQuoRM
namespace Go.Proofs.Ytedodoaeecbalaa
open Go.RowKit

set_option maxHeartbeats 4000000 in
theorem quo_ref_a {w0 : World} {v : Value} {x : Int} (hx : NumAt w0 v x) (hin : In128 x) (d : Int) (hd : I64 d) (hd0 : d ≠ 0) (hx0 : ¬ x < 0) (w : World) (hw : Below w0.heap.size w0 w) :
    Calls Try.prog 39 #[v, .int .i64 d] w fun e w' => (∃ u u', e = .returned (.tuple #[u, u']) ∧ NumAt w' u (x / d) ∧ NumAt w' u' (x % d)) ∧ Below w.heap.size w w' := by
  have hq := quo_sizes x d hd0
  have OD := Lib.hid (fun W => of_ref d hd W)
  have HU1 := Lib.hid (fun W => unsigned_ref 1 (by omega) W)
  have hn9 : Small 9 x.natAbs := small_in hin
  have hm9 : Small 9 d.natAbs := small_64 hd
  have hm0 : 0 < d.natAbs := by omega
  obtain ⟨n, hn⟩ : ∃ z, x.natAbs = z := ⟨_, rfl⟩
  obtain ⟨m, hm⟩ : ∃ z, d.natAbs = z := ⟨_, rfl⟩
  obtain ⟨q, hqq⟩ : ∃ z, x / d = z := ⟨_, rfl⟩
  obtain ⟨r, hrr⟩ : ∃ z, x % d = z := ⟨_, rfl⟩
  rw [hn] at hn9
  rw [hm] at hm9 hm0
  rw [hn, hm, hqq, hrr] at hq
  rw [hqq, hrr]
  have hmod := Nat.mod_lt n hm0
  have hdl := Nat.div_le_self n m
  have HQ := Lib.hid (And.intro hq hmod)
  have HNM := Lib.hid (And.intro hn9 (And.intro hm9 hm0))
  have HD : Small 9 (n / m) := hn9.le hdl
  have HDM := Lib.hid (And.intro HD (hm9.le (Nat.le_of_lt hmod)))
  clear hq hn9 hm9 hm0 hqq hrr hmod HD hdl
  obtain ⟨b, A, na, ca, ds, rfl, hs, hr, ht, hv⟩ := num_open (hx.below hw)
  rw [hn] at hv
  have HV := Lib.hid hv.out
  clear hx hw hin hd hv
  obtain rfl : b = false := by rw [hs.out]; simp; omega
  have HX0 := Lib.hid (show 0 ≤ x from by omega)
  clear hx0 hs
  go_enter Try.func39, Try.ntmps39
  go_wp2_with fail
  refine (open_num (OD.out _)).mono ?_
  rintro e w1 ⟨bd, Ad, nd, cd, dd, rfl, hsd, hrd, htd, hvd, hb_w1⟩
  obtain ⟨hc_w1, hf_w1⟩ := bcell hb_w1
  have hz_w1 := hb_w1.size
  try simp at hz_w1
  have hB_w1 : Below w.heap.size w w1 := Below.trans (by go_grown) (hb_w1.mono (by go_size))
  have hs_w1_0 : w.heap.size < w1.heap.size := by omega
  have hs_w1_1 : w.heap.size + 1 < w1.heap.size := by omega
  have hs_w1_2 : w.heap.size + 2 < w1.heap.size := by omega
  rw [hm] at hvd
  have va1 : Var w1 w.heap.size 35 #[.bool false, .slice A na ca] := (((Var.new _ _ _).alloc _).alloc _).keep hb_w1
  have vr1 : Var w1 (w.heap.size + 1) 35 #[.bool false, .slice none 0 0] := ((Var.new' _ _ _ (by simp)).alloc _).keep hb_w1
  have vs1 : Var w1 (w.heap.size + 1 + 1) 35 #[.bool false, .slice none 0 0] := (Var.new' _ _ _ (by simp)).keep hb_w1
  have hl1 : na ≤ 9 := num_len hr ht HV.out HNM.out.1
  have hl2 : nd ≤ 9 := num_len hrd htd hvd.out HNM.out.2.1
  have HQ1 := Lib.hid (HQ.out.1.1 (by have := HX0.out; omega))
  have SG := Lib.hid (sg_pos hsd.out HQ1.out.1)
  clear hsd
  go_wp2_with fail
  refine (open_div (div_ref (raw_alloc (hr.below hB_w1) _) (raw_alloc hrd _) false false (by omega) (by omega) (by rw [hvd.out]; exact HNM.out.2.2) _ (Below.refl _ _))).mono ?_
  rintro e w2 ⟨AQ, nQ, cQ, dQ, AR, nR, cR, dR, rfl, ⟨hrq, htq, hvq⟩, ⟨hrr, htr, hvr⟩, hb_w2⟩
  obtain ⟨hc_w2, hf_w2⟩ := bcell hb_w2
  have hz_w2 := hb_w2.size
  try simp at hz_w2
  have hB_w2 : Below w.heap.size w w2 := Below.trans (by go_grown) (hb_w2.mono (by go_size))
  have hs_w2_0 : w.heap.size < w2.heap.size := by omega
  have hs_w2_1 : w.heap.size + 1 < w2.heap.size := by omega
  have hs_w2_2 : w.heap.size + 2 < w2.heap.size := by omega
  have hs_w2_3 : w1.heap.size < w2.heap.size := by omega
  rw [HV.out, hvd.out] at hvq hvr
  have va2 := (va1.alloc (.cells #[.bool bd, .slice Ad nd cd] 35)).keep hb_w2
  have vr2 := (vr1.alloc (.cells #[.bool bd, .slice Ad nd cd] 35)).keep hb_w2
  have vs2 := (vs1.alloc (.cells #[.bool bd, .slice Ad nd cd] 35)).keep hb_w2
  have vd2 := (Var.new w1 35 #[.bool bd, .slice Ad nd cd]).keep hb_w2
  have rd2 := (raw_alloc hrd (.cells #[.bool bd, .slice Ad nd cd] 35)).below hb_w2
  have a0_w2 : w2.cell? ⟨w.heap.size, 0, none⟩ = some (.bool false) := va2.cell 0
  have a1_w2 : w2.cell? ⟨w.heap.size, 1, none⟩ = some (.slice A na ca) := va2.cell 1
  have d0_w2 : w2.cell? ⟨w1.heap.size, 0, none⟩ = some (.bool bd) := vd2.cell 0
  have d1_w2 : w2.cell? ⟨w1.heap.size, 1, none⟩ = some (.slice Ad nd cd) := vd2.cell 1
  have r0_w2 : w2.cell? ⟨w.heap.size + 1, 0, none⟩ = some (.bool false) := vr2.cell 0
  have r1_w2 : w2.cell? ⟨w.heap.size + 1, 1, none⟩ = some (.slice none 0 0) := vr2.cell 1
  have s0_w2 : w2.cell? ⟨w.heap.size + 1 + 1, 0, none⟩ = some (.bool false) := vs2.cell 0
  have s1_w2 : w2.cell? ⟨w.heap.size + 1 + 1, 1, none⟩ = some (.slice none 0 0) := vs2.cell 1
  have hBW : Below w.heap.size w w2 := hB_w2
  clear hc_w1 hf_w1 hz_w1 hs_w1_0 hs_w1_1 hs_w1_2 hc_w2 hf_w2 hz_w2 va1 vr1 vs1 hl1 hl2 hrd htd hvd hb_w1 hb_w2
  go_wp2_with fail
  refine wp_gen (fun W hW => ?_)
  have vr : Var W (w.heap.size + 1) 35 #[.bool false, .slice none 0 0] := by rw [hW]; exact (vr2.alloc _).alloc _
  have vs : Var W (w.heap.size + 1 + 1) 35 #[.bool false, .slice none 0 0] := by rw [hW]; exact (vs2.alloc _).alloc _
  have vq : Var W w2.heap.size 35 #[.bool bd, .slice AQ nQ cQ] := by rw [hW]; exact (Var.new _ _ _).alloc _
  have vl : Var W (w2.heap.size + 1) 35 #[.bool false, .slice AR nR cR] := by rw [hW]; exact Var.new' _ _ _ (by simp)
  have rq := raw_alloc (raw_alloc hrq (.cells #[.bool bd, .slice AQ nQ cQ] 35)) (.cells #[.bool false, .slice AR nR cR] 35)
  have rl := raw_alloc (raw_alloc hrr (.cells #[.bool bd, .slice AQ nQ cQ] 35)) (.cells #[.bool false, .slice AR nR cR] 35)
  rw [← hW] at rq rl
  have hB_W : Below w.heap.size w W := by rw [hW]; go_grown
  have q0 : W.cell? ⟨w2.heap.size, 0, none⟩ = some (.bool bd) := vq.cell 0
  have q1 : W.cell? ⟨w2.heap.size, 1, none⟩ = some (.slice AQ nQ cQ) := vq.cell 1
  have l0 : W.cell? ⟨w2.heap.size + 1, 0, none⟩ = some (.bool false) := vl.cell 0
  have l1 : W.cell? ⟨w2.heap.size + 1, 1, none⟩ = some (.slice AR nR cR) := vl.cell 1
  have r0 : W.cell? ⟨w.heap.size + 1, 0, none⟩ = some (.bool false) := vr.cell 0
  have r1 : W.cell? ⟨w.heap.size + 1, 1, none⟩ = some (.slice none 0 0) := vr.cell 1
  have fr0 := vr.free 0
  have fr1 := vr.free 1
  have s0 : W.cell? ⟨w.heap.size + 1 + 1, 0, none⟩ = some (.bool false) := vs.cell 0
  have s1 : W.cell? ⟨w.heap.size + 1 + 1, 1, none⟩ = some (.slice none 0 0) := vs.cell 1
  have fs0 := vs.free 0
  have fs1 := vs.free 1
  have zq := vq.lt
  have zl := vl.lt
  have zr := vr.lt
  have zs := vs.lt
  clear hW
  clear a0_w2 a1_w2 d0_w2 d1_w2 r0_w2 r1_w2 s0_w2 s1_w2 va2 vr2 vs2 vd2 rd2 hrq hrr hBW hB_w1 hr ht
  have hQ : HeldQ w2.heap.size (.bool bd) (.slice AQ nQ cQ) (.bool false) (.slice AR nR cR) W := ⟨vq.lt, vl.lt, q0, q1, l0, l1⟩
  have nq1 : w.heap.size + 1 ≠ w2.heap.size := by omega
  have nq2 : w.heap.size + 1 ≠ w2.heap.size + 1 := by omega
  have nq3 : w.heap.size + 1 + 1 ≠ w2.heap.size := by omega
  have nq4 : w.heap.size + 1 + 1 ≠ w2.heap.size + 1 := by omega
  go_region_held3 (fun w' => w2.heap.size < w'.heap.size ∧ w2.heap.size + 1 < w'.heap.size ∧ w'.cell? ⟨w2.heap.size, 0, none⟩ = some (.bool bd) ∧ w'.cell? ⟨w2.heap.size, 1, none⟩ = some (.slice AQ nQ cQ) ∧ w'.cell? ⟨w2.heap.size + 1, 0, none⟩ = some (.bool false) ∧ w'.cell? ⟨w2.heap.size + 1, 1, none⟩ = some (.slice AR nR cR))
    (first | assumption | exact heldQ_drew hQ | exact heldQ_step hb_wk (by first | assumption | exact heldQ_drew hQ) | ((repeat (refine heldQ_store (by assumption) (by assumption) _ ?_)); first | assumption | exact hQ_wk))
    (first
      | (go_at_call 57; refine (open_mag (trimmed_any rq bd _ (by first | exact Below.refl _ _ | exact (Below.refl _ _).drew))).mono ?_; rintro e wk ⟨b1, A1, n1, c1, e1, rfl, hs1, hr1, ht1, hv1, hb_wk⟩; (first | replace hb_wk := undrew hb_wk | skip); have hQ_wk := heldQ_step hb_wk hQ; obtain ⟨hc_wk, hf_wk⟩ := bcell hb_wk; have vr' := vr.keep hb_wk; have vs' := vs.keep hb_wk; have rl' := rl.below hb_wk; have hBk : Below w.heap.size w wk := hB_W.trans (hb_wk.mono hB_W.size)))
  all_goals go_wp2_with fail
  all_goals
    refine bodyPost_ret (by simp [results, Try.results39, go_sem, *]; try rfl) rfl ?_
    have fr1 := (hr1.over vr' (.bool b1) (.slice A1 n1 c1)).over (var_far2 vs' (by omega) (.bool b1) (.slice A1 n1 c1)) (.bool false) (.slice AR nR cR)
    have fl1 := (rl'.over vr' (.bool b1) (.slice A1 n1 c1)).over (var_far2 vs' (by omega) (.bool b1) (.slice A1 n1 c1)) (.bool false) (.slice AR nR cR)
    exact ⟨⟨_, _, rfl, num_trim (s' := bd) (m := n / m) fr1 ht1 (by rw [hs1.out, hvq.out]) (by rw [hv1.out, hvq.out]) SG.out.1 SG.out.2.1 SG.out.2.2, num_mk fl1 htr (by have := HQ1.out.2; exact (decide_eq_false (by omega)).symm) (by rw [hvr.out]; have := HQ1.out.2; omega)⟩, by go_grown⟩

end Go.Proofs.Ytedodoaeecbalaa
