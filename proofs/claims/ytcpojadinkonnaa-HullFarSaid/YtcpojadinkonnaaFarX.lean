/-
  The law HullFar's body, walked.
-/
import Derived.Test.YtcpojadinkonnaaFarR
import Derived.Test.YtcpojadinkonnaaLent2
import Derived.Test.YtcpojadinkonnaaTurned2
namespace Go.Proofs.Ytcpojadinkonnaa
open Go.RowKit

set_option maxRecDepth 100000 in
set_option maxHeartbeats 4000000 in
theorem hullFar_core (w : World) (A : Option Addr) (l c : Nat) (ps : List Pt) (hps : ∀ p ∈ ps, IPt p) (hl : ps.length = l) (hreach : ps.length * 8 ≤ 140737488351232) (hI : PtsAt w.heap.size w (.slice A l c) ps) :
    Calls Try.prog 8 #[.slice A l c] w fun e w' => e = .returned (.bool true) ∧ Below w.heap.size w w' := by
  rcases Nat.lt_or_ge 80 l with h80 | h80
  · have h80I : (80 : Int) < (l : Int) := by omega
    go_enter Try.func8, Try.ntmps8
    go_wp2_with fail
    go_ret
    exact ⟨rfl, by go_grown⟩
  · have h80I : ¬ (80 : Int) < (l : Int) := by omega
    subst hl
    have hr8 : ps.length * 8 ≤ 140737488355328 := by omega
    have HL := Lib.hid (fun W (h : Below w.heap.size w W) => lent_any _ ps w.heap.size hreach W (hI.below h))
    have HF := Lib.hid (fun (g cap : Nat) (W : World) (hP : PtsAt W.heap.size W (.slice (some ⟨g, 0, none⟩) ps.length cap) ps) => hfar_any ps hps W.heap.size _ cap ps.length rfl (by omega) W hP (Nat.le_refl _))
    have HR := Lib.hid (fun W (h : Below w.heap.size w W) => far_ref ps hps w.heap.size A c ps.length rfl (by omega) W (hI.below h) h.size)
    have HH := Lib.hid (fun (g cap : Nat) (W : World) (hP : PtsAt W.heap.size W (.slice (some ⟨g, 0, none⟩) ps.length cap) ps) => hull_any ps hps W.heap.size _ cap ps.length rfl (by omega) W hP (Nat.le_refl _))
    have HPI := Lib.hid (fun W (h : Below w.heap.size w W) => hI.below h)
    have HS := Lib.hid (fun (P : Pt) (A : Option Addr) (c m : Nat) (hm : (hullL ps).length = m) (h80 : m ≤ 80) (W : World) (hP : PtsAt W.heap.size W (.slice A m c) (hullL ps)) => lawhas_any (hullL ps) P W.heap.size A c m hm (by omega) W hP (Nat.le_refl _))
    obtain ⟨si, hsi⟩ : ∃ z, (outF ps ps.length).1 = z := ⟨_, rfl⟩
    obtain ⟨sj, hsj⟩ : ∃ z, (outF ps ps.length).2.1 = z := ⟨_, rfl⟩
    obtain ⟨D, hD⟩ : ∃ z, wrap64 (sqd (gp ps si) (gp ps sj)) = z := ⟨_, rfl⟩
    rw [hsi, hsj, hD] at HF HR
    have HHl := Lib.hid (Nat.le_trans (hullL_len ps) h80)
    have HM : Hid (2 ≤ ps.length → si < sj ∧ sj < ps.length ∧ ∀ x y, x < ps.length → y < ps.length → sqd (gp ps x) (gp ps y) ≤ sqd (gp ps si) (gp ps sj)) := Lib.hid (fun h2 => by
      obtain ⟨q1, q2, q3⟩ := far_max (ps := ps) h2
      rw [hsi, hsj] at q1 q3
      rw [hsj] at q2
      exact ⟨q1, q2, q3⟩)
    clear hI hsi hsj hD hps hreach
    go_enter Try.func8, Try.ntmps8
    go_wp2_with fail
    refine (HL.out _ (by go_grown)).mono ?_
    rintro e w1 ⟨g0, cap0, rfl, hg0, hL0, hb1⟩
    have H1 := Lib.hid (And.intro hL0 hb1)
    have hz1 := hb1.size
    clear hL0 hb1
    go_wp2_with fail
    refine (HF.out g0 cap0 w1 H1.out.1.pts).mono ?_
    rintro e w2 ⟨rfl, hb2⟩
    have H2 := Lib.hid (And.intro (H1.out.1.below hb2 H1.out.1.lt) (H1.out.2.trans (hb2.mono hz1)))
    have H12 := Lib.hid hb2
    have hz2 := hb2.size
    clear hb2
    go_wp2_with fail
    refine (HR.out w2 H2.out.2).mono ?_
    rintro e w3 ⟨rfl, hb3⟩
    have hE := H2.out.2.trans (hb3.mono H2.out.2.size)
    have hL3 := H2.out.1.below hb3 H2.out.1.lt
    have hP3 := HPI.out w3 hE
    have hz3 := hE.size
    have K5 := Lib.hid (left_any g0 cap0 (.slice A ps.length c) ps w1.heap.size hr8 w3 (Nat.le_trans hz2 hb3.size) H1.out.1.lt hL3 (hP3.up hz1))
    have H3 := Lib.hid (And.intro hE (And.intro hL3 hP3))
    clear hE hL3 hP3
    go_wp2_with fail
    refine (K5.out).mono ?_
    rintro e w5 ⟨rfl, hb_w5⟩
    have hL5 := H3.out.2.1.below hb_w5 H3.out.2.1.lt
    have hE5 := H3.out.1.trans (hb_w5.mono hz3)
    have hP5 := HPI.out w5 hE5
    have H5 := Lib.hid (And.intro hE5 (And.intro hL5 hP5))
    clear hb_w5 hE5 hL5 hP5 K5
    rcases Nat.lt_or_ge ps.length 2 with h2 | h2
    · have h2I : (ps.length : Int) < 2 := by omega
      go_wp2_with fail
      go_ret
      exact ⟨rfl, H5.out.1⟩
    · have h2I : ¬ (ps.length : Int) < 2 := by omega
      obtain ⟨q1, q2, q3⟩ := HM.out h2
      have HQ3 := Lib.hid q3
      clear q3
      go_wp2_with fail
      refine (HH.out g0 cap0 w5 H5.out.2.1.pts).mono ?_
      rintro e w6 ⟨A6, c6, m6, rfl, hm6, hown6, hb6⟩
      have hE6 := H5.out.1.trans (hb6.mono H5.out.1.size)
      have hP6 := HPI.out w6 hE6
      have hz6 := hE6.size
      have hPH := ptsAt_of_own hown6 hm6
      have hm80 : m6 ≤ 80 := hm6 ▸ HHl.out
      obtain ⟨g, off, rfl, hg, hc⟩ := pts_cells hP6 (by omega)
      have c0 := (hc si (by omega)).1
      have c1 := (hc si (by omega)).2
      have d0 := (hc sj (by omega)).1
      have d1 := (hc sj (by omega)).2
      have hI1 : gp ps si ∈ ps := gp_mem (by omega)
      have hI2 : gp ps sj ∈ ps := gp_mem (by omega)
      have hin : gp ps si ≠ gp ps sj → gp ps si ∈ hullL ps ∧ gp ps sj ∈ hullL ps := fun hne => by
        constructor
        · refine far_corner ps hI1 hne fun x hx => ?_
          obtain ⟨k, hk, rfl⟩ := gp_mem_iff.1 hx
          exact HQ3.out k sj hk q2
        · refine far_corner ps hI2 (Ne.symm hne) fun x hx => ?_
          obtain ⟨k, hk, rfl⟩ := gp_mem_iff.1 hx
          rw [sqd_comm (gp ps sj), sqd_comm (gp ps k)]
          exact HQ3.out si k (by omega) hk
      have HSi := fun (x : Wd w6) => HS.out (gp ps si) A6 c6 m6 hm6 hm80 x.w ((hPH.below x.h).up x.h.size)
      have HSj := fun (x : Wd w6) => HS.out (gp ps sj) A6 c6 m6 hm6 hm80 x.w ((hPH.below x.h).up x.h.size)
      obtain ⟨⟨xa, ya⟩, hpa⟩ : ∃ p, gp ps si = p := ⟨_, rfl⟩
      obtain ⟨⟨xb, yb⟩, hpb⟩ : ∃ p, gp ps sj = p := ⟨_, rfl⟩
      rw [hpa, hpb] at hin
      rw [hpa] at c0 c1 HSi
      rw [hpb] at d0 d1 HSj
      dsimp only at c0 c1 d0 d1 HSi HSj
      have hgz : g < w6.heap.size := by omega
      have s1I : (si : Int) < (ps.length : Int) := by omega
      have s2I : (sj : Int) < (ps.length : Int) := by omega
      have ds1 : decide ((si : Int) < 0) = false := decide_eq_false (by omega)
      have ds2 : decide ((sj : Int) < 0) = false := decide_eq_false (by omega)
      have H6 := Lib.hid hE6
      by_cases hxy : (xa, ya) = (xb, yb)
      · injection hxy with hx hy
        subst hx hy
        obtain ⟨t1, ht1⟩ : ∃ t : Bool, decide ((xa, ya) ∈ hullL ps) = t := ⟨_, rfl⟩
        rw [ht1] at HSi
        have HK := Lib.hid HSi
        clear hc hin hpa hpb hP6 hPH hown6 hb6 hE6 hm6 HSi HSj ht1 hI1 hI2
        go_wp2_with fail
        have hq_w6 := @wd_cell w6
        refine wp_region_wd (by kernel_rfl) (by kernel_rfl) ?_
        repeat (go_big_quiet_step ((first | (go_at_call 24; with_reducible exact quiet_wd (HK.out _)))))
        refine wpQuiet_nil ?_
        rintro w9 ⟨⟨wx, hb_w9⟩, hwx⟩
        obtain rfl : w9 = wx := hwx
        clear hq_w6
        have hz_w9 := hb_w9.size
        obtain ⟨hc_w9, hf_w9⟩ := bcell hb_w9
        have hs_w9_0 : g < w9.heap.size := Nat.lt_of_lt_of_le (by assumption) hb_w9.size
        go_wp2_with fail
        go_ret
        exact ⟨rfl, H6.out.trans (hb_w9.mono H6.out.size)⟩
      · by_cases hx : xa = xb
        · subst hx
          have hne : (ya == yb) = false := beq_eq_false_iff_ne.2 (fun h => hxy (by rw [h]))
          obtain ⟨k1, k2⟩ := hin hxy
          rw [decide_eq_true k1] at HSi
          rw [decide_eq_true k2] at HSj
          have HK := Lib.hid HSi
          have HJ := Lib.hid HSj
          clear hc hin hpa hpb hP6 hPH hown6 hb6 hE6 hm6 HSi HSj hI1 hI2 k1 k2 hxy
          go_wp2_with fail
          have hq_w6 := @wd_cell w6
          refine wp_region_wd (by kernel_rfl) (by kernel_rfl) ?_
          repeat (go_big_quiet_step ((first | (go_at_call 24; first | (with_reducible exact quiet_wd (HK.out _)) | (with_reducible exact quiet_wd (HJ.out _))))))
          refine wpQuiet_nil ?_
          rintro w9 ⟨⟨wx, hb_w9⟩, hwx⟩
          obtain rfl : w9 = wx := hwx
          clear hq_w6
          have hz_w9 := hb_w9.size
          obtain ⟨hc_w9, hf_w9⟩ := bcell hb_w9
          have hs_w9_0 : g < w9.heap.size := Nat.lt_of_lt_of_le (by assumption) hb_w9.size
          go_wp2_with fail
          go_ret
          exact ⟨rfl, H6.out.trans (hb_w9.mono H6.out.size)⟩
        · have hne : (xa == xb) = false := beq_eq_false_iff_ne.2 hx
          obtain ⟨k1, k2⟩ := hin hxy
          rw [decide_eq_true k1] at HSi
          rw [decide_eq_true k2] at HSj
          have HK := Lib.hid HSi
          have HJ := Lib.hid HSj
          clear hx hc hin hpa hpb hP6 hPH hown6 hb6 hE6 hm6 HSi HSj hI1 hI2 k1 k2 hxy
          go_wp2_with fail
          have hq_w6 := @wd_cell w6
          refine wp_region_wd (by kernel_rfl) (by kernel_rfl) ?_
          repeat (go_big_quiet_step ((first | (go_at_call 24; first | (with_reducible exact quiet_wd (HK.out _)) | (with_reducible exact quiet_wd (HJ.out _))))))
          refine wpQuiet_nil ?_
          rintro w9 ⟨⟨wx, hb_w9⟩, hwx⟩
          obtain rfl : w9 = wx := hwx
          clear hq_w6
          have hz_w9 := hb_w9.size
          obtain ⟨hc_w9, hf_w9⟩ := bcell hb_w9
          have hs_w9_0 : g < w9.heap.size := Nat.lt_of_lt_of_le (by assumption) hb_w9.size
          go_wp2_with fail
          go_ret
          exact ⟨rfl, H6.out.trans (hb_w9.mono H6.out.size)⟩

end Go.Proofs.Ytcpojadinkonnaa
