/-
  The law HullHas' body, walked.
-/
import Derived.Test.YtcpojadinkonnaaHasP
namespace Go.Proofs.Ytcpojadinkonnaa
open Go.RowKit

set_option maxRecDepth 100000 in
set_option maxHeartbeats 4000000 in
theorem hullHas_core (w : World) (A : Option Addr) (l c : Nat) (ps : List Pt) (hps : ∀ p ∈ ps, IPt p) (p : Pt) (hp : IPt p) (hl : ps.length = l) (hreach : ps.length * 8 ≤ 140737488351232) (hI : PtsAt w.heap.size w (.slice A l c) ps) :
    Calls Try.prog 7 #[.slice A l c, .agg #[.int .i32 p.1, .int .i32 p.2]] w fun e w' => e = .returned (.bool true) ∧ Below w.heap.size w w' := by
  rcases Nat.lt_or_ge 80 l with h80 | h80
  · have h80I : (80 : Int) < (l : Int) := by omega
    go_enter Try.func7, Try.ntmps7
    go_wp2_with fail
    go_ret
    exact ⟨rfl, by go_grown⟩
  · have h80I : ¬ (80 : Int) < (l : Int) := by omega
    subst hl
    have HL := Lib.hid (fun W (h : Below w.heap.size w W) => lent_any _ ps w.heap.size hreach W (hI.below h))
    have HR := Lib.hid (fun W (h : Below w.heap.size w W) => hull_ref ps hps w.heap.size A c ps.length rfl (by omega) W (hI.below h) h.size)
    have HPI := Lib.hid (fun W (h : Below w.heap.size w W) => hI.below h)
    have hr8 : ps.length * 8 ≤ 140737488355328 := by omega
    have hHI : ∀ q ∈ hullL ps, IPt q := fun q hq => hps q (hullL_mem ps q hq)
    have hHl : (hullL ps).length ≤ 80 := Nat.le_trans (hullL_len ps) h80
    have HA := Lib.hid (fun (A : Option Addr) (c : Nat) (W : World) (hP : PtsAt W.heap.size W (.slice A ps.length c) ps) => hhas_any ps hps p hp W.heap.size A c ps.length rfl (by omega) W hP (Nat.le_refl _))
    have HB := Lib.hid (fun (A : Option Addr) (c : Nat) (W : World) (hP : PtsAt W.heap.size W (.slice A ps.length c) ps) => has_ref ps hps p hp W.heap.size A c ps.length rfl (by omega) W hP (Nat.le_refl _))
    have HC := Lib.hid (fun (A : Option Addr) (c m : Nat) (hm : (hullL ps).length = m) (W : World) (hP : PtsAt W.heap.size W (.slice A m c) (hullL ps)) => hhas_any (hullL ps) hHI p hp W.heap.size A c m hm (by omega) W hP (Nat.le_refl _))
    have HD := Lib.hid (fun (A : Option Addr) (c m : Nat) (hm : (hullL ps).length = m) (W : World) (hP : PtsAt W.heap.size W (.slice A m c) (hullL ps)) => has_ref (hullL ps) hHI p hp W.heap.size A c m hm (by omega) W hP (Nat.le_refl _))
    obtain ⟨H, hH⟩ : ∃ H, hullL ps = H := ⟨_, rfl⟩
    obtain ⟨t1, ht1⟩ : ∃ t : Bool, (decide (ps = hullL ps) && hasF ps p) = t := ⟨_, rfl⟩
    rw [ht1] at HA HB
    rw [hH] at HR hHl HC HD
    obtain ⟨t2, ht2⟩ : ∃ t : Bool, (decide (H = hullL H) && hasF H p) = t := ⟨_, rfl⟩
    rw [ht2] at HC HD
    obtain ⟨p1, p2⟩ := p
    dsimp only at *
    clear hI hHI hH ht1 ht2 hps
    go_enter Try.func7, Try.ntmps7
    go_wp2_with fail
    refine (HL.out _ (by go_grown)).mono ?_
    rintro e w1 ⟨g0, cap0, rfl, hg0, hL0, hb1⟩
    have vX : Var w1 w.heap.size 32 #[.int .i32 p1, .int .i32 p2] := (Var.new _ _ _).keep hb1
    have hb01 : Below w.heap.size w w1 := Below.trans (by go_grown) (hb1.mono (by simp))
    have hz1 := hb01.size
    obtain ⟨X, hX⟩ : ∃ X, w.heap.size = X := ⟨_, rfl⟩
    rw [hX] at vX
    have H1 := Lib.hid (And.intro hL0 (And.intro hb01 vX))
    clear hg0 hL0 hb1 hb01 vX
    go_wp2_with fail
    refine (HR.out w1 H1.out.2.1).mono ?_
    rintro e w2 ⟨A2, c2, m, rfl, hm2, hown2, hb2⟩
    have hm80 : m ≤ 80 := by omega
    have hL2 := H1.out.1.below hb2 H1.out.1.lt
    have vX2 := H1.out.2.2.keep hb2
    have y0 := vX2.cell 0
    have y1 := vX2.cell 1
    have hXz := vX2.lt
    have hb02 := H1.out.2.1.trans (hb2.mono hz1)
    have hz2 := hb02.size
    have hP2 := ptsAt_of_own hown2 hm2
    have hPw := HPI.out w2 hb02
    have K1 := Lib.hid (fun (x : Wd w2) => HA.out (some ⟨g0, 0, none⟩) cap0 x.w ((hL2.pts.below x.h).up x.h.size))
    have K2 := Lib.hid (fun (x : Wd w2) => HB.out A c x.w ((hPw.below (x.h.mono hz2)).up (Nat.le_trans hz2 x.h.size)))
    have K3 := Lib.hid (fun (x : Wd w2) => HC.out A2 c2 m hm2 x.w ((hP2.below x.h).up x.h.size))
    have K4 := Lib.hid (fun (x : Wd w2) => HD.out A2 c2 m hm2 x.w ((hP2.below x.h).up x.h.size))
    have K5 := Lib.hid (fun (x : Wd w2) => left_any g0 cap0 (.slice A ps.length c) ps w1.heap.size hr8 x.w (Nat.le_trans hb2.size x.h.size) H1.out.1.lt (hL2.below x.h hL2.lt) ((hPw.below (x.h.mono hz2)).up hz1))
    have hE := Lib.hid hb02
    have e1 : (t1 == t1) = true := beq_self_eq_true t1
    have e2 : (t2 == t2) = true := beq_self_eq_true t2
    clear hm2 hown2 hb2 hL2 vX2 hb02 hP2 hPw HA HB HC HD HL HR HPI H1
    go_wp2_with fail
    have hq_w2 := @wd_cell w2
    refine wp_region_wd (by kernel_rfl) (by kernel_rfl) ?_
    repeat (go_big_quiet_step ((first | (go_at_call_of 20 (Value.slice (some ⟨g0, 0, none⟩) ps.length cap0); with_reducible exact quiet_wd (K1.out _)) | (go_at_call_of 21 (Value.slice A ps.length c); with_reducible exact quiet_wd (K2.out _)) | (go_at_call_of 20 (Value.slice A2 m c2); with_reducible exact quiet_wd (K3.out _)) | (go_at_call_of 21 (Value.slice A2 m c2); with_reducible exact quiet_wd (K4.out _)) | (go_at_call 14; with_reducible exact quiet_wd (K5.out _)))))
    refine wpQuiet_nil ?_
    rintro w5 ⟨⟨wx, hb_w5⟩, hwx⟩
    obtain rfl : w5 = wx := hwx
    clear hq_w2
    have hz_w5 := hb_w5.size
    obtain ⟨hc_w5, hf_w5⟩ := bcell hb_w5
    have hs_w5_0 : X < w5.heap.size := Nat.lt_of_lt_of_le (by assumption) hb_w5.size
    have HE := Lib.hid (hE.out.trans (hb_w5.mono hz2))
    clear hb_w5 hc_w5 hf_w5
    go_wp2_with fail
    go_ret
    exact ⟨rfl, HE.out⟩

end Go.Proofs.Ytcpojadinkonnaa
