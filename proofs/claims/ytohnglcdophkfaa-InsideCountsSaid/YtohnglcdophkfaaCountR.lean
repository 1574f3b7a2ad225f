/-
  The document's layer 7: Counts.
-/
import Derived.Test.YtohnglcdophkfaaCountM
import Derived.Test.YtohnglcdophkfaaChk6C
import Derived.Test.YtohnglcdophkfaaTurn4
import Derived.Test.YtohnglcdophkfaaGcdR
import Derived.Test.YtohnglcdophkfaaPair
import Derived.Deep.Cut
import Derived.OwnWalk
namespace Go.Proofs.Ytohnglcdophkfaa
open Go.RowKit

theorem product04 (ox oy ax ay bx by_ : Int) (h1 : I32 ox) (h2 : I32 oy) (h3 : I32 ax) (h4 : I32 ay) (h5 : I32 bx) (h6 : I32 by_) (w : World) :
    Calls Try.prog 50 #[(Value.agg #[.int .i32 (ox), .int .i32 (oy)]), (Value.agg #[.int .i32 (ax), .int .i32 (ay)]), (Value.agg #[.int .i32 (bx), .int .i32 (by_)])] w fun e w' => ∃ u, e = .returned u ∧ NumAt w' u ((ax - ox) * (by_ - oy) - (ay - oy) * (bx - ox)) ∧ Below w.heap.size w w' := by
  have C := Lib.hid (fun W => cross_num ox oy ax ay bx by_ h1 h2 h3 h4 h5 h6 W)
  clear h1 h2 h3 h4 h5 h6
  go_enter Try.func50, Try.ntmps50
  go_wp2_with fail
  refine (open_num (C.out _)).mono ?_
  rintro e w1 ⟨b1, A1, n1, c1, d1, rfl, hs1, hr1, ht1, hv1, hb_w1⟩
  obtain ⟨hc_w1, hf_w1⟩ := bcell hb_w1
  have hz_w1 := hb_w1.size
  try simp at hz_w1
  have hB_w1 : Below w.heap.size w w1 := Below.trans (by go_grown) (hb_w1.mono (by go_size))
  have hs_w1_0 : w.heap.size + 1 + 1 + 1 < w1.heap.size := by omega
  have vR : Var w1 (w.heap.size + 1 + 1 + 1) 67 #[.bool false, .slice none 0 0] := (Var.new' _ _ _ (by simp)).keep hb_w1
  go_wp2_with fail
  refine bodyPost_ret (by simp [results, Try.results50, go_sem, *]; try rfl) rfl ?_
  exact ⟨_, rfl, num_mk (hr1.over vR _ _) ht1 hs1.out hv1.out, by go_grown⟩

theorem w64 {z : Int} (h : -9223372036854775808 ≤ z) (h' : z ≤ 9223372036854775807) : wrap64 z = z := by unfold wrap64; omega
theorem w64d {a b : Int} (ha : I32 a) (hb : I32 b) : wrap64 (wrap64 b - wrap64 a) = b - a := by
  unfold I32 at ha hb
  rw [w64 (z := a) (by omega) (by omega), w64 (z := b) (by omega) (by omega), w64 (by omega) (by omega)]
theorem w64n {s G : Nat} (h : s ≤ 274877906880) (h' : G ≤ 4294967295) : wrap64 (G : Int) = (G : Int) ∧ wrap64 ((s : Int) + (G : Int)) = ((s + G : Nat) : Int) := by
  have e := w64 (z := (G : Int)) (by omega) (by omega)
  refine ⟨e, ?_⟩
  exact w64 (z := ((s + G : Nat) : Int)) (by omega) (by omega)
theorem small_area {a : Int} (h : a.natAbs ≤ 64 * 9223372036854775808) : Small 5 a.natAbs := by
  unfold Small
  have : (65536 : Nat) ^ 5 = 1208925819614629174706176 := by decide +kernel
  omega
theorem num_abs {w : World} {R : Nat} {cs : Array Value} {b : Bool} {A : Option Addr} {n c : Nat} {x : Int} (hV : Var w R 67 cs) (h : NumAt w (.agg #[.bool b, .slice A n c]) x) : NumAt (w.setCell ⟨R, 0, none⟩ (.bool false)) (.agg #[.bool false, .slice A n c]) (x.natAbs : Int) := by
  obtain ⟨b', A', n', c', ds, he, hs, hr, ht, hv⟩ := num_open h
  cases he
  exact num_mk (hr.away1 hV 0 (.bool false)) ht (by simp) (by rw [hv.out]; rfl)
theorem abs_in {a : Int} (h : a.natAbs ≤ 64 * 9223372036854775808) : In128 (a.natAbs : Int) := by
  unfold In128
  omega

set_option maxHeartbeats 2000000 in
set_option maxRecDepth 100000 in
theorem counts07 (ps : List Pt) (hps : ∀ p ∈ ps, IPt p) (n : Nat) (hn : ps.length = n) (M c : Nat) (A : Option Addr) (w : World) (hP : PtsAt M w (.slice A n c) ps) (hM : M ≤ w.heap.size) :
    Calls Try.prog 27 #[.slice A n c] w fun e w' => CntOut ps e ∧ Below w.heap.size w w' := by
  have CK := Lib.hid (fun W (h : Below w.heap.size w W) => check06 ps n hn M c A W (hP.below (h.mono hM)) (Nat.le_trans hM h.size))
  have HP := Lib.hid (And.intro hn (And.intro hP hps))
  clear hn hP hps
  go_enter Try.func27, Try.ntmps27
  go_wp2_with fail
  refine (CK.out _ (by go_grown)).mono ?_
  rintro e w1 ⟨⟨⟨r1, ri, rj⟩, hr, rfl⟩, hb1⟩
  have hz1 := hb1.size
  have HC := Lib.hid (And.intro hr hb1)
  clear hr hb1 CK
  by_cases h0 : r1 = 0
  · subst h0
    obtain ⟨h3, h64⟩ := chk_short HC.out.1 rfl
    rw [HP.out.1] at h3 h64
    obtain ⟨g, off, rfl, hg, hc⟩ := pts_cells6 HP.out.2.1 (by omega)
    have HCS := Lib.hid hc
    clear hc
    go_wp2_with fail
    refine wp_gen (fun W hW => ?_)
    have hB : Below w.heap.size w W := by rw [hW]; exact HC.out.2.alloc hz1 _
    have vR : Var W w1.heap.size 67 #[.bool false, .slice none 0 0] := by rw [hW]; exact Var.new _ _ _
    obtain ⟨R, hR⟩ : ∃ R, w1.heap.size = R := ⟨_, rfl⟩
    rw [hR] at vR hz1
    have HR := Lib.hid hR
    rw [hR]
    clear hW hR
    have hgR : g < R := by omega
    have hwR : w.heap.size ≤ R := by omega
    have H0 := Lib.hid (And.intro hB vR)
    clear hB vR hz1
    go_loopw [8, 10] (fun s i wr => ∃ k : Nat, k ≤ n ∧ i = .int .i64 (k : Int) ∧ s = .int .i64 (sumN ps k : Int) ∧ (∃ b A' n' c', Var wr R 67 #[.bool b, .slice A' n' c'] ∧ NumAt wr (.agg #[.bool b, .slice A' n' c']) (sumA ps k)) ∧ Below w.heap.size w wr) (fun _ i _ => n - (intOf i).toNat)
    case atStart => exact ⟨0, by omega, rfl, rfl, ⟨false, none, 0, 0, H0.out.2, num_zero _⟩, H0.out.1⟩
    case round =>
      obtain ⟨k, hk, rfl, rfl, ⟨b, A', n', c', vR, hA⟩, hB⟩ := hrel
      have hz := hB.size
      have hRz : R < wr.heap.size := vR.lt
      rcases Nat.lt_or_ge k n with hlt | hge
      · have hkI : (k : Int) < (n : Int) := by omega
        have a0 := (hB.cell (p := ⟨g, off + k * 2, none⟩) (show g < w.heap.size by omega)).trans (HCS.out k (by have := HP.out.1; omega)).1
        have a1 := (hB.cell (p := ⟨g, off + k * 2 + 1, none⟩) (show g < w.heap.size by omega)).trans (HCS.out k (by have := HP.out.1; omega)).2
        have NX := Lib.hid (fun W (h : Below w.heap.size w W) => next_ref (.slice (some ⟨g, off, none⟩) n c) ps k M (by have := HP.out.1; omega) (by have := HP.out.1; omega) W (Nat.le_trans hM h.size) (HP.out.2.1.below (h.mono hM)))
        obtain ⟨ia, ib⟩ := sid_i HP.out.2.2 k
        have hsN : sumN ps (k + 1) = sumN ps k + sideN (sid ps k) := rfl
        have hsA : sumA ps (k + 1) = sumA ps k + sideA (sid ps k) := rfl
        have hN := sumN_bd HP.out.2.2 k
        have hS : Small 5 (sumA ps k).natAbs := small_area (Nat.le_trans (sumA_bd HP.out.2.2 k) (Nat.mul_le_mul_right _ (by omega)))
        have hT : Small 5 (sideA (sid ps k)).natAbs := small_area (Nat.le_trans (sideA_bd ia ib) (by omega))
        have hG := sideN_bd ia ib
        unfold sideN at hsN hG
        unfold sideA at hsA hT
        rw [show (sid ps k).1 = gp ps k from rfl] at hsN hsA hT ia hG
        obtain ⟨⟨ax, ay⟩, ha⟩ : ∃ p, gp ps k = p := ⟨_, rfl⟩
        obtain ⟨⟨bx, by_⟩, hb⟩ : ∃ p, (sid ps k).2 = p := ⟨_, rfl⟩
        rw [ha] at a0 a1 hsN hsA hT ia hG
        rw [hb] at NX hsN hsA hT ib hG
        dsimp only at a0 a1 NX hsN hsA hT ia ib hG
        have i1 : I32 ax := ia.1
        have i2 : I32 ay := ia.2
        have i3 : I32 bx := ib.1
        have i4 : I32 by_ := ib.2
        have GC := Lib.hid (fun W => gcd_ref (bx - ax) (by_ - ay) (by unfold I32 at i1 i3; unfold I64; omega) (by unfold I32 at i2 i4; unfold I64; omega) W)
        have PR := Lib.hid (fun W => product04 0 0 ax ay bx by_ ⟨by decide, by decide⟩ ⟨by decide, by decide⟩ i1 i2 i3 i4 W)
        rw [show (ax - 0) * (by_ - 0) - (ay - 0) * (bx - 0) = ax * by_ - ay * bx by simp] at PR
        obtain ⟨G, hGe⟩ : ∃ G, (bx - ax).natAbs.gcd (by_ - ay).natAbs = G := ⟨_, rfl⟩
        obtain ⟨P, hPe⟩ : ∃ P, ax * by_ - ay * bx = P := ⟨_, rfl⟩
        rw [hGe] at GC hsN hG
        rw [hPe] at PR hsA hT
        obtain ⟨s, hse⟩ : ∃ s, sumN ps k = s := ⟨_, rfl⟩
        obtain ⟨u, hue⟩ : ∃ u, sumA ps k = u := ⟨_, rfl⟩
        rw [hse] at hsN hN
        rw [hue] at hsA hS hA
        have hN64 : s ≤ 274877906880 := by omega
        obtain ⟨hw3, hw4⟩ := w64n hN64 hG
        have HW4 := Lib.hid hw4
        clear hw4
        have hw1 := w64d i1 i3
        have hw2 := w64d i2 i4
        rw [hse]
        have HK := Lib.hid (And.intro hsN (And.intro hsA (And.intro hS hT)))
        have H1 := Lib.hid (And.intro vR (And.intro hA hB))
        have hgz : g < wr.heap.size := by omega
        have hwz : w.heap.size ≤ wr.heap.size := hz
        clear vR hA hB hsN hsA hS hT hN hN64 hG i1 i2 i3 i4 ia ib ha hb hGe hPe hse hue
        go_wp2_with fail
        refine (NX.out _ (H1.out.2.2.alloc hwz _)).mono ?_
        rintro e w2 ⟨rfl, hb2⟩
        have vX : Var w2 wr.heap.size 25 #[.int .i32 ax, .int .i32 ay] := (Var.new _ _ _).keep hb2
        have vR2 := (H1.out.1.alloc (.cells #[.int .i32 ax, .int .i32 ay] 25)).keep hb2
        have hB2 : Below w.heap.size w w2 := (H1.out.2.2.alloc hwz _).trans (hb2.mono (by simp; omega))
        have hA2 := (H1.out.2.1.below ((Below.refl _ wr).alloc (Nat.le_refl _) (.cells #[.int .i32 ax, .int .i32 ay] 25))).below hb2
        have hz2 := hB2.size
        have hXz := vX.lt
        go_upto_region 11 with fail
        refine wp_gen (fun W3 hW3 => ?_)
        have vX3 : Var W3 wr.heap.size 25 #[.int .i32 ax, .int .i32 ay] := by rw [hW3]; exact vX.alloc _
        have vY3 : Var W3 w2.heap.size 25 #[.int .i32 bx, .int .i32 by_] := by rw [hW3]; exact Var.new _ _ _
        have vR3 : Var W3 R 67 #[.bool b, .slice A' n' c'] := by rw [hW3]; exact vR2.alloc _
        have hA3 : NumAt W3 (.agg #[.bool b, .slice A' n' c']) u := by rw [hW3]; exact hA2.below ((Below.refl _ w2).alloc (Nat.le_refl _) _)
        have hB3 : Below w.heap.size w W3 := by rw [hW3]; exact hB2.alloc hz2 _
        obtain ⟨X, hX⟩ : ∃ X, wr.heap.size = X := ⟨_, rfl⟩
        obtain ⟨Y, hY⟩ : ∃ Y, w2.heap.size = Y := ⟨_, rfl⟩
        rw [hX] at hXz vX3 hRz ⊢
        rw [hY] at hXz vY3 ⊢
        clear hW3 vX vR2 hB2 hA2 hb2 hz2 hz hgz hwz a0 a1 hX hY NX H1
        have x0 : W3.cell? ⟨X, 0, none⟩ = some (.int .i32 ax) := vX3.cell 0
        have x1 : W3.cell? ⟨X, 1, none⟩ = some (.int .i32 ay) := vX3.cell 1
        have y0 : W3.cell? ⟨Y, 0, none⟩ = some (.int .i32 bx) := vY3.cell 0
        have y1 : W3.cell? ⟨Y, 1, none⟩ = some (.int .i32 by_) := vY3.cell 1
        have H3 := Lib.hid (And.intro vX3 (And.intro vY3 (And.intro vR3 (And.intro hA3 hB3))))
        clear vX3 vY3 vR3 hA3 hB3
        go_wp2_with fail
        refine (GC.out _).mono ?_
        rintro e w4 ⟨rfl, hb4⟩
        have hz3 := H3.out.2.2.2.2.size
        have vX := H3.out.1.keep hb4
        have vY := H3.out.2.1.keep hb4
        have vR := H3.out.2.2.1.keep hb4
        have hA := H3.out.2.2.2.1.below hb4
        have hB : Below w.heap.size w w4 := H3.out.2.2.2.2.trans (hb4.mono hz3)
        clear H3 hb4 x0 x1 y0 y1 hz3
        go_upto_region 12 with fail
        have c0 : w4.cell? ⟨R, 0, none⟩ = some (.bool b) := vR.cell 0
        have c1 : w4.cell? ⟨R, 1, none⟩ = some (.slice A' n' c') := vR.cell 1
        have f0 := vR.free 0
        have f1 := vR.free 1
        have x0 : w4.cell? ⟨X, 0, none⟩ = some (.int .i32 ax) := vX.cell 0
        have x1 : w4.cell? ⟨X, 1, none⟩ = some (.int .i32 ay) := vX.cell 1
        have y0 : w4.cell? ⟨Y, 0, none⟩ = some (.int .i32 bx) := vY.cell 0
        have y1 : w4.cell? ⟨Y, 1, none⟩ = some (.int .i32 by_) := vY.cell 1
        have H4 := Lib.hid (And.intro vX (And.intro vY (And.intro vR (And.intro hA hB))))
        have hXz4 := vX.lt
        have hYz4 := vY.lt
        have hRz4 := vR.lt
        clear vX vY vR hA hB
        have hz4 := H4.out.2.2.2.2.size
        clear hw1 hw2 hw3
        go_region_with ((go_simp; first
          | (go_at_call 50; refine (PR.out _).mono ?_; rintro e w5 ⟨v5, rfl, hP5, hb5⟩; have hb5 := undrew hb5; have vR5 := H4.out.2.2.1.keep hb5; have k50 : w5.cell? ⟨R, 0, none⟩ = some (.bool b) := vR5.cell 0; have k51 : w5.cell? ⟨R, 1, none⟩ = some (.slice A' n' c') := vR5.cell 1)
          | (go_at_call 49; refine (open_num (add_ref (H4.out.2.2.2.1.below hb5) hP5 HK.out.2.2.1 HK.out.2.2.2 (by omega) _ (Below.refl _ _))).mono ?_; rintro e w6 ⟨b6, A6, n6, c6, d6, rfl, hs6, hr6, ht6, hv6, hb6⟩; have vR6 := vR5.keep hb6; have k60 : w6.cell? ⟨R, 0, none⟩ = some (.bool b) := vR6.cell 0; have k61 : w6.cell? ⟨R, 1, none⟩ = some (.slice A' n' c') := vR6.cell 1; have f60 := vR6.free 0; have f61 := vR6.free 1)))
        all_goals
          have hNum := And.intro (var_two vR6 (.bool b6) (.slice A6 n6 c6)) (num_mk (hr6.over vR6 (.bool b6) (.slice A6 n6 c6)) ht6 hs6.out hv6.out)
          have hBx := (((H4.out.2.2.2.2.trans (hb5.mono hz4)).trans (hb6.mono (Nat.le_trans hz4 hb5.size))).setCell (p := ⟨R, 0, none⟩) hwR (.bool b6)).setCell (p := ⟨R, 1, none⟩) hwR (.slice A6 n6 c6)
          have H6 := Lib.hid (And.intro hNum hBx)
          clear hNum hBx vR5 vR6 hs6 hr6 ht6 hv6 hb6 hb5 hP5
          go_wp2_with fail
          go_roundw
          case rel => exact ⟨k + 1, by omega, by simp, by rw [HW4.out, HK.out.1], ⟨b6, A6, n6, c6, H6.out.1.1, by rw [HK.out.2.1]; exact H6.out.1.2⟩, H6.out.2⟩
          case measure => simp [intOf]; omega
      · have hkI : ¬ (k : Int) < (n : Int) := by omega
        obtain rfl : k = n := by omega
        have IT := Lib.hid (int64_ref round_says (num_abs vR hA) (abs_in (Nat.le_trans (sumA_bd HP.out.2.2 k) (Nat.mul_le_mul_right _ (by omega)))) _ (Below.refl _ _))
        obtain ⟨t, ht⟩ : ∃ t, twiceA (sumA ps k) = t := ⟨_, rfl⟩
        have htw : (if -9223372036854775808 ≤ (((sumA ps k).natAbs : Nat) : Int) ∧ (((sumA ps k).natAbs : Nat) : Int) ≤ 9223372036854775807 then (((sumA ps k).natAbs : Nat) : Int) else 0) = t := ht
        rw [htw] at IT
        obtain ⟨s, hs⟩ : ∃ s, sumN ps k = s := ⟨_, rfl⟩
        rw [hs]
        have HT := Lib.hid (And.intro ht hs)
        clear ht htw hs
        have hBs := hB.setCell (p := ⟨R, 0, none⟩) hwR (.bool false)
        have c0 : wr.cell? ⟨R, 0, none⟩ = some (.bool b) := vR.cell 0
        have c1 : wr.cell? ⟨R, 1, none⟩ = some (.slice A' n' c') := vR.cell 1
        have f0 := vR.free 0
        have f1 := vR.free 1
        have H1 := Lib.hid hBs
        clear vR hA hB hBs
        go_wp2_with fail
        refine IT.out.mono ?_
        rintro e w5 ⟨rfl, hb5⟩
        have H5 := Lib.hid (H1.out.trans (hb5.mono H1.out.size))
        clear hb5
        go_wp2_with fail
        go_ret3
        refine ⟨cnt_fine HC.out.1 rfl ?_ ?_, H5.out⟩
        · rw [HP.out.1, HT.out.1, HT.out.2]; exact within_two
        · rw [HP.out.1, HT.out.2]
  · have hv1 : (r1 == 0) = false := beq_eq_false_iff_ne.2 h0
    have H0 := Lib.hid h0
    clear h0
    go_wp2_with fail
    go_ret3
    exact ⟨cnt_bad HC.out.1 H0.out, HC.out.2⟩

end Go.Proofs.Ytohnglcdophkfaa
