/-
  Round's walk, part B.
-/
import Derived.Test.YtohnglcdophkfaaRef
namespace Go.Proofs.Ytohnglcdophkfaa
open Go.RowKit
set_option maxHeartbeats 8000000 in
set_option maxRecDepth 100000 in
theorem round_B {w0 : World} {A : Option Addr} {n c : Nat} {ds : List Nat} (h : RawAt w0 A n c ds) (hn : n ≤ 40000) (hz : val ds % ((2 : Int) ^ 128).natAbs = 0) (w : World) (hw : Below w0.heap.size w0 w) :
    Calls Try.prog 83 #[.agg #[.bool true, .slice A n c]] w fun e w' => ∃ r : Nat, e = .returned (.tuple #[.int .i64 (wrap64 ((r / 18446744073709551616 : Nat) : Int)), .int .u64 ((r % 18446744073709551616 : Nat) : Int)]) ∧ r = 0 ∧ Below w.heap.size w w' := by
  have r1 := h.below hw
  clear h hw
  have S128 : Small 9 ((2 : Int) ^ 128).natAbs := by unfold Small; decide +kernel
  have Z128 : 0 < ((2 : Int) ^ 128).natAbs := by decide +kernel
  have P128 := Lib.hid (fun W => power_ref 128 (by omega) W)
  have S64 : Small 9 ((2 : Int) ^ 64).natAbs := by unfold Small; decide +kernel
  have Z64 : 0 < ((2 : Int) ^ 64).natAbs := by decide +kernel
  have P64 := Lib.hid (fun W => power_ref 64 (by omega) W)
  go_enter Try.func83, Try.ntmps83
  go_wp2_with fail
  refine wp_gen (fun W hW => ?_)
  have vA : Var W w.heap.size 67 #[.bool true, .slice A n c] := by rw [hW]; exact Var.new _ _ _
  have hB_W : Below w.heap.size w W := by rw [hW]; go_grown
  clear hW
  have x0 : W.cell? ⟨w.heap.size, 0, none⟩ = some (.bool true) := vA.cell 0
  have x1 : W.cell? ⟨w.heap.size, 1, none⟩ = some (.slice A n c) := vA.cell 1
  have z0 := vA.lt
  have rW := r1.below hB_W
  refine wp_cutR (fun a' w' => ∃ (u4 : Value) (g5 : Nat) (u8 u9 u10 u11 u12 u13 u14 u15 : Value) (A' : Option Addr) (n' c' : Nat) (ds' : List Nat), a' = { tmps := #[.agg #[.bool true, .slice A n c], .pointer (some ⟨w.heap.size, 0, none⟩), .int .i64 0, .int .u64 0, u4, .pointer (some ⟨g5, 0, none⟩), undef, undef, u8, u9, u10, u11, u12, u13, u14, u15, undef, undef, undef, undef, undef, undef, undef, undef, undef, undef, undef, undef, undef, undef, undef, undef, undef, undef, undef, undef, undef, undef], defers := [] } ∧ W.heap.size ≤ g5 ∧ Var w' g5 67 #[.bool false, .slice A' n' c'] ∧ RawAt w' A' n' c' ds' ∧ Tight ds' ∧ Hid (val ds' = val ds % ((2 : Int) ^ 128).natAbs) ∧ Below W.heap.size W w') ?_ ?_
  · go_region_held3 (fun w' => Below W.heap.size W w' ∧ (∀ b o, b < W.heap.size → w'.cell? ⟨b, o, none⟩ = W.cell? ⟨b, o, none⟩))
      (first | assumption | ((repeat' (first | assumption | (with_reducible exact held_refl _) | (with_reducible refine held_drew ?_) | (with_reducible refine held_alloc _ ?_) | (with_reducible refine held_set _ (by omega) ?_)))))
      (first
        | (go_at_call 82; refine (open_num (P128.out _)).mono ?_; rintro e wp ⟨b2, A2, n2, c2, k2, rfl, hs2, hr2, ht2, hv2, hb_wp⟩; have hS_wp := held_step hb_wp (W0 := W) (by first | assumption | (repeat' (first | assumption | (with_reducible exact held_refl _) | (with_reducible refine held_drew ?_) | (with_reducible refine held_alloc _ ?_)))); have hG_wp := hS_wp.1; obtain ⟨hc_wp, hf_wp⟩ := bcell hb_wp; have hz_wp := hb_wp.size; (try simp at hz_wp); have l2 : n2 ≤ 9 := num_len hr2 ht2 hv2.out S128; (try have hsp1 : W.heap.size < wp.heap.size := (by omega)); (try have hsp2 : W.heap.size + 1 < wp.heap.size := (by omega)))
        | (go_at_call 99; refine (open_div (div_ref (rW.below (by go_grown)) (hr2.below (by go_grown)) false b2 (by omega) (by omega) (by rw [hv2.out]; exact Z128) _ (Below.refl _ _))).mono ?_; rintro e wd ⟨A3, n3, c3, d3, A4, n4, c4, d4, rfl, ⟨hr3, ht3, hv3⟩, ⟨hr4, ht4, hv4⟩, hb_wd⟩; have hS_wd := held_step hb_wd (W0 := W) (by first | assumption | (repeat' (first | assumption | (with_reducible exact held_refl _) | (with_reducible refine held_drew ?_) | (with_reducible refine held_alloc _ ?_)))); have hG_wd := hS_wd.1; obtain ⟨hc_wd, hf_wd⟩ := bcell hb_wd; have hz_wd := hb_wd.size; (try simp at hz_wd); (try have hsd1 : W.heap.size < wd.heap.size := (by omega)); (try have hsd2 : W.heap.size + 1 < wd.heap.size := (by omega)); (try have hsd3 : wp.heap.size < wd.heap.size := (by omega)); (try have hsd4 : wp.heap.size + 1 < wd.heap.size := (by omega))))
    all_goals refine ⟨rfl, _, _, _, _, _, _, _, _, _, _, A4, n4, c4, d4, rfl, by omega, ?_, ?_, ht4, Lib.hid (by rw [hv4.out, hv2.out]), (show Below W.heap.size W _ ∧ (∀ b o, b < W.heap.size → World.cell? _ ⟨b, o, none⟩ = W.cell? ⟨b, o, none⟩) by (repeat' (first | assumption | (with_reducible exact held_refl _) | (with_reducible refine held_drew ?_) | (with_reducible refine held_alloc _ ?_) | (with_reducible refine held_set _ (by omega) ?_)))).1⟩
    all_goals repeat' (first
      | (with_reducible exact hr4)
      | (with_reducible exact Var.new' _ _ _ (by first | rfl | (simp; done) | (simp; omega)))
      | (with_reducible refine var_twoN ?_)
      | (with_reducible refine var_farN (by omega) ?_)
      | (with_reducible refine Var.drew ?_)
      | (with_reducible refine Var.alloc ?_ _)
      | (with_reducible refine Var.keep ?_ hb_wd)
      | (with_reducible refine Var.keep ?_ hb_wp)
      | (with_reducible refine raw_farN ?_ ?_)
      | (with_reducible refine raw_alloc ?_ _)
      | (with_reducible refine raw_drew ?_))
  · rintro a' W1 ⟨u4, g5, u8, u9, u10, u11, u12, u13, u14, u15, A', n', c', ds', rfl, hg5, vL, rL, tL, hvL, hB1⟩
    have vA1 := vA.below hB1 z0
    have hBw1 : Below w.heap.size w W1 := hB_W.trans (hB1.mono (Nat.le_of_lt z0))
    have ln : n' ≤ 9 := num_len rL tL rfl (by rw [hvL.out]; exact small_mod _)
    have a0 : W1.cell? ⟨w.heap.size, 0, none⟩ = some (.bool true) := vA1.cell 0
    have a1 : W1.cell? ⟨w.heap.size, 1, none⟩ = some (.slice A n c) := vA1.cell 1
    have l0 : W1.cell? ⟨g5, 0, none⟩ = some (.bool false) := vL.cell 0
    have l1 : W1.cell? ⟨g5, 1, none⟩ = some (.slice A' n' c') := vL.cell 1
    have fl0 := vL.free 0
    have fl1 := vL.free 1
    have z1 := vL.lt
    have z2 := vA1.lt
    obtain ⟨mv, hmv⟩ : ∃ z : Nat, z = 0 := ⟨_, rfl⟩
    have HM := Lib.hid (show val ds' = mv ∧ mv < ((2 : Int) ^ 128).natAbs from ⟨by rw [hvL.out, hmv]; exact hz, by rw [hmv]; exact Z128⟩)
    have HMV := Lib.hid hmv
    clear hmv
    have hn0 : n' = 0 := by have := rL.len; have h2 := (val_eq_zero tL).1 (by rw [hvL.out]; exact hz); rw [h2] at this; simpa using this.symm
    subst hn0
    go_wp2_with fail
    refine wp_cutR (fun a' w' => ∃ (g6 g7 : Nat) (u24 u25 u26 u27 u28 u29 u30 u31 u32 : Value) (Ah : Option Addr) (nh ch : Nat) (dh : List Nat) (Al : Option Addr) (nl cl : Nat) (dl : List Nat), a' = { tmps := #[.agg #[.bool true, .slice A n c], .pointer (some ⟨w.heap.size, 0, none⟩), .int .i64 0, .int .u64 0, u4, .pointer (some ⟨g5, 0, none⟩), .pointer (some ⟨g6, 0, none⟩), .pointer (some ⟨g7, 0, none⟩), u8, u9, u10, u11, u12, u13, u14, u15, .pointer (some ⟨w.heap.size, 0, none⟩), .bool true, .bool true, .pointer (some ⟨g5, 1, none⟩), .slice A' 0 c', .int .i64 0, .bool false, .bool false, u24, u25, u26, u27, u28, u29, u30, u31, u32, undef, undef, undef, undef, undef], defers := [] } ∧ Var w' g6 67 #[.bool false, .slice Ah nh ch] ∧ RawAt w' Ah nh ch dh ∧ Hid (val dh = mv / ((2 : Int) ^ 64).natAbs) ∧ nh ≤ 4 ∧ Var w' g7 67 #[.bool false, .slice Al nl cl] ∧ RawAt w' Al nl cl dl ∧ Hid (val dl = mv % ((2 : Int) ^ 64).natAbs) ∧ nl ≤ 4 ∧ Below W1.heap.size W1 w') ?_ ?_
    · go_region_held3 (fun w' => Below W1.heap.size W1 w' ∧ (∀ b o, b < W1.heap.size → w'.cell? ⟨b, o, none⟩ = W1.cell? ⟨b, o, none⟩))
        (first | assumption | (repeat' (first | assumption | (with_reducible exact held_refl _) | (with_reducible refine held_drew ?_) | (with_reducible refine held_alloc _ ?_) | (with_reducible refine held_set _ (by omega) ?_))))
        (first
          | (go_at_call 82; refine (open_num (P64.out _)).mono ?_; rintro e wp4 ⟨b2x, A2x, n2x, c2x, k2x, rfl, hs2x, hr2x, ht2x, hv2x, hb_wp4⟩; have hS_wp4 := held_step hb_wp4 (W0 := W1) (by first | assumption | (repeat' (first | assumption | (with_reducible exact held_refl _) | (with_reducible refine held_drew ?_) | (with_reducible refine held_alloc _ ?_)))); have hG_wp4 := hS_wp4.1; obtain ⟨hc_wp4, hf_wp4⟩ := bcell hb_wp4; have hz_wp4 := hb_wp4.size; (try simp at hz_wp4); have l2x : n2x ≤ 9 := num_len hr2x ht2x hv2x.out S64; (try have hsp1 : W1.heap.size < wp4.heap.size := (by omega)); (try have hsp2 : W1.heap.size + 1 < wp4.heap.size := (by omega)))
          | (go_at_call 99; refine (open_div (div_ref (rL.below (by go_grown)) (hr2x.below (by go_grown)) false b2x (by omega) (by omega) (by rw [hv2x.out]; exact Z64) _ (Below.refl _ _))).mono ?_; rintro e wd4 ⟨A3x, n3x, c3x, d3x, A4x, n4x, c4x, d4x, rfl, ⟨hr3x, ht3x, hv3x⟩, ⟨hr4x, ht4x, hv4x⟩, hb_wd4⟩; have hS_wd4 := held_step hb_wd4 (W0 := W1) (by first | assumption | (repeat' (first | assumption | (with_reducible exact held_refl _) | (with_reducible refine held_drew ?_) | (with_reducible refine held_alloc _ ?_)))); have hG_wd4 := hS_wd4.1; obtain ⟨hc_wd4, hf_wd4⟩ := bcell hb_wd4; have hz_wd4 := hb_wd4.size; (try simp at hz_wd4); (try have hsd1 : W1.heap.size < wd4.heap.size := (by omega)); (try have hsd2 : W1.heap.size + 1 < wd4.heap.size := (by omega)); (try have hsd3 : wp4.heap.size < wd4.heap.size := (by omega)); (try have hsd4 : wp4.heap.size + 1 < wd4.heap.size := (by omega))))
      all_goals
        have E3 := Lib.hid (show val d3x = mv / ((2 : Int) ^ 64).natAbs by rw [hv3x.out, hv2x.out, HM.out.1])
        have E4 := Lib.hid (show val d4x = mv % ((2 : Int) ^ 64).natAbs by rw [hv4x.out, hv2x.out, HM.out.1])
        have l3 : n3x ≤ 4 := num_len hr3x ht3x E3.out (small_word (div_bd HM.out.2).1)
        have l4 : n4x ≤ 4 := num_len hr4x ht4x E4.out (small_word (div_bd HM.out.2).2)
        refine ⟨rfl, _, _, _, _, _, _, _, _, _, _, _, A3x, n3x, c3x, d3x, A4x, n4x, c4x, d4x, rfl, ?_, ?_, E3, l3, ?_, ?_, E4, l4, (show Below W1.heap.size W1 _ ∧ (∀ b o, b < W1.heap.size → World.cell? _ ⟨b, o, none⟩ = W1.cell? ⟨b, o, none⟩) by (repeat' (first | assumption | (with_reducible exact held_refl _) | (with_reducible refine held_drew ?_) | (with_reducible refine held_alloc _ ?_) | (with_reducible refine held_set _ (by omega) ?_)))).1⟩
      all_goals repeat' (first
        | (with_reducible exact hr3x)
        | (with_reducible exact hr4x)
        | (with_reducible exact Var.new' _ _ _ (by first | rfl | (simp; done) | (simp; omega)))
        | (with_reducible refine var_twoN ?_)
        | (with_reducible refine var_farN (by omega) ?_)
        | (with_reducible refine Var.drew ?_)
        | (with_reducible refine Var.alloc ?_ _)
        | (with_reducible refine Var.keep ?_ hb_wd4)
        | (with_reducible refine Var.keep ?_ hb_wp4)
        | (with_reducible refine raw_farN ?_ ?_)
        | (with_reducible refine raw_alloc ?_ _)
        | (with_reducible refine raw_drew ?_))
    · rintro a' W5 ⟨g6, g7, u24, u25, u26, u27, u28, u29, u30, u31, u32, Ah, nh, ch, dh, Al, nl, cl, dl, rfl, vH, rH, eH, lH, vW, rWW, eW, lW, hB5⟩
      have h0 : W5.cell? ⟨g6, 0, none⟩ = some (.bool false) := vH.cell 0
      have h1 : W5.cell? ⟨g6, 1, none⟩ = some (.slice Ah nh ch) := vH.cell 1
      have i0 : W5.cell? ⟨g7, 0, none⟩ = some (.bool false) := vW.cell 0
      have i1 : W5.cell? ⟨g7, 1, none⟩ = some (.slice Al nl cl) := vW.cell 1
      have zH := vH.lt
      have zW := vW.lt
      have bH : val dh ≤ 18446744073709551615 := by rw [eH.out]; exact (div_bd HM.out.2).1
      have bW : val dl ≤ 18446744073709551615 := by rw [eW.out]; exact (div_bd HM.out.2).2
      have hBw5 : Below w.heap.size w W5 := hBw1.trans (hB5.mono (Nat.le_of_lt z2))
      have zw5 := hBw5.size
      clear hB_W hB1 hB5 hBw1
      go_wp2_with fail
      have hq_W5 := @wd_cell W5
      refine wp_region_wd (by kernel_rfl) (by kernel_rfl) ?_
      repeat (go_big_quiet_step ((first | (go_at_call_of 73 (Value.agg #[.bool false, .slice Ah nh ch]); with_reducible exact quiet_wd (word_ref (rH.below (Wd.h _)) lH bH false _ (Below.refl _ _))) | (go_at_call_of 73 (Value.agg #[.bool false, .slice Al nl cl]); with_reducible exact quiet_wd (word_ref (rWW.below (Wd.h _)) lW bW false _ (Below.refl _ _))))))
      refine wpQuiet_nil ?_
      rintro w6 ⟨⟨wx, hb_w6⟩, hwx⟩
      obtain rfl : w6 = wx := hwx
      clear hq_W5
      have hz_w6 := hb_w6.size
      obtain ⟨hc_w6, hf_w6⟩ := bcell hb_w6
      have hB_w6 : Below w.heap.size w w6 := Below.trans (by go_grown) (hb_w6.mono (by go_size))
      go_wp2_with fail
      go_ret2
      exact ⟨mv, (show Ending.returned (.tuple #[.int .i64 (wrap64 ((val dh : Nat) : Int)), .int .u64 ((val dl : Nat) : Int)]) = _ by rw [eH.out, eW.out, show ((2 : Int) ^ 64).natAbs = 18446744073709551616 by decide +kernel]), HMV.out, hB_w6⟩

end Go.Proofs.Ytohnglcdophkfaa
