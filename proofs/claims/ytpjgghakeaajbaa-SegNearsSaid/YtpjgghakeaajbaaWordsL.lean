/-
  The document's rows of words: which of two is less.
-/
import Derived.Test.YtpjgghakeaajbaaWords
namespace Go.Proofs.Ytpjgghakeaajbaa
open Go.RowKit

set_option maxHeartbeats 800000 in
theorem low_w {w0 : World} {A1 A2 : Option Addr} {n1 c1 n2 c2 : Nat} {d1 d2 : List Nat} (h1 : RawAt w0 A1 n1 c1 d1) (t1 : Tight d1) (h2 : RawAt w0 A2 n2 c2 d2) (t2 : Tight d2) (w : World) (hw : Below w0.heap.size w0 w) :
    Calls Try.prog 60 #[.slice A1 n1 c1, .slice A2 n2 c2] w fun e w' => e = .returned (.int .i64 (cmpI (val d1) (val d2))) ∧ Below w.heap.size w w' := by
  have r1 := h1.below hw
  have r2 := h2.below hw
  have l1 := h1.len
  have l2 := h2.len
  have g1 := h1.digs
  have g2 := h2.digs
  have hcc := h1.cap
  have hbig := h1.big
  clear h1 h2 hw
  have HL := Lib.hid (And.intro l1 l2)
  clear l1 l2
  rcases Nat.lt_trichotomy n1 n2 with hn | hn | hn
  · have HC := Lib.hid (show cmpI (val d1) (val d2) = -1 from by
      have h := val_lt_len g1 t2 (by rw [HL.out.1, HL.out.2]; exact hn)
      unfold cmpI; rw [if_pos (by omega)])
    have q1 : ((n1 : Int) == (n2 : Int)) = false := by rw [beq_eq_false_iff_ne]; omega
    have q2 : (n1 : Int) < (n2 : Int) := by omega
    go_enter Try.func60, Try.ntmps60
    go_wp2_with fail
    go_ret
    exact ⟨ret_intR HC.out.symm, by go_grown⟩
  · subst hn
    go_enter Try.func60, Try.ntmps60
    go_wp2_with fail
    go_loopw [5] (fun t wr => ∃ (j : Nat) (z : Int), t = .int .i64 z ∧ z = (j : Int) - 1 ∧ j ≤ n1 ∧ val (d1.drop j) = val (d2.drop j) ∧ Below w.heap.size w wr)
      (fun t _ => (intOf t + 1).toNat)
    case atStart => exact ⟨n1, _, rfl, rfl, by omega, by rw [drop_out (by rw [HL.out.1]; omega), drop_out (by rw [HL.out.2]; omega)], Below.refl _ _⟩
    case round =>
      obtain ⟨j, z, rfl, hz, hj, hv, hbel⟩ := hrel
      have HV := Lib.hid hv
      clear hv
      rcases Nat.eq_zero_or_pos j with hj0 | hj0
      · subst hj0
        obtain rfl : z = -1 := by omega
        clear hz
        have HC := Lib.hid (show cmpI (val d1) (val d2) = 0 from by
          have h := HV.out
          simp only [List.drop_zero] at h
          rw [h]; exact cmp_self _)
        go_wp2_with fail
        go_ret
        exact ⟨ret_intR HC.out.symm, by go_grown⟩
      · obtain ⟨i, rfl⟩ : ∃ i, j = i + 1 := ⟨j - 1, by omega⟩
        obtain rfl : z = (i : Int) := by omega
        clear hz hj0
        obtain ⟨b, o, rfl, hb, hc⟩ := (r1.below hbel).at_ (i := i) (by omega)
        obtain ⟨b', o', rfl, hb', hc'⟩ := (r2.below hbel).at_ (i := i) (by omega)
        have k1 : wr.cell? ⟨b, o + i, none⟩ = some (.int .u32 (dig d1 i : Int)) := hc
        have k2 : wr.cell? ⟨b', o' + i, none⟩ = some (.int .u32 (dig d2 i : Int)) := hc'
        clear hc hc'
        rcases Nat.lt_trichotomy (dig d1 i) (dig d2 i) with hd | hd | hd
        · have HC := Lib.hid (show cmpI (val d1) (val d2) = -1 from by
            have h := val_lt_of_drop g1 i (val_drop_lt i hd HV.out)
            unfold cmpI; rw [if_pos (by omega)])
          go_wp2_with fail
          have hq_wr := @wd_cell wr
          refine wp_region_wd (by kernel_rfl) (by kernel_rfl) ?_
          repeat (go_big_quiet_step (fail))
          refine wpQuiet_nil ?_
          rintro w8 ⟨⟨wx, hb_w8⟩, hwx⟩
          obtain rfl : w8 = wx := hwx
          clear hq_wr
          have hz_w8 := hb_w8.size
          obtain ⟨hc_w8, hf_w8⟩ := bcell hb_w8
          have hs_w8_0 : b < w8.heap.size := Nat.lt_of_lt_of_le (by assumption) hb_w8.size
          have hs_w8_1 : b' < w8.heap.size := Nat.lt_of_lt_of_le (by assumption) hb_w8.size
          go_wp2_with fail
          go_ret
          exact ⟨ret_intR HC.out.symm, hbel.trans (hb_w8.mono hbel.size)⟩
        · have hd' : ¬ dig d1 i < dig d2 i := by omega
          have hd'' : ¬ dig d2 i < dig d1 i := by omega
          have HD := Lib.hid hd
          clear hd
          go_wp2_with fail
          have hq_wr := @wd_cell wr
          refine wp_region_wd (by kernel_rfl) (by kernel_rfl) ?_
          repeat (go_big_quiet_step (fail))
          refine wpQuiet_nil ?_
          rintro w8 ⟨⟨wx, hb_w8⟩, hwx⟩
          obtain rfl : w8 = wx := hwx
          clear hq_wr
          have hz_w8 := hb_w8.size
          obtain ⟨hc_w8, hf_w8⟩ := bcell hb_w8
          have hs_w8_0 : b < w8.heap.size := Nat.lt_of_lt_of_le (by assumption) hb_w8.size
          have hs_w8_1 : b' < w8.heap.size := Nat.lt_of_lt_of_le (by assumption) hb_w8.size
          have k1 := (hb_w8.cell (p := ⟨b, o + i, none⟩) hb).trans k1
          have k2 := (hb_w8.cell (p := ⟨b', o' + i, none⟩) hb').trans k2
          go_wp2_with fail
          have hq_w8 := @wd_cell w8
          refine wp_region_wd (by kernel_rfl) (by kernel_rfl) ?_
          repeat (go_big_quiet_step (fail))
          refine wpQuiet_nil ?_
          rintro w9 ⟨⟨wx, hb_w9⟩, hwx⟩
          obtain rfl : w9 = wx := hwx
          clear hq_w8
          have hz_w9 := hb_w9.size
          obtain ⟨hc_w9, hf_w9⟩ := bcell hb_w9
          have hs_w9_0 : b < w9.heap.size := Nat.lt_of_lt_of_le (by assumption) hb_w9.size
          have hs_w9_1 : b' < w9.heap.size := Nat.lt_of_lt_of_le (by assumption) hb_w9.size
          go_wp2_with fail
          go_roundw
          case rel => exact ⟨i, _, rfl, rfl, by omega, val_eq_of_drop i HD.out HV.out, (hbel.trans (hb_w8.mono hbel.size)).trans (hb_w9.mono (Nat.le_trans hbel.size hb_w8.size))⟩
          case measure => simp [intOf]
        · have HC := Lib.hid (show cmpI (val d1) (val d2) = 1 from by
            have h := val_lt_of_drop g2 i (val_drop_lt i hd HV.out.symm)
            unfold cmpI; rw [if_neg (by omega), if_neg (by omega)])
          have hd' : ¬ dig d1 i < dig d2 i := by omega
          go_wp2_with fail
          have hq_wr := @wd_cell wr
          refine wp_region_wd (by kernel_rfl) (by kernel_rfl) ?_
          repeat (go_big_quiet_step (fail))
          refine wpQuiet_nil ?_
          rintro w8 ⟨⟨wx, hb_w8⟩, hwx⟩
          obtain rfl : w8 = wx := hwx
          clear hq_wr
          have hz_w8 := hb_w8.size
          obtain ⟨hc_w8, hf_w8⟩ := bcell hb_w8
          have hs_w8_0 : b < w8.heap.size := Nat.lt_of_lt_of_le (by assumption) hb_w8.size
          have hs_w8_1 : b' < w8.heap.size := Nat.lt_of_lt_of_le (by assumption) hb_w8.size
          have k1 := (hb_w8.cell (p := ⟨b, o + i, none⟩) hb).trans k1
          have k2 := (hb_w8.cell (p := ⟨b', o' + i, none⟩) hb').trans k2
          go_wp2_with fail
          have hq_w8 := @wd_cell w8
          refine wp_region_wd (by kernel_rfl) (by kernel_rfl) ?_
          repeat (go_big_quiet_step (fail))
          refine wpQuiet_nil ?_
          rintro w9 ⟨⟨wx, hb_w9⟩, hwx⟩
          obtain rfl : w9 = wx := hwx
          clear hq_w8
          have hz_w9 := hb_w9.size
          obtain ⟨hc_w9, hf_w9⟩ := bcell hb_w9
          have hs_w9_0 : b < w9.heap.size := Nat.lt_of_lt_of_le (by assumption) hb_w9.size
          have hs_w9_1 : b' < w9.heap.size := Nat.lt_of_lt_of_le (by assumption) hb_w9.size
          go_wp2_with fail
          go_ret
          exact ⟨ret_intR HC.out.symm, hbel.trans ((hb_w8.trans (hb_w9.mono hb_w8.size)).mono hbel.size)⟩
  · have HC := Lib.hid (show cmpI (val d1) (val d2) = 1 from by
      have h := val_lt_len g2 t1 (by rw [HL.out.1, HL.out.2]; exact hn)
      unfold cmpI; rw [if_neg (by omega), if_neg (by omega)])
    have q1 : ((n1 : Int) == (n2 : Int)) = false := by rw [beq_eq_false_iff_ne]; omega
    have q2 : ¬ (n1 : Int) < (n2 : Int) := by omega
    go_enter Try.func60, Try.ntmps60
    go_wp2_with fail
    go_ret
    exact ⟨ret_intR HC.out.symm, by go_grown⟩

end Go.Proofs.Ytpjgghakeaajbaa
