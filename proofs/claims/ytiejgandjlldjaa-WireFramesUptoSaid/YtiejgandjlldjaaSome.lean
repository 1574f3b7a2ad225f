/-
  Package wire: (*In).some, fixed.
-/
import Derived.Test.YtiejgandjlldjaaIn
import Derived.Test.YtiejgandjlldjaaWidth
namespace Go.Proofs.Ytiejgandjlldjaa
open Go.RowKit

/-- So many bytes of a take that began somewhere. -/
def Ist.some (began n : Nat) (s : Ist) : List UInt8 × Ist :=
  if s.code = 0 then (if s.l.length - s.at_ < n then ([], ⟨s.l, began, 30⟩) else ((s.l.take (s.at_ + n)).drop s.at_, ⟨s.l, s.at_ + n, 0⟩)) else ([], s)
theorem Ist.some_l (began n : Nat) (s : Ist) : (s.some began n).2.l = s.l := by
  unfold Ist.some; split
  · split <;> rfl
  · rfl
theorem Ist.some_len (began n : Nat) (s : Ist) : (s.some began n).1.length ≤ n := by
  unfold Ist.some; split
  · split
    · simp
    · rw [List.length_drop, List.length_take]; omega
  · simp

theorem some_none (b n : Nat) (w : World) : Calls Try.prog 91 #[.pointer none, .int .i64 (b : Int), .int .i64 (n : Int)] w fun e w' => e = .returned (.slice none 0 0) ∧ Below w.heap.size w w' := by
  have H := Lib.hid (right_none w)
  go_enter Try.func91, Try.ntmps91
  go_wp2_with fail
  refine (H.out).mono ?_
  rintro e w1 ⟨rfl, hb_w1⟩
  obtain ⟨hc_w1, hf_w1⟩ := bcell hb_w1
  have hz_w1 := hb_w1.size
  try simp at hz_w1
  have hB_w1 : Below w.heap.size w w1 := Below.trans (by go_grown) (hb_w1.mono (by go_size))
  go_wp2_with fail
  go_ret
  exact ⟨rfl, by go_grown⟩

/-- What comes of a take: a value, the state behind it. -/
def Took (I : Nat) (w : World) (s : Ist) (e : Ending) (v : Value) (w' : World) : Prop := e = .returned v ∧ InAt w' I s ∧ Upd I w w'

set_option maxRecDepth 100000 in
set_option maxHeartbeats 800000 in
theorem some_any (I : Nat) (s : Ist) (b n : Nat) (w : World) (h : InAt w I s) (hb : b ≤ s.l.length) :
    Calls Try.prog 91 #[.pointer (some ⟨I, 0, none⟩), .int .i64 (b : Int), .int .i64 (n : Int)] w fun e w' => ∃ A m c, e = .returned (.slice A m c) ∧ Bs w' A m c (s.some b n).1 ∧ InAt w' I (s.some b n).2 ∧ Upd I w w' := by
  have HR := Lib.hid (right_any I s w h)
  have HI := Lib.hid h
  have HF := Lib.hid (fun W h => fail_any I s b 30 W h hb)
  obtain ⟨A, c, hv, hs, hat⟩ := h
  obtain ⟨l, at_, code⟩ := s
  simp only [] at hv hs hat hb HR
  have hcap := hs.cap
  have hbig := hs.big
  unfold maxLen at hbig
  rcases Nat.eq_zero_or_pos code with h0 | h0
  · subst h0
    have c0 : w.cell? ⟨I, 0, none⟩ = some (.slice A l.length c) := hv.cell 0
    have c1 : w.cell? ⟨I, 1, none⟩ = some (.int .i64 (at_ : Int)) := hv.cell 1
    have hlt := hv.lt
    have hf1 := hv.free 1
    rcases Nat.lt_or_ge (l.length - at_) n with hl | hl
    · have e1 : Ist.some b n ⟨l, at_, 0⟩ = ([], ⟨l, b, 30⟩) := by unfold Ist.some; rw [if_pos rfl, if_pos hl]
      rw [e1]
      obtain ⟨m, hm⟩ : ∃ z, l.length = z := ⟨_, rfl⟩
      rw [hm] at c0 hl hat hcap
      have hl' : (m : Int) - (at_ : Int) < (n : Int) := by omega
      clear hm hs hv e1
      go_enter Try.func91, Try.ntmps91
      go_wp2_with fail
      refine (HR.out).mono ?_
      rintro e w1 ⟨rfl, hb_w1⟩
      obtain ⟨hc_w1, hf_w1⟩ := bcell hb_w1
      have hz_w1 := hb_w1.size
      try simp at hz_w1
      have hB_w1 : Below w.heap.size w w1 := Below.trans (by go_grown) (hb_w1.mono (by go_size))
      have hs_w1_0 : I < w1.heap.size := by omega
      have hI1 := HI.out.keep hb_w1
      have c01 := (hc_w1 I 0 hlt).trans c0
      have c11 := (hc_w1 I 1 hlt).trans c1
      go_wp2_with fail
      have hq_w1 := @wd_cell w1
      refine wp_region_wd (by kernel_rfl) (by kernel_rfl) ?_
      repeat (go_big_quiet_step (fail))
      refine wpQuiet_nil ?_
      rintro w4 ⟨⟨wx, hb_w4⟩, hwx⟩
      obtain rfl : w4 = wx := hwx
      clear hq_w1
      have hz_w4 := hb_w4.size
      obtain ⟨hc_w4, hf_w4⟩ := bcell hb_w4
      have hB_w4 : Below w.heap.size w w4 := Below.trans (by go_grown) (hb_w4.mono (by go_size))
      have hs_w4_0 : I < w4.heap.size := Nat.lt_of_lt_of_le (by assumption) hb_w4.size
      have hI4 := hI1.keep hb_w4
      go_wp2_with fail
      refine (HF.out _ hI4).mono ?_
      rintro e w5 ⟨⟨_, rfl⟩, hI5, hU5⟩
      go_wp2_with fail
      go_ret
      exact ⟨none, 0, 0, rfl, Bs.nil _, hI5, (Upd.of_below (hb_w1.trans (hb_w4.mono hb_w1.size))).trans hU5⟩
    · have e1 : Ist.some b n ⟨l, at_, 0⟩ = ((l.take (at_ + n)).drop at_, ⟨l, at_ + n, 0⟩) := by unfold Ist.some; rw [if_pos rfl, if_neg (by simp only []; omega)]
      rw [e1]
      have hsub := hs.sub (lo := at_) (hi := at_ + n) (by omega) (by omega)
      rw [show at_ + n - at_ = n by omega] at hsub
      have HS := Lib.hid hsub
      have HV := Lib.hid hv
      have HBs := Lib.hid hs
      obtain ⟨m, hm⟩ : ∃ z, l.length = z := ⟨_, rfl⟩
      have HM := Lib.hid hm
      rw [hm] at c0 hl hat hcap
      have hl' : ¬ (m : Int) - (at_ : Int) < (n : Int) := by omega
      have hl2 : (at_ : Int) + (n : Int) ≤ (c : Int) := by omega
      clear hm hs hv e1 hsub
      rcases Decidable.em (c = at_) with hca | hca
      · subst hca
        obtain rfl : n = 0 := by omega
        have hsub' : Bs w A 0 0 ((l.take (c + 0)).drop c) := by have h := HS.out; rw [if_pos rfl, Nat.sub_self] at h; exact h
        have HS2 := Lib.hid hsub'
        clear hsub' HS
        go_enter Try.func91, Try.ntmps91
        go_wp2_with fail
        refine (HR.out).mono ?_
        rintro e w1 ⟨rfl, hb_w1⟩
        obtain ⟨hc_w1, hf_w1⟩ := bcell hb_w1
        have hz_w1 := hb_w1.size
        try simp at hz_w1
        have hB_w1 : Below w.heap.size w w1 := Below.trans (by go_grown) (hb_w1.mono (by go_size))
        have hs_w1_0 : I < w1.heap.size := by omega
        have c01 := (hc_w1 I 0 hlt).trans c0
        have c11 := (hc_w1 I 1 hlt).trans c1
        go_wp2_with fail
        have hq_w1 := @wd_cell w1
        refine wp_region_wd (by kernel_rfl) (by kernel_rfl) ?_
        repeat (go_big_quiet_step (fail))
        refine wpQuiet_nil ?_
        rintro w4 ⟨⟨wx, hb_w4⟩, hwx⟩
        obtain rfl : w4 = wx := hwx
        clear hq_w1
        have hz_w4 := hb_w4.size
        obtain ⟨hc_w4, hf_w4⟩ := bcell hb_w4
        have hB_w4 : Below w.heap.size w w4 := Below.trans (by go_grown) (hb_w4.mono (by go_size))
        have hs_w4_0 : I < w4.heap.size := Nat.lt_of_lt_of_le (by assumption) hb_w4.size
        have hv4 := (HV.out.keep hb_w1).keep hb_w4
        have hs4 := (HBs.out.below hb_w1).below hb_w4
        have hsub4 := (HS2.out.below hb_w1).below hb_w4
        have c04 := (hc_w4 I 0 hs_w1_0).trans c01
        have c14 := (hc_w4 I 1 hs_w1_0).trans c11
        go_wp2_with fail
        have hq_w4 := @wd_cell w4
        refine wp_region_wd (by kernel_rfl) (by kernel_rfl) ?_
        repeat (go_big_quiet_step (fail))
        refine wpQuiet_nil ?_
        rintro w5 ⟨⟨wx, hb_w5⟩, hwx⟩
        obtain rfl : w5 = wx := hwx
        clear hq_w4
        have hz_w5 := hb_w5.size
        obtain ⟨hc_w5, hf_w5⟩ := bcell hb_w5
        have hB_w5 : Below w.heap.size w w5 := Below.trans (by go_grown) (hb_w5.mono (by go_size))
        have hs_w5_0 : I < w5.heap.size := Nat.lt_of_lt_of_le (by assumption) hb_w5.size
        have c05 := (hc_w5 I 0 hs_w4_0).trans c04
        have c15 := (hc_w5 I 1 hs_w4_0).trans c14
        have hv5 := hv4.keep hb_w5
        have f5 := hv5.free 1
        go_wp2_with fail
        go_ret
        have hu5 := (hb_w1.trans (hb_w4.mono hb_w1.size)).trans (hb_w5.mono (by omega))
        refine ⟨_, _, _, rfl, bs_upd (by first | exact hsub4.below hb_w5 | (rw [hnn']; exact hsub4.below hb_w5)) (Upd.set _) (in_no hv5), ⟨A, _, hv5.store 1 _, bs_upd (hs4.below hb_w5) (Upd.set _) (in_no hv5), by have := HM.out; simp only []; omega⟩, (Upd.of_below hu5).trans (Upd.set _)⟩
      · have hsub' : Bs w (A.map (·.add at_)) n (c - at_) ((l.take (at_ + n)).drop at_) := by have h := HS.out; rw [if_neg hca, Nat.mul_one] at h; exact h
        have HS2 := Lib.hid hsub'
        clear hsub' HS
        have hnn' : at_ + n - at_ = n := by omega
        go_enter Try.func91, Try.ntmps91
        go_wp2_with fail
        refine (HR.out).mono ?_
        rintro e w1 ⟨rfl, hb_w1⟩
        obtain ⟨hc_w1, hf_w1⟩ := bcell hb_w1
        have hz_w1 := hb_w1.size
        try simp at hz_w1
        have hB_w1 : Below w.heap.size w w1 := Below.trans (by go_grown) (hb_w1.mono (by go_size))
        have hs_w1_0 : I < w1.heap.size := by omega
        have c01 := (hc_w1 I 0 hlt).trans c0
        have c11 := (hc_w1 I 1 hlt).trans c1
        go_wp2_with fail
        have hq_w1 := @wd_cell w1
        refine wp_region_wd (by kernel_rfl) (by kernel_rfl) ?_
        repeat (go_big_quiet_step (fail))
        refine wpQuiet_nil ?_
        rintro w4 ⟨⟨wx, hb_w4⟩, hwx⟩
        obtain rfl : w4 = wx := hwx
        clear hq_w1
        have hz_w4 := hb_w4.size
        obtain ⟨hc_w4, hf_w4⟩ := bcell hb_w4
        have hB_w4 : Below w.heap.size w w4 := Below.trans (by go_grown) (hb_w4.mono (by go_size))
        have hs_w4_0 : I < w4.heap.size := Nat.lt_of_lt_of_le (by assumption) hb_w4.size
        have hv4 := (HV.out.keep hb_w1).keep hb_w4
        have hs4 := (HBs.out.below hb_w1).below hb_w4
        have hsub4 := (HS2.out.below hb_w1).below hb_w4
        have c04 := (hc_w4 I 0 hs_w1_0).trans c01
        have c14 := (hc_w4 I 1 hs_w1_0).trans c11
        go_wp2_with fail
        have hq_w4 := @wd_cell w4
        refine wp_region_wd (by kernel_rfl) (by kernel_rfl) ?_
        repeat (go_big_quiet_step (fail))
        refine wpQuiet_nil ?_
        rintro w5 ⟨⟨wx, hb_w5⟩, hwx⟩
        obtain rfl : w5 = wx := hwx
        clear hq_w4
        have hz_w5 := hb_w5.size
        obtain ⟨hc_w5, hf_w5⟩ := bcell hb_w5
        have hB_w5 : Below w.heap.size w w5 := Below.trans (by go_grown) (hb_w5.mono (by go_size))
        have hs_w5_0 : I < w5.heap.size := Nat.lt_of_lt_of_le (by assumption) hb_w5.size
        have c05 := (hc_w5 I 0 hs_w4_0).trans c04
        have c15 := (hc_w5 I 1 hs_w4_0).trans c14
        have hv5 := hv4.keep hb_w5
        have f5 := hv5.free 1
        go_wp2_with fail
        go_ret
        have hu5 := (hb_w1.trans (hb_w4.mono hb_w1.size)).trans (hb_w5.mono (by omega))
        refine ⟨_, _, _, rfl, bs_upd (by first | exact hsub4.below hb_w5 | (rw [hnn']; exact hsub4.below hb_w5)) (Upd.set _) (in_no hv5), ⟨A, _, hv5.store 1 _, bs_upd (hs4.below hb_w5) (Upd.set _) (in_no hv5), by have := HM.out; simp only []; omega⟩, (Upd.of_below hu5).trans (Upd.set _)⟩
  · have e1 : Ist.some b n ⟨l, at_, code⟩ = ([], ⟨l, at_, code⟩) := by unfold Ist.some; rw [if_neg (by simp only []; omega)]
    rw [e1]
    have h1 : (code == 0) = false := by simp; omega
    rw [h1] at HR
    clear h1 e1 hv hs
    go_enter Try.func91, Try.ntmps91
    go_wp2_with fail
    refine (HR.out).mono ?_
    rintro e w1 ⟨rfl, hb_w1⟩
    obtain ⟨hc_w1, hf_w1⟩ := bcell hb_w1
    have hz_w1 := hb_w1.size
    try simp at hz_w1
    have hB_w1 : Below w.heap.size w w1 := Below.trans (by go_grown) (hb_w1.mono (by go_size))
    go_wp2_with fail
    go_ret
    exact ⟨none, 0, 0, rfl, Bs.nil _, HI.out.keep hb_w1, Upd.of_below hb_w1⟩

end Go.Proofs.Ytiejgandjlldjaa
