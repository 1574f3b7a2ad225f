/-
  Package wire: (*In).Float, Count, Text.
-/
import Derived.Test.YtiejgandjlldjaaTakes
import Derived.Test.YtiejgandjlldjaaStr
namespace Go.Proofs.Ytiejgandjlldjaa
open Go.RowKit

def Ist.float (s : Ist) : Nat × Ist := if nan (s.fixed 8).1 = true ∧ ¬ (s.fixed 8).1 = 9221120237041090561 then (0, ⟨(s.fixed 8).2.l, s.at_, 35⟩) else s.fixed 8
def Ist.count (most : Int) (s : Ist) : Nat × Ist := if (s.fixed 2).2.code = 0 ∧ max most 0 < ((s.fixed 2).1 : Int) then (0, ⟨(s.fixed 2).2.l, s.at_, 31⟩) else s.fixed 2
def Ist.text (most : Int) (s : Ist) : List UInt8 × Ist := (s.count most).2.some s.at_ (s.count most).1
theorem Ist.fixed_l (n : Nat) (s : Ist) : (s.fixed n).2.l = s.l := s.some_l s.at_ n
theorem Ist.count_l (most : Int) (s : Ist) : (s.count most).2.l = s.l := by unfold Ist.count; split <;> exact s.fixed_l 2
theorem nan0 : nan 0 = false := by decide +kernel

set_option maxRecDepth 100000 in
theorem float_none (w : World) : Calls Try.prog 67 #[.pointer none] w fun e w' => e = .returned (.float .f64 0) ∧ Below w.heap.size w w' := by
  have HF : ∀ W, (callFunc 51 #[.int .u64 0]).run Try.prog W = .ok (.value (.float .f64 0)) W := fun W => frombits_any 0 W
  have HB : ∀ W, (callFunc 68 #[.float .f64 0]).run Try.prog W = .ok (.value (.int .u64 0)) W := fun W => bits_any 0 W
  have hn := nan0
  unfold nan at hn
  go_enter Try.func67, Try.ntmps67
  go_wp2_with fail
  refine (at_none _).mono ?_
  rintro e w1 ⟨rfl, hb_w1⟩
  obtain ⟨hc_w1, hf_w1⟩ := bcell hb_w1
  have hz_w1 := hb_w1.size
  try simp at hz_w1
  have hB_w1 : Below w.heap.size w w1 := Below.trans (by go_grown) (hb_w1.mono (by go_size))
  go_wp2_with fail
  refine (tfixed_none 8 _).mono ?_
  rintro e w2 ⟨rfl, hb_w2⟩
  obtain ⟨hc_w2, hf_w2⟩ := bcell hb_w2
  have hz_w2 := hb_w2.size
  try simp at hz_w2
  have hB_w2 : Below w.heap.size w w2 := Below.trans (by go_grown) (hb_w2.mono (by go_size))
  go_wp2_with fail
  go_ret
  exact ⟨rfl, by go_grown⟩

set_option maxRecDepth 100000 in
theorem float_any (I : Nat) (s : Ist) (w : World) (h : InAt w I s) :
    Calls Try.prog 67 #[.pointer (some ⟨I, 0, none⟩)] w fun e w' => Took I w s.float.2 e (.float .f64 s.float.1) w' := by
  have HA := Lib.hid (at_any I s w h)
  have HF := Lib.hid (fun W h => tfixed_any I s 8 W h (by omega))
  have hl := s.fixed_l 8
  have hat : s.at_ ≤ s.l.length := by obtain ⟨A, c, _, _, hat⟩ := h; exact hat
  unfold Ist.float
  obtain ⟨s', hs'⟩ : ∃ z, (s.fixed 8).2 = z := ⟨_, rfl⟩
  obtain ⟨v, hv⟩ : ∃ z, (s.fixed 8).1 = z := ⟨_, rfl⟩
  have hsv : s.fixed 8 = (v, s') := by rw [← hv, ← hs']
  rw [hs'] at hl
  rw [← hl] at hat
  rw [hs', hv] at HF
  rw [hs', hv, hsv]
  clear hs' hv hsv hl
  have HX := Lib.hid (fun W h => fail_any I s' s.at_ 35 W h hat)
  have HI := Lib.hid h
  have hf := frombits_any v
  have hb := bits_any v
  clear h
  rcases Decidable.em (nan v = true) with hn | hn
  · rcases Decidable.em (v = 9221120237041090561) with h0 | h0
    · rw [if_neg (fun h => h.2 h0)]
      subst h0
      have hf1 : ∀ W, (callFunc 51 #[.int .u64 9221120237041090561]).run Try.prog W = .ok (.value (.float .f64 9221120237041090561)) W := fun W => frombits_any 9221120237041090561 W
      have hb1 : ∀ W, (callFunc 68 #[.float .f64 9221120237041090561]).run Try.prog W = .ok (.value (.int .u64 9221120237041090561)) W := fun W => bits_any 9221120237041090561 W
      clear hf hb
      unfold nan at hn
      go_enter Try.func67, Try.ntmps67
      go_wp2_with fail
      refine (HA.out).mono ?_
      rintro e w1 ⟨rfl, hb_w1⟩
      obtain ⟨hc_w1, hf_w1⟩ := bcell hb_w1
      have hz_w1 := hb_w1.size
      try simp at hz_w1
      have hB_w1 : Below w.heap.size w w1 := Below.trans (by go_grown) (hb_w1.mono (by go_size))
      go_wp2_with fail
      refine (HF.out _ (HI.out.keep hb_w1)).mono ?_
      rintro e w2 ⟨rfl, hI2, hU2⟩
      go_wp2_with fail
      go_ret
      exact ⟨rfl, hI2, (Upd.of_below hb_w1).trans hU2⟩
    · rw [if_pos ⟨hn, h0⟩]
      unfold nan at hn
      have h1 : ((v : Int) != 9221120237041090561) = true := by simp; omega
      have h2 : ¬ (v : Int) = 9221120237041090561 := by omega
      go_enter Try.func67, Try.ntmps67
      go_wp2_with fail
      refine (HA.out).mono ?_
      rintro e w1 ⟨rfl, hb_w1⟩
      obtain ⟨hc_w1, hf_w1⟩ := bcell hb_w1
      have hz_w1 := hb_w1.size
      try simp at hz_w1
      have hB_w1 : Below w.heap.size w w1 := Below.trans (by go_grown) (hb_w1.mono (by go_size))
      go_wp2_with fail
      refine (HF.out _ (HI.out.keep hb_w1)).mono ?_
      rintro e w2 ⟨rfl, hI2, hU2⟩
      go_wp2_with fail
      refine (HX.out _ hI2).mono ?_
      rintro e w5 ⟨⟨_, rfl⟩, hI5, hU5⟩
      go_wp2_with fail
      go_ret
      exact ⟨rfl, hI5, ((Upd.of_below hb_w1).trans hU2).trans hU5⟩
  · rw [if_neg (fun h => hn h.1)]
    have hn' : nan v = false := by simpa using hn
    clear hn
    unfold nan at hn'
    go_enter Try.func67, Try.ntmps67
    go_wp2_with fail
    refine (HA.out).mono ?_
    rintro e w1 ⟨rfl, hb_w1⟩
    obtain ⟨hc_w1, hf_w1⟩ := bcell hb_w1
    have hz_w1 := hb_w1.size
    try simp at hz_w1
    have hB_w1 : Below w.heap.size w w1 := Below.trans (by go_grown) (hb_w1.mono (by go_size))
    go_wp2_with fail
    refine (HF.out _ (HI.out.keep hb_w1)).mono ?_
    rintro e w2 ⟨rfl, hI2, hU2⟩
    go_wp2_with fail
    go_ret
    exact ⟨rfl, hI2, (Upd.of_below hb_w1).trans hU2⟩

set_option maxRecDepth 100000 in
theorem count_none (most : Int) (w : World) : Calls Try.prog 70 #[.pointer none, .int .i64 most] w fun e w' => e = .returned (.int .i64 0) ∧ Below w.heap.size w w' := by
  go_enter Try.func70, Try.ntmps70
  go_wp2_with fail
  refine (at_none _).mono ?_
  rintro e w1 ⟨rfl, hb_w1⟩
  obtain ⟨hc_w1, hf_w1⟩ := bcell hb_w1
  have hz_w1 := hb_w1.size
  try simp at hz_w1
  have hB_w1 : Below w.heap.size w w1 := Below.trans (by go_grown) (hb_w1.mono (by go_size))
  go_wp2_with fail
  refine (tfixed_none 2 _).mono ?_
  rintro e w2 ⟨rfl, hb_w2⟩
  obtain ⟨hc_w2, hf_w2⟩ := bcell hb_w2
  have hz_w2 := hb_w2.size
  try simp at hz_w2
  have hB_w2 : Below w.heap.size w w2 := Below.trans (by go_grown) (hb_w2.mono (by go_size))
  go_wp2_with fail
  refine (right_none _).mono ?_
  rintro e w3 ⟨rfl, hb_w3⟩
  obtain ⟨hc_w3, hf_w3⟩ := bcell hb_w3
  have hz_w3 := hb_w3.size
  try simp at hz_w3
  have hB_w3 : Below w.heap.size w w3 := Below.trans (by go_grown) (hb_w3.mono (by go_size))
  go_wp2_with fail
  go_ret
  exact ⟨rfl, by go_grown⟩

set_option maxRecDepth 100000 in
theorem count_any (I : Nat) (s : Ist) (most : Int) (w : World) (h : InAt w I s) :
    Calls Try.prog 70 #[.pointer (some ⟨I, 0, none⟩), .int .i64 most] w fun e w' => Took I w (s.count most).2 e (.int .i64 ((s.count most).1 : Int)) w' := by
  have HA := Lib.hid (at_any I s w h)
  have HF := Lib.hid (fun W h => tfixed_any I s 2 W h (by omega))
  have hlt := s.fixed_lt 2
  have hl := s.fixed_l 2
  have hat : s.at_ ≤ s.l.length := by obtain ⟨A, c, _, _, hat⟩ := h; exact hat
  unfold Ist.count
  obtain ⟨s', hs'⟩ : ∃ z, (s.fixed 2).2 = z := ⟨_, rfl⟩
  obtain ⟨v, hv⟩ : ∃ z, (s.fixed 2).1 = z := ⟨_, rfl⟩
  have hsv : s.fixed 2 = (v, s') := by rw [← hv, ← hs']
  rw [hs'] at hl
  rw [← hl] at hat
  rw [hs', hv] at HF
  rw [hv] at hlt
  rw [hs', hv, hsv]
  clear hs' hv hsv hl
  have HX := Lib.hid (fun W h => fail_any I s' s.at_ 31 W h hat)
  have HR := Lib.hid (fun W h => right_any I s' W h)
  have HI := Lib.hid h
  have hv' : (v : Int) < 65536 := by omega
  clear h
  rcases Decidable.em (s'.code = 0) with hn | hn
  · have hc : (s'.code == 0) = true := by simp [hn]
    rw [hc] at HR
    obtain ⟨m, hm⟩ : ∃ m, max most 0 = m := ⟨_, rfl⟩
    rw [hm]
    have hm' : (if most < 0 then 0 else most) = m := by rw [← hm]; split <;> omega
    have HM := Lib.hid hm
    rcases Int.lt_or_le m (v : Int) with h0 | h0
    · rw [if_pos ⟨hn, h0⟩]
      clear hn hc hm
      go_enter Try.func70, Try.ntmps70
      go_wp2_with fail
      refine (HA.out).mono ?_
      rintro e w1 ⟨rfl, hb_w1⟩
      obtain ⟨hc_w1, hf_w1⟩ := bcell hb_w1
      have hz_w1 := hb_w1.size
      try simp at hz_w1
      have hB_w1 : Below w.heap.size w w1 := Below.trans (by go_grown) (hb_w1.mono (by go_size))
      go_wp2_with fail
      refine (HF.out _ (HI.out.keep hb_w1)).mono ?_
      rintro e w2 ⟨rfl, hI2, hU2⟩
      go_wp2_with fail
      refine (HR.out _ hI2).mono ?_
      rintro e w3 ⟨rfl, hb_w3⟩
      obtain ⟨hc_w3, hf_w3⟩ := bcell hb_w3
      have hz_w3 := hb_w3.size
      try simp at hz_w3
      have hI3 := hI2.keep hb_w3
      go_wp2_with fail
      refine (HX.out _ hI3).mono ?_
      rintro e w5 ⟨⟨_, rfl⟩, hI5, hU5⟩
      go_wp2_with fail
      go_ret
      exact ⟨rfl, hI5, (((Upd.of_below hb_w1).trans hU2).trans (Upd.of_below hb_w3)).trans hU5⟩
    · rw [if_neg (fun h => absurd h.2 (by omega))]
      have hd : decide (m < (v : Int)) = false := by simpa using h0
      have hd2 : ¬ m < (v : Int) := by omega
      clear hn hc hm hlt h0
      go_enter Try.func70, Try.ntmps70
      go_wp2_with fail
      refine (HA.out).mono ?_
      rintro e w1 ⟨rfl, hb_w1⟩
      obtain ⟨hc_w1, hf_w1⟩ := bcell hb_w1
      have hz_w1 := hb_w1.size
      try simp at hz_w1
      have hB_w1 : Below w.heap.size w w1 := Below.trans (by go_grown) (hb_w1.mono (by go_size))
      go_wp2_with fail
      refine (HF.out _ (HI.out.keep hb_w1)).mono ?_
      rintro e w2 ⟨rfl, hI2, hU2⟩
      go_wp2_with fail
      refine (HR.out _ hI2).mono ?_
      rintro e w3 ⟨rfl, hb_w3⟩
      obtain ⟨hc_w3, hf_w3⟩ := bcell hb_w3
      have hz_w3 := hb_w3.size
      try simp at hz_w3
      have hI3 := hI2.keep hb_w3
      go_wp2_with fail
      go_ret
      exact ⟨rfl, hI3, ((Upd.of_below hb_w1).trans hU2).trans (Upd.of_below hb_w3)⟩
  · rw [if_neg (fun h => hn h.1)]
    have hc : (s'.code == 0) = false := by simp [hn]
    rw [hc] at HR
    clear hn hc
    go_enter Try.func70, Try.ntmps70
    go_wp2_with fail
    refine (HA.out).mono ?_
    rintro e w1 ⟨rfl, hb_w1⟩
    obtain ⟨hc_w1, hf_w1⟩ := bcell hb_w1
    have hz_w1 := hb_w1.size
    try simp at hz_w1
    have hB_w1 : Below w.heap.size w w1 := Below.trans (by go_grown) (hb_w1.mono (by go_size))
    go_wp2_with fail
    refine (HF.out _ (HI.out.keep hb_w1)).mono ?_
    rintro e w2 ⟨rfl, hI2, hU2⟩
    go_wp2_with fail
    refine (HR.out _ hI2).mono ?_
    rintro e w3 ⟨rfl, hb_w3⟩
    obtain ⟨hc_w3, hf_w3⟩ := bcell hb_w3
    have hz_w3 := hb_w3.size
    try simp at hz_w3
    have hI3 := hI2.keep hb_w3
    go_wp2_with fail
    go_ret
    exact ⟨rfl, hI3, ((Upd.of_below hb_w1).trans hU2).trans (Upd.of_below hb_w3)⟩

set_option maxRecDepth 100000 in
theorem ttext_none (most : Int) (w : World) : Calls Try.prog 69 #[.pointer none, .int .i64 most] w fun e w' => e = .returned (.string ⟨#[]⟩) ∧ Below w.heap.size w w' := by
  have hcv : ∀ W, (convert 23 9 (.slice none 0 0)).run Try.prog W = .ok (.string ⟨#[]⟩) W := fun W => bs_str (Bs.nil W)
  go_enter Try.func69, Try.ntmps69
  go_wp2_with fail
  refine (at_none _).mono ?_
  rintro e w1 ⟨rfl, hb_w1⟩
  obtain ⟨hc_w1, hf_w1⟩ := bcell hb_w1
  have hz_w1 := hb_w1.size
  try simp at hz_w1
  have hB_w1 : Below w.heap.size w w1 := Below.trans (by go_grown) (hb_w1.mono (by go_size))
  go_wp2_with fail
  refine (count_none _ _).mono ?_
  rintro e w2 ⟨rfl, hb_w2⟩
  obtain ⟨hc_w2, hf_w2⟩ := bcell hb_w2
  have hz_w2 := hb_w2.size
  try simp at hz_w2
  have hB_w2 : Below w.heap.size w w2 := Below.trans (by go_grown) (hb_w2.mono (by go_size))
  go_wp2_with fail
  refine (some_none 0 0 _).mono ?_
  rintro e w3 ⟨rfl, hb_w3⟩
  obtain ⟨hc_w3, hf_w3⟩ := bcell hb_w3
  have hz_w3 := hb_w3.size
  try simp at hz_w3
  have hB_w3 : Below w.heap.size w w3 := Below.trans (by go_grown) (hb_w3.mono (by go_size))
  go_wp2_with fail
  go_ret
  exact ⟨rfl, by go_grown⟩

set_option maxRecDepth 100000 in
theorem ttext_any (I : Nat) (s : Ist) (most : Int) (w : World) (h : InAt w I s) :
    Calls Try.prog 69 #[.pointer (some ⟨I, 0, none⟩), .int .i64 most] w fun e w' => Took I w (s.text most).2 e (.string ⟨(s.text most).1.toArray⟩) w' := by
  have HA := Lib.hid (at_any I s w h)
  have HC := Lib.hid (fun W h => count_any I s most W h)
  have hl := s.count_l most
  have hat : s.at_ ≤ s.l.length := by obtain ⟨A, c, _, _, hat⟩ := h; exact hat
  unfold Ist.text
  obtain ⟨s', hs'⟩ : ∃ z, (s.count most).2 = z := ⟨_, rfl⟩
  obtain ⟨v, hv⟩ : ∃ z, (s.count most).1 = z := ⟨_, rfl⟩
  rw [hs'] at hl
  rw [← hl] at hat
  rw [hs', hv] at HC
  rw [hs', hv]
  clear hs' hv hl
  have HS := Lib.hid (fun W h => some_any I s' s.at_ v W h hat)
  have HI := Lib.hid h
  clear h
  obtain ⟨l, hl⟩ : ∃ z, (s'.some s.at_ v).1 = z := ⟨_, rfl⟩
  obtain ⟨s2, hs2⟩ : ∃ z, (s'.some s.at_ v).2 = z := ⟨_, rfl⟩
  rw [hl, hs2] at HS
  rw [hl, hs2]
  clear hl hs2
  go_enter Try.func69, Try.ntmps69
  go_wp2_with fail
  refine (HA.out).mono ?_
  rintro e w1 ⟨rfl, hb_w1⟩
  obtain ⟨hc_w1, hf_w1⟩ := bcell hb_w1
  have hz_w1 := hb_w1.size
  try simp at hz_w1
  have hB_w1 : Below w.heap.size w w1 := Below.trans (by go_grown) (hb_w1.mono (by go_size))
  go_wp2_with fail
  refine (HC.out _ (HI.out.keep hb_w1)).mono ?_
  rintro e w2 ⟨rfl, hI2, hU2⟩
  go_wp2_with fail
  refine (HS.out _ hI2).mono ?_
  rintro e w3 ⟨A, m, c, rfl, hbs, hI3, hU3⟩
  have hcv := bs_str hbs
  go_wp2_with fail
  go_ret
  exact ⟨rfl, hI3, ((Upd.of_below hb_w1).trans hU2).trans hU3⟩

end Go.Proofs.Ytiejgandjlldjaa
