/-
  Package wire: Take at each kind of number (printed by gen_take.py).
-/
import Derived.Test.YtiejgandjlldjaaTakeF
namespace Go.Proofs.Ytiejgandjlldjaa
open Go.RowKit

theorem Ist.fixed_lt (n : Nat) (s : Ist) : (s.fixed n).1 < 2 ^ (8 * n) :=
  Nat.lt_of_lt_of_le (num_lt _) (Nat.pow_le_pow_right (by omega) (by have := s.some_len s.at_ n; omega))
theorem ret_kind {k : IntKind} {a b : Int} (h : a = b) : Ending.returned (.int k a) = .returned (.int k b) := by rw [h]

set_option maxRecDepth 100000 in
theorem take_u16_none (w : World) : Calls Try.prog 40 #[.pointer none] w fun e w' => e = .returned (.int .u16 0) ∧ Below w.heap.size w w' := by
  go_enter Try.func40, Try.ntmps40
  go_wp2_with fail
  refine (width_uint16 w).mono ?_
  rintro e w1 ⟨rfl, hb_w1⟩
  obtain ⟨hc_w1, hf_w1⟩ := bcell hb_w1
  have hz_w1 := hb_w1.size
  try simp at hz_w1
  have hB_w1 : Below w.heap.size w w1 := Below.trans (by go_grown) (hb_w1.mono (by go_size))
  go_wp2_with fail
  refine (tfixed_none 2 _).mono ?_
  rintro e w2 ⟨rfl, hb_w2⟩
  obtain ⟨hc_w2, hf_w2⟩ := bcell hb_w2
  have hz_w2 := hb_w2.size
  try simp at hz_w2
  have hB_w2 : Below w.heap.size w w2 := Below.trans (by go_grown) (hb_w2.mono (by go_size))
  go_wp2_with fail
  go_ret
  exact ⟨by first | rfl | exact ret_kind (by decide), by go_grown⟩
set_option maxRecDepth 100000 in
theorem take_u16_any (I : Nat) (s : Ist) (w : World) (h : InAt w I s) :
    Calls Try.prog 40 #[.pointer (some ⟨I, 0, none⟩)] w fun e w' => Took I w (s.fixed 2).2 e (.int .u16 ((s.fixed 2).1 : Int)) w' := by
  have hlt := s.fixed_lt 2
  have HF := Lib.hid (fun W h => tfixed_any I s 2 W h (by omega))
  have HI := Lib.hid h
  obtain ⟨s', hs'⟩ : ∃ z, (s.fixed 2).2 = z := ⟨_, rfl⟩
  obtain ⟨v, hv⟩ : ∃ z, (s.fixed 2).1 = z := ⟨_, rfl⟩
  rw [hs', hv] at HF
  rw [hs', hv]
  rw [hv] at hlt
  have hv' : (v : Int) < 65536 := by omega
  clear h hs' hv
  go_enter Try.func40, Try.ntmps40
  go_wp2_with fail
  refine (width_uint16 w).mono ?_
  rintro e w1 ⟨rfl, hb_w1⟩
  obtain ⟨hc_w1, hf_w1⟩ := bcell hb_w1
  have hz_w1 := hb_w1.size
  try simp at hz_w1
  have hB_w1 : Below w.heap.size w w1 := Below.trans (by go_grown) (hb_w1.mono (by go_size))
  go_wp2_with fail
  refine (HF.out _ (HI.out.keep hb_w1)).mono ?_
  rintro e w2 ⟨rfl, hI2, hU2⟩
  go_wp2_with fail
  go_ret
  exact ⟨rfl, hI2, (Upd.of_below hb_w1).trans hU2⟩

set_option maxRecDepth 100000 in
theorem take_u32_none (w : World) : Calls Try.prog 64 #[.pointer none] w fun e w' => e = .returned (.int .u32 0) ∧ Below w.heap.size w w' := by
  go_enter Try.func64, Try.ntmps64
  go_wp2_with fail
  refine (width_uint32 w).mono ?_
  rintro e w1 ⟨rfl, hb_w1⟩
  obtain ⟨hc_w1, hf_w1⟩ := bcell hb_w1
  have hz_w1 := hb_w1.size
  try simp at hz_w1
  have hB_w1 : Below w.heap.size w w1 := Below.trans (by go_grown) (hb_w1.mono (by go_size))
  go_wp2_with fail
  refine (tfixed_none 4 _).mono ?_
  rintro e w2 ⟨rfl, hb_w2⟩
  obtain ⟨hc_w2, hf_w2⟩ := bcell hb_w2
  have hz_w2 := hb_w2.size
  try simp at hz_w2
  have hB_w2 : Below w.heap.size w w2 := Below.trans (by go_grown) (hb_w2.mono (by go_size))
  go_wp2_with fail
  go_ret
  exact ⟨by first | rfl | exact ret_kind (by decide), by go_grown⟩
set_option maxRecDepth 100000 in
theorem take_u32_any (I : Nat) (s : Ist) (w : World) (h : InAt w I s) :
    Calls Try.prog 64 #[.pointer (some ⟨I, 0, none⟩)] w fun e w' => Took I w (s.fixed 4).2 e (.int .u32 ((s.fixed 4).1 : Int)) w' := by
  have hlt := s.fixed_lt 4
  have HF := Lib.hid (fun W h => tfixed_any I s 4 W h (by omega))
  have HI := Lib.hid h
  obtain ⟨s', hs'⟩ : ∃ z, (s.fixed 4).2 = z := ⟨_, rfl⟩
  obtain ⟨v, hv⟩ : ∃ z, (s.fixed 4).1 = z := ⟨_, rfl⟩
  rw [hs', hv] at HF
  rw [hs', hv]
  rw [hv] at hlt
  have hv' : (v : Int) < 4294967296 := by omega
  clear h hs' hv
  go_enter Try.func64, Try.ntmps64
  go_wp2_with fail
  refine (width_uint32 w).mono ?_
  rintro e w1 ⟨rfl, hb_w1⟩
  obtain ⟨hc_w1, hf_w1⟩ := bcell hb_w1
  have hz_w1 := hb_w1.size
  try simp at hz_w1
  have hB_w1 : Below w.heap.size w w1 := Below.trans (by go_grown) (hb_w1.mono (by go_size))
  go_wp2_with fail
  refine (HF.out _ (HI.out.keep hb_w1)).mono ?_
  rintro e w2 ⟨rfl, hI2, hU2⟩
  go_wp2_with fail
  go_ret
  exact ⟨rfl, hI2, (Upd.of_below hb_w1).trans hU2⟩

set_option maxRecDepth 100000 in
theorem take_i8_none (w : World) : Calls Try.prog 60 #[.pointer none] w fun e w' => e = .returned (.int .i8 0) ∧ Below w.heap.size w w' := by
  go_enter Try.func60, Try.ntmps60
  go_wp2_with fail
  refine (width_int8 w).mono ?_
  rintro e w1 ⟨rfl, hb_w1⟩
  obtain ⟨hc_w1, hf_w1⟩ := bcell hb_w1
  have hz_w1 := hb_w1.size
  try simp at hz_w1
  have hB_w1 : Below w.heap.size w w1 := Below.trans (by go_grown) (hb_w1.mono (by go_size))
  go_wp2_with fail
  refine (tfixed_none 1 _).mono ?_
  rintro e w2 ⟨rfl, hb_w2⟩
  obtain ⟨hc_w2, hf_w2⟩ := bcell hb_w2
  have hz_w2 := hb_w2.size
  try simp at hz_w2
  have hB_w2 : Below w.heap.size w w2 := Below.trans (by go_grown) (hb_w2.mono (by go_size))
  go_wp2_with fail
  go_ret
  exact ⟨by first | rfl | exact ret_kind (by decide), by go_grown⟩
set_option maxRecDepth 100000 in
theorem take_i8_any (I : Nat) (s : Ist) (w : World) (h : InAt w I s) :
    Calls Try.prog 60 #[.pointer (some ⟨I, 0, none⟩)] w fun e w' => Took I w (s.fixed 1).2 e (.int .i8 (IntKind.i8.wrap ((s.fixed 1).1 : Int))) w' := by
  have hlt := s.fixed_lt 1
  have HF := Lib.hid (fun W h => tfixed_any I s 1 W h (by omega))
  have HI := Lib.hid h
  obtain ⟨s', hs'⟩ : ∃ z, (s.fixed 1).2 = z := ⟨_, rfl⟩
  obtain ⟨v, hv⟩ : ∃ z, (s.fixed 1).1 = z := ⟨_, rfl⟩
  rw [hs', hv] at HF
  rw [hs', hv]
  rw [hv] at hlt
  have hv' : (v : Int) < 256 := by omega
  clear h hs' hv
  go_enter Try.func60, Try.ntmps60
  go_wp2_with fail
  refine (width_int8 w).mono ?_
  rintro e w1 ⟨rfl, hb_w1⟩
  obtain ⟨hc_w1, hf_w1⟩ := bcell hb_w1
  have hz_w1 := hb_w1.size
  try simp at hz_w1
  have hB_w1 : Below w.heap.size w w1 := Below.trans (by go_grown) (hb_w1.mono (by go_size))
  go_wp2_with fail
  refine (HF.out _ (HI.out.keep hb_w1)).mono ?_
  rintro e w2 ⟨rfl, hI2, hU2⟩
  go_wp2_with fail
  go_ret
  exact ⟨rfl, hI2, (Upd.of_below hb_w1).trans hU2⟩

set_option maxRecDepth 100000 in
theorem take_u8_none (w : World) : Calls Try.prog 61 #[.pointer none] w fun e w' => e = .returned (.int .u8 0) ∧ Below w.heap.size w w' := by
  go_enter Try.func61, Try.ntmps61
  go_wp2_with fail
  refine (width_uint8 w).mono ?_
  rintro e w1 ⟨rfl, hb_w1⟩
  obtain ⟨hc_w1, hf_w1⟩ := bcell hb_w1
  have hz_w1 := hb_w1.size
  try simp at hz_w1
  have hB_w1 : Below w.heap.size w w1 := Below.trans (by go_grown) (hb_w1.mono (by go_size))
  go_wp2_with fail
  refine (tfixed_none 1 _).mono ?_
  rintro e w2 ⟨rfl, hb_w2⟩
  obtain ⟨hc_w2, hf_w2⟩ := bcell hb_w2
  have hz_w2 := hb_w2.size
  try simp at hz_w2
  have hB_w2 : Below w.heap.size w w2 := Below.trans (by go_grown) (hb_w2.mono (by go_size))
  go_wp2_with fail
  go_ret
  exact ⟨by first | rfl | exact ret_kind (by decide), by go_grown⟩
set_option maxRecDepth 100000 in
theorem take_u8_any (I : Nat) (s : Ist) (w : World) (h : InAt w I s) :
    Calls Try.prog 61 #[.pointer (some ⟨I, 0, none⟩)] w fun e w' => Took I w (s.fixed 1).2 e (.int .u8 ((s.fixed 1).1 : Int)) w' := by
  have hlt := s.fixed_lt 1
  have HF := Lib.hid (fun W h => tfixed_any I s 1 W h (by omega))
  have HI := Lib.hid h
  obtain ⟨s', hs'⟩ : ∃ z, (s.fixed 1).2 = z := ⟨_, rfl⟩
  obtain ⟨v, hv⟩ : ∃ z, (s.fixed 1).1 = z := ⟨_, rfl⟩
  rw [hs', hv] at HF
  rw [hs', hv]
  rw [hv] at hlt
  have hv' : (v : Int) < 256 := by omega
  clear h hs' hv
  go_enter Try.func61, Try.ntmps61
  go_wp2_with fail
  refine (width_uint8 w).mono ?_
  rintro e w1 ⟨rfl, hb_w1⟩
  obtain ⟨hc_w1, hf_w1⟩ := bcell hb_w1
  have hz_w1 := hb_w1.size
  try simp at hz_w1
  have hB_w1 : Below w.heap.size w w1 := Below.trans (by go_grown) (hb_w1.mono (by go_size))
  go_wp2_with fail
  refine (HF.out _ (HI.out.keep hb_w1)).mono ?_
  rintro e w2 ⟨rfl, hI2, hU2⟩
  go_wp2_with fail
  go_ret
  exact ⟨rfl, hI2, (Upd.of_below hb_w1).trans hU2⟩

set_option maxRecDepth 100000 in
theorem take_i16_none (w : World) : Calls Try.prog 62 #[.pointer none] w fun e w' => e = .returned (.int .i16 0) ∧ Below w.heap.size w w' := by
  go_enter Try.func62, Try.ntmps62
  go_wp2_with fail
  refine (width_int16 w).mono ?_
  rintro e w1 ⟨rfl, hb_w1⟩
  obtain ⟨hc_w1, hf_w1⟩ := bcell hb_w1
  have hz_w1 := hb_w1.size
  try simp at hz_w1
  have hB_w1 : Below w.heap.size w w1 := Below.trans (by go_grown) (hb_w1.mono (by go_size))
  go_wp2_with fail
  refine (tfixed_none 2 _).mono ?_
  rintro e w2 ⟨rfl, hb_w2⟩
  obtain ⟨hc_w2, hf_w2⟩ := bcell hb_w2
  have hz_w2 := hb_w2.size
  try simp at hz_w2
  have hB_w2 : Below w.heap.size w w2 := Below.trans (by go_grown) (hb_w2.mono (by go_size))
  go_wp2_with fail
  go_ret
  exact ⟨by first | rfl | exact ret_kind (by decide), by go_grown⟩
set_option maxRecDepth 100000 in
theorem take_i16_any (I : Nat) (s : Ist) (w : World) (h : InAt w I s) :
    Calls Try.prog 62 #[.pointer (some ⟨I, 0, none⟩)] w fun e w' => Took I w (s.fixed 2).2 e (.int .i16 (IntKind.i16.wrap ((s.fixed 2).1 : Int))) w' := by
  have hlt := s.fixed_lt 2
  have HF := Lib.hid (fun W h => tfixed_any I s 2 W h (by omega))
  have HI := Lib.hid h
  obtain ⟨s', hs'⟩ : ∃ z, (s.fixed 2).2 = z := ⟨_, rfl⟩
  obtain ⟨v, hv⟩ : ∃ z, (s.fixed 2).1 = z := ⟨_, rfl⟩
  rw [hs', hv] at HF
  rw [hs', hv]
  rw [hv] at hlt
  have hv' : (v : Int) < 65536 := by omega
  clear h hs' hv
  go_enter Try.func62, Try.ntmps62
  go_wp2_with fail
  refine (width_int16 w).mono ?_
  rintro e w1 ⟨rfl, hb_w1⟩
  obtain ⟨hc_w1, hf_w1⟩ := bcell hb_w1
  have hz_w1 := hb_w1.size
  try simp at hz_w1
  have hB_w1 : Below w.heap.size w w1 := Below.trans (by go_grown) (hb_w1.mono (by go_size))
  go_wp2_with fail
  refine (HF.out _ (HI.out.keep hb_w1)).mono ?_
  rintro e w2 ⟨rfl, hI2, hU2⟩
  go_wp2_with fail
  go_ret
  exact ⟨rfl, hI2, (Upd.of_below hb_w1).trans hU2⟩

set_option maxRecDepth 100000 in
theorem take_i32_none (w : World) : Calls Try.prog 63 #[.pointer none] w fun e w' => e = .returned (.int .i32 0) ∧ Below w.heap.size w w' := by
  go_enter Try.func63, Try.ntmps63
  go_wp2_with fail
  refine (width_int32 w).mono ?_
  rintro e w1 ⟨rfl, hb_w1⟩
  obtain ⟨hc_w1, hf_w1⟩ := bcell hb_w1
  have hz_w1 := hb_w1.size
  try simp at hz_w1
  have hB_w1 : Below w.heap.size w w1 := Below.trans (by go_grown) (hb_w1.mono (by go_size))
  go_wp2_with fail
  refine (tfixed_none 4 _).mono ?_
  rintro e w2 ⟨rfl, hb_w2⟩
  obtain ⟨hc_w2, hf_w2⟩ := bcell hb_w2
  have hz_w2 := hb_w2.size
  try simp at hz_w2
  have hB_w2 : Below w.heap.size w w2 := Below.trans (by go_grown) (hb_w2.mono (by go_size))
  go_wp2_with fail
  go_ret
  exact ⟨by first | rfl | exact ret_kind (by decide), by go_grown⟩
set_option maxRecDepth 100000 in
theorem take_i32_any (I : Nat) (s : Ist) (w : World) (h : InAt w I s) :
    Calls Try.prog 63 #[.pointer (some ⟨I, 0, none⟩)] w fun e w' => Took I w (s.fixed 4).2 e (.int .i32 (IntKind.i32.wrap ((s.fixed 4).1 : Int))) w' := by
  have hlt := s.fixed_lt 4
  have HF := Lib.hid (fun W h => tfixed_any I s 4 W h (by omega))
  have HI := Lib.hid h
  obtain ⟨s', hs'⟩ : ∃ z, (s.fixed 4).2 = z := ⟨_, rfl⟩
  obtain ⟨v, hv⟩ : ∃ z, (s.fixed 4).1 = z := ⟨_, rfl⟩
  rw [hs', hv] at HF
  rw [hs', hv]
  rw [hv] at hlt
  have hv' : (v : Int) < 4294967296 := by omega
  clear h hs' hv
  go_enter Try.func63, Try.ntmps63
  go_wp2_with fail
  refine (width_int32 w).mono ?_
  rintro e w1 ⟨rfl, hb_w1⟩
  obtain ⟨hc_w1, hf_w1⟩ := bcell hb_w1
  have hz_w1 := hb_w1.size
  try simp at hz_w1
  have hB_w1 : Below w.heap.size w w1 := Below.trans (by go_grown) (hb_w1.mono (by go_size))
  go_wp2_with fail
  refine (HF.out _ (HI.out.keep hb_w1)).mono ?_
  rintro e w2 ⟨rfl, hI2, hU2⟩
  go_wp2_with fail
  go_ret
  exact ⟨ret_kind (by simp only [IntKind.wrap, IntKind.signed, IntKind.bits, wrap32]; simp; omega), hI2, (Upd.of_below hb_w1).trans hU2⟩

set_option maxRecDepth 100000 in
theorem take_i64_none (w : World) : Calls Try.prog 65 #[.pointer none] w fun e w' => e = .returned (.int .i64 0) ∧ Below w.heap.size w w' := by
  go_enter Try.func65, Try.ntmps65
  go_wp2_with fail
  refine (width_int64 w).mono ?_
  rintro e w1 ⟨rfl, hb_w1⟩
  obtain ⟨hc_w1, hf_w1⟩ := bcell hb_w1
  have hz_w1 := hb_w1.size
  try simp at hz_w1
  have hB_w1 : Below w.heap.size w w1 := Below.trans (by go_grown) (hb_w1.mono (by go_size))
  go_wp2_with fail
  refine (tfixed_none 8 _).mono ?_
  rintro e w2 ⟨rfl, hb_w2⟩
  obtain ⟨hc_w2, hf_w2⟩ := bcell hb_w2
  have hz_w2 := hb_w2.size
  try simp at hz_w2
  have hB_w2 : Below w.heap.size w w2 := Below.trans (by go_grown) (hb_w2.mono (by go_size))
  go_wp2_with fail
  go_ret
  exact ⟨by first | rfl | exact ret_kind (by decide), by go_grown⟩
set_option maxRecDepth 100000 in
theorem take_i64_any (I : Nat) (s : Ist) (w : World) (h : InAt w I s) :
    Calls Try.prog 65 #[.pointer (some ⟨I, 0, none⟩)] w fun e w' => Took I w (s.fixed 8).2 e (.int .i64 (IntKind.i64.wrap ((s.fixed 8).1 : Int))) w' := by
  have hlt := s.fixed_lt 8
  have HF := Lib.hid (fun W h => tfixed_any I s 8 W h (by omega))
  have HI := Lib.hid h
  obtain ⟨s', hs'⟩ : ∃ z, (s.fixed 8).2 = z := ⟨_, rfl⟩
  obtain ⟨v, hv⟩ : ∃ z, (s.fixed 8).1 = z := ⟨_, rfl⟩
  rw [hs', hv] at HF
  rw [hs', hv]
  rw [hv] at hlt
  have hv' : (v : Int) < 18446744073709551616 := by omega
  clear h hs' hv
  go_enter Try.func65, Try.ntmps65
  go_wp2_with fail
  refine (width_int64 w).mono ?_
  rintro e w1 ⟨rfl, hb_w1⟩
  obtain ⟨hc_w1, hf_w1⟩ := bcell hb_w1
  have hz_w1 := hb_w1.size
  try simp at hz_w1
  have hB_w1 : Below w.heap.size w w1 := Below.trans (by go_grown) (hb_w1.mono (by go_size))
  go_wp2_with fail
  refine (HF.out _ (HI.out.keep hb_w1)).mono ?_
  rintro e w2 ⟨rfl, hI2, hU2⟩
  go_wp2_with fail
  go_ret
  exact ⟨ret_kind (by simp only [IntKind.wrap_i64, wrap64]), hI2, (Upd.of_below hb_w1).trans hU2⟩

set_option maxRecDepth 100000 in
theorem take_u64_none (w : World) : Calls Try.prog 66 #[.pointer none] w fun e w' => e = .returned (.int .u64 0) ∧ Below w.heap.size w w' := by
  go_enter Try.func66, Try.ntmps66
  go_wp2_with fail
  refine (width_uint64 w).mono ?_
  rintro e w1 ⟨rfl, hb_w1⟩
  obtain ⟨hc_w1, hf_w1⟩ := bcell hb_w1
  have hz_w1 := hb_w1.size
  try simp at hz_w1
  have hB_w1 : Below w.heap.size w w1 := Below.trans (by go_grown) (hb_w1.mono (by go_size))
  go_wp2_with fail
  refine (tfixed_none 8 _).mono ?_
  rintro e w2 ⟨rfl, hb_w2⟩
  obtain ⟨hc_w2, hf_w2⟩ := bcell hb_w2
  have hz_w2 := hb_w2.size
  try simp at hz_w2
  have hB_w2 : Below w.heap.size w w2 := Below.trans (by go_grown) (hb_w2.mono (by go_size))
  go_wp2_with fail
  go_ret
  exact ⟨by first | rfl | exact ret_kind (by decide), by go_grown⟩
set_option maxRecDepth 100000 in
theorem take_u64_any (I : Nat) (s : Ist) (w : World) (h : InAt w I s) :
    Calls Try.prog 66 #[.pointer (some ⟨I, 0, none⟩)] w fun e w' => Took I w (s.fixed 8).2 e (.int .u64 ((s.fixed 8).1 : Int)) w' := by
  have hlt := s.fixed_lt 8
  have HF := Lib.hid (fun W h => tfixed_any I s 8 W h (by omega))
  have HI := Lib.hid h
  obtain ⟨s', hs'⟩ : ∃ z, (s.fixed 8).2 = z := ⟨_, rfl⟩
  obtain ⟨v, hv⟩ : ∃ z, (s.fixed 8).1 = z := ⟨_, rfl⟩
  rw [hs', hv] at HF
  rw [hs', hv]
  rw [hv] at hlt
  have hv' : (v : Int) < 18446744073709551616 := by omega
  clear h hs' hv
  go_enter Try.func66, Try.ntmps66
  go_wp2_with fail
  refine (width_uint64 w).mono ?_
  rintro e w1 ⟨rfl, hb_w1⟩
  obtain ⟨hc_w1, hf_w1⟩ := bcell hb_w1
  have hz_w1 := hb_w1.size
  try simp at hz_w1
  have hB_w1 : Below w.heap.size w w1 := Below.trans (by go_grown) (hb_w1.mono (by go_size))
  go_wp2_with fail
  refine (HF.out _ (HI.out.keep hb_w1)).mono ?_
  rintro e w2 ⟨rfl, hI2, hU2⟩
  go_wp2_with fail
  go_ret
  exact ⟨rfl, hI2, (Upd.of_below hb_w1).trans hU2⟩

set_option maxRecDepth 100000 in
theorem take_small_none (w : World) : Calls Try.prog 71 #[.pointer none] w fun e w' => e = .returned (.int .u8 0) ∧ Below w.heap.size w w' := by
  go_enter Try.func71, Try.ntmps71
  go_wp2_with fail
  refine (width_small w).mono ?_
  rintro e w1 ⟨rfl, hb_w1⟩
  obtain ⟨hc_w1, hf_w1⟩ := bcell hb_w1
  have hz_w1 := hb_w1.size
  try simp at hz_w1
  have hB_w1 : Below w.heap.size w w1 := Below.trans (by go_grown) (hb_w1.mono (by go_size))
  go_wp2_with fail
  refine (tfixed_none 1 _).mono ?_
  rintro e w2 ⟨rfl, hb_w2⟩
  obtain ⟨hc_w2, hf_w2⟩ := bcell hb_w2
  have hz_w2 := hb_w2.size
  try simp at hz_w2
  have hB_w2 : Below w.heap.size w w2 := Below.trans (by go_grown) (hb_w2.mono (by go_size))
  go_wp2_with fail
  go_ret
  exact ⟨by first | rfl | exact ret_kind (by decide), by go_grown⟩
set_option maxRecDepth 100000 in
theorem take_small_any (I : Nat) (s : Ist) (w : World) (h : InAt w I s) :
    Calls Try.prog 71 #[.pointer (some ⟨I, 0, none⟩)] w fun e w' => Took I w (s.fixed 1).2 e (.int .u8 ((s.fixed 1).1 : Int)) w' := by
  have hlt := s.fixed_lt 1
  have HF := Lib.hid (fun W h => tfixed_any I s 1 W h (by omega))
  have HI := Lib.hid h
  obtain ⟨s', hs'⟩ : ∃ z, (s.fixed 1).2 = z := ⟨_, rfl⟩
  obtain ⟨v, hv⟩ : ∃ z, (s.fixed 1).1 = z := ⟨_, rfl⟩
  rw [hs', hv] at HF
  rw [hs', hv]
  rw [hv] at hlt
  have hv' : (v : Int) < 256 := by omega
  clear h hs' hv
  go_enter Try.func71, Try.ntmps71
  go_wp2_with fail
  refine (width_small w).mono ?_
  rintro e w1 ⟨rfl, hb_w1⟩
  obtain ⟨hc_w1, hf_w1⟩ := bcell hb_w1
  have hz_w1 := hb_w1.size
  try simp at hz_w1
  have hB_w1 : Below w.heap.size w w1 := Below.trans (by go_grown) (hb_w1.mono (by go_size))
  go_wp2_with fail
  refine (HF.out _ (HI.out.keep hb_w1)).mono ?_
  rintro e w2 ⟨rfl, hI2, hU2⟩
  go_wp2_with fail
  go_ret
  exact ⟨rfl, hI2, (Upd.of_below hb_w1).trans hU2⟩

end Go.Proofs.Ytiejgandjlldjaa
