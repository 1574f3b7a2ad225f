/-
  Package wire: Put at each kind of number, Float (printed by gen_put.py).
-/
import Derived.Test.YtiejgandjlldjaaPut
namespace Go.Proofs.Ytiejgandjlldjaa
open Go.RowKit

set_option maxRecDepth 100000 in
theorem put_u16 (a : Option Addr) (v : Nat) (_ : v < 65536) (w : World) {Q : World → Prop} (h : Lays (.pointer a) w (leN 2 v) Q) :
    Calls Try.prog 36 #[.pointer a, .int .u16 (v : Int)] w fun e w' => Void e ∧ Q w' := by
  have H := Lib.hid h
  clear h
  go_enter Try.func36, Try.ntmps36
  go_wp2_with fail
  refine (width_uint16 w).mono ?_
  rintro e w1 ⟨rfl, hb_w1⟩
  obtain ⟨hc_w1, hf_w1⟩ := bcell hb_w1
  have hz_w1 := hb_w1.size
  try simp at hz_w1
  have hB_w1 : Below w.heap.size w w1 := Below.trans (by go_grown) (hb_w1.mono (by go_size))
  go_wp2_with fail
  refine (fixed_of _ ⟨_, rfl⟩ v 2 w1 (by omega) (H.out.from hb_w1)).mono ?_
  rintro e w2 ⟨⟨_, rfl⟩, hQ⟩
  go_wp2_with fail
  go_end0
  exact ⟨⟨_, rfl⟩, hQ⟩

set_option maxRecDepth 100000 in
theorem put_u32 (a : Option Addr) (v : Nat) (_ : v < 4294967296) (w : World) {Q : World → Prop} (h : Lays (.pointer a) w (leN 4 v) Q) :
    Calls Try.prog 38 #[.pointer a, .int .u32 (v : Int)] w fun e w' => Void e ∧ Q w' := by
  have H := Lib.hid h
  clear h
  go_enter Try.func38, Try.ntmps38
  go_wp2_with fail
  refine (width_uint32 w).mono ?_
  rintro e w1 ⟨rfl, hb_w1⟩
  obtain ⟨hc_w1, hf_w1⟩ := bcell hb_w1
  have hz_w1 := hb_w1.size
  try simp at hz_w1
  have hB_w1 : Below w.heap.size w w1 := Below.trans (by go_grown) (hb_w1.mono (by go_size))
  go_wp2_with fail
  refine (fixed_of _ ⟨_, rfl⟩ v 4 w1 (by omega) (H.out.from hb_w1)).mono ?_
  rintro e w2 ⟨⟨_, rfl⟩, hQ⟩
  go_wp2_with fail
  go_end0
  exact ⟨⟨_, rfl⟩, hQ⟩

set_option maxRecDepth 100000 in
theorem put_i8 (a : Option Addr) (x : Int) (v : Nat) (_ : -128 ≤ x ∧ x ≤ 127) (hv : IntKind.u64.wrap x = (v : Int)) (w : World) {Q : World → Prop} (h : Lays (.pointer a) w (leN 1 v) Q) :
    Calls Try.prog 44 #[.pointer a, .int .i8 x] w fun e w' => Void e ∧ Q w' := by
  have H := Lib.hid h
  clear h
  go_enter Try.func44, Try.ntmps44
  go_wp2_with fail
  refine (width_int8 w).mono ?_
  rintro e w1 ⟨rfl, hb_w1⟩
  obtain ⟨hc_w1, hf_w1⟩ := bcell hb_w1
  have hz_w1 := hb_w1.size
  try simp at hz_w1
  have hB_w1 : Below w.heap.size w w1 := Below.trans (by go_grown) (hb_w1.mono (by go_size))
  go_wp2_with fail
  refine (fixed_of _ ⟨_, rfl⟩ v 1 w1 (by omega) (H.out.from hb_w1)).mono ?_
  rintro e w2 ⟨⟨_, rfl⟩, hQ⟩
  go_wp2_with fail
  go_end0
  exact ⟨⟨_, rfl⟩, hQ⟩

set_option maxRecDepth 100000 in
theorem put_u8 (a : Option Addr) (v : Nat) (_ : v < 256) (w : World) {Q : World → Prop} (h : Lays (.pointer a) w (leN 1 v) Q) :
    Calls Try.prog 45 #[.pointer a, .int .u8 (v : Int)] w fun e w' => Void e ∧ Q w' := by
  have H := Lib.hid h
  clear h
  go_enter Try.func45, Try.ntmps45
  go_wp2_with fail
  refine (width_uint8 w).mono ?_
  rintro e w1 ⟨rfl, hb_w1⟩
  obtain ⟨hc_w1, hf_w1⟩ := bcell hb_w1
  have hz_w1 := hb_w1.size
  try simp at hz_w1
  have hB_w1 : Below w.heap.size w w1 := Below.trans (by go_grown) (hb_w1.mono (by go_size))
  go_wp2_with fail
  refine (fixed_of _ ⟨_, rfl⟩ v 1 w1 (by omega) (H.out.from hb_w1)).mono ?_
  rintro e w2 ⟨⟨_, rfl⟩, hQ⟩
  go_wp2_with fail
  go_end0
  exact ⟨⟨_, rfl⟩, hQ⟩

set_option maxRecDepth 100000 in
theorem put_i16 (a : Option Addr) (x : Int) (v : Nat) (_ : -32768 ≤ x ∧ x ≤ 32767) (hv : IntKind.u64.wrap x = (v : Int)) (w : World) {Q : World → Prop} (h : Lays (.pointer a) w (leN 2 v) Q) :
    Calls Try.prog 46 #[.pointer a, .int .i16 x] w fun e w' => Void e ∧ Q w' := by
  have H := Lib.hid h
  clear h
  go_enter Try.func46, Try.ntmps46
  go_wp2_with fail
  refine (width_int16 w).mono ?_
  rintro e w1 ⟨rfl, hb_w1⟩
  obtain ⟨hc_w1, hf_w1⟩ := bcell hb_w1
  have hz_w1 := hb_w1.size
  try simp at hz_w1
  have hB_w1 : Below w.heap.size w w1 := Below.trans (by go_grown) (hb_w1.mono (by go_size))
  go_wp2_with fail
  refine (fixed_of _ ⟨_, rfl⟩ v 2 w1 (by omega) (H.out.from hb_w1)).mono ?_
  rintro e w2 ⟨⟨_, rfl⟩, hQ⟩
  go_wp2_with fail
  go_end0
  exact ⟨⟨_, rfl⟩, hQ⟩

set_option maxRecDepth 100000 in
theorem put_i32 (a : Option Addr) (x : Int) (v : Nat) (_ : -2147483648 ≤ x ∧ x ≤ 2147483647) (hv : IntKind.u64.wrap x = (v : Int)) (w : World) {Q : World → Prop} (h : Lays (.pointer a) w (leN 4 v) Q) :
    Calls Try.prog 47 #[.pointer a, .int .i32 x] w fun e w' => Void e ∧ Q w' := by
  have H := Lib.hid h
  clear h
  go_enter Try.func47, Try.ntmps47
  go_wp2_with fail
  refine (width_int32 w).mono ?_
  rintro e w1 ⟨rfl, hb_w1⟩
  obtain ⟨hc_w1, hf_w1⟩ := bcell hb_w1
  have hz_w1 := hb_w1.size
  try simp at hz_w1
  have hB_w1 : Below w.heap.size w w1 := Below.trans (by go_grown) (hb_w1.mono (by go_size))
  go_wp2_with fail
  refine (fixed_of _ ⟨_, rfl⟩ v 4 w1 (by omega) (H.out.from hb_w1)).mono ?_
  rintro e w2 ⟨⟨_, rfl⟩, hQ⟩
  go_wp2_with fail
  go_end0
  exact ⟨⟨_, rfl⟩, hQ⟩

set_option maxRecDepth 100000 in
theorem put_i64 (a : Option Addr) (x : Int) (v : Nat) (_ : -9223372036854775808 ≤ x ∧ x ≤ 9223372036854775807) (hv : IntKind.u64.wrap x = (v : Int)) (w : World) {Q : World → Prop} (h : Lays (.pointer a) w (leN 8 v) Q) :
    Calls Try.prog 48 #[.pointer a, .int .i64 x] w fun e w' => Void e ∧ Q w' := by
  have H := Lib.hid h
  clear h
  go_enter Try.func48, Try.ntmps48
  go_wp2_with fail
  refine (width_int64 w).mono ?_
  rintro e w1 ⟨rfl, hb_w1⟩
  obtain ⟨hc_w1, hf_w1⟩ := bcell hb_w1
  have hz_w1 := hb_w1.size
  try simp at hz_w1
  have hB_w1 : Below w.heap.size w w1 := Below.trans (by go_grown) (hb_w1.mono (by go_size))
  go_wp2_with fail
  refine (fixed_of _ ⟨_, rfl⟩ v 8 w1 (by omega) (H.out.from hb_w1)).mono ?_
  rintro e w2 ⟨⟨_, rfl⟩, hQ⟩
  go_wp2_with fail
  go_end0
  exact ⟨⟨_, rfl⟩, hQ⟩

set_option maxRecDepth 100000 in
theorem put_u64 (a : Option Addr) (v : Nat) (_ : v < 18446744073709551616) (w : World) {Q : World → Prop} (h : Lays (.pointer a) w (leN 8 v) Q) :
    Calls Try.prog 49 #[.pointer a, .int .u64 (v : Int)] w fun e w' => Void e ∧ Q w' := by
  have H := Lib.hid h
  clear h
  go_enter Try.func49, Try.ntmps49
  go_wp2_with fail
  refine (width_uint64 w).mono ?_
  rintro e w1 ⟨rfl, hb_w1⟩
  obtain ⟨hc_w1, hf_w1⟩ := bcell hb_w1
  have hz_w1 := hb_w1.size
  try simp at hz_w1
  have hB_w1 : Below w.heap.size w w1 := Below.trans (by go_grown) (hb_w1.mono (by go_size))
  go_wp2_with fail
  refine (fixed_of _ ⟨_, rfl⟩ v 8 w1 (by omega) (H.out.from hb_w1)).mono ?_
  rintro e w2 ⟨⟨_, rfl⟩, hQ⟩
  go_wp2_with fail
  go_end0
  exact ⟨⟨_, rfl⟩, hQ⟩

set_option maxRecDepth 100000 in
theorem put_small (a : Option Addr) (v : Nat) (_ : v < 256) (w : World) {Q : World → Prop} (h : Lays (.pointer a) w (leN 1 v) Q) :
    Calls Try.prog 53 #[.pointer a, .int .u8 (v : Int)] w fun e w' => Void e ∧ Q w' := by
  have H := Lib.hid h
  clear h
  go_enter Try.func53, Try.ntmps53
  go_wp2_with fail
  refine (width_small w).mono ?_
  rintro e w1 ⟨rfl, hb_w1⟩
  obtain ⟨hc_w1, hf_w1⟩ := bcell hb_w1
  have hz_w1 := hb_w1.size
  try simp at hz_w1
  have hB_w1 : Below w.heap.size w w1 := Below.trans (by go_grown) (hb_w1.mono (by go_size))
  go_wp2_with fail
  refine (fixed_of _ ⟨_, rfl⟩ v 1 w1 (by omega) (H.out.from hb_w1)).mono ?_
  rintro e w2 ⟨⟨_, rfl⟩, hQ⟩
  go_wp2_with fail
  go_end0
  exact ⟨⟨_, rfl⟩, hQ⟩

theorem bits_any (b : Nat) (w : World) : (callFunc 68 #[.float .f64 b]).run Try.prog w = .ok (.value (.int .u64 (b : Int))) w := by
  rw [run_callFunc_extern Try.func68 (by kernel_rfl) (by kernel_rfl) (by kernel_rfl) (e := Extern.MathFloatBits.float64bits) (by kernel_rfl)]
  rfl
theorem frombits_any (b : Nat) (w : World) : (callFunc 51 #[.int .u64 (b : Int)]).run Try.prog w = .ok (.value (.float .f64 b)) w := by
  rw [run_callFunc_extern Try.func51 (by kernel_rfl) (by kernel_rfl) (by kernel_rfl) (e := Extern.MathFloatBits.float64frombits) (by kernel_rfl)]
  rfl
/-- Are these the bits of no number? -/
def nan (b : Nat) : Bool := FloatKind.f64.format.order b b != some Ordering.eq
def fbits (b : Nat) : Nat := if nan b then 9221120237041090561 else b
theorem float_of (a : Option Addr) (b : Nat) (w : World) {Q : World → Prop} (h : Lays (.pointer a) w (leN 8 (fbits b)) Q) :
    Calls Try.prog 50 #[.pointer a, .float .f64 b] w fun e w' => Void e ∧ Q w' := by
  have HB := bits_any b
  unfold fbits at h
  cases hn : nan b
  all_goals
    rw [hn] at h
    simp only [if_true, if_false, Bool.false_eq_true] at h
    unfold nan at hn
    have H := Lib.hid (fixed_of _ ⟨_, rfl⟩ _ 8 w (by omega) h)
    clear h
    go_enter Try.func50, Try.ntmps50
    go_wp2_with fail
    refine H.out.mono ?_
    rintro e w2 ⟨⟨_, rfl⟩, hQ⟩
    go_wp2_with fail
    go_end0
    exact ⟨⟨_, rfl⟩, hQ⟩

end Go.Proofs.Ytiejgandjlldjaa
