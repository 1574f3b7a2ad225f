/-
  The law's lays, at each kind (printed by gen_lays.py).
-/
import Derived.Test.YtiejgandjlldjaaStr
namespace Go.Proofs.Ytiejgandjlldjaa
open Go.RowKit

theorem low_i8 (v : Nat) : ∃ v' : Nat, IntKind.u64.wrap (IntKind.i8.wrap (v : Int)) = (v' : Int) ∧ leN 1 v = leN 1 v' ∧ -128 ≤ IntKind.i8.wrap (v : Int) ∧ IntKind.i8.wrap (v : Int) ≤ 127 := by
  refine ⟨(IntKind.u64.wrap (IntKind.i8.wrap (v : Int))).toNat, ?_, leN_low ?_, ?_, ?_⟩
  all_goals
    try simp only [IntKind.wrap, IntKind.signed, IntKind.bits]
    try simp
    omega
theorem low_i16 (v : Nat) : ∃ v' : Nat, IntKind.u64.wrap (IntKind.i16.wrap (v : Int)) = (v' : Int) ∧ leN 2 v = leN 2 v' ∧ -32768 ≤ IntKind.i16.wrap (v : Int) ∧ IntKind.i16.wrap (v : Int) ≤ 32767 := by
  refine ⟨(IntKind.u64.wrap (IntKind.i16.wrap (v : Int))).toNat, ?_, leN_low ?_, ?_, ?_⟩
  all_goals
    try simp only [IntKind.wrap, IntKind.signed, IntKind.bits]
    try simp
    omega
theorem low_i32 (v : Nat) : ∃ v' : Nat, IntKind.u64.wrap (wrap32 (v : Int)) = (v' : Int) ∧ leN 4 v = leN 4 v' ∧ -2147483648 ≤ wrap32 (v : Int) ∧ wrap32 (v : Int) ≤ 2147483647 := by
  refine ⟨(IntKind.u64.wrap (wrap32 (v : Int))).toNat, ?_, leN_low ?_, ?_, ?_⟩
  all_goals
    try simp only [IntKind.wrap, IntKind.signed, IntKind.bits, wrap32]
    try simp
    omega
theorem low_i64 (v : Nat) : ∃ v' : Nat, IntKind.u64.wrap (wrap64 (v : Int)) = (v' : Int) ∧ leN 8 v = leN 8 v' ∧ -9223372036854775808 ≤ wrap64 (v : Int) ∧ wrap64 (v : Int) ≤ 9223372036854775807 := by
  refine ⟨(IntKind.u64.wrap (wrap64 (v : Int))).toNat, ?_, leN_low ?_, ?_, ?_⟩
  all_goals
    try simp only [IntKind.wrap, IntKind.signed, IntKind.bits, wrap64]
    try simp
    omega
set_option maxRecDepth 100000 in
theorem lays_1 (a : Option Addr) (v : Nat) (_ : v < 18446744073709551616) (s : ByteArray) (w : World) {Q : World → Prop} (h : Lays (.pointer a) w (leN 1 v) Q) : Calls Try.prog 15 #[.pointer a, .agg #[.int .i64 1, .int .u64 (v : Int), .string s]] w fun e w' => Void e ∧ Q w' := by
  obtain ⟨v', h1, h2, h3⟩ := low_i8 v
  rw [h2] at h
  have H := Lib.hid (h.from (w1 := w.alloc (.cells #[.int .i64 1, .int .u64 (v : Int), .string s] 42)) (by go_grown))
  have H1 := Lib.hid h1
  have H3 := Lib.hid h3
  clear h h1 h2 h3
  go_enter Try.func15, Try.ntmps15
  go_wp2_with fail
  refine (put_i8 a _ v' H3.out H1.out _ H.out).mono ?_
  rintro e w2 ⟨⟨_, rfl⟩, hQ⟩
  go_wp2_with fail
  go_end0
  exact ⟨⟨_, rfl⟩, hQ⟩

set_option maxRecDepth 100000 in
theorem lays_3 (a : Option Addr) (v : Nat) (_ : v < 18446744073709551616) (s : ByteArray) (w : World) {Q : World → Prop} (h : Lays (.pointer a) w (leN 2 v) Q) : Calls Try.prog 15 #[.pointer a, .agg #[.int .i64 3, .int .u64 (v : Int), .string s]] w fun e w' => Void e ∧ Q w' := by
  obtain ⟨v', h1, h2, h3⟩ := low_i16 v
  rw [h2] at h
  have H := Lib.hid (h.from (w1 := w.alloc (.cells #[.int .i64 3, .int .u64 (v : Int), .string s] 42)) (by go_grown))
  have H1 := Lib.hid h1
  have H3 := Lib.hid h3
  clear h h1 h2 h3
  go_enter Try.func15, Try.ntmps15
  go_wp2_with fail
  refine (put_i16 a _ v' H3.out H1.out _ H.out).mono ?_
  rintro e w2 ⟨⟨_, rfl⟩, hQ⟩
  go_wp2_with fail
  go_end0
  exact ⟨⟨_, rfl⟩, hQ⟩

set_option maxRecDepth 100000 in
theorem lays_5 (a : Option Addr) (v : Nat) (_ : v < 18446744073709551616) (s : ByteArray) (w : World) {Q : World → Prop} (h : Lays (.pointer a) w (leN 4 v) Q) : Calls Try.prog 15 #[.pointer a, .agg #[.int .i64 5, .int .u64 (v : Int), .string s]] w fun e w' => Void e ∧ Q w' := by
  obtain ⟨v', h1, h2, h3⟩ := low_i32 v
  rw [h2] at h
  have H := Lib.hid (h.from (w1 := w.alloc (.cells #[.int .i64 5, .int .u64 (v : Int), .string s] 42)) (by go_grown))
  have H1 := Lib.hid h1
  have H3 := Lib.hid h3
  clear h h1 h2 h3
  go_enter Try.func15, Try.ntmps15
  go_wp2_with fail
  refine (put_i32 a _ v' H3.out H1.out _ H.out).mono ?_
  rintro e w2 ⟨⟨_, rfl⟩, hQ⟩
  go_wp2_with fail
  go_end0
  exact ⟨⟨_, rfl⟩, hQ⟩

set_option maxRecDepth 100000 in
theorem lays_7 (a : Option Addr) (v : Nat) (_ : v < 18446744073709551616) (s : ByteArray) (w : World) {Q : World → Prop} (h : Lays (.pointer a) w (leN 8 v) Q) : Calls Try.prog 15 #[.pointer a, .agg #[.int .i64 7, .int .u64 (v : Int), .string s]] w fun e w' => Void e ∧ Q w' := by
  obtain ⟨v', h1, h2, h3⟩ := low_i64 v
  rw [h2] at h
  have H := Lib.hid (h.from (w1 := w.alloc (.cells #[.int .i64 7, .int .u64 (v : Int), .string s] 42)) (by go_grown))
  have H1 := Lib.hid h1
  have H3 := Lib.hid h3
  clear h h1 h2 h3
  go_enter Try.func15, Try.ntmps15
  go_wp2_with fail
  refine (put_i64 a _ v' H3.out H1.out _ H.out).mono ?_
  rintro e w2 ⟨⟨_, rfl⟩, hQ⟩
  go_wp2_with fail
  go_end0
  exact ⟨⟨_, rfl⟩, hQ⟩

set_option maxRecDepth 100000 in
theorem lays_2 (a : Option Addr) (v : Nat) (_ : v < 18446744073709551616) (s : ByteArray) (w : World) {Q : World → Prop} (h : Lays (.pointer a) w (leN 1 v) Q) : Calls Try.prog 15 #[.pointer a, .agg #[.int .i64 2, .int .u64 (v : Int), .string s]] w fun e w' => Void e ∧ Q w' := by
  have e : (v : Int) % 256 = ((v % 256 : Nat) : Int) := by first | (simp only [IntKind.wrap, IntKind.signed, IntKind.bits]; simp; done) | omega
  rw [leN_low (show v % 2 ^ (8 * 1) = (v % 256) % 2 ^ (8 * 1) by omega)] at h
  have H := Lib.hid (h.from (w1 := w.alloc (.cells #[.int .i64 2, .int .u64 (v : Int), .string s] 42)) (by go_grown))
  have HE := Lib.hid e
  clear h e
  go_enter Try.func15, Try.ntmps15
  go_wp2_with fail
  rw [HE.out]
  refine (put_u8 a _ (by omega) _ H.out).mono ?_
  rintro e w2 ⟨⟨_, rfl⟩, hQ⟩
  go_wp2_with fail
  go_end0
  exact ⟨⟨_, rfl⟩, hQ⟩

set_option maxRecDepth 100000 in
theorem lays_4 (a : Option Addr) (v : Nat) (_ : v < 18446744073709551616) (s : ByteArray) (w : World) {Q : World → Prop} (h : Lays (.pointer a) w (leN 2 v) Q) : Calls Try.prog 15 #[.pointer a, .agg #[.int .i64 4, .int .u64 (v : Int), .string s]] w fun e w' => Void e ∧ Q w' := by
  have e : IntKind.u16.wrap (v : Int) = ((v % 65536 : Nat) : Int) := by first | (simp only [IntKind.wrap, IntKind.signed, IntKind.bits]; simp; done) | omega
  rw [leN_low (show v % 2 ^ (8 * 2) = (v % 65536) % 2 ^ (8 * 2) by omega)] at h
  have H := Lib.hid (h.from (w1 := w.alloc (.cells #[.int .i64 4, .int .u64 (v : Int), .string s] 42)) (by go_grown))
  have HE := Lib.hid e
  clear h e
  go_enter Try.func15, Try.ntmps15
  go_wp2_with fail
  rw [HE.out]
  refine (put_u16 a _ (by omega) _ H.out).mono ?_
  rintro e w2 ⟨⟨_, rfl⟩, hQ⟩
  go_wp2_with fail
  go_end0
  exact ⟨⟨_, rfl⟩, hQ⟩

set_option maxRecDepth 100000 in
theorem lays_6 (a : Option Addr) (v : Nat) (_ : v < 18446744073709551616) (s : ByteArray) (w : World) {Q : World → Prop} (h : Lays (.pointer a) w (leN 4 v) Q) : Calls Try.prog 15 #[.pointer a, .agg #[.int .i64 6, .int .u64 (v : Int), .string s]] w fun e w' => Void e ∧ Q w' := by
  have e : (v : Int) % 4294967296 = ((v % 4294967296 : Nat) : Int) := by first | (simp only [IntKind.wrap, IntKind.signed, IntKind.bits]; simp; done) | omega
  rw [leN_low (show v % 2 ^ (8 * 4) = (v % 4294967296) % 2 ^ (8 * 4) by omega)] at h
  have H := Lib.hid (h.from (w1 := w.alloc (.cells #[.int .i64 6, .int .u64 (v : Int), .string s] 42)) (by go_grown))
  have HE := Lib.hid e
  clear h e
  go_enter Try.func15, Try.ntmps15
  go_wp2_with fail
  rw [HE.out]
  refine (put_u32 a _ (by omega) _ H.out).mono ?_
  rintro e w2 ⟨⟨_, rfl⟩, hQ⟩
  go_wp2_with fail
  go_end0
  exact ⟨⟨_, rfl⟩, hQ⟩

set_option maxRecDepth 100000 in
theorem lays_11 (a : Option Addr) (v : Nat) (_ : v < 18446744073709551616) (s : ByteArray) (w : World) {Q : World → Prop} (h : Lays (.pointer a) w (leN 2 v) Q) : Calls Try.prog 15 #[.pointer a, .agg #[.int .i64 11, .int .u64 (v : Int), .string s]] w fun e w' => Void e ∧ Q w' := by
  have e : IntKind.u16.wrap (v : Int) = ((v % 65536 : Nat) : Int) := by first | (simp only [IntKind.wrap, IntKind.signed, IntKind.bits]; simp; done) | omega
  rw [leN_low (show v % 2 ^ (8 * 2) = (v % 65536) % 2 ^ (8 * 2) by omega)] at h
  have H := Lib.hid (h.from (w1 := w.alloc (.cells #[.int .i64 11, .int .u64 (v : Int), .string s] 42)) (by go_grown))
  have HE := Lib.hid e
  clear h e
  go_enter Try.func15, Try.ntmps15
  go_wp2_with fail
  rw [HE.out]
  refine (put_u16 a _ (by omega) _ H.out).mono ?_
  rintro e w2 ⟨⟨_, rfl⟩, hQ⟩
  go_wp2_with fail
  go_end0
  exact ⟨⟨_, rfl⟩, hQ⟩

set_option maxRecDepth 100000 in
theorem lays_12 (a : Option Addr) (v : Nat) (_ : v < 18446744073709551616) (s : ByteArray) (w : World) {Q : World → Prop} (h : Lays (.pointer a) w (leN 1 v) Q) : Calls Try.prog 15 #[.pointer a, .agg #[.int .i64 12, .int .u64 (v : Int), .string s]] w fun e w' => Void e ∧ Q w' := by
  have e : (v : Int) % 256 = ((v % 256 : Nat) : Int) := by first | (simp only [IntKind.wrap, IntKind.signed, IntKind.bits]; simp; done) | omega
  rw [leN_low (show v % 2 ^ (8 * 1) = (v % 256) % 2 ^ (8 * 1) by omega)] at h
  have H := Lib.hid (h.from (w1 := w.alloc (.cells #[.int .i64 12, .int .u64 (v : Int), .string s] 42)) (by go_grown))
  have HE := Lib.hid e
  clear h e
  go_enter Try.func15, Try.ntmps15
  go_wp2_with fail
  rw [HE.out]
  refine (put_small a _ (by omega) _ H.out).mono ?_
  rintro e w2 ⟨⟨_, rfl⟩, hQ⟩
  go_wp2_with fail
  go_end0
  exact ⟨⟨_, rfl⟩, hQ⟩

set_option maxRecDepth 100000 in
theorem lays_8 (a : Option Addr) (v : Nat) (hv : v < 18446744073709551616) (s : ByteArray) (w : World) {Q : World → Prop} (h : Lays (.pointer a) w (leN 8 v) Q) : Calls Try.prog 15 #[.pointer a, .agg #[.int .i64 8, .int .u64 (v : Int), .string s]] w fun e w' => Void e ∧ Q w' := by
  have H := Lib.hid (h.from (w1 := w.alloc (.cells #[.int .i64 8, .int .u64 (v : Int), .string s] 42)) (by go_grown))
  clear h
  have hv' : (v : Int) < 18446744073709551616 := by omega
  go_enter Try.func15, Try.ntmps15
  go_wp2_with fail
  refine (put_u64 a _ hv _ H.out).mono ?_
  rintro e w2 ⟨⟨_, rfl⟩, hQ⟩
  go_wp2_with fail
  go_end0
  exact ⟨⟨_, rfl⟩, hQ⟩

set_option maxRecDepth 100000 in
theorem lays_9 (a : Option Addr) (v : Nat) (_ : v < 18446744073709551616) (s : ByteArray) (w : World) {Q : World → Prop} (h : Lays (.pointer a) w (leN 8 (fbits v)) Q) : Calls Try.prog 15 #[.pointer a, .agg #[.int .i64 9, .int .u64 (v : Int), .string s]] w fun e w' => Void e ∧ Q w' := by
  have H := Lib.hid (h.from (w1 := w.alloc (.cells #[.int .i64 9, .int .u64 (v : Int), .string s] 42)) (by go_grown))
  clear h
  have HF := frombits_any v
  go_enter Try.func15, Try.ntmps15
  go_wp2_with fail
  refine (float_of a _ _ H.out).mono ?_
  rintro e w2 ⟨⟨_, rfl⟩, hQ⟩
  go_wp2_with fail
  go_end0
  exact ⟨⟨_, rfl⟩, hQ⟩

set_option maxRecDepth 100000 in
theorem lays_10 (a : Option Addr) (v : Nat) (s : ByteArray) (w : World) {Q1 Q : World → Prop} (h1 : Lays (.pointer a) w (leN 2 (cutB s).length) Q1) (h2 : ∀ w1, Q1 w1 → Lays (.pointer a) w1 (cutB s) Q) : Calls Try.prog 15 #[.pointer a, .agg #[.int .i64 10, .int .u64 (v : Int), .string s]] w fun e w' => Void e ∧ Q w' := by
  have H := Lib.hid (h1.from (w1 := w.alloc (.cells #[.int .i64 10, .int .u64 (v : Int), .string s] 42)) (by go_grown))
  have H2 := Lib.hid h2
  clear h1 h2
  go_enter Try.func15, Try.ntmps15
  go_wp2_with fail
  refine (text_of a s _ H.out H2.out).mono ?_
  rintro e w2 ⟨⟨_, rfl⟩, hQ⟩
  go_wp2_with fail
  go_end0
  exact ⟨⟨_, rfl⟩, hQ⟩

set_option maxRecDepth 100000 in
theorem lays_other (a : Option Addr) (k : Int) (hk : k < 1 ∨ 12 < k) (v : Nat) (s : ByteArray) (w : World) {Q : World → Prop} (h : ∀ w', Below w.heap.size w w' → Q w') : Calls Try.prog 15 #[.pointer a, .agg #[.int .i64 k, .int .u64 (v : Int), .string s]] w fun e w' => Void e ∧ Q w' := by
  have H := Lib.hid h
  have n1 : ¬ k = 1 := by omega
  have b1 : (k == 1) = false := by simp [n1]
  have n2 : ¬ k = 2 := by omega
  have b2 : (k == 2) = false := by simp [n2]
  have n3 : ¬ k = 3 := by omega
  have b3 : (k == 3) = false := by simp [n3]
  have n4 : ¬ k = 4 := by omega
  have b4 : (k == 4) = false := by simp [n4]
  have n5 : ¬ k = 5 := by omega
  have b5 : (k == 5) = false := by simp [n5]
  have n6 : ¬ k = 6 := by omega
  have b6 : (k == 6) = false := by simp [n6]
  have n7 : ¬ k = 7 := by omega
  have b7 : (k == 7) = false := by simp [n7]
  have n8 : ¬ k = 8 := by omega
  have b8 : (k == 8) = false := by simp [n8]
  have n9 : ¬ k = 9 := by omega
  have b9 : (k == 9) = false := by simp [n9]
  have n10 : ¬ k = 10 := by omega
  have b10 : (k == 10) = false := by simp [n10]
  have n11 : ¬ k = 11 := by omega
  have b11 : (k == 11) = false := by simp [n11]
  have n12 : ¬ k = 12 := by omega
  have b12 : (k == 12) = false := by simp [n12]
  clear h hk
  go_enter Try.func15, Try.ntmps15
  go_wp2_with fail
  go_end0
  exact ⟨⟨_, rfl⟩, H.out _ (by go_grown)⟩

end Go.Proofs.Ytiejgandjlldjaa
