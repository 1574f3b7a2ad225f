/-
  The law's given, at what shall be taken off.
-/
import Derived.Test.YtiejgandjlldjaaLaysA
namespace Go.Proofs.Ytiejgandjlldjaa
open Go.RowKit

theorem mask_256 (a : Nat) (ha : a < 18446744073709551616) : bits .and .u64 (a : Int) 255 = ((a % 256 : Nat) : Int) := by
  have h := bits_and_u64_nat a 255 ha (by omega)
  have e : a &&& 255 = a % 256 := Nat.and_two_pow_sub_one_eq_mod a 8
  rw [e] at h
  exact h
theorem mask_65536 (a : Nat) (ha : a < 18446744073709551616) : bits .and .u64 (a : Int) 65535 = ((a % 65536 : Nat) : Int) := by
  have h := bits_and_u64_nat a 65535 ha (by omega)
  have e : a &&& 65535 = a % 65536 := Nat.and_two_pow_sub_one_eq_mod a 16
  rw [e] at h
  exact h
theorem mask_4294967296 (a : Nat) (ha : a < 18446744073709551616) : bits .and .u64 (a : Int) 4294967295 = ((a % 4294967296 : Nat) : Int) := by
  have h := bits_and_u64_nat a 4294967295 ha (by omega)
  have e : a &&& 4294967295 = a % 4294967296 := Nat.and_two_pow_sub_one_eq_mod a 32
  rw [e] at h
  exact h


set_option maxRecDepth 100000 in
theorem given_1 (v : Nat) (_ : v < 18446744073709551616) (s : ByteArray) (w : World) : Calls Try.prog 34 #[.agg #[.int .i64 1, .int .u64 (v : Int), .string s], gotV (sx .i8 v) []] w fun e w' => e = .returned (.bool true) ∧ Below w.heap.size w w' := by
  have hsx : IntKind.u64.wrap (IntKind.i8.wrap (v : Int)) = ((sx .i8 v : Nat) : Int) := sx_eq .i8 v
  unfold gotV
  go_enter Try.func34, Try.ntmps34
  go_wp2_with fail
  refine bodyPost_ret (by simp [results, Try.results34, go_sem, *]; try rfl) rfl ?_
  exact ⟨rfl, by go_grown⟩


set_option maxRecDepth 100000 in
theorem given_3 (v : Nat) (_ : v < 18446744073709551616) (s : ByteArray) (w : World) : Calls Try.prog 34 #[.agg #[.int .i64 3, .int .u64 (v : Int), .string s], gotV (sx .i16 v) []] w fun e w' => e = .returned (.bool true) ∧ Below w.heap.size w w' := by
  have hsx : IntKind.u64.wrap (IntKind.i16.wrap (v : Int)) = ((sx .i16 v : Nat) : Int) := sx_eq .i16 v
  unfold gotV
  go_enter Try.func34, Try.ntmps34
  go_wp2_with fail
  refine bodyPost_ret (by simp [results, Try.results34, go_sem, *]; try rfl) rfl ?_
  exact ⟨rfl, by go_grown⟩


set_option maxRecDepth 100000 in
theorem given_5 (v : Nat) (_ : v < 18446744073709551616) (s : ByteArray) (w : World) : Calls Try.prog 34 #[.agg #[.int .i64 5, .int .u64 (v : Int), .string s], gotV (sx .i32 v) []] w fun e w' => e = .returned (.bool true) ∧ Below w.heap.size w w' := by
  have hsx : IntKind.u64.wrap (wrap32 (v : Int)) = ((sx .i32 v : Nat) : Int) := by rw [← IntWalk.i32_left]; exact sx_eq .i32 v
  unfold gotV
  go_enter Try.func34, Try.ntmps34
  go_wp2_with fail
  refine bodyPost_ret (by simp [results, Try.results34, go_sem, *]; try rfl) rfl ?_
  exact ⟨rfl, by go_grown⟩


set_option maxRecDepth 100000 in
theorem given_7 (v : Nat) (_ : v < 18446744073709551616) (s : ByteArray) (w : World) : Calls Try.prog 34 #[.agg #[.int .i64 7, .int .u64 (v : Int), .string s], gotV v []] w fun e w' => e = .returned (.bool true) ∧ Below w.heap.size w w' := by
  unfold gotV
  go_enter Try.func34, Try.ntmps34
  go_wp2_with fail
  refine bodyPost_ret (by simp [results, Try.results34, go_sem, *]; try rfl) rfl ?_
  exact ⟨rfl, by go_grown⟩


set_option maxRecDepth 100000 in
theorem given_8 (v : Nat) (_ : v < 18446744073709551616) (s : ByteArray) (w : World) : Calls Try.prog 34 #[.agg #[.int .i64 8, .int .u64 (v : Int), .string s], gotV v []] w fun e w' => e = .returned (.bool true) ∧ Below w.heap.size w w' := by
  unfold gotV
  go_enter Try.func34, Try.ntmps34
  go_wp2_with fail
  refine bodyPost_ret (by simp [results, Try.results34, go_sem, *]; try rfl) rfl ?_
  exact ⟨rfl, by go_grown⟩


set_option maxRecDepth 100000 in
theorem given_2 (v : Nat) (hv : v < 18446744073709551616) (s : ByteArray) (w : World) : Calls Try.prog 34 #[.agg #[.int .i64 2, .int .u64 (v : Int), .string s], gotV (v % 256) []] w fun e w' => e = .returned (.bool true) ∧ Below w.heap.size w w' := by
  obtain ⟨m, hm⟩ : ∃ z, v % 256 = z := ⟨_, rfl⟩
  have hand : bits .and .u64 (v : Int) 255 = (m : Int) := by rw [← hm]; exact mask_256 v hv
  rw [hm]
  clear hm
  unfold gotV
  go_enter Try.func34, Try.ntmps34
  go_wp2_with fail
  refine bodyPost_ret (by simp [results, Try.results34, go_sem, *]; try rfl) rfl ?_
  exact ⟨rfl, by go_grown⟩


set_option maxRecDepth 100000 in
theorem given_12 (v : Nat) (hv : v < 18446744073709551616) (s : ByteArray) (w : World) : Calls Try.prog 34 #[.agg #[.int .i64 12, .int .u64 (v : Int), .string s], gotV (v % 256) []] w fun e w' => e = .returned (.bool true) ∧ Below w.heap.size w w' := by
  obtain ⟨m, hm⟩ : ∃ z, v % 256 = z := ⟨_, rfl⟩
  have hand : bits .and .u64 (v : Int) 255 = (m : Int) := by rw [← hm]; exact mask_256 v hv
  rw [hm]
  clear hm
  unfold gotV
  go_enter Try.func34, Try.ntmps34
  go_wp2_with fail
  refine bodyPost_ret (by simp [results, Try.results34, go_sem, *]; try rfl) rfl ?_
  exact ⟨rfl, by go_grown⟩


set_option maxRecDepth 100000 in
theorem given_4 (v : Nat) (hv : v < 18446744073709551616) (s : ByteArray) (w : World) : Calls Try.prog 34 #[.agg #[.int .i64 4, .int .u64 (v : Int), .string s], gotV (v % 65536) []] w fun e w' => e = .returned (.bool true) ∧ Below w.heap.size w w' := by
  obtain ⟨m, hm⟩ : ∃ z, v % 65536 = z := ⟨_, rfl⟩
  have hand : bits .and .u64 (v : Int) 65535 = (m : Int) := by rw [← hm]; exact mask_65536 v hv
  rw [hm]
  clear hm
  unfold gotV
  go_enter Try.func34, Try.ntmps34
  go_wp2_with fail
  refine bodyPost_ret (by simp [results, Try.results34, go_sem, *]; try rfl) rfl ?_
  exact ⟨rfl, by go_grown⟩


set_option maxRecDepth 100000 in
theorem given_11 (v : Nat) (hv : v < 18446744073709551616) (s : ByteArray) (w : World) : Calls Try.prog 34 #[.agg #[.int .i64 11, .int .u64 (v : Int), .string s], gotV (v % 65536) []] w fun e w' => e = .returned (.bool true) ∧ Below w.heap.size w w' := by
  obtain ⟨m, hm⟩ : ∃ z, v % 65536 = z := ⟨_, rfl⟩
  have hand : bits .and .u64 (v : Int) 65535 = (m : Int) := by rw [← hm]; exact mask_65536 v hv
  rw [hm]
  clear hm
  unfold gotV
  go_enter Try.func34, Try.ntmps34
  go_wp2_with fail
  refine bodyPost_ret (by simp [results, Try.results34, go_sem, *]; try rfl) rfl ?_
  exact ⟨rfl, by go_grown⟩


set_option maxRecDepth 100000 in
theorem given_6 (v : Nat) (hv : v < 18446744073709551616) (s : ByteArray) (w : World) : Calls Try.prog 34 #[.agg #[.int .i64 6, .int .u64 (v : Int), .string s], gotV (v % 4294967296) []] w fun e w' => e = .returned (.bool true) ∧ Below w.heap.size w w' := by
  obtain ⟨m, hm⟩ : ∃ z, v % 4294967296 = z := ⟨_, rfl⟩
  have hand : bits .and .u64 (v : Int) 4294967295 = (m : Int) := by rw [← hm]; exact mask_4294967296 v hv
  rw [hm]
  clear hm
  unfold gotV
  go_enter Try.func34, Try.ntmps34
  go_wp2_with fail
  refine bodyPost_ret (by simp [results, Try.results34, go_sem, *]; try rfl) rfl ?_
  exact ⟨rfl, by go_grown⟩


set_option maxRecDepth 100000 in
theorem given_9n (v : Nat) (_ : v < 18446744073709551616) (s : ByteArray) (hn : nan v = true) (w : World) : Calls Try.prog 34 #[.agg #[.int .i64 9, .int .u64 (v : Int), .string s], gotV 0 noneT] w fun e w' => e = .returned (.bool true) ∧ Below w.heap.size w w' := by
  have HF := frombits_any v
  unfold nan at hn
  unfold gotV noneT
  go_enter Try.func34, Try.ntmps34
  go_wp2_with fail
  refine bodyPost_ret (by simp [results, Try.results34, go_sem, *]; try rfl) rfl ?_
  exact ⟨rfl, by go_grown⟩


set_option maxRecDepth 100000 in
theorem given_9 (v : Nat) (_ : v < 18446744073709551616) (s : ByteArray) (hn : nan v = false) (w : World) : Calls Try.prog 34 #[.agg #[.int .i64 9, .int .u64 (v : Int), .string s], gotV v []] w fun e w' => e = .returned (.bool true) ∧ Below w.heap.size w w' := by
  have HF := frombits_any v
  unfold nan at hn
  unfold gotV
  go_enter Try.func34, Try.ntmps34
  go_wp2_with fail
  refine bodyPost_ret (by simp [results, Try.results34, go_sem, *]; try rfl) rfl ?_
  exact ⟨rfl, by go_grown⟩


set_option maxRecDepth 100000 in
theorem given_other (v : Nat) (_ : v < 18446744073709551616) (s : ByteArray) (k : Int) (hk : k < 1 ∨ 12 < k) (w : World) : Calls Try.prog 34 #[.agg #[.int .i64 k, .int .u64 (v : Int), .string s], gotV 0 []] w fun e w' => e = .returned (.bool true) ∧ Below w.heap.size w w' := by
  have n1 : ¬ k = 1 := by omega
  have b1 : (k == 1) = false := by simp [n1]
  have n2 : ¬ k = 2 := by omega
  have b2 : (k == 2) = false := by simp [n2]
  have n3 : ¬ k = 3 := by omega
  have b3 : (k == 3) = false := by simp [n3]
  have n4 : ¬ k = 4 := by omega
  have b4 : (k == 4) = false := by simp [n4]
  have n5 : ¬ k = 5 := by omega
  have b5 : (k == 5) = false := by simp [n5]
  have n6 : ¬ k = 6 := by omega
  have b6 : (k == 6) = false := by simp [n6]
  have n7 : ¬ k = 7 := by omega
  have b7 : (k == 7) = false := by simp [n7]
  have n8 : ¬ k = 8 := by omega
  have b8 : (k == 8) = false := by simp [n8]
  have n9 : ¬ k = 9 := by omega
  have b9 : (k == 9) = false := by simp [n9]
  have n10 : ¬ k = 10 := by omega
  have b10 : (k == 10) = false := by simp [n10]
  have n11 : ¬ k = 11 := by omega
  have b11 : (k == 11) = false := by simp [n11]
  have n12 : ¬ k = 12 := by omega
  have b12 : (k == 12) = false := by simp [n12]
  clear hk
  unfold gotV
  go_enter Try.func34, Try.ntmps34
  go_wp2_with fail
  refine bodyPost_ret (by simp [results, Try.results34, go_sem, *]; try rfl) rfl ?_
  exact ⟨rfl, by go_grown⟩


set_option maxRecDepth 100000 in
theorem given_10s (v : Nat) (_ : v < 18446744073709551616) (s : ByteArray) (hs : s.size ≤ 65535) (w : World) : Calls Try.prog 34 #[.agg #[.int .i64 10, .int .u64 (v : Int), .string s], gotV 0 s.data.toList] w fun e w' => e = .returned (.bool true) ∧ Below w.heap.size w w' := by
  have hs' : ¬ (65535 : Int) < (s.size : Int) := by omega
  unfold gotV
  go_enter Try.func34, Try.ntmps34
  go_wp2_with fail
  refine bodyPost_ret (by simp [results, Try.results34, go_sem, *]; try rfl) rfl ?_
  exact ⟨rfl, by go_grown⟩


set_option maxRecDepth 100000 in
theorem given_10l (v : Nat) (_ : v < 18446744073709551616) (s : ByteArray) (hs : 65535 < s.size) (w : World) : Calls Try.prog 34 #[.agg #[.int .i64 10, .int .u64 (v : Int), .string s], gotV 0 (cutB s)] w fun e w' => e = .returned (.bool true) ∧ Below w.heap.size w w' := by
  have hs' : (65535 : Int) < (s.size : Int) := by omega
  have hm : min 65535 s.size = 65535 := by omega
  have hx : (⟨(cutB s).toArray⟩ : ByteArray) = s.extract 0 65535 := by
    rw [← cutB_long]
  unfold gotV
  rw [hx]
  clear hx
  go_enter Try.func34, Try.ntmps34
  go_wp2_with fail
  refine bodyPost_ret (by simp [results, Try.results34, go_sem, *]; try rfl) rfl ?_
  exact ⟨rfl, by go_grown⟩


theorem given_all (k : Int) (v : Nat) (hv : v < 18446744073709551616) (s : ByteArray) (w : World) : Calls Try.prog 34 #[.agg #[.int .i64 k, .int .u64 (v : Int), .string s], gotV (givenOf k v s).1 (givenOf k v s).2] w fun e w' => e = .returned (.bool true) ∧ Below w.heap.size w w' := by
  rcases Decidable.em (1 ≤ k ∧ k ≤ 12) with hk | hk
  · have hc : k = 1 ∨ k = 2 ∨ k = 3 ∨ k = 4 ∨ k = 5 ∨ k = 6 ∨ k = 7 ∨ k = 8 ∨ k = 9 ∨ k = 10 ∨ k = 11 ∨ k = 12 := by omega
    rcases hc with rfl | rfl | rfl | rfl | rfl | rfl | rfl | rfl | rfl | rfl | rfl | rfl
    · exact given_1 v hv s w
    · exact given_2 v hv s w
    · exact given_3 v hv s w
    · exact given_4 v hv s w
    · exact given_5 v hv s w
    · exact given_6 v hv s w
    · exact given_7 v hv s w
    · exact given_8 v hv s w
    · cases hn : nan v
      · have e : givenOf 9 v s = (v, []) := by unfold givenOf; simp [hn]
        rw [e]
        exact given_9 v hv s hn w
      · have e : givenOf 9 v s = (0, noneT) := by unfold givenOf; simp [hn]
        rw [e]
        exact given_9n v hv s hn w
    · have e : givenOf 10 v s = (0, cutB s) := by unfold givenOf; simp
      rw [e]
      rcases Nat.lt_or_ge 65535 s.size with hs | hs
      · exact given_10l v hv s hs w
      · rw [cutB_short hs]
        exact given_10s v hv s hs w
    · exact given_11 v hv s w
    · exact given_12 v hv s w
  · have e : givenOf k v s = (0, []) := by unfold givenOf; simp only [show ¬ k = 1 by omega, show ¬ k = 2 by omega, show ¬ k = 3 by omega, show ¬ k = 4 by omega, show ¬ k = 5 by omega, show ¬ k = 6 by omega, show ¬ k = 7 by omega, show ¬ k = 8 by omega, show ¬ k = 9 by omega, show ¬ k = 10 by omega, show ¬ k = 11 by omega, show ¬ k = 12 by omega, false_or, if_false]
    rw [e]
    exact given_other v hv s k (by omega) w

end Go.Proofs.Ytiejgandjlldjaa
