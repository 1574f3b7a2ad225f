/-
  Package wire: width at each kind of number (printed by gen_width.py).
-/
import Derived.Test.YtiejgandjlldjaaOut
import Derived.Deep.LoopGhost
namespace Go.Proofs.Ytiejgandjlldjaa
open Go.RowKit

def shu (b k : Nat) : Int := if k < b then 2 ^ k else 0
def shs (b k : Nat) : Int := if k + 1 < b then 2 ^ k else if k + 1 = b then -2 ^ k else 0

theorem step_u16 : ∀ k, k < 16 → IntKind.u16.wrap (shu 16 k * 2) = shu 16 (k + 1) ∧ ¬ shu 16 k = 0 := by decide +kernel
set_option maxRecDepth 100000 in
theorem width_uint16 (w : World) : Calls Try.prog 78 #[] w fun e w' => e = .returned (.int .i64 2) ∧ Below w.heap.size w w' := by
  go_enter Try.func78, Try.ntmps78
  go_wp2_with fail
  go_loop [1, 2] (fun b v => ∃ k : Nat, k ≤ 16 ∧ b = .int .i64 (k : Int) ∧ v = .int .u16 (shu 16 k)) (fun b _ => 16 - (intOf b).toNat)
  case atStart => exact ⟨0, by omega, rfl, rfl⟩
  case round =>
    obtain ⟨k, hk, rfl, rfl⟩ := hrel
    rcases Nat.lt_or_ge k 16 with hlt | hge
    · obtain ⟨h1, h2⟩ := step_u16 k hlt
      obtain ⟨x, hx⟩ : ∃ x, shu 16 k = x := ⟨_, rfl⟩
      rw [hx] at h1 h2 ⊢
      have H1 := Lib.hid h1
      have hb : (x == 0) = false := by simp [h2]
      clear h1 hx
      go_wp2_with fail
      go_round
      case rel => exact ⟨k + 1, by omega, by go_num, congrArg (Value.int .u16) (by first | exact H1.out | (have h := H1.out; simp only [wrap64, wrap32, IntKind.wrap_i64, IntKind.wrap_i32, IntKind.wrap_u64] at h ⊢; exact h) | (have := H1.out; simpa [IntKind.wrap, IntKind.signed, IntKind.bits, wrap64] using this))⟩
      case measure => simp [intOf]; omega
    · obtain rfl : k = 16 := by omega
      rw [show shu 16 16 = 0 by decide]
      go_wp2_with fail
      go_ret
      exact ⟨rfl, by go_grown⟩

theorem step_u32 : ∀ k, k < 32 → IntKind.u32.wrap (shu 32 k * 2) = shu 32 (k + 1) ∧ ¬ shu 32 k = 0 := by decide +kernel
set_option maxRecDepth 100000 in
theorem width_uint32 (w : World) : Calls Try.prog 79 #[] w fun e w' => e = .returned (.int .i64 4) ∧ Below w.heap.size w w' := by
  go_enter Try.func79, Try.ntmps79
  go_wp2_with fail
  go_loop [1, 2] (fun b v => ∃ k : Nat, k ≤ 32 ∧ b = .int .i64 (k : Int) ∧ v = .int .u32 (shu 32 k)) (fun b _ => 32 - (intOf b).toNat)
  case atStart => exact ⟨0, by omega, rfl, rfl⟩
  case round =>
    obtain ⟨k, hk, rfl, rfl⟩ := hrel
    rcases Nat.lt_or_ge k 32 with hlt | hge
    · obtain ⟨h1, h2⟩ := step_u32 k hlt
      obtain ⟨x, hx⟩ : ∃ x, shu 32 k = x := ⟨_, rfl⟩
      rw [hx] at h1 h2 ⊢
      have H1 := Lib.hid h1
      have hb : (x == 0) = false := by simp [h2]
      clear h1 hx
      go_wp2_with fail
      go_round
      case rel => exact ⟨k + 1, by omega, by go_num, congrArg (Value.int .u32) (by first | exact H1.out | (have h := H1.out; simp only [wrap64, wrap32, IntKind.wrap_i64, IntKind.wrap_i32, IntKind.wrap_u64] at h ⊢; exact h) | (have := H1.out; simpa [IntKind.wrap, IntKind.signed, IntKind.bits, wrap64] using this))⟩
      case measure => simp [intOf]; omega
    · obtain rfl : k = 32 := by omega
      rw [show shu 32 32 = 0 by decide]
      go_wp2_with fail
      go_ret
      exact ⟨rfl, by go_grown⟩

theorem step_i8 : ∀ k, k < 8 → IntKind.i8.wrap (shs 8 k * 2) = shs 8 (k + 1) ∧ ¬ shs 8 k = 0 := by decide +kernel
set_option maxRecDepth 100000 in
theorem width_int8 (w : World) : Calls Try.prog 82 #[] w fun e w' => e = .returned (.int .i64 1) ∧ Below w.heap.size w w' := by
  go_enter Try.func82, Try.ntmps82
  go_wp2_with fail
  go_loop [1, 2] (fun b v => ∃ k : Nat, k ≤ 8 ∧ b = .int .i64 (k : Int) ∧ v = .int .i8 (shs 8 k)) (fun b _ => 8 - (intOf b).toNat)
  case atStart => exact ⟨0, by omega, rfl, rfl⟩
  case round =>
    obtain ⟨k, hk, rfl, rfl⟩ := hrel
    rcases Nat.lt_or_ge k 8 with hlt | hge
    · obtain ⟨h1, h2⟩ := step_i8 k hlt
      obtain ⟨x, hx⟩ : ∃ x, shs 8 k = x := ⟨_, rfl⟩
      rw [hx] at h1 h2 ⊢
      have H1 := Lib.hid h1
      have hb : (x == 0) = false := by simp [h2]
      clear h1 hx
      go_wp2_with fail
      go_round
      case rel => exact ⟨k + 1, by omega, by go_num, congrArg (Value.int .i8) (by first | exact H1.out | (have h := H1.out; simp only [wrap64, wrap32, IntKind.wrap_i64, IntKind.wrap_i32, IntKind.wrap_u64] at h ⊢; exact h) | (have := H1.out; simpa [IntKind.wrap, IntKind.signed, IntKind.bits, wrap64] using this))⟩
      case measure => simp [intOf]; omega
    · obtain rfl : k = 8 := by omega
      rw [show shs 8 8 = 0 by decide]
      go_wp2_with fail
      go_ret
      exact ⟨rfl, by go_grown⟩

theorem step_u8 : ∀ k, k < 8 → IntKind.u8.wrap (shu 8 k * 2) = shu 8 (k + 1) ∧ ¬ shu 8 k = 0 := by decide +kernel
set_option maxRecDepth 100000 in
theorem width_uint8 (w : World) : Calls Try.prog 83 #[] w fun e w' => e = .returned (.int .i64 1) ∧ Below w.heap.size w w' := by
  go_enter Try.func83, Try.ntmps83
  go_wp2_with fail
  go_loop [1, 2] (fun b v => ∃ k : Nat, k ≤ 8 ∧ b = .int .i64 (k : Int) ∧ v = .int .u8 (shu 8 k)) (fun b _ => 8 - (intOf b).toNat)
  case atStart => exact ⟨0, by omega, rfl, rfl⟩
  case round =>
    obtain ⟨k, hk, rfl, rfl⟩ := hrel
    rcases Nat.lt_or_ge k 8 with hlt | hge
    · obtain ⟨h1, h2⟩ := step_u8 k hlt
      obtain ⟨x, hx⟩ : ∃ x, shu 8 k = x := ⟨_, rfl⟩
      rw [hx] at h1 h2 ⊢
      have H1 := Lib.hid h1
      have hb : (x == 0) = false := by simp [h2]
      clear h1 hx
      go_wp2_with fail
      go_round
      case rel => exact ⟨k + 1, by omega, by go_num, congrArg (Value.int .u8) (by first | exact H1.out | (have h := H1.out; simp only [wrap64, wrap32, IntKind.wrap_i64, IntKind.wrap_i32, IntKind.wrap_u64] at h ⊢; exact h) | (have := H1.out; simpa [IntKind.wrap, IntKind.signed, IntKind.bits, wrap64] using this))⟩
      case measure => simp [intOf]; omega
    · obtain rfl : k = 8 := by omega
      rw [show shu 8 8 = 0 by decide]
      go_wp2_with fail
      go_ret
      exact ⟨rfl, by go_grown⟩

theorem step_i16 : ∀ k, k < 16 → IntKind.i16.wrap (shs 16 k * 2) = shs 16 (k + 1) ∧ ¬ shs 16 k = 0 := by decide +kernel
set_option maxRecDepth 100000 in
theorem width_int16 (w : World) : Calls Try.prog 84 #[] w fun e w' => e = .returned (.int .i64 2) ∧ Below w.heap.size w w' := by
  go_enter Try.func84, Try.ntmps84
  go_wp2_with fail
  go_loop [1, 2] (fun b v => ∃ k : Nat, k ≤ 16 ∧ b = .int .i64 (k : Int) ∧ v = .int .i16 (shs 16 k)) (fun b _ => 16 - (intOf b).toNat)
  case atStart => exact ⟨0, by omega, rfl, rfl⟩
  case round =>
    obtain ⟨k, hk, rfl, rfl⟩ := hrel
    rcases Nat.lt_or_ge k 16 with hlt | hge
    · obtain ⟨h1, h2⟩ := step_i16 k hlt
      obtain ⟨x, hx⟩ : ∃ x, shs 16 k = x := ⟨_, rfl⟩
      rw [hx] at h1 h2 ⊢
      have H1 := Lib.hid h1
      have hb : (x == 0) = false := by simp [h2]
      clear h1 hx
      go_wp2_with fail
      go_round
      case rel => exact ⟨k + 1, by omega, by go_num, congrArg (Value.int .i16) (by first | exact H1.out | (have h := H1.out; simp only [wrap64, wrap32, IntKind.wrap_i64, IntKind.wrap_i32, IntKind.wrap_u64] at h ⊢; exact h) | (have := H1.out; simpa [IntKind.wrap, IntKind.signed, IntKind.bits, wrap64] using this))⟩
      case measure => simp [intOf]; omega
    · obtain rfl : k = 16 := by omega
      rw [show shs 16 16 = 0 by decide]
      go_wp2_with fail
      go_ret
      exact ⟨rfl, by go_grown⟩

theorem step_i32 : ∀ k, k < 32 → IntKind.i32.wrap (shs 32 k * 2) = shs 32 (k + 1) ∧ ¬ shs 32 k = 0 := by decide +kernel
set_option maxRecDepth 100000 in
theorem width_int32 (w : World) : Calls Try.prog 85 #[] w fun e w' => e = .returned (.int .i64 4) ∧ Below w.heap.size w w' := by
  go_enter Try.func85, Try.ntmps85
  go_wp2_with fail
  go_loop [1, 2] (fun b v => ∃ k : Nat, k ≤ 32 ∧ b = .int .i64 (k : Int) ∧ v = .int .i32 (shs 32 k)) (fun b _ => 32 - (intOf b).toNat)
  case atStart => exact ⟨0, by omega, rfl, rfl⟩
  case round =>
    obtain ⟨k, hk, rfl, rfl⟩ := hrel
    rcases Nat.lt_or_ge k 32 with hlt | hge
    · obtain ⟨h1, h2⟩ := step_i32 k hlt
      obtain ⟨x, hx⟩ : ∃ x, shs 32 k = x := ⟨_, rfl⟩
      rw [hx] at h1 h2 ⊢
      have H1 := Lib.hid h1
      have hb : (x == 0) = false := by simp [h2]
      clear h1 hx
      go_wp2_with fail
      go_round
      case rel => exact ⟨k + 1, by omega, by go_num, congrArg (Value.int .i32) (by first | exact H1.out | (have h := H1.out; simp only [wrap32, IntKind.wrap_i32] at h ⊢; exact h) | (have := H1.out; simpa [IntKind.wrap, IntKind.signed, IntKind.bits, wrap64] using this))⟩
      case measure => simp [intOf]; omega
    · obtain rfl : k = 32 := by omega
      rw [show shs 32 32 = 0 by decide]
      go_wp2_with fail
      go_ret
      exact ⟨rfl, by go_grown⟩

theorem step_i64 : ∀ k, k < 64 → IntKind.i64.wrap (shs 64 k * 2) = shs 64 (k + 1) ∧ ¬ shs 64 k = 0 := by decide +kernel
set_option maxRecDepth 100000 in
theorem width_int64 (w : World) : Calls Try.prog 86 #[] w fun e w' => e = .returned (.int .i64 8) ∧ Below w.heap.size w w' := by
  go_enter Try.func86, Try.ntmps86
  go_wp2_with fail
  go_loop [1, 2] (fun b v => ∃ k : Nat, k ≤ 64 ∧ b = .int .i64 (k : Int) ∧ v = .int .i64 (shs 64 k)) (fun b _ => 64 - (intOf b).toNat)
  case atStart => exact ⟨0, by omega, rfl, rfl⟩
  case round =>
    obtain ⟨k, hk, rfl, rfl⟩ := hrel
    rcases Nat.lt_or_ge k 64 with hlt | hge
    · obtain ⟨h1, h2⟩ := step_i64 k hlt
      obtain ⟨x, hx⟩ : ∃ x, shs 64 k = x := ⟨_, rfl⟩
      rw [hx] at h1 h2 ⊢
      have H1 := Lib.hid h1
      have hb : (x == 0) = false := by simp [h2]
      clear h1 hx
      go_wp2_with fail
      go_round
      case rel => exact ⟨k + 1, by omega, by go_num, congrArg (Value.int .i64) (by first | exact H1.out | (have h := H1.out; simp only [wrap64, IntKind.wrap_i64] at h ⊢; exact h) | (have := H1.out; simpa [IntKind.wrap, IntKind.signed, IntKind.bits, wrap64] using this))⟩
      case measure => simp [intOf]; omega
    · obtain rfl : k = 64 := by omega
      rw [show shs 64 64 = 0 by decide]
      go_wp2_with fail
      go_ret
      exact ⟨rfl, by go_grown⟩

theorem step_u64 : ∀ k, k < 64 → IntKind.u64.wrap (shu 64 k * 2) = shu 64 (k + 1) ∧ ¬ shu 64 k = 0 := by decide +kernel
set_option maxRecDepth 100000 in
theorem width_uint64 (w : World) : Calls Try.prog 87 #[] w fun e w' => e = .returned (.int .i64 8) ∧ Below w.heap.size w w' := by
  go_enter Try.func87, Try.ntmps87
  go_wp2_with fail
  go_loop [1, 2] (fun b v => ∃ k : Nat, k ≤ 64 ∧ b = .int .i64 (k : Int) ∧ v = .int .u64 (shu 64 k)) (fun b _ => 64 - (intOf b).toNat)
  case atStart => exact ⟨0, by omega, rfl, rfl⟩
  case round =>
    obtain ⟨k, hk, rfl, rfl⟩ := hrel
    rcases Nat.lt_or_ge k 64 with hlt | hge
    · obtain ⟨h1, h2⟩ := step_u64 k hlt
      obtain ⟨x, hx⟩ : ∃ x, shu 64 k = x := ⟨_, rfl⟩
      rw [hx] at h1 h2 ⊢
      have H1 := Lib.hid h1
      have hb : (x == 0) = false := by simp [h2]
      clear h1 hx
      go_wp2_with fail
      go_round
      case rel => exact ⟨k + 1, by omega, by go_num, congrArg (Value.int .u64) (by first | exact H1.out | (have h := H1.out; simp only [wrap64, wrap32, IntKind.wrap_i64, IntKind.wrap_i32, IntKind.wrap_u64] at h ⊢; exact h) | (have := H1.out; simpa [IntKind.wrap, IntKind.signed, IntKind.bits, wrap64] using this))⟩
      case measure => simp [intOf]; omega
    · obtain rfl : k = 64 := by omega
      rw [show shu 64 64 = 0 by decide]
      go_wp2_with fail
      go_ret
      exact ⟨rfl, by go_grown⟩

set_option maxRecDepth 100000 in
theorem width_small (w : World) : Calls Try.prog 88 #[] w fun e w' => e = .returned (.int .i64 1) ∧ Below w.heap.size w w' := by
  go_enter Try.func88, Try.ntmps88
  go_wp2_with fail
  go_loop [1, 2] (fun b v => ∃ k : Nat, k ≤ 8 ∧ b = .int .i64 (k : Int) ∧ v = .int .u8 (shu 8 k)) (fun b _ => 8 - (intOf b).toNat)
  case atStart => exact ⟨0, by omega, rfl, rfl⟩
  case round =>
    obtain ⟨k, hk, rfl, rfl⟩ := hrel
    rcases Nat.lt_or_ge k 8 with hlt | hge
    · obtain ⟨h1, h2⟩ := step_u8 k hlt
      obtain ⟨x, hx⟩ : ∃ x, shu 8 k = x := ⟨_, rfl⟩
      rw [hx] at h1 h2 ⊢
      have H1 := Lib.hid h1
      have hb : (x == 0) = false := by simp [h2]
      clear h1 hx
      go_wp2_with fail
      go_round
      case rel => exact ⟨k + 1, by omega, by go_num, congrArg (Value.int .u8) (by first | exact H1.out | (have h := H1.out; simp only [wrap64, wrap32, IntKind.wrap_i64, IntKind.wrap_i32, IntKind.wrap_u64] at h ⊢; exact h) | (have := H1.out; simpa [IntKind.wrap, IntKind.signed, IntKind.bits, wrap64] using this))⟩
      case measure => simp [intOf]; omega
    · obtain rfl : k = 8 := by omega
      rw [show shu 8 8 = 0 by decide]
      go_wp2_with fail
      go_ret
      exact ⟨rfl, by go_grown⟩

end Go.Proofs.Ytiejgandjlldjaa
