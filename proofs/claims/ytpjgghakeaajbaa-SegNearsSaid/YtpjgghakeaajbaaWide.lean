/-
  Contracts of package wide's functions on numbers of 128 bits: each computes what it says, and leaves older memory alone.
-/
import Derived.Test.YtpjgghakeaajbaaFrame
import Derived.Test.YtpjgghakeaajbaaWideMath
import Derived.Outline
import Derived.WalkSpells
import Derived.WalkLawsBesides
import Derived.Lib.Hide
import Derived.Laws.Externs
import Derived.Shelf.Spec.BitsCarry
import Derived.Handy
import Derived.BigQuiet
import Derived.Deep.RegionHeld3
namespace Go.Proofs.Ytpjgghakeaajbaa
open Go.RowKit

theorem ret_intw {k : IntKind} {a b : Int} (h : a = b) : Ending.returned (.int k a) = .returned (.int k b) := by rw [h]

theorem cmp_any (x y : Int) (hx : In128 x) (hy : In128 y) (w : World) :
    Calls Try.prog 56 #[.agg #[.int .i64 (hi64 x), .int .u64 (lo64 x)], .agg #[.int .i64 (hi64 y), .int .u64 (lo64 y)]] w fun e w' =>
      e = .returned (.int .i64 (cmpI x y)) ∧ Below w.heap.size w w' := by
  go_enter Try.func56, Try.ntmps56
  go_wp2
  all_goals
    go_returns
    refine ⟨ret_intw ?_, by go_grown⟩
    have h1 := in_eq hx hy
    have h2 := in_lt hx hy
    unfold cmpI
    split <;> (try split) <;> omega
theorem magnitude_any (v : Int) (hv : -9223372036854775808 ≤ v ∧ v ≤ 9223372036854775807) (w : World) :
    Calls Try.prog 65 #[.int .i64 v] w fun e w' => e = .returned (.int .u64 v.natAbs) ∧ w = w' := by
  go_enter Try.func65, Try.ntmps65
  go_wp2
  all_goals
    go_ret
    refine ⟨ret_intw ?_, rfl⟩
    try rw [IntKind.wrap_u64, IntKind.wrap_u64]
    omega

theorem cmp_zero (x : Int) (hx : In128 x) (w : World) :
    Calls Try.prog 56 #[.agg #[.int .i64 (hi64 x), .int .u64 (lo64 x)], .agg #[.int .i64 0, .int .u64 0]] w fun e w' =>
      e = .returned (.int .i64 (cmpI x 0)) ∧ Below w.heap.size w w' := by
  have h := cmp_any x 0 hx (by unfold In128; omega) w
  rw [show hi64 0 = 0 by decide +kernel, show lo64 0 = 0 by decide +kernel] at h
  exact h

/-! The same, said of whatever halves: no premise. -/
theorem cmp_s (x y : Int) (w : World) :
    Calls Try.prog 56 #[.agg #[.int .i64 (hi64 x), .int .u64 (lo64 x)], .agg #[.int .i64 (hi64 y), .int .u64 (lo64 y)]] w fun e w' =>
      e = .returned (.int .i64 (cmpI (s128 x) (s128 y))) ∧ Below w.heap.size w w' := by
  have h := cmp_any (s128 x) (s128 y) (s128_in x) (s128_in y) w
  rw [(s128_hi x).1, (s128_hi x).2, (s128_hi y).1, (s128_hi y).2] at h
  exact h
theorem cmp_s0 (x : Int) (w : World) :
    Calls Try.prog 56 #[.agg #[.int .i64 (hi64 x), .int .u64 (lo64 x)], .agg #[.int .i64 0, .int .u64 0]] w fun e w' =>
      e = .returned (.int .i64 (cmpI (s128 x) 0)) ∧ Below w.heap.size w w' := by
  have h := cmp_zero (s128 x) (s128_in x) w
  rw [(s128_hi x).1, (s128_hi x).2] at h
  exact h
end Go.Proofs.Ytpjgghakeaajbaa
