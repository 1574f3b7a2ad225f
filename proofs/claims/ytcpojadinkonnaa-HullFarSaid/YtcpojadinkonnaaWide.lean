/-
  Contracts of package wide's functions on numbers of 128 bits: each computes what it says, and leaves older memory alone.
-/
import Derived.Test.YtcpojadinkonnaaFrame
import Derived.Test.YtcpojadinkonnaaWideMath
import Derived.Outline
import Derived.WalkSpells
import Derived.WalkLawsBesides
import Derived.Lib.Hide
import Derived.Laws.Externs
import Derived.Shelf.Spec.BitsCarry
import Derived.Handy
import Derived.BigQuiet
import Derived.Deep.RegionHeld3
namespace Go.Proofs.Ytcpojadinkonnaa
open Go.RowKit

theorem run_Add64 (x y c : Int) (hx : 0 ≤ x) (hy : 0 ≤ y) (hc : 0 ≤ c ∧ c ≤ 1) (w : World) :
    (callFunc 94 #[.int .u64 x, .int .u64 y, .int .u64 c]).run Try.prog w = .ok (.value (.tuple #[.int .u64 (addLo x y c), .int .u64 (addCa x y c)])) w := by
  rw [run_callFunc_extern Try.func94 (by kernel_rfl) (by kernel_rfl) (by kernel_rfl) (e := add64Entry) (by kernel_rfl), run_add64 x y c hx hy hc.1 hc.2]
  rfl
theorem ret_intw {k : IntKind} {a b : Int} (h : a = b) : Ending.returned (.int k a) = .returned (.int k b) := by rw [h]

theorem add_any (x y : Int) (w : World) :
    Calls Try.prog 75 #[.agg #[.int .i64 (hi64 x), .int .u64 (lo64 x)], .agg #[.int .i64 (hi64 y), .int .u64 (lo64 y)]] w fun e w' =>
      e = .returned (.agg #[.int .i64 (hi64 (x + y)), .int .u64 (lo64 (x + y))]) ∧ Below w.heap.size w w' := by
  have bx := lo_bd x
  have by_ := lo_bd y
  have hc := addCa_bd bx by_
  have h1 := fun W => run_Add64 (lo64 x) (lo64 y) 0 bx.1 by_.1 (by omega) W
  have h2 := fun W => run_Add64 (IntKind.u64.wrap (hi64 x)) (IntKind.u64.wrap (hi64 y)) (addCa (lo64 x) (lo64 y) 0) (by rw [IntKind.wrap_u64]; omega) (by rw [IntKind.wrap_u64]; omega) hc W
  have e1 := add_lo x y
  have e2 := add_hi x y
  go_enter Try.func75, Try.ntmps75
  go_wp2
  go_returns
  exact ⟨rfl, by go_grown⟩

theorem cmp_any (x y : Int) (hx : In128 x) (hy : In128 y) (w : World) :
    Calls Try.prog 34 #[.agg #[.int .i64 (hi64 x), .int .u64 (lo64 x)], .agg #[.int .i64 (hi64 y), .int .u64 (lo64 y)]] w fun e w' =>
      e = .returned (.int .i64 (cmpI x y)) ∧ Below w.heap.size w w' := by
  go_enter Try.func34, Try.ntmps34
  go_wp2
  all_goals
    go_returns
    refine ⟨ret_intw ?_, by go_grown⟩
    have h1 := in_eq hx hy
    have h2 := in_lt hx hy
    unfold cmpI
    split <;> (try split) <;> omega
theorem of_any (v : Int) (hv : -9223372036854775808 ≤ v ∧ v ≤ 9223372036854775807) (w : World) :
    Calls Try.prog 50 #[.int .i64 v] w fun e w' =>
      e = .returned (.agg #[.int .i64 (hi64 v), .int .u64 (lo64 v)]) ∧ Below w.heap.size w w' := by
  have e1 := of_math v
  have e2 := of_math2 hv
  go_enter Try.func50, Try.ntmps50
  go_wp2
  go_returns
  exact ⟨rfl, by go_grown⟩

theorem cmp_zero (x : Int) (hx : In128 x) (w : World) :
    Calls Try.prog 34 #[.agg #[.int .i64 (hi64 x), .int .u64 (lo64 x)], .agg #[.int .i64 0, .int .u64 0]] w fun e w' =>
      e = .returned (.int .i64 (cmpI x 0)) ∧ Below w.heap.size w w' := by
  have h := cmp_any x 0 hx (by unfold In128; omega) w
  rw [show hi64 0 = 0 by decide +kernel, show lo64 0 = 0 by decide +kernel] at h
  exact h

/-! The same, said of whatever halves: no premise. -/
theorem cmp_s (x y : Int) (w : World) :
    Calls Try.prog 34 #[.agg #[.int .i64 (hi64 x), .int .u64 (lo64 x)], .agg #[.int .i64 (hi64 y), .int .u64 (lo64 y)]] w fun e w' =>
      e = .returned (.int .i64 (cmpI (s128 x) (s128 y))) ∧ Below w.heap.size w w' := by
  have h := cmp_any (s128 x) (s128 y) (s128_in x) (s128_in y) w
  rw [(s128_hi x).1, (s128_hi x).2, (s128_hi y).1, (s128_hi y).2] at h
  exact h
theorem cmp_s0 (x : Int) (w : World) :
    Calls Try.prog 34 #[.agg #[.int .i64 (hi64 x), .int .u64 (lo64 x)], .agg #[.int .i64 0, .int .u64 0]] w fun e w' =>
      e = .returned (.int .i64 (cmpI (s128 x) 0)) ∧ Below w.heap.size w w' := by
  have h := cmp_zero (s128 x) (s128_in x) w
  rw [(s128_hi x).1, (s128_hi x).2] at h
  exact h
end Go.Proofs.Ytcpojadinkonnaa
