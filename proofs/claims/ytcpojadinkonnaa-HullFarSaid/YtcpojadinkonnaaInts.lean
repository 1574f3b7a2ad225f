/-
  Contracts of the reference's Int64 and of the law's num and is: from the contract of Round.
-/
import Derived.Test.YtcpojadinkonnaaPair
import Derived.Test.YtcpojadinkonnaaRef
namespace Go.Proofs.Ytcpojadinkonnaa
open Go.RowKit

/-- What Round's contract says. -/
def RoundSays : Prop := ∀ {w0 : World} {v : Value} {x : Int} {k : Nat}, NumAt w0 v x → Small k x.natAbs → k ≤ 40000 → ∀ (w : World), Below w0.heap.size w0 w →
  Calls Try.prog 98 #[v] w fun e w' => e = .returned (.tuple #[.int .i64 (hi64 x), .int .u64 (lo64 x)]) ∧ Below w.heap.size w w'

theorem ret_bool' {a b : Bool} (h : a = b) : Ending.returned (.bool a) = .returned (.bool b) := by rw [h]

theorem ret_ib {a c : Int} {b : Bool} (h : a = c) : Ending.returned (.tuple #[.int .i64 a, .bool b]) = .returned (.tuple #[.int .i64 c, .bool b]) := by rw [h]

theorem small_in {x : Int} (h : In128 x) : Small 9 x.natAbs := by
  unfold Small
  unfold In128 at h
  have : (65536 : Nat) ^ 9 = 22300745198530623141535718272648361505980416 := by decide +kernel
  omega

end Go.Proofs.Ytcpojadinkonnaa
