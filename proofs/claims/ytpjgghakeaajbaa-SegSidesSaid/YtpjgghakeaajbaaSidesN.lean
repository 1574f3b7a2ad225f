/-
  SegSides: the ways ahead where both ends are one.
-/
import Derived.Test.YtpjgghakeaajbaaSidesM
namespace Go.Proofs.Ytpjgghakeaajbaa

theorem four5 (a c d : Bool) : a = false ∨ (a = true ∧ c = false) ∨ (a = true ∧ c = true ∧ d = false) ∨ (a = true ∧ c = true ∧ d = true) := by
  cases a <;> cases c <;> cases d <;> simp

end Go.Proofs.Ytpjgghakeaajbaa
