/-
  SegSides: the ways ahead.
-/
import Derived.Test.YtpjgghakeaajbaaLives
import Derived.Test.YtpjgghakeaajbaaSegR
namespace Go.Proofs.Ytpjgghakeaajbaa
open Go.RowKit

theorem five (a b c d : Bool) : a = false ∨ (a = true ∧ b = false) ∨ (a = true ∧ b = true ∧ c = false) ∨ (a = true ∧ b = true ∧ c = true ∧ d = false) ∨ (a = true ∧ b = true ∧ c = true ∧ d = true) := by
  cases a <;> cases b <;> cases c <;> cases d <;> simp
theorem more5 (r more : Int) (p n : Bool) : more ≤ r ∨ (r < more ∧ p = false ∧ n = false) ∨ (r < more ∧ p = false ∧ n = true) ∨ (r < more ∧ p = true ∧ n = false) ∨ (r < more ∧ p = true ∧ n = true) := by
  rcases Int.lt_or_le r more with h | h
  · cases p <;> cases n <;> simp [h]
  · exact Or.inl h

end Go.Proofs.Ytpjgghakeaajbaa
