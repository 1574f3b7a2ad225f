/-
  Contract of the reference's Pair: Hi times 2^64, and Lo.
-/
import Derived.Test.YtcpojadinkonnaaRef
import Derived.Test.YtcpojadinkonnaaWide
namespace Go.Proofs.Ytcpojadinkonnaa
open Go.RowKit

theorem num_of_mag {w : World} {v : Value} {m : Nat} (h : MagAt w v false m) : NumAt w v (m : Int) := by
  unfold NumAt
  rw [show decide ((m : Int) < 0) = false by simp; done, Int.natAbs_natCast]
  exact h
theorem small_64 {h : Int} (bh : -9223372036854775808 ≤ h ∧ h ≤ 9223372036854775807) : Small 9 h.natAbs := by
  unfold Small
  have : (65536 : Nat) ^ 9 = 22300745198530623141535718272648361505980416 := by decide +kernel
  omega
theorem small_p64 : Small 9 ((2 : Int) ^ 64).natAbs := by unfold Small; decide +kernel
theorem small_prod {h : Int} (bh : -9223372036854775808 ≤ h ∧ h ≤ 9223372036854775807) : Small 9 (h * 2 ^ 64).natAbs := by
  unfold Small
  have : (65536 : Nat) ^ 9 = 22300745198530623141535718272648361505980416 := by decide +kernel
  have h2 : (2 : Int) ^ 64 = 18446744073709551616 := by decide +kernel
  rw [h2]
  omega
theorem of64_eq (h l : Int) : h * 2 ^ 64 + l = of64 h l := by
  have h2 : (2 : Int) ^ 64 = 18446744073709551616 := by decide +kernel
  rw [h2]; rfl

end Go.Proofs.Ytcpojadinkonnaa
