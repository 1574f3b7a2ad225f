/-
  Contract of the reference's Round: a whole number's two halves, modulo 2^128.
-/
import Derived.Test.YtcpojadinkonnaaRoundA
import Derived.Test.YtcpojadinkonnaaRoundB
import Derived.Test.YtcpojadinkonnaaRoundC
import Derived.Test.YtcpojadinkonnaaInts
namespace Go.Proofs.Ytcpojadinkonnaa
open Go.RowKit

theorem round_math {x : Int} {r : Nat} (h : (r : Int) = x % 340282366920938463463374607431768211456) : wrap64 ((r / 18446744073709551616 : Nat) : Int) = hi64 x ∧ ((r % 18446744073709551616 : Nat) : Int) = lo64 x := by
  unfold hi64 lo64
  unfold wrap64
  omega
theorem ret_pair64 {a b c d : Int} (h : a = c ∧ b = d) : Ending.returned (.tuple #[.int .i64 a, .int .u64 b]) = .returned (.tuple #[.int .i64 c, .int .u64 d]) := by rw [h.1, h.2]
theorem round_says : RoundSays := by
  intro w0 v x k hx hk hk9 w hw
  have p128 : ((2 : Int) ^ 128).natAbs = 340282366920938463463374607431768211456 := by decide +kernel
  obtain ⟨b, A, n, c, ds, rfl, hs, hr, ht, hv⟩ := num_open hx
  have hn := num_len hr ht hv.out hk
  have hvv := hv.out
  rcases Int.lt_or_le x 0 with hneg | hpos
  · obtain rfl : b = true := by rw [hs.out]; simp [hneg]
    rcases Decidable.em (val ds % ((2 : Int) ^ 128).natAbs = 0) with hz | hz
    · refine (round_B hr (by omega) hz w hw).mono ?_
      rintro e w' ⟨r, rfl, hr', hb⟩
      rw [p128] at hz
      exact ⟨ret_pair64 (round_math (by omega)), hb⟩
    · refine (round_C hr (by omega) hz w hw).mono ?_
      rintro e w' ⟨r, rfl, hr', hb⟩
      rw [p128] at hz hr'
      exact ⟨ret_pair64 (round_math (by omega)), hb⟩
  · obtain rfl : b = false := by rw [hs.out]; simp; omega
    refine (round_A hr (by omega) w hw).mono ?_
    rintro e w' ⟨r, rfl, hr', hb⟩
    rw [p128] at hr'
    exact ⟨ret_pair64 (round_math (by omega)), hb⟩

end Go.Proofs.Ytcpojadinkonnaa
