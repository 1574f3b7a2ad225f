/-
  The plain arithmetic of math/bits.Div64 (a quotient digit to the base 2^32, guessed and brought down).
-/
import Derived.Test.YtedodoaeecbalaaFrame
namespace Go.Proofs.Ytedodoaeecbalaa
open Go.RowKit

/-- The guess q with its rest r: yn1 * q + r = U, and q is not below the digit. -/
structure Guess (U u yn1 yn0 q r : Nat) : Prop where
  sum : q * yn1 + r = U
  lim : r < 4294967296
  top : U * 4294967296 + u < (q + 1) * (yn1 * 4294967296 + yn0)

theorem dm_split (q yn1 yn0 : Nat) : q * (yn1 * 4294967296 + yn0) = q * yn1 * 4294967296 + q * yn0 := by rw [Nat.mul_add q (yn1 * 4294967296) yn0, Nat.mul_assoc q yn1 4294967296]
theorem dm_split1 (q yn1 yn0 : Nat) : (q + 1) * (yn1 * 4294967296 + yn0) = q * yn1 * 4294967296 + q * yn0 + (yn1 * 4294967296 + yn0) := by rw [Nat.add_mul q 1 (yn1 * 4294967296 + yn0), Nat.one_mul, dm_split q yn1 yn0]

theorem guess_start {U u yn1 yn0 : Nat} (h1 : 2147483648 ≤ yn1) (h2 : yn1 < 4294967296) (hu : u < 4294967296) :
    Guess U u yn1 yn0 (U / yn1) (U - U / yn1 * yn1) := by
  have a := Nat.div_add_mod U yn1
  have b := Nat.mod_lt U (show 0 < yn1 by omega)
  rw [Nat.mul_comm] at a
  refine ⟨by omega, by omega, ?_⟩
  rw [dm_split1 (U / yn1) yn1 yn0]
  obtain ⟨p, hp⟩ : ∃ z, U / yn1 * yn1 = z := ⟨_, rfl⟩
  rw [hp] at a ⊢
  omega

theorem guess_le {U u yn1 yn0 q r : Nat} (g : Guess U u yn1 yn0 q r) (h1 : 2147483648 ≤ yn1) (hU : U < 18446744073709551616) : q ≤ 8589934592 ∧ q * yn1 ≤ U := by
  have a := g.sum
  refine ⟨?_, by omega⟩
  rcases Nat.lt_or_ge 8589934592 q with h | h
  · have := Nat.mul_le_mul (show 8589934593 ≤ q by omega) h1
    omega
  · exact h

theorem down_core {U u yn1 yn0 P1 P0 r : Nat} (h : P1 + yn1 + r = U) (hc : r * 4294967296 + u < P0 + yn0) : U * 4294967296 + u < (P1 + yn1) * 4294967296 + (P0 + yn0) := by
  rw [← h, Nat.add_mul (P1 + yn1) r 4294967296, Nat.add_assoc]
  exact Nat.add_lt_add_left hc _

/-- The guess is too great: down by one. -/
theorem guess_down {U u yn1 yn0 q r : Nat} (g : Guess U u yn1 yn0 q r) (hU : U < yn1 * 4294967296 + yn0) (hu : u < 4294967296) (_ : yn0 < 4294967296)
    (hc : 4294967296 ≤ q ∨ r * 4294967296 + u < q * yn0) : 0 < q ∧ ((q - 1) * yn1 + (r + yn1) = U) ∧ U * 4294967296 + u < (q - 1 + 1) * (yn1 * 4294967296 + yn0) := by
  have hq : 0 < q := by
    rcases Nat.eq_zero_or_pos q with h | h
    · subst h; omega
    · exact h
  obtain ⟨q, rfl⟩ : ∃ k, q = k + 1 := ⟨q - 1, by omega⟩
  have a := g.sum
  rw [Nat.add_mul q 1 yn1, Nat.one_mul] at a
  refine ⟨by omega, by rw [show q + 1 - 1 = q by omega]; omega, ?_⟩
  rw [show q + 1 - 1 + 1 = q + 1 by omega]
  rcases hc with hc | hc
  · have e1 := Nat.mul_le_mul_right (yn1 * 4294967296 + yn0) hc
    obtain ⟨p, hp⟩ : ∃ z, (q + 1) * (yn1 * 4294967296 + yn0) = z := ⟨_, rfl⟩
    rw [hp] at e1 ⊢
    omega
  · have m1 : (q + 1) * yn1 = q * yn1 + yn1 := Nat.succ_mul q yn1
    have m0 : (q + 1) * yn0 = q * yn0 + yn0 := Nat.succ_mul q yn0
    rw [dm_split (q + 1) yn1 yn0, m1, m0]
    exact down_core a (Nat.lt_of_lt_of_eq hc m0)

/-- The guess is the digit. -/
theorem guess_done {U u yn1 yn0 q r : Nat} (hs : q * yn1 + r = U) (ht : U * 4294967296 + u < (q + 1) * (yn1 * 4294967296 + yn0)) (hc : q * yn0 ≤ r * 4294967296 + u) :
    q = (U * 4294967296 + u) / (yn1 * 4294967296 + yn0) := by
  refine ((Nat.div_eq_iff (by rw [dm_split1 q yn1 yn0] at ht; omega)).2 ⟨?_, ?_⟩).symm
  · rw [dm_split q yn1 yn0]; omega
  · rw [dm_split1 q yn1 yn0] at ht; rw [dm_split q yn1 yn0]; omega

/-- The rest has more than 32 bits: the guess is the digit. -/
theorem guess_break {U u yn1 yn0 q r : Nat} (hs : q * yn1 + r = U) (ht : U * 4294967296 + u < (q + 1) * (yn1 * 4294967296 + yn0)) (hr : 4294967296 ≤ r)
    (hU : U < yn1 * 4294967296 + yn0) (h0 : yn0 < 4294967296) (_ : 0 < yn1) : q = (U * 4294967296 + u) / (yn1 * 4294967296 + yn0) := by
  refine guess_done hs ht ?_
  have hq : q < 4294967296 := by
    rcases Nat.lt_or_ge q 4294967296 with h | h
    · exact h
    · have := Nat.mul_le_mul_right yn1 h
      omega
  have := Nat.mul_le_mul (show q ≤ 4294967295 by omega) (show yn0 ≤ 4294967295 by omega)
  omega

/-- The digit is below 2^32. -/
theorem digit_lt {U u Y : Nat} (hU : U < Y) (hu : u < 4294967296) : (U * 4294967296 + u) / Y < 4294967296 := by
  rw [Nat.div_lt_iff_lt_mul (by omega)]
  have := Nat.mul_le_mul_right 4294967296 (show U + 1 ≤ Y by omega)
  rw [Nat.add_mul U 1 4294967296, Nat.mul_comm Y 4294967296] at this
  omega

/-- Two digits make the quotient. -/
theorem digits_two {N Y U u1 u0 : Nat} (hY : 0 < Y) (hN : N = (U * 4294967296 + u1) * 4294967296 + u0) :
    (U * 4294967296 + u1) / Y * 4294967296 + ((U * 4294967296 + u1) % Y * 4294967296 + u0) / Y = N / Y ∧
    ((U * 4294967296 + u1) % Y * 4294967296 + u0) % Y = N % Y := by
  have a := Nat.div_add_mod (U * 4294967296 + u1) Y
  obtain ⟨q, hq⟩ : ∃ z, (U * 4294967296 + u1) / Y = z := ⟨_, rfl⟩
  obtain ⟨r, hr⟩ : ∃ z, (U * 4294967296 + u1) % Y = z := ⟨_, rfl⟩
  rw [hq, hr] at a
  rw [hq, hr, hN, ← a]
  have e : (Y * q + r) * 4294967296 + u0 = (r * 4294967296 + u0) + Y * (q * 4294967296) := by
    have m1 : (Y * q + r) * 4294967296 = Y * q * 4294967296 + r * 4294967296 := Nat.add_mul (Y * q) r 4294967296
    have m2 : Y * q * 4294967296 = Y * (q * 4294967296) := Nat.mul_assoc Y q 4294967296
    rw [m1, m2, Nat.add_assoc, Nat.add_comm]
  rw [e, Nat.add_mul_div_left _ _ hY, Nat.add_mul_mod_self_left]
  exact ⟨Nat.add_comm _ _, rfl⟩

end Go.Proofs.Ytedodoaeecbalaa
