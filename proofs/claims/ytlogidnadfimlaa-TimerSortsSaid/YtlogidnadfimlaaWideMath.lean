/-
  Plain mathematics: numbers of 128 bits as two halves. No program in sight.
-/
import Derived.RowKit
import Derived.IntWalk
import Derived.Laws.Bits64
namespace Go.Proofs.Ytlogidnadfimlaa
open Go.RowKit (wrap64)

/-- The two halves of a whole number, modulo 2^128. -/
def lo64 (z : Int) : Int := z % 18446744073709551616
def hi64 (z : Int) : Int := wrap64 (z / 18446744073709551616)
/-- A whole number between the bounds of 128 bits with a sign. -/
def In128 (z : Int) : Prop := -170141183460469231731687303715884105728 ≤ z ∧ z ≤ 170141183460469231731687303715884105727
/-- The number that two halves stand for. -/
def of64 (h l : Int) : Int := h * 18446744073709551616 + l

theorem lo_bd (z : Int) : 0 ≤ lo64 z ∧ lo64 z ≤ 18446744073709551615 := by unfold lo64; omega
theorem hi_bd (z : Int) : -9223372036854775808 ≤ hi64 z ∧ hi64 z ≤ 9223372036854775807 := by unfold hi64; unfold wrap64; omega
theorem of_hi_lo {h l : Int} (h1 : -9223372036854775808 ≤ h ∧ h ≤ 9223372036854775807) (h2 : 0 ≤ l ∧ l ≤ 18446744073709551615) :
    h = hi64 (of64 h l) ∧ l = lo64 (of64 h l) := by
  unfold hi64 lo64 of64; unfold wrap64; omega
theorem of64_in {h l : Int} (h1 : -9223372036854775808 ≤ h ∧ h ≤ 9223372036854775807) (h2 : 0 ≤ l ∧ l ≤ 18446744073709551615) : In128 (of64 h l) := by
  unfold In128 of64; omega
theorem eq_iff {x y : Int} : (hi64 x = hi64 y ∧ lo64 x = lo64 y) ↔ x % 340282366920938463463374607431768211456 = y % 340282366920938463463374607431768211456 := by
  unfold hi64 lo64; unfold wrap64; omega
theorem in_eq {x y : Int} (hx : In128 x) (hy : In128 y) : (hi64 x = hi64 y ∧ lo64 x = lo64 y) ↔ x = y := by
  unfold hi64 lo64; unfold wrap64; unfold In128 at hx hy; omega
theorem in_lt {x y : Int} (hx : In128 x) (hy : In128 y) : (hi64 x < hi64 y ∨ hi64 x = hi64 y ∧ lo64 x < lo64 y) ↔ x < y := by
  unfold hi64 lo64; unfold wrap64; unfold In128 at hx hy; omega
theorem hi_neg {x : Int} (hx : In128 x) : hi64 x < 0 ↔ x < 0 := by
  unfold hi64; unfold wrap64; unfold In128 at hx; omega

/-- What math/bits.Add64 and Sub64 answer. -/
def addLo (x y c : Int) : Int := (x + y + c) % 18446744073709551616
def addCa (x y c : Int) : Int := (x + y + c) / 18446744073709551616
def subLo (x y c : Int) : Int := (x + 18446744073709551616 - y - c) % 18446744073709551616
def subBo (x y c : Int) : Int := if x < y + c then 1 else 0
theorem addCa_bd {x y : Int} (hx : 0 ≤ x ∧ x ≤ 18446744073709551615) (hy : 0 ≤ y ∧ y ≤ 18446744073709551615) : 0 ≤ addCa x y 0 ∧ addCa x y 0 ≤ 1 := by unfold addCa; omega
theorem subBo_bd (x y c : Int) : 0 ≤ subBo x y c ∧ subBo x y c ≤ 1 := by unfold subBo; split <;> omega

theorem add_lo (x y : Int) : addLo (lo64 x) (lo64 y) 0 = lo64 (x + y) := by unfold addLo lo64; omega
theorem add_hi (x y : Int) : wrap64 (addLo (IntKind.u64.wrap (hi64 x)) (IntKind.u64.wrap (hi64 y)) (addCa (lo64 x) (lo64 y) 0)) = hi64 (x + y) := by
  rw [IntKind.wrap_u64, IntKind.wrap_u64]; unfold addLo addCa hi64 lo64; unfold wrap64; omega
theorem sub_lo (x y : Int) : subLo (lo64 x) (lo64 y) 0 = lo64 (x - y) := by unfold subLo lo64; omega
theorem sub_hi (x y : Int) : wrap64 (subLo (IntKind.u64.wrap (hi64 x)) (IntKind.u64.wrap (hi64 y)) (subBo (lo64 x) (lo64 y) 0)) = hi64 (x - y) := by
  rw [IntKind.wrap_u64, IntKind.wrap_u64]; unfold subLo subBo hi64 lo64; split <;> (unfold wrap64; omega)

/-- How two whole numbers stand to one another. -/
def cmpI (x y : Int) : Int := if x < y then -1 else if x = y then 0 else 1

theorem sign_math {x : Int} (hx : In128 x) : (hi64 x < 0 → cmpI x 0 = -1) ∧ (0 ≤ hi64 x → hi64 x = 0 → lo64 x = 0 → cmpI x 0 = 0) ∧ (0 ≤ hi64 x → ¬ (hi64 x = 0 ∧ lo64 x = 0) → cmpI x 0 = 1) := by
  have h : In128 0 := by unfold In128; omega
  have h1 := in_eq hx h
  have h2 := hi_neg hx
  rw [show hi64 0 = 0 by decide +kernel, show lo64 0 = 0 by decide +kernel] at h1
  unfold cmpI
  refine ⟨fun a => ?_, fun a b c => ?_, fun a b => ?_⟩ <;> (split <;> (try split) <;> omega)
theorem of_math (v : Int) : IntKind.u64.wrap v = lo64 v := by
  rw [IntKind.wrap_u64]; unfold lo64; rfl
theorem of_math2 {v : Int} (hv : -9223372036854775808 ≤ v ∧ v ≤ 9223372036854775807) : v / 9223372036854775808 = hi64 v := by
  unfold hi64; unfold wrap64; omega
theorem unsigned_math {v : Int} (hv : 0 ≤ v ∧ v ≤ 18446744073709551615) : hi64 v = 0 ∧ lo64 v = v := by
  unfold hi64 lo64; unfold wrap64; omega

theorem wrap_bd (n : Int) : -9223372036854775808 ≤ wrap64 n ∧ wrap64 n ≤ 9223372036854775807 := by unfold wrap64; omega
theorem int64_math {x : Int} (hx : In128 x) :
    ((-9223372036854775808 ≤ x ∧ x ≤ 9223372036854775807) → wrap64 (lo64 x) = x) ∧
    (¬ (-9223372036854775808 ≤ x ∧ x ≤ 9223372036854775807) → ¬ (hi64 (wrap64 (lo64 x)) = hi64 x ∧ lo64 (wrap64 (lo64 x)) = lo64 x)) := by
  unfold hi64 lo64; unfold wrap64; unfold In128 at hx; omega

theorem cmp_self (x : Int) : cmpI x x = 0 := by unfold cmpI; rw [if_neg (by omega), if_pos rfl]
theorem cmp_ways (x y : Int) : (cmpI x y = -1 ∧ cmpI y x = 1 ∧ x < y) ∨ (cmpI x y = 0 ∧ cmpI y x = 0 ∧ x ≤ y ∧ y ≤ x) ∨ (cmpI x y = 1 ∧ cmpI y x = -1 ∧ y < x) := by
  unfold cmpI
  rcases Int.lt_trichotomy x y with h | h | h
  · exact .inl ⟨if_pos h, by rw [if_neg (by omega), if_neg (by omega)], h⟩
  · subst h; exact .inr (.inl ⟨by rw [if_neg (by omega), if_pos rfl], by rw [if_neg (by omega), if_pos rfl], by omega, by omega⟩)
  · exact .inr (.inr ⟨by rw [if_neg (by omega), if_neg (by omega)], if_pos h, h⟩)
theorem halves_ways {x y : Int} (hx : In128 x) (hy : In128 y) (h : x < y ∨ y < x) : (¬ hi64 x = hi64 y) ∨ (hi64 x = hi64 y ∧ ¬ lo64 x = lo64 y) := by
  have := in_eq hx hy
  omega
theorem halves_same {x y : Int} (h : x ≤ y) (h' : y ≤ x) : hi64 x = hi64 y ∧ lo64 x = lo64 y := by
  have : x = y := by omega
  subst this; exact ⟨rfl, rfl⟩

/-- The number that the two halves of x stand for. -/
def s128 (x : Int) : Int := of64 (hi64 x) (lo64 x)
theorem s128_in (x : Int) : In128 (s128 x) := of64_in (hi_bd x) (lo_bd x)
theorem s128_hi (x : Int) : hi64 (s128 x) = hi64 x ∧ lo64 (s128 x) = lo64 x := by
  have h := of_hi_lo (hi_bd x) (lo_bd x)
  exact ⟨h.1.symm, h.2.symm⟩
theorem s128_eq {x : Int} (hx : In128 x) : s128 x = x := by unfold s128 of64 hi64 lo64; unfold wrap64; unfold In128 at hx; omega
theorem s128_zero : s128 0 = 0 := by decide +kernel

attribute [irreducible] hi64 lo64 s128
end Go.Proofs.Ytlogidnadfimlaa
