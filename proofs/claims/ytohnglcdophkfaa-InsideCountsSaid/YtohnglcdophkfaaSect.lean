/-
  The plain law of sectors: nine sectors and a turn order directions as halves and a turn do; between; no program.
-/
import Derived.Test.YtohnglcdophkfaaTurnMath
import Derived.Test.YtohnglcdophkfaaTurnB
namespace Go.Proofs.Ytohnglcdophkfaa
open Go.RowKit

def sct (x y : Int) : Int := if 0 < x ∧ 0 < y then 2 else if x < 0 ∧ 0 < y then 4 else if x < 0 ∧ y < 0 then 6 else if 0 < x ∧ y < 0 then 8 else if 0 < x then 1 else if 0 < y then 3 else if x < 0 then 5 else if y < 0 then 7 else 0
def btw (a b x : Int) : Bool := decide ((a ≤ x ∧ x ≤ b) ∨ (b ≤ x ∧ x ≤ a))

theorem hasB_btw (ax ay bx by_ px py : Int) : hasB (min ax bx) (min ay by_) (max ax bx) (max ay by_) px py = (btw ax bx px && btw ay by_ py) := by
  unfold hasB btw
  rw [Bool.eq_iff_iff]
  simp only [decide_eq_true_eq, Bool.and_eq_true]
  omega

theorem sct_ways (x y : Int) : (sct x y = 2 ∧ hf x y = 1 ∧ 0 < x ∧ 0 < y) ∨ (sct x y = 4 ∧ hf x y = 1 ∧ x < 0 ∧ 0 < y) ∨ (sct x y = 6 ∧ hf x y = 2 ∧ x < 0 ∧ y < 0) ∨ (sct x y = 8 ∧ hf x y = 2 ∧ 0 < x ∧ y < 0) ∨
    (sct x y = 1 ∧ hf x y = 1 ∧ 0 < x ∧ y = 0) ∨ (sct x y = 3 ∧ hf x y = 1 ∧ x = 0 ∧ 0 < y) ∨ (sct x y = 5 ∧ hf x y = 2 ∧ x < 0 ∧ y = 0) ∨ (sct x y = 7 ∧ hf x y = 2 ∧ x = 0 ∧ y < 0) ∨ (sct x y = 0 ∧ hf x y = 0 ∧ x = 0 ∧ y = 0) := by
  rcases Int.lt_trichotomy x 0 with h | h | h
  · rcases Int.lt_trichotomy y 0 with h' | h' | h'
    · exact Or.inr (Or.inr (Or.inl ⟨by unfold sct; (repeat' split) <;> omega, by unfold hf; (repeat' split) <;> omega, h, h'⟩))
    · exact Or.inr (Or.inr (Or.inr (Or.inr (Or.inr (Or.inr (Or.inl ⟨by unfold sct; (repeat' split) <;> omega, by unfold hf; (repeat' split) <;> omega, h, h'⟩))))))
    · exact Or.inr (Or.inl ⟨by unfold sct; (repeat' split) <;> omega, by unfold hf; (repeat' split) <;> omega, h, h'⟩)
  · rcases Int.lt_trichotomy y 0 with h' | h' | h'
    · exact Or.inr (Or.inr (Or.inr (Or.inr (Or.inr (Or.inr (Or.inr (Or.inl ⟨by unfold sct; (repeat' split) <;> omega, by unfold hf; (repeat' split) <;> omega, h, h'⟩)))))))
    · exact Or.inr (Or.inr (Or.inr (Or.inr (Or.inr (Or.inr (Or.inr (Or.inr (⟨by unfold sct; (repeat' split) <;> omega, by unfold hf; (repeat' split) <;> omega, h, h'⟩))))))))
    · exact Or.inr (Or.inr (Or.inr (Or.inr (Or.inr (Or.inl ⟨by unfold sct; (repeat' split) <;> omega, by unfold hf; (repeat' split) <;> omega, h, h'⟩)))))
  · rcases Int.lt_trichotomy y 0 with h' | h' | h'
    · exact Or.inr (Or.inr (Or.inr (Or.inl ⟨by unfold sct; (repeat' split) <;> omega, by unfold hf; (repeat' split) <;> omega, h, h'⟩)))
    · exact Or.inr (Or.inr (Or.inr (Or.inr (Or.inl ⟨by unfold sct; (repeat' split) <;> omega, by unfold hf; (repeat' split) <;> omega, h, h'⟩))))
    · exact Or.inl ⟨by unfold sct; (repeat' split) <;> omega, by unfold hf; (repeat' split) <;> omega, h, h'⟩

/-- The sign of a product. -/
theorem msign (a b : Int) : (0 < a ∧ 0 < b ∧ 0 < a * b) ∨ (0 < a ∧ b < 0 ∧ a * b < 0) ∨ (a < 0 ∧ 0 < b ∧ a * b < 0) ∨ (a < 0 ∧ b < 0 ∧ 0 < a * b) ∨ ((a = 0 ∨ b = 0) ∧ a * b = 0) := by
  rcases Int.lt_trichotomy a 0 with h | h | h
  · rcases Int.lt_trichotomy b 0 with h' | h' | h'
    · have := Int.mul_pos_of_neg_of_neg h h'; omega
    · subst h'; simp
    · have := Int.mul_neg_of_neg_of_pos h h'; omega
  · subst h; simp
  · rcases Int.lt_trichotomy b 0 with h' | h' | h'
    · have := Int.mul_neg_of_pos_of_neg h h'; omega
    · subst h'; simp
    · have := Int.mul_pos h h'; omega

/-- Sectors and a turn: the order of directions. -/
theorem arn_sct (ux uy vx vy : Int) : arn ux uy vx vy = if sct ux uy < sct vx vy then -1 else if sct vx vy < sct ux uy then 1 else -cmpI (ux * vy) (uy * vx) := by
  have m1 := msign ux vy
  have m2 := msign uy vx
  have hu := sct_ways ux uy
  have hv := sct_ways vx vy
  unfold arn
  obtain ⟨p, hp⟩ : ∃ z, ux * vy = z := ⟨_, rfl⟩
  obtain ⟨q, hq⟩ : ∃ z, uy * vx = z := ⟨_, rfl⟩
  obtain ⟨su, h1⟩ : ∃ z, sct ux uy = z := ⟨_, rfl⟩
  obtain ⟨sv, h2⟩ : ∃ z, sct vx vy = z := ⟨_, rfl⟩
  obtain ⟨fu, h3⟩ : ∃ z, hf ux uy = z := ⟨_, rfl⟩
  obtain ⟨fv, h4⟩ : ∃ z, hf vx vy = z := ⟨_, rfl⟩
  rw [hp] at m1 ⊢
  rw [hq] at m2 ⊢
  rw [h1, h3] at hu
  rw [h2, h4] at hv
  rw [h1, h2, h3, h4]
  clear hp hq h1 h2 h3 h4
  unfold cmpI
  rcases hu with ⟨rfl, rfl, a, b⟩ | ⟨rfl, rfl, a, b⟩ | ⟨rfl, rfl, a, b⟩ | ⟨rfl, rfl, a, b⟩ | ⟨rfl, rfl, a, b⟩ | ⟨rfl, rfl, a, b⟩ | ⟨rfl, rfl, a, b⟩ | ⟨rfl, rfl, a, b⟩ | ⟨rfl, rfl, a, b⟩ <;>
  rcases hv with ⟨rfl, rfl, c, d⟩ | ⟨rfl, rfl, c, d⟩ | ⟨rfl, rfl, c, d⟩ | ⟨rfl, rfl, c, d⟩ | ⟨rfl, rfl, c, d⟩ | ⟨rfl, rfl, c, d⟩ | ⟨rfl, rfl, c, d⟩ | ⟨rfl, rfl, c, d⟩ | ⟨rfl, rfl, c, d⟩ <;>
  first | rfl | (simp <;> (repeat' split) <;> omega)

end Go.Proofs.Ytohnglcdophkfaa
