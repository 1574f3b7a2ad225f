/-
  Plain mathematics: bits of a list of digits; a digit set; long multiplication and division by steps. No program in sight.
-/
import Derived.Test.YtohnglcdophkfaaNat
namespace Go.Proofs.Ytohnglcdophkfaa

theorem val_div {ds : List Nat} (h : Digs ds) (j : Nat) : val ds / 65536 ^ j = val (ds.drop j) := by
  rcases Nat.le_total j ds.length with hj | hj
  · rw [val_split ds j hj]
    have hl := val_lt (h.take j)
    rw [List.length_take, Nat.min_eq_left hj] at hl
    rw [Nat.add_mul_div_left _ _ (Nat.pow_pos (by omega)), Nat.div_eq_of_lt hl]; omega
  · rw [List.drop_of_length_le hj]
    have hl := val_lt h
    have h2 : 65536 ^ ds.length ≤ 65536 ^ j := Nat.pow_le_pow_right (by omega) hj
    rw [Nat.div_eq_of_lt (by omega)]; rfl
theorem val_digit {ds : List Nat} (h : Digs ds) (j : Nat) : val ds / 65536 ^ j % 65536 = ds.getD j 0 := by
  rw [val_div h, val_drop]
  have := h.getD j
  omega
theorem small_bit (x r : Nat) (hr : r < 16) : x % 65536 / 2 ^ r % 2 = x / 2 ^ r % 2 := by
  have : r = 0 ∨ r = 1 ∨ r = 2 ∨ r = 3 ∨ r = 4 ∨ r = 5 ∨ r = 6 ∨ r = 7 ∨ r = 8 ∨ r = 9 ∨ r = 10 ∨ r = 11 ∨ r = 12 ∨ r = 13 ∨ r = 14 ∨ r = 15 := by omega
  rcases this with rfl | rfl | rfl | rfl | rfl | rfl | rfl | rfl | rfl | rfl | rfl | rfl | rfl | rfl | rfl | rfl <;> simp <;> omega
theorem val_bit {ds : List Nat} (h : Digs ds) (i : Nat) : ds.getD (i / 16) 0 / 2 ^ (i % 16) % 2 = val ds / 2 ^ i % 2 := by
  rw [← val_digit h, small_bit _ _ (by omega), Nat.div_div_eq_div_mul]
  have e : (65536 : Nat) ^ (i / 16) * 2 ^ (i % 16) = 2 ^ i := by
    rw [show (65536 : Nat) = 2 ^ 16 from rfl, ← Nat.pow_mul, ← Nat.pow_add]
    congr 1; omega
  rw [e]
theorem div_two_pow (m i : Nat) : m / 2 ^ i = 2 * (m / 2 ^ (i + 1)) + m / 2 ^ i % 2 := by
  rw [Nat.pow_succ, ← Nat.div_div_eq_div_mul]; omega
theorem val_lt_bits {ds : List Nat} (h : Digs ds) : val ds / 2 ^ (ds.length * 16) = 0 := by
  have hl := val_lt h
  rw [show (65536 : Nat) = 2 ^ 16 from rfl, ← Nat.pow_mul, Nat.mul_comm] at hl
  exact Nat.div_eq_of_lt hl
/-- A step of the division: the remainder doubled, a bit more. -/
theorem div_step {q b l m i bit : Nat} (h : q * b + l = m / 2 ^ (i + 1)) (hb : bit = m / 2 ^ i % 2) : 2 * q * b + (2 * l + bit) = m / 2 ^ i := by
  rw [div_two_pow m i, ← h, ← hb, Nat.mul_assoc]; omega
theorem div_done {q b l m : Nat} (h : q * b + l = m) (hl : l < b) : q = m / b ∧ l = m % b := by
  subst h
  rw [Nat.mul_comm]
  constructor
  · rw [Nat.mul_add_div (by omega), Nat.div_eq_of_lt hl]; rfl
  · rw [Nat.mul_add_mod, Nat.mod_eq_of_lt hl]

theorem val_set (xs : List Nat) (p d : Nat) (hp : p < xs.length) : val (xs.set p d) + 65536 ^ p * xs.getD p 0 = val xs + 65536 ^ p * d := by
  induction xs generalizing p with
  | nil => simp at hp
  | cons x xs ih =>
    cases p with
    | zero => simp [val]; omega
    | succ p =>
      have := ih p (by simpa using hp)
      simp only [List.set_cons_succ, val, List.getD_cons_succ, Nat.pow_succ]
      generalize val (xs.set p d) = V at *
      generalize val xs = Y at *
      generalize xs.getD p 0 = u at *
      rw [Nat.mul_comm (65536 ^ p) 65536, Nat.mul_assoc, Nat.mul_assoc]
      omega
theorem Digs.set {xs : List Nat} (h : Digs xs) {p d : Nat} (hd : d < 65536) : Digs (xs.set p d) := fun x hx => by
  rcases List.mem_or_eq_of_mem_set hx with h0 | h0
  · exact h x h0
  · omega
theorem getD_set_eq (xs : List Nat) (p d : Nat) (hp : p < xs.length) : (xs.set p d).getD p 0 = d := by
  rw [List.getD_eq_getElem?_getD, List.getElem?_set_self hp]; rfl
theorem getD_set_ne (xs : List Nat) (p q d : Nat) (h : p ≠ q) : (xs.set p d).getD q 0 = xs.getD q 0 := by
  rw [List.getD_eq_getElem?_getD, List.getElem?_set_ne h, List.getD_eq_getElem?_getD]
/-- A step of the long multiplication. -/
theorem mul_step {V X x s ca f d D P G : Nat} (hs : s = x + f * d + ca) (hset : V + P * x = X + P * (s % 65536)) (hinv : X + P * (ca + f * (d + 65536 * D)) = G) :
    V + P * 65536 * (s / 65536 + f * D) = G := by
  have e : P * (s % 65536) + P * 65536 * (s / 65536 + f * D) = P * x + P * (ca + f * (d + 65536 * D)) := by
    have e1 : s % 65536 + 65536 * (s / 65536 + f * D) = x + (ca + f * (d + 65536 * D)) := by
      have : f * (d + 65536 * D) = f * d + 65536 * (f * D) := by rw [Nat.mul_add, Nat.mul_left_comm]
      omega
    rw [Nat.mul_assoc, ← Nat.mul_add, ← Nat.mul_add, e1]
  omega
theorem val_replicate (n : Nat) : val (List.replicate n 0) = 0 := by
  induction n with
  | zero => rfl
  | succ n ih => rw [List.replicate_succ, val, ih]
theorem digs_replicate (n : Nat) : Digs (List.replicate n 0) := fun x hx => by
  have := List.eq_of_mem_replicate hx
  omega
theorem val_le_pow_zero {xs : List Nat} (p : Nat) (h : ∀ q, p ≤ q → xs.getD q 0 = 0) : val (xs.drop p) = 0 := by
  by_cases hp : p < xs.length
  · have hlt : xs.length - (p + 1) < xs.length - p := by omega
    rw [val_drop, h p (Nat.le_refl _), val_le_pow_zero (p + 1) (fun q hq => h q (by omega))]
  · rw [List.drop_of_length_le (by omega)]; rfl
termination_by xs.length - p

end Go.Proofs.Ytohnglcdophkfaa
