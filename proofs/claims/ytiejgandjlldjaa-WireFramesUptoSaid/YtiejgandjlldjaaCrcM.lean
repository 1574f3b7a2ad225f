/-
  Plain: a sum tells changed bytes apart; what opening a frame says.
-/
import Derived.Test.YtiejgandjlldjaaOpn
namespace Go.Proofs.Ytiejgandjlldjaa

/-! ### One step of a sum -/
def one1 (r : Nat) (c : UInt8) : Nat := r / 256 ^^^ tbl ((r % 256) ^^^ c.toNat)
theorem mor_cons (r : Nat) (c : UInt8) (l : List UInt8) : mor r (c :: l) = mor (one1 r c) l := rfl
theorem one1_lt {r : Nat} (h : r < 4294967296) (c : UInt8) : one1 r c < 4294967296 := Nat.xor_lt_two_pow (n := 32) (by omega) (tbl_lt (ix_lt c))
theorem xor_div (a b k : Nat) : (a ^^^ b) / 2 ^ k = a / 2 ^ k ^^^ b / 2 ^ k := by
  rw [← Nat.shiftRight_eq_div_pow, ← Nat.shiftRight_eq_div_pow, ← Nat.shiftRight_eq_div_pow, Nat.shiftRight_xor_distrib]
theorem xor_inj {a b c : Nat} (h : a ^^^ c = b ^^^ c) : a = b := by
  have := congrArg (· ^^^ c) h
  simpa [Nat.xor_assoc] using this
/-- The highest bytes of the table are all different. -/
theorem tops : ∀ i, i < 256 → ∀ j, j < 256 → tbl i / 2 ^ 24 = tbl j / 2 ^ 24 → i = j := by decide +kernel
theorem one1_top {r : Nat} (h : r < 4294967296) (c : UInt8) : one1 r c / 2 ^ 24 = tbl ((r % 256) ^^^ c.toNat) / 2 ^ 24 := by
  unfold one1
  rw [xor_div, show r / 256 / 2 ^ 24 = 0 by omega, Nat.zero_xor]
theorem div_ne {a b k : Nat} (hk : k ≤ 24) (h : ¬ a / 2 ^ 24 = b / 2 ^ 24) : ¬ a / 2 ^ k = b / 2 ^ k := fun e => h (by
  have : ∀ x : Nat, x / 2 ^ 24 = x / 2 ^ k / 2 ^ (24 - k) := fun x => by rw [Nat.div_div_eq_div_mul, ← Nat.pow_add, Nat.add_sub_cancel' hk]
  rw [this a, this b, e])
/-- What is told apart by its higher bytes is so, behind a step, by one byte more. -/
theorem one1_apart {x y m : Nat} (hx : x < 4294967296) (hy : y < 4294967296) (c d : UInt8) (hm : m ≤ 2) (h : ¬ x / 2 ^ (8 * (m + 1)) = y / 2 ^ (8 * (m + 1))) : ¬ one1 x c / 2 ^ (8 * m) = one1 y d / 2 ^ (8 * m) := by
  by_cases hj : (x % 256) ^^^ c.toNat = (y % 256) ^^^ d.toNat
  · intro e
    unfold one1 at e
    rw [hj, xor_div, xor_div] at e
    have e2 := xor_inj e
    apply h
    have : ∀ z : Nat, z / 2 ^ (8 * (m + 1)) = z / 256 / 2 ^ (8 * m) := fun z => by
      rw [Nat.div_div_eq_div_mul, show (256 : Nat) = 2 ^ 8 from rfl, ← Nat.pow_add]
      congr 2
      omega
    rw [this x, this y, e2]
  · refine div_ne (by omega) fun e => hj ?_
    rw [one1_top hx, one1_top hy] at e
    exact tops _ (ix_lt c) _ (ix_lt d) e
theorem one1_inj {x y : Nat} (hx : x < 4294967296) (hy : y < 4294967296) (c : UInt8) (h : ¬ x = y) : ¬ one1 x c = one1 y c := by
  by_cases hj : (x % 256) ^^^ c.toNat = (y % 256) ^^^ c.toNat
  · intro e
    unfold one1 at e
    rw [hj] at e
    have e2 := xor_inj e
    have e3 := xor_inj hj
    omega
  · intro e
    have e2 : one1 x c / 2 ^ 24 = one1 y c / 2 ^ 24 := by rw [e]
    rw [one1_top hx, one1_top hy] at e2
    exact hj (tops _ (ix_lt c) _ (ix_lt c) e2)
theorem mor_inj {x y : Nat} (hx : x < 4294967296) (hy : y < 4294967296) (h : ¬ x = y) (l : List UInt8) : ¬ mor x l = mor y l := by
  induction l generalizing x y with
  | nil => exact h
  | cons c l ih => rw [mor_cons, mor_cons]; exact ih (one1_lt hx c) (one1_lt hy c) (one1_inj hx hy c h)
theorem mor_apart : ∀ (k : Nat) (_ : k ≤ 3) (l l' : List UInt8) (x y : Nat), x < 4294967296 → y < 4294967296 → l.length = l'.length → l.drop k = l'.drop k → ¬ x / 2 ^ (8 * k) = y / 2 ^ (8 * k) → ¬ mor x l = mor y l'
  | 0, _, l, l', x, y, hx, hy, hl, hd, h => by
    rw [List.drop_zero, List.drop_zero] at hd
    rw [← hd]
    exact mor_inj hx hy (fun e => h (by rw [e])) l
  | k + 1, hk, [], l', x, y, hx, hy, hl, hd, h => by
    have : l' = [] := List.eq_nil_of_length_eq_zero hl.symm
    subst this
    exact fun e => h (by rw [show x = y from e])
  | k + 1, hk, c :: l, [], x, y, hx, hy, hl, hd, h => by simp at hl
  | k + 1, hk, c :: l, d :: l', x, y, hx, hy, hl, hd, h => by
    rw [mor_cons, mor_cons]
    exact mor_apart k (by omega) l l' _ _ (one1_lt hx c) (one1_lt hy d) (by simpa using hl) (by simpa using hd) (one1_apart hx hy c d (by omega) h)
theorem mor_four : ∀ (k : Nat) (_ : k ≤ 4) (l l' : List UInt8) (x : Nat), x < 4294967296 → l.length = l'.length → l.drop k = l'.drop k → ¬ l = l' → ¬ mor x l = mor x l'
  | 0, _, l, l', x, hx, hl, hd, h => absurd hd h
  | k + 1, hk, [], l', x, hx, hl, hd, h => absurd (List.eq_nil_of_length_eq_zero hl.symm).symm h
  | k + 1, hk, c :: l, [], x, hx, hl, hd, h => by simp at hl
  | k + 1, hk, c :: l, d :: l', x, hx, hl, hd, h => by
    rw [mor_cons, mor_cons]
    by_cases hc : c = d
    · subst hc
      exact mor_four k (by omega) l l' _ (one1_lt hx c) (by simpa using hl) (by simpa using hd) (fun e => h (by rw [e]))
    · refine mor_apart k (by omega) l l' _ _ (one1_lt hx c) (one1_lt hx d) (by simpa using hl) (by simpa using hd) ?_
      refine div_ne (by omega) fun e => hc ?_
      rw [one1_top hx, one1_top hx] at e
      have e2 := tops _ (ix_lt c) _ (ix_lt d) e
      have e3 := xor_inj ((Nat.xor_comm _ _).trans (e2.trans (Nat.xor_comm _ _)))
      exact UInt8.toNat_inj.1 e3
/-- Up to four neighbours changed. -/
theorem mor_window (p l l' : List UInt8) (x : Nat) (hx : x < 4294967296) (hl : l.length = l'.length) (i : Nat) (h1 : l.take i = l'.take i) (h2 : l.drop (i + 4) = l'.drop (i + 4)) (hne : ¬ l = l') : ¬ mor x (p ++ l) = mor x (p ++ l') := by
  rw [← List.take_append_drop i l, ← List.take_append_drop i l', h1, ← List.append_assoc, ← List.append_assoc, mor_append, mor_append _ (p ++ l'.take i)]
  refine mor_four 4 (by omega) _ _ _ (mor_lt hx _) (by rw [List.length_drop, List.length_drop, hl]) (by rw [List.drop_drop, List.drop_drop, h2]) fun e => hne ?_
  rw [← List.take_append_drop i l, ← List.take_append_drop i l', h1, e]

end Go.Proofs.Ytiejgandjlldjaa
