/-
  Plain: rows of words of 32 bits: a word set; sums, differences, products step by step.
-/
import Derived.Test.YtpjgghakeaajbaaNatW
namespace Go.Proofs.Ytpjgghakeaajbaa

theorem val_set (xs : List Nat) (p d : Nat) (hp : p < xs.length) : val (xs.set p d) + 4294967296 ^ p * xs.getD p 0 = val xs + 4294967296 ^ p * d := by
  induction xs generalizing p with
  | nil => simp at hp
  | cons x xs ih =>
    cases p with
    | zero => simp [val]; omega
    | succ p =>
      have := ih p (by simpa using hp)
      simp only [List.set_cons_succ, val, List.getD_cons_succ, Nat.pow_succ]
      generalize val (xs.set p d) = V at *
      generalize val xs = Y at *
      generalize xs.getD p 0 = u at *
      rw [Nat.mul_comm (4294967296 ^ p) 4294967296, Nat.mul_assoc, Nat.mul_assoc]
      omega
theorem Digs.set {xs : List Nat} (h : Digs xs) {p d : Nat} (hd : d < 4294967296) : Digs (xs.set p d) := fun x hx => by
  rcases List.mem_or_eq_of_mem_set hx with h0 | h0
  · exact h x h0
  · omega
theorem getD_set_eq (xs : List Nat) (p d : Nat) (hp : p < xs.length) : (xs.set p d).getD p 0 = d := by
  rw [List.getD_eq_getElem?_getD, List.getElem?_set_self hp]; rfl
theorem getD_set_ne (xs : List Nat) (p q d : Nat) (h : p ≠ q) : (xs.set p d).getD q 0 = xs.getD q 0 := by
  rw [List.getD_eq_getElem?_getD, List.getElem?_set_ne h, List.getD_eq_getElem?_getD]
theorem val_replicate (n : Nat) : val (List.replicate n 0) = 0 := by
  induction n with
  | zero => rfl
  | succ n ih => rw [List.replicate_succ, val, ih]
theorem digs_replicate (n : Nat) : Digs (List.replicate n 0) := fun x hx => by
  have := List.eq_of_mem_replicate hx
  omega
theorem rep_zero (n q : Nat) : (List.replicate n 0).getD q 0 = 0 := by
  rw [List.getD_eq_getElem?_getD, List.getElem?_replicate]; split <;> rfl
def dig (ds : List Nat) (i : Nat) : Nat := ds.getD i 0
theorem dig_lt {ds : List Nat} (h : Digs ds) (i : Nat) : dig ds i < 4294967296 := h.getD i
theorem dig_out {ds : List Nat} {i : Nat} (h : ds.length ≤ i) : dig ds i = 0 := by
  unfold dig
  rw [List.getD_eq_getElem?_getD, List.getElem?_eq_none h]; rfl
theorem dig_drop (ds : List Nat) (i : Nat) : val (ds.drop i) = dig ds i + 4294967296 * val (ds.drop (i + 1)) := val_drop ds i
theorem drop_out {ds : List Nat} {i : Nat} (h : ds.length ≤ i) : val (ds.drop i) = 0 := by rw [List.drop_of_length_le h]; rfl
theorem take_dig {ds : List Nat} {i : Nat} (h : i < ds.length) : ds.take (i + 1) = ds.take i ++ [dig ds i] := by
  rw [List.take_add_one, List.getElem?_eq_getElem h]
  unfold dig
  rw [List.getD_eq_getElem?_getD, List.getElem?_eq_getElem h]; rfl
theorem val_take_succ (ds : List Nat) (i : Nat) : val (ds.take (i + 1)) = val (ds.take i) + 4294967296 ^ i * dig ds i := by
  rcases Nat.lt_or_ge i ds.length with h | h
  · rw [take_dig h, val_snoc, List.length_take, Nat.min_eq_left (Nat.le_of_lt h)]
  · rw [List.take_of_length_le h, List.take_of_length_le (by omega), dig_out h, Nat.mul_zero, Nat.add_zero]
/-- A step of the sum. -/
theorem sum_step0 {V X P B va vb da db ca s m q : Nat} (hmq : m + B * q = s) (hs : s = da + db + ca) (hset : V + P * 0 = X + P * m) (hinv : X + P * ca = va + vb) :
    V + P * B * q = (va + P * da) + (vb + P * db) := by
  have e : P * m + P * B * q = P * da + P * db + P * ca := by rw [Nat.mul_assoc, ← Nat.mul_add, hmq, hs, Nat.mul_add, Nat.mul_add]
  generalize P * B * q = r at *
  generalize P * m = u at *
  generalize P * da = x at *
  generalize P * db = y at *
  generalize P * ca = z at *
  omega
theorem sum_step {V X P va vb da db ca s : Nat} (hs : s = da + db + ca) (hset : V + P * 0 = X + P * (s % 4294967296)) (hinv : X + P * ca = va + vb) :
    V + P * 4294967296 * (s / 4294967296) = (va + P * da) + (vb + P * db) := sum_step0 (Nat.mod_add_div _ _) hs hset hinv
/-- A step of the difference. -/
theorem less_step0 {V X P B va vb da db bo s m q q' : Nat} (hmq : m + B * q = s) (hq : q' + q = 1) (hs : s + db + bo = da + B) (hset : V + P * 0 = X + P * m) (hinv : X + vb = va + P * bo) :
    V + (vb + P * db) = (va + P * da) + P * B * q' := by
  have e : P * m + P * B * q = P * s := by rw [Nat.mul_assoc, ← Nat.mul_add, hmq]
  have e2 : P * s + P * db + P * bo = P * da + P * B := by rw [← Nat.mul_add, ← Nat.mul_add, hs, Nat.mul_add]
  have e3 : P * B * q' + P * B * q = P * B := by rw [← Nat.mul_add, hq, Nat.mul_one]
  generalize P * B * q' = r at *
  generalize P * B * q = r' at *
  generalize P * B = r0 at *
  generalize P * m = u at *
  generalize P * s = u' at *
  generalize P * da = x at *
  generalize P * db = y at *
  generalize P * bo = z at *
  omega
theorem less_step' {V X P va vb da db bo s : Nat} (hs : s + db + bo = da + 4294967296) (hb : s / 4294967296 ≤ 1) (hset : V + P * 0 = X + P * (s % 4294967296)) (hinv : X + vb = va + P * bo) :
    V + (vb + P * db) = (va + P * da) + P * 4294967296 * (1 - s / 4294967296) := less_step0 (Nat.mod_add_div _ _) (Nat.sub_add_cancel hb) hs hset hinv
theorem sum_end {X Q ca va vb : Nat} (h : X + Q * ca = va + vb) (ha : va + vb < Q) : X = va + vb := by
  rcases Nat.eq_zero_or_pos ca with h0 | h0
  · subst h0
    omega
  · exfalso
    have : Q * 1 ≤ Q * ca := Nat.mul_le_mul_left _ h0
    omega
theorem less_end {X P bo va vb : Nat} (h : X + vb = va + P * bo) (hX : X < P) (hv : vb ≤ va) : X = va - vb := by
  rcases Nat.eq_zero_or_pos bo with h0 | h0
  · subst h0
    omega
  · exfalso
    have : P * 1 ≤ P * bo := Nat.mul_le_mul_left _ h0
    omega
/-- A step of the long multiplication. -/
theorem mul_step0 {V X x s ca f d D P B G m q : Nat} (hmq : m + B * q = s) (hs : s = x + f * d + ca) (hset : V + P * x = X + P * m) (hinv : X + P * (ca + f * (d + B * D)) = G) :
    V + P * B * (q + f * D) = G := by
  have e1 : m + B * (q + f * D) = x + (ca + f * (d + B * D)) := by
    have e : f * (d + B * D) = f * d + B * (f * D) := by rw [Nat.mul_add, Nat.mul_left_comm]
    rw [e, Nat.mul_add]
    generalize B * (f * D) = r at *
    generalize B * q = t at *
    generalize f * d = u at *
    omega
  have e2 : P * m + P * B * (q + f * D) = P * x + P * (ca + f * (d + B * D)) := by rw [Nat.mul_assoc, ← Nat.mul_add, ← Nat.mul_add, e1]
  generalize P * B * (q + f * D) = r at *
  generalize P * (ca + f * (d + B * D)) = t at *
  generalize P * m = u at *
  generalize P * x = v at *
  omega
theorem mul_step {V X x s ca f d D P G : Nat} (hs : s = x + f * d + ca) (hset : V + P * x = X + P * (s % 4294967296)) (hinv : X + P * (ca + f * (d + 4294967296 * D)) = G) :
    V + P * 4294967296 * (s / 4294967296 + f * D) = G := mul_step0 (Nat.mod_add_div _ _) hs hset hinv
theorem tight_take {ds : List Nat} {n : Nat} (hn : n ≤ ds.length) (h : n = 0 ∨ ¬ dig ds (n - 1) = 0) : Tight (ds.take n) := by
  unfold Tight
  rw [List.getLast?_eq_getElem?]
  rw [List.length_take, Nat.min_eq_left hn]
  rcases h with h | h
  · subst h; simp
  · rcases Nat.eq_zero_or_pos n with h0 | h0
    · subst h0; simp
    · rw [List.getElem?_take, if_pos (by omega), List.getElem?_eq_getElem (by omega)]
      intro e
      apply h
      unfold dig
      rw [List.getD_eq_getElem?_getD, List.getElem?_eq_getElem (by omega)]
      simpa using e
theorem drop_zero_step {ds : List Nat} {n : Nat} (hn : 0 < n) (h : val (ds.drop n) = 0) (h0 : dig ds (n - 1) = 0) : val (ds.drop (n - 1)) = 0 := by
  rw [dig_drop, h0, show n - 1 + 1 = n by omega, h]
/-- Of two tight rows the longer one is greater. -/
theorem val_lt_len {a b : List Nat} (ha : Digs a) (hb : Tight b) (h : a.length < b.length) : val a < val b := by
  have h1 := val_lt ha
  have h2 := pow_le_val hb (by omega)
  have h3 : 4294967296 ^ a.length ≤ 4294967296 ^ (b.length - 1) := Nat.pow_le_pow_right (by omega) (by omega)
  omega

end Go.Proofs.Ytpjgghakeaajbaa
