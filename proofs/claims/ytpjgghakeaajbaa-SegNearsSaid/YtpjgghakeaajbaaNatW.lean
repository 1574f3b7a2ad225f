/-
  Plain mathematics: lists of digits to the base 4294967296. No program in sight.
-/
import Derived.KernelRfl
namespace Go.Proofs.Ytpjgghakeaajbaa

def val : List Nat → Nat
  | [] => 0
  | d :: ds => d + 4294967296 * val ds

def Digs (ds : List Nat) : Prop := ∀ d ∈ ds, d < 4294967296
/-- No nought at the end. -/
def Tight (ds : List Nat) : Prop := ds.getLast? ≠ some 0

theorem Digs.nil : Digs [] := fun _ h => by cases h
theorem Tight.nil : Tight [] := by unfold Tight; simp
theorem Digs.snoc {ds : List Nat} {d : Nat} (h : Digs ds) (hd : d < 4294967296) : Digs (ds ++ [d]) := by
  intro x hx
  rcases List.mem_append.1 hx with hx | hx
  · exact h x hx
  · simp at hx; omega
theorem Tight.snoc {ds : List Nat} {d : Nat} (hd : 0 < d) : Tight (ds ++ [d]) := by
  unfold Tight; simp; omega
theorem Digs.take {ds : List Nat} (h : Digs ds) (n : Nat) : Digs (ds.take n) := fun x hx => h x (List.mem_of_mem_take hx)
theorem Digs.drop {ds : List Nat} (h : Digs ds) (n : Nat) : Digs (ds.drop n) := fun x hx => h x (List.mem_of_mem_drop hx)
theorem Digs.getD {ds : List Nat} (h : Digs ds) (i : Nat) : ds.getD i 0 < 4294967296 := by
  by_cases hi : i < ds.length
  · rw [List.getD_eq_getElem?_getD, List.getElem?_eq_getElem hi]; exact h _ (List.getElem_mem hi)
  · rw [List.getD_eq_getElem?_getD, List.getElem?_eq_none (by omega)]; simp
theorem Digs.getD' {ds : List Nat} (h : Digs ds) (i : Nat) : ds[i]?.getD 0 < 4294967296 := by
  have := h.getD i
  rwa [List.getD_eq_getElem?_getD] at this

theorem val_drop (ds : List Nat) (i : Nat) : val (ds.drop i) = ds.getD i 0 + 4294967296 * val (ds.drop (i + 1)) := by
  by_cases hi : i < ds.length
  · rw [List.drop_eq_getElem_cons hi, val, List.getD_eq_getElem?_getD, List.getElem?_eq_getElem hi]; rfl
  · rw [List.drop_of_length_le (by omega), List.drop_of_length_le (by omega), List.getD_eq_getElem?_getD, List.getElem?_eq_none (by omega)]; rfl

theorem val_append (a b : List Nat) : val (a ++ b) = val a + 4294967296 ^ a.length * val b := by
  induction a with
  | nil => simp [val]
  | cons d ds ih =>
    simp only [List.cons_append, val, List.length_cons, ih, Nat.mul_add, Nat.pow_succ]
    rw [Nat.mul_comm (4294967296 ^ ds.length) 4294967296, Nat.mul_assoc]; omega

theorem val_snoc (a : List Nat) (d : Nat) : val (a ++ [d]) = val a + 4294967296 ^ a.length * d := by
  rw [val_append]; simp [val]

theorem val_lt {ds : List Nat} (h : Digs ds) : val ds < 4294967296 ^ ds.length := by
  induction ds with
  | nil => simp [val]
  | cons d ds ih =>
    have h1 := ih fun x hx => h x (List.mem_cons_of_mem _ hx)
    have h2 := h d (List.mem_cons_self ..)
    simp only [val, List.length_cons, Nat.pow_succ]
    omega

theorem val_split (ds : List Nat) (i : Nat) (hi : i ≤ ds.length) : val ds = val (ds.take i) + 4294967296 ^ i * val (ds.drop i) := by
  have h := val_append (ds.take i) (ds.drop i)
  rw [List.take_append_drop, List.length_take, Nat.min_eq_left hi] at h
  exact h

theorem val_take_zeros {ds : List Nat} {n : Nat} (hn : n ≤ ds.length) (h : val (ds.drop n) = 0) : val (ds.take n) = val ds := by
  rw [val_split ds n hn, h]; omega

theorem val_eq_zero {ds : List Nat} (ht : Tight ds) : val ds = 0 ↔ ds = [] := by
  constructor
  · intro h
    induction ds with
    | nil => rfl
    | cons d ds ih =>
      exfalso
      simp only [val] at h
      by_cases e : ds = []
      · subst e; apply ht; simp; omega
      · refine e (ih ?_ (by omega))
        unfold Tight at *
        rw [List.getLast?_cons_of_ne_nil e] at ht
        exact ht
  · rintro rfl; rfl

theorem val_pos_of_tight {ds : List Nat} (ht : Tight ds) (h : 0 < ds.length) : 0 < val ds := by
  rcases Nat.eq_zero_or_pos (val ds) with h0 | h0
  · rw [(val_eq_zero ht).1 h0] at h; simp at h
  · exact h0

/-- The highest digits decide. -/
theorem val_lt_of_drop {a b : List Nat} (ha : Digs a) (i : Nat) (h : val (a.drop i) < val (b.drop i)) : val a < val b := by
  induction i with
  | zero => simpa using h
  | succ i ih =>
    refine ih ?_
    rw [val_drop a i, val_drop b i]
    have := ha.getD i
    omega

theorem val_eq_of_drop {a b : List Nat} (i : Nat) (hd : a.getD i 0 = b.getD i 0) (h : val (a.drop (i + 1)) = val (b.drop (i + 1))) : val (a.drop i) = val (b.drop i) := by
  rw [val_drop a i, val_drop b i, hd, h]
theorem val_drop_lt {a b : List Nat} (i : Nat) (hd : a.getD i 0 < b.getD i 0) (h : val (a.drop (i + 1)) = val (b.drop (i + 1))) : val (a.drop i) < val (b.drop i) := by
  rw [val_drop a i, val_drop b i, h]; omega

/-- A tight list of n digits is at least 4294967296 ^ (n - 1). -/
theorem pow_le_val {ds : List Nat} (ht : Tight ds) (h : 0 < ds.length) : 4294967296 ^ (ds.length - 1) ≤ val ds := by
  have hs := val_split ds (ds.length - 1) (by omega)
  have hd : val (ds.drop (ds.length - 1)) = ds.getD (ds.length - 1) 0 := by
    rw [val_drop, List.drop_of_length_le (by omega)]; simp [val]
  have hl : 0 < ds.getD (ds.length - 1) 0 := by
    rcases Nat.eq_zero_or_pos (ds.getD (ds.length - 1) 0) with h0 | h0
    · exfalso
      apply ht
      rw [List.getLast?_eq_getElem?]
      rw [List.getD_eq_getElem?_getD, List.getElem?_eq_getElem (by omega)] at h0
      rw [List.getElem?_eq_getElem (by omega)]
      simpa using h0
    · exact h0
  rw [hs, hd]
  have : 4294967296 ^ (ds.length - 1) * 1 ≤ 4294967296 ^ (ds.length - 1) * ds.getD (ds.length - 1) 0 := Nat.mul_le_mul_left _ hl
  omega

/-- Fewer than n digits' worth: at most n digits. -/
theorem length_le_of_val {ds : List Nat} (ht : Tight ds) {n : Nat} (h : val ds < 4294967296 ^ n) : ds.length ≤ n := by
  rcases Nat.lt_or_ge n ds.length with hl | hl
  · exfalso
    have h1 := pow_le_val ht (by omega)
    have h2 : 4294967296 ^ n ≤ 4294967296 ^ (ds.length - 1) := Nat.pow_le_pow_right (by omega) (by omega)
    omega
  · exact hl

/-! ### The steps of the loops -/
theorem size_step {P s da db ca A B o : Nat} (hs : s = da + db + ca) :
    o + P * (s % 4294967296) + P * 4294967296 * (s / 4294967296 + A + B) = o + P * (ca + (da + 4294967296 * A) + (db + 4294967296 * B)) := by
  have e : s % 4294967296 + 4294967296 * (s / 4294967296 + A + B) = ca + (da + 4294967296 * A) + (db + 4294967296 * B) := by omega
  rw [Nat.mul_assoc, Nat.add_assoc, ← Nat.mul_add, e]

theorem less_step {P s da db bo A B : Nat} (hs : s + db + bo = da + 4294967296) (hda : da < 4294967296) :
    P * (s % 4294967296) + P * 4294967296 * A + P * (bo + (db + 4294967296 * B)) = P * (da + 4294967296 * A) + P * 4294967296 * ((1 - s / 4294967296) + B) := by
  have e : s % 4294967296 + 4294967296 * A + (bo + (db + 4294967296 * B)) = da + 4294967296 * A + 4294967296 * ((1 - s / 4294967296) + B) := by omega
  rw [Nat.mul_assoc, Nat.mul_assoc, ← Nat.mul_add, ← Nat.mul_add, ← Nat.mul_add, e]

theorem mul_split (P q : Nat) : P * (q % 4294967296) + P * 4294967296 * (q / 4294967296) = P * q := by
  rw [Nat.mul_assoc, ← Nat.mul_add]
  congr 1; omega
theorem unsigned_step {v P q m : Nat} (h : v + P * q = m) : v + P * (q % 4294967296) + P * 4294967296 * (q / 4294967296) = m := by
  have := mul_split P q; omega
theorem unsigned_le {v k q m : Nat} (h : v + 4294967296 ^ k * q = m) : q ≤ m := by
  have := Nat.le_mul_of_pos_left q (show 0 < 4294967296 ^ k from Nat.pow_pos (by omega))
  omega
theorem unsigned_len {v k q m : Nat} (h : v + 4294967296 ^ k * q = m) (hq : 0 < q) (hm : m < 18446744073709551616) (hk : k ≤ 4) : k + 1 ≤ 4 := by
  rcases Nat.lt_or_ge k 4 with h0 | h0
  · omega
  · exfalso
    have : k = 4 := by omega
    subst this
    simp at h
    omega
theorem mul_zero_of {P a b c : Nat} (ha : a = 0) (hb : b = 0) (hc : c = 0) : P * (a + b + c) = 0 := by subst ha hb hc; simp

end Go.Proofs.Ytpjgghakeaajbaa
