/-
  What a text parses to. Plain lemmas.
-/
import Derived.Test.YtedodoaeecbalaaNumeral
import Derived.Lib.Strings
namespace Go.Proofs.Ytedodoaeecbalaa
open Go.RowKit

def dval (ds : List UInt8) : Nat := ds.foldl (fun a c => a * 10 + (c.toNat - 48)) 0
theorem dval_snoc (ds : List UInt8) (c : UInt8) : dval (ds ++ [c]) = dval ds * 10 + (c.toNat - 48) := by
  unfold dval; rw [List.foldl_append]; rfl
theorem take_more {ds : List UInt8} {i : Nat} (h : i < ds.length) : ds.take (i + 1) = ds.take i ++ [at8 ds i] := by
  rw [List.take_add_one]
  unfold at8
  rw [List.getD_eq_getElem?_getD, List.getElem?_eq_getElem h]
  rfl
theorem dval_take {ds : List UInt8} {i : Nat} (h : i < ds.length) : dval (ds.take (i + 1)) = dval (ds.take i) * 10 + ((at8 ds i).toNat - 48) := by
  rw [take_more h, dval_snoc]
theorem dval_le {ds : List UInt8} : ∀ (k i : Nat), ds.length - i = k → dval (ds.take i) ≤ dval ds
  | 0, i, h => by rw [List.take_of_length_le (by omega)]; exact Nat.le_refl _
  | k + 1, i, h => by
    have h1 := dval_le (ds := ds) k (i + 1) (by omega)
    rw [dval_take (by omega)] at h1
    omega
/-- What stands behind a sign; and is there one? -/
def bel (L : List UInt8) : Bool := Lib.hasPrefix L [45]
def dgs (L : List UInt8) : List UInt8 := Lib.trimPrefix L [45]
def pz (L : List UInt8) : Int := if bel L then -(dval (dgs L) : Int) else (dval (dgs L) : Int)
def pcode (L : List UInt8) : Int := if numok (dgs L) (bel L) then (if -170141183460469231731687303715884105728 ≤ pz L ∧ pz L ≤ 170141183460469231731687303715884105727 then 0 else 12) else 11
def pval (L : List UInt8) : Int := if pcode L = 0 then pz L else 0

/-- A numeral's value, said again. -/
theorem revd_dval : ∀ (n : Nat) (ds : List UInt8), ds.length = n → 0 < n → (∀ c ∈ ds, 48 ≤ c.toNat ∧ c.toNat ≤ 57) → ¬ ((at8 ds 0).toNat = 48 ∧ 1 < ds.length) → (revd (dval ds)).reverse = ds ∧ ((at8 ds 0).toNat ≠ 48 → 0 < dval ds)
  | 0, ds, h, h0, _, _ => absurd h0 (by omega)
  | 1, ds, h, _, hd, _ => by
    obtain ⟨c, rfl⟩ := List.length_eq_one_iff.1 h
    have hc := hd c (by simp)
    have e : dval [c] = c.toNat - 48 := by unfold dval; simp
    rw [e, revd_low (by omega)]
    refine ⟨?_, fun hne => ?_⟩
    · rw [List.reverse_singleton]
      congr 1
      apply UInt8.toNat_inj.1
      rw [dg_nat (by omega)]
      omega
    · have : at8 [c] 0 = c := rfl
      rw [this] at hne
      omega
  | n + 2, ds, h, _, hd, hz => by
    have hi : n + 1 < ds.length := by omega
    have hsplit : ds = ds.take (n + 1) ++ [at8 ds (n + 1)] := by
      rw [← take_more hi, List.take_of_length_le (by omega)]
    have hat : at8 (ds.take (n + 1)) 0 = at8 ds 0 := by
      unfold at8
      rw [List.getD_eq_getElem?_getD, List.getD_eq_getElem?_getD, List.getElem?_take_of_lt (by omega)]
    have hne : (at8 ds 0).toNat ≠ 48 := fun hh => hz ⟨hh, by omega⟩
    have ih := revd_dval (n + 1) (ds.take (n + 1)) (by rw [List.length_take]; omega) (by omega) (fun c hc => hd c (List.mem_of_mem_take hc)) (by rw [hat]; exact fun hh => hne hh.1)
    have hpos := ih.2 (by rw [hat]; exact hne)
    have hc := hd (at8 ds (n + 1)) (at8_mem hi)
    have hv : dval ds = dval (ds.take (n + 1)) * 10 + ((at8 ds (n + 1)).toNat - 48) := by
      rw [← dval_take hi, List.take_of_length_le (by omega)]
    refine ⟨?_, fun _ => by omega⟩
    rw [hv, revd_more (by omega)]
    rw [show (dval (ds.take (n + 1)) * 10 + ((at8 ds (n + 1)).toNat - 48)) / 10 = dval (ds.take (n + 1)) by omega,
      show (dval (ds.take (n + 1)) * 10 + ((at8 ds (n + 1)).toNat - 48)) % 10 = (at8 ds (n + 1)).toNat - 48 by omega, List.reverse_cons, ih.1]
    have hdg : dg ((at8 ds (n + 1)).toNat - 48) = at8 ds (n + 1) := by
      apply UInt8.toNat_inj.1
      rw [dg_nat (by omega)]
      omega
    rw [hdg]
    exact hsplit.symm

/-- A numeral that begins with no nought is great. -/
theorem dval_great : ∀ (n : Nat) (ds : List UInt8), ds.length = n + 1 → (∀ c ∈ ds, 48 ≤ c.toNat ∧ c.toNat ≤ 57) → (at8 ds 0).toNat ≠ 48 → 10 ^ n ≤ dval ds
  | 0, ds, h, hd, hz => by
    obtain ⟨c, rfl⟩ := List.length_eq_one_iff.1 h
    have hc := hd c (by simp)
    have e : dval [c] = c.toNat - 48 := by unfold dval; simp
    have : at8 [c] 0 = c := rfl
    rw [this] at hz
    rw [e]
    omega
  | n + 1, ds, h, hd, hz => by
    have hi : n + 1 < ds.length := by omega
    have hat : at8 (ds.take (n + 1)) 0 = at8 ds 0 := by
      unfold at8
      rw [List.getD_eq_getElem?_getD, List.getD_eq_getElem?_getD, List.getElem?_take_of_lt (by omega)]
    have ih := dval_great n (ds.take (n + 1)) (by rw [List.length_take]; omega) (fun c hc => hd c (List.mem_of_mem_take hc)) (by rw [hat]; exact hz)
    have hv : dval ds = dval (ds.take (n + 1)) * 10 + ((at8 ds (n + 1)).toNat - 48) := by
      rw [← dval_take hi, List.take_of_length_le (by omega)]
    rw [hv, Nat.pow_succ]
    omega

/-- The text of a number is a numeral of this number. -/
theorem revd_digits (n : Nat) : ∀ c ∈ revd n, 48 ≤ c.toNat ∧ c.toNat ≤ 57 := by
  induction n using Nat.strongRecOn with
  | _ n ih =>
    rcases Nat.lt_or_ge n 10 with h | h
    · rw [revd_low h]
      intro c hc
      rw [List.mem_singleton] at hc
      rw [hc, dg_nat h]
      omega
    · rw [revd_more (by omega)]
      intro c hc
      rcases List.mem_cons.1 hc with hc | hc
      · rw [hc, dg_nat (by omega)]; omega
      · exact ih (n / 10) (by omega) c hc
theorem dval_revd (n : Nat) : dval (revd n).reverse = n := by
  induction n using Nat.strongRecOn with
  | _ n ih =>
    rcases Nat.lt_or_ge n 10 with h | h
    · rw [revd_low h, List.reverse_singleton]
      unfold dval
      simp [dg_nat h]
    · rw [revd_more (by omega), List.reverse_cons, dval_snoc, ih (n / 10) (by omega), dg_nat (by omega)]
      omega
/-- The text's first digit is no nought, unless it stands alone. -/
theorem revd_head (n : Nat) : (at8 (revd n).reverse 0).toNat = 48 → n = 0 := by
  induction n using Nat.strongRecOn with
  | _ n ih =>
    rcases Nat.lt_or_ge n 10 with h | h
    · rw [revd_low h, List.reverse_singleton]
      intro hh
      have : at8 [dg n] 0 = dg n := rfl
      rw [this, dg_nat h] at hh
      omega
    · rw [revd_more (by omega), List.reverse_cons]
      intro hh
      have hl := revd_pos (n / 10)
      have : at8 ((revd (n / 10)).reverse ++ [dg (n % 10)]) 0 = at8 (revd (n / 10)).reverse 0 := by
        unfold at8
        rw [List.getD_eq_getElem?_getD, List.getD_eq_getElem?_getD, List.getElem?_append_left (by rw [List.length_reverse]; omega)]
      rw [this] at hh
      have := ih (n / 10) (by omega) hh
      omega

theorem bel_cons (ds : List UInt8) : bel (45 :: ds) = true ∧ dgs (45 :: ds) = ds := by
  have h : Lib.hasPrefix (45 :: ds) [45] = true := by simp [Lib.hasPrefix]
  refine ⟨h, ?_⟩
  unfold dgs Lib.trimPrefix
  rw [if_pos h]
  rfl
theorem bel_not {L : List UInt8} (h : ∀ c ∈ L, c.toNat ≠ 45) : bel L = false ∧ dgs L = L := by
  have hb : Lib.hasPrefix L [45] = false := by
    cases L with
    | nil => rfl
    | cons c t =>
      have hc := h c (by simp)
      simp only [Lib.hasPrefix, List.isPrefixOf, Bool.and_eq_false_iff]
      left
      rw [beq_eq_false_iff_ne]
      intro e
      rw [← e] at hc
      exact hc rfl
  refine ⟨hb, ?_⟩
  unfold dgs Lib.trimPrefix
  rw [if_neg (by rw [hb]; decide)]
theorem bel_back (L : List UInt8) : L = (if bel L then [45] else []) ++ dgs L := by
  unfold dgs Lib.trimPrefix bel
  cases h : Lib.hasPrefix L [45] with
  | true =>
    rw [if_pos rfl, if_pos rfl]
    cases L with
    | nil => simp [Lib.hasPrefix] at h
    | cons c t =>
      simp [Lib.hasPrefix, List.isPrefixOf] at h
      rw [← h]
      rfl
  | false => rw [if_neg (by decide), if_neg (by decide)]; rfl

theorem revd_len1 {n : Nat} (h : n < 10) : (revd n).length = 1 := by rw [revd_low h]; rfl

/-- A number's text parses to the number. -/
theorem parse_txt (x : Int) (h1 : -170141183460469231731687303715884105728 ≤ x) (h2 : x ≤ 170141183460469231731687303715884105727) : pcode (txt x) = 0 ∧ pval (txt x) = x := by
  have hd : ∀ c ∈ (revd x.natAbs).reverse, 48 ≤ c.toNat ∧ c.toNat ≤ 57 := fun c hc => revd_digits _ c (List.mem_reverse.1 hc)
  have hlen : 0 < (revd x.natAbs).reverse.length := by rw [List.length_reverse]; exact revd_pos _
  have hat : ∀ i, i < (revd x.natAbs).reverse.length → 48 ≤ (at8 (revd x.natAbs).reverse i).toNat ∧ (at8 (revd x.natAbs).reverse i).toNat ≤ 57 := fun i hi => hd _ (at8_mem hi)
  have key : numok (dgs (txt x)) (bel (txt x)) = true ∧ pz (txt x) = x := by
    unfold txt pz
    rcases Int.lt_or_le x 0 with hx | hx
    · rw [if_pos hx]
      rw [show ([45] : List UInt8) ++ (revd x.natAbs).reverse = 45 :: (revd x.natAbs).reverse from rfl, (bel_cons _).1, (bel_cons _).2, dval_revd]
      refine ⟨numok_good hlen (fun hh => ?_) hat, by rw [if_pos rfl]; omega⟩
      have := revd_head _ hh.1
      omega
    · rw [if_neg (by omega), List.nil_append]
      have hb := bel_not (L := (revd x.natAbs).reverse) (fun c hc => by have := hd c hc; omega)
      rw [hb.1, hb.2, dval_revd]
      refine ⟨numok_good hlen (fun hh => ?_) hat, by rw [if_neg (by decide)]; omega⟩
      have h0 := revd_head _ hh.1
      rcases hh.2 with h | h
      · rw [List.length_reverse, revd_len1 (by omega)] at h; omega
      · exact Bool.noConfusion h
  have hc : pcode (txt x) = 0 := by
    unfold pcode
    rw [key.1, if_pos rfl, key.2, if_pos ⟨h1, h2⟩]
  refine ⟨hc, ?_⟩
  unfold pval
  rw [if_pos hc, key.2]

/-- What was parsed is told by the same text. -/
theorem txt_parse (L : List UInt8) (h : pcode L = 0) : txt (pz L) = L ∧ pval L = pz L ∧ -170141183460469231731687303715884105728 ≤ pz L ∧ pz L ≤ 170141183460469231731687303715884105727 := by
  have hok : numok (dgs L) (bel L) = true := by
    unfold pcode at h
    cases hb : numok (dgs L) (bel L) with
    | true => rfl
    | false => rw [hb, if_neg (by decide)] at h; exact absurd h (by decide)
  have hin : -170141183460469231731687303715884105728 ≤ pz L ∧ pz L ≤ 170141183460469231731687303715884105727 := by
    unfold pcode at h
    rw [hok, if_pos rfl] at h
    rcases Decidable.em (-170141183460469231731687303715884105728 ≤ pz L ∧ pz L ≤ 170141183460469231731687303715884105727) with h1 | h1
    · exact h1
    · rw [if_neg h1] at h; exact absurd h (by decide)
  obtain ⟨h0, hz, hall⟩ := numok_says hok
  have hd : ∀ c ∈ dgs L, 48 ≤ c.toNat ∧ c.toNat ≤ 57 := fun c hc => by
    obtain ⟨i, hi, rfl⟩ := List.getElem_of_mem hc
    have := hall i hi
    unfold at8 at this
    rw [List.getD_eq_getElem?_getD, List.getElem?_eq_getElem hi] at this
    exact this
  have hr := revd_dval _ (dgs L) rfl h0 hd (fun hh => hz ⟨hh.1, .inl hh.2⟩)
  refine ⟨?_, by unfold pval; rw [if_pos h], hin⟩
  have hback := bel_back L
  unfold txt pz
  cases hb : bel L with
  | true =>
    have hpos : 0 < dval (dgs L) := hr.2 (fun hh => hz ⟨hh, .inr hb⟩)
    rw [if_pos rfl, if_pos (by omega), Int.natAbs_neg, Int.natAbs_natCast, hr.1]
    rw [hb, if_pos rfl] at hback
    exact hback.symm
  | false =>
    simp only [Bool.false_eq_true, if_false]
    rw [if_neg (by omega), Int.natAbs_natCast, hr.1]
    rw [hb, if_neg (by decide)] at hback
    exact hback.symm

end Go.Proofs.Ytedodoaeecbalaa
