/-
  Plain: bytes of a frame turned.
-/
import Derived.Test.YtiejgandjlldjaaFrmM
namespace Go.Proofs.Ytiejgandjlldjaa
open Go.RowKit

/-- The first k of some bytes, from place p on, turned. -/
def turnN (f : List UInt8) (p : Nat) (ys : Nat → UInt8) : Nat → List UInt8
  | 0 => f
  | k + 1 => (turnN f p ys k).set (p + k) ((turnN f p ys k).getD (p + k) 0 ^^^ ys k)
def turnB (ys : Nat → UInt8) (k : Nat) : Bool := (List.range k).any fun j => ys j != 0
theorem turnB_succ (ys : Nat → UInt8) (k : Nat) : turnB ys (k + 1) = (turnB ys k || (ys k != 0)) := by
  unfold turnB
  rw [List.range_succ, List.any_append]
  simp
theorem turnN_length (f : List UInt8) (p : Nat) (ys : Nat → UInt8) : ∀ k, (turnN f p ys k).length = f.length
  | 0 => rfl
  | k + 1 => by unfold turnN; rw [List.length_set, turnN_length f p ys k]
theorem turnN_out (f : List UInt8) (p : Nat) (ys : Nat → UInt8) {j : Nat} : ∀ k, (j < p ∨ p + k ≤ j) → (turnN f p ys k)[j]? = f[j]?
  | 0, _ => rfl
  | k + 1, h => by
    unfold turnN
    rw [List.getElem?_set_ne (by omega), turnN_out f p ys k (by omega)]
theorem turnN_in (f : List UInt8) (p : Nat) (ys : Nat → UInt8) {i : Nat} : ∀ k, i < k → p + i < f.length → (turnN f p ys k)[p + i]? = some (f.getD (p + i) 0 ^^^ ys i)
  | 0, h, _ => absurd h (by omega)
  | k + 1, h, hl => by
    unfold turnN
    by_cases hik : i = k
    · subst hik
      rw [List.getElem?_set_self (by rw [turnN_length]; exact hl), List.getD_eq_getElem?_getD, turnN_out f p ys i (by omega), ← List.getD_eq_getElem?_getD]
    · rw [List.getElem?_set_ne (by omega), turnN_in f p ys k (by omega) hl]
theorem turn_same {f : List UInt8} {p : Nat} {ys : Nat → UInt8} {k : Nat} (hp : p + k ≤ f.length) (h : turnB ys k = false) : turnN f p ys k = f := by
  apply List.ext_getElem?
  intro j
  by_cases hj : p ≤ j ∧ j < p + k
  · have hz : ys (j - p) = 0 := by
      unfold turnB at h
      rw [List.any_eq_false] at h
      have := h (j - p) (List.mem_range.2 (by omega))
      simpa using this
    have := turnN_in f p ys (i := j - p) k (by omega) (by omega)
    rw [show p + (j - p) = j by omega, hz] at this
    rw [this, List.getD_eq_getElem?_getD, List.getElem?_eq_getElem (by omega)]
    simp
  · exact turnN_out f p ys k (by omega)
theorem xor_ne {a b : UInt8} (h : ¬ b = 0) : ¬ a ^^^ b = a := fun e => h (by
  have := congrArg (a ^^^ ·) e
  simpa [← UInt8.xor_assoc] using this)
theorem turn_differs {f : List UInt8} {p : Nat} {ys : Nat → UInt8} {k : Nat} (hp : p + k ≤ f.length) (h : turnB ys k = true) : ¬ turnN f p ys k = f := by
  intro e
  unfold turnB at h
  rw [List.any_eq_true] at h
  obtain ⟨i, hi, hne⟩ := h
  rw [List.mem_range] at hi
  have h1 := turnN_in f p ys (i := i) k hi (by omega)
  rw [e, List.getElem?_eq_getElem (by omega), List.getD_eq_getElem?_getD, List.getElem?_eq_getElem (by omega)] at h1
  injection h1 with h1
  exact xor_ne (by simpa using hne) h1.symm
/-- What comes of it: nothing changed, or the frame is refused. -/
theorem turn_bad {l : List UInt8} (hl : l.length ≤ 8184) {p : Nat} {ys : Nat → UInt8} {k : Nat} (hk : k ≤ 4) (h8 : 8 ≤ p ∨ p + k ≤ 8) (hp : p + k ≤ l.length + 8) (h : turnB ys k = true) : ¬ openCode (turnN (frameB l) p ys k) = 0 := by
  have hfl := frameB_length l
  have hd : (frameB l).drop 8 = l := by rw [frameB_eq]; rfl
  refine turned_bad hl (turnN_length _ _ _ _) (turn_differs (by omega) h) ?_
  rcases h8 with h8 | h8
  · refine .inr ⟨p - 8, ?_, ?_, ?_⟩
    · apply List.ext_getElem?
      intro j
      rw [List.getElem?_take, List.getElem?_take]
      split
      · exact turnN_out _ _ _ _ (by omega)
      · rfl
    · apply List.ext_getElem?
      intro j
      rw [List.getElem?_take, List.getElem?_take]
      split
      · rw [List.getElem?_drop, turnN_out _ _ _ _ (by omega), ← List.getElem?_drop, hd]
      · rfl
    · apply List.ext_getElem?
      intro j
      rw [List.getElem?_drop, List.getElem?_drop, List.getElem?_drop, turnN_out _ _ _ _ (by omega), ← List.getElem?_drop, hd]
  · refine .inl ?_
    apply List.ext_getElem?
    intro j
    rw [List.getElem?_drop, turnN_out _ _ _ _ (by omega), ← List.getElem?_drop, hd]

/-- A byte written. -/
theorem Bs.set {w : World} {g o n c j : Nat} {l : List UInt8} (h : Bs w (some ⟨g, o, none⟩) n c l) {cur : Array Value} (hv : Var w g 5 cur) (hc : o + n ≤ cur.size) (hj : j < n) (b : UInt8) : Bs (w.setCell ⟨g, o + j, none⟩ (B8 b)) (some ⟨g, o, none⟩) n c (l.set j b) := by
  have hlen := h.len
  refine ⟨by rw [List.length_set]; exact hlen, h.cap, h.big, .inr ⟨g, o, rfl, by simpa [World.setCell] using hv.lt, fun i x hi => ?_⟩⟩
  rw [(hv.store (o + j) (B8 b)).cell (o + i)]
  rw [Array.getElem?_setIfInBounds]
  by_cases hij : j = i
  · subst hij
    rw [List.getElem?_set_self (by omega)] at hi
    injection hi with hi
    rw [if_pos rfl, if_pos (by omega), hi]
  · rw [List.getElem?_set_ne hij] at hi
    rw [if_neg (by omega), ← hv.cell (o + i)]
    rcases h.at_ with h0 | ⟨g', o', e, _, hat⟩
    · omega
    · injection e with e
      injection e with e1 e2
      subst e1 e2
      exact hat i x hi
theorem place {a : Int} {M : Nat} (hM : 0 < M) (hb : M ≤ 10000) : ∃ p : Nat, p < M ∧ wrap64 ((wrap64 (wrap64 (a.tmod (M : Int) + (M : Int)))).tmod (M : Int)) = (p : Int) := by
  have h1 := Int.tmod_lt_of_pos a (show (0 : Int) < (M : Int) by omega)
  have h2 := Int.lt_tmod_of_pos a (show (0 : Int) < (M : Int) by omega)
  obtain ⟨t, ht⟩ : ∃ t, a.tmod (M : Int) = t := ⟨_, rfl⟩
  rw [ht] at h1 h2 ⊢
  have e : ∀ x : Int, -20000 ≤ x → x ≤ 20000 → wrap64 x = x := fun x _ _ => by unfold wrap64; omega
  rw [e (t + M) (by omega) (by omega), e (t + M) (by omega) (by omega), Int.tmod_eq_emod_of_nonneg (by omega)]
  have h3 := Int.emod_lt_of_pos (t + (M : Int)) (show (0 : Int) < (M : Int) by omega)
  have h4 := Int.emod_nonneg (t + (M : Int)) (show (M : Int) ≠ 0 by omega)
  rw [e _ (by omega) (by omega)]
  exact ⟨((t + (M : Int)) % (M : Int)).toNat, by omega, by omega⟩
theorem place8 {a : Int} {M : Nat} (hM : 0 < M) (hb : M ≤ 10000) : ∃ p : Nat, p < M ∧ wrap64 (8 + (wrap64 (wrap64 (a.tmod (M : Int) + ((M : Int) + 8)) - 8)).tmod (M : Int)) = ((8 + p : Nat) : Int) := by
  have h1 := Int.tmod_lt_of_pos a (show (0 : Int) < (M : Int) by omega)
  have h2 := Int.lt_tmod_of_pos a (show (0 : Int) < (M : Int) by omega)
  obtain ⟨t, ht⟩ : ∃ t, a.tmod (M : Int) = t := ⟨_, rfl⟩
  rw [ht] at h1 h2 ⊢
  have e : ∀ x : Int, -30000 ≤ x → x ≤ 30000 → wrap64 x = x := fun x _ _ => by unfold wrap64; omega
  rw [e (t + (M + 8)) (by omega) (by omega), e (t + ((M : Int) + 8) - 8) (by omega) (by omega), Int.tmod_eq_emod_of_nonneg (by omega)]
  have h3 := Int.emod_lt_of_pos (t + ((M : Int) + 8) - 8) (show (0 : Int) < (M : Int) by omega)
  have h4 := Int.emod_nonneg (t + ((M : Int) + 8) - 8) (show (M : Int) ≠ 0 by omega)
  rw [e _ (by omega) (by omega)]
  exact ⟨((t + ((M : Int) + 8) - 8) % (M : Int)).toNat, by omega, by omega⟩

end Go.Proofs.Ytiejgandjlldjaa
