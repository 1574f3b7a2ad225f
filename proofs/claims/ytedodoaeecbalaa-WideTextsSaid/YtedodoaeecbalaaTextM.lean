/-
  The text of a whole number, as bytes. Plain lemmas.
-/
import Derived.Test.YtedodoaeecbalaaMem
import Derived.Laws.IdiomStrings
import Derived.Laws.AppendOwn
namespace Go.Proofs.Ytedodoaeecbalaa
open Go.RowKit

def dg (d : Nat) : UInt8 := UInt8.ofNat (48 + d)
theorem dg_nat {d : Nat} (h : d < 10) : (dg d).toNat = 48 + d := by
  unfold dg
  rw [UInt8.toNat_ofNat']
  omega
/-- The digits, the lowest first. -/
def revd (n : Nat) : List UInt8 := if n < 10 then [dg n] else dg (n % 10) :: revd (n / 10)
termination_by n
theorem revd_low {n : Nat} (h : n < 10) : revd n = [dg n] := by rw [revd, if_pos h]
theorem revd_more {n : Nat} (h : ¬ n < 10) : revd n = dg (n % 10) :: revd (n / 10) := by rw [revd, if_neg h]
theorem revd_pos (n : Nat) : 0 < (revd n).length := by
  rw [revd]; split <;> simp
/-- The text of a number. -/
def txt (x : Int) : List UInt8 := (if x < 0 then [45] else []) ++ (revd x.natAbs).reverse
def BB (u : UInt8) : Value := .int .u8 (u.toNat : Int)

/-- Half turned about: i bytes at either end have changed places. -/
def swp (l : List UInt8) (i p : Nat) : UInt8 := if p < i ∨ l.length - 1 - i < p then l.getD (l.length - 1 - p) 0 else l.getD p 0
theorem swp_start (l : List UInt8) {p : Nat} (hp : p < l.length) : swp l 0 p = l.getD p 0 := by
  unfold swp; rw [if_neg (by omega)]
theorem swp_end (l : List UInt8) {i p : Nat} (hp : p < l.length) (hi : l.length ≤ 2 * i + 1) : swp l i p = l.reverse.getD p 0 := by
  have e : l.reverse.getD p 0 = l.getD (l.length - 1 - p) 0 := by
    rw [List.getD_eq_getElem?_getD, List.getD_eq_getElem?_getD, List.getElem?_reverse (by omega)]
  rw [e]
  unfold swp
  split
  · rfl
  · rw [show l.length - 1 - p = p by omega]
theorem swp_step (l : List UInt8) {i p : Nat} (hp : p < l.length) (hi : 2 * i + 1 < l.length) :
    swp l (i + 1) p = if p = i then swp l i (l.length - 1 - i) else if p = l.length - 1 - i then swp l i i else swp l i p := by
  unfold swp
  by_cases h1 : p = i
  · subst h1
    rw [if_pos (by omega), if_pos rfl, if_neg (by omega)]
  · by_cases h2 : p = l.length - 1 - i
    · subst h2
      rw [if_pos (by omega), if_neg h1, if_pos rfl, if_neg (by omega)]
      rw [show l.length - 1 - (l.length - 1 - i) = i by omega]
    · rw [if_neg h1, if_neg h2]
      by_cases h3 : p < i ∨ l.length - 1 - i < p
      · rw [if_pos (by omega), if_pos h3]
      · rw [if_neg (by omega), if_neg h3]

/-- A slice of the call's own bytes, as a block. -/
theorem own_var {w : World} {base n : Nat} {e : TypeId} {v : Value} {l : List UInt8} (h : w.ownsRow base e 1 v n (l.map BB)) (hn : 0 < n) :
    ∃ g cap cur, v = .slice (some ⟨g, 0, none⟩) n cap ∧ base ≤ g ∧ Var w g e cur ∧ n ≤ cap ∧ l.length = n ∧ cur.size = cap ∧ ∀ p, p < n → cur[p]? = some (BB (l.getD p 0)) := by
  have hl := h.1
  rcases h.2 with ⟨_, h0⟩ | ⟨g, cap, cur, hv, hb, hg, hc, _, hsz, ht⟩
  · omega
  · rw [List.length_map] at hl
    refine ⟨g, cap, cur, hv, hb, hg, hc, by omega, by omega, fun p hp => ?_⟩
    have e1 : (cur.toList.take (n * 1))[p]? = some (BB (l.getD p 0)) := by
      rw [ht, List.getElem?_map, List.getElem?_eq_getElem (by omega), List.getD_eq_getElem?_getD, List.getElem?_eq_getElem (by omega)]
      rfl
    rw [List.getElem?_take_of_lt (by omega)] at e1
    rw [← e1, Array.getElem?_toList]

end Go.Proofs.Ytedodoaeecbalaa
