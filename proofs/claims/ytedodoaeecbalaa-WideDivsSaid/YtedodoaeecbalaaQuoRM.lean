/-
  Contract of the reference's Quo: the quotient and what is left. (Printed by wip/tools/gen_quor.py.)
-/
import Derived.Test.YtedodoaeecbalaaSqrtR
import Derived.Test.YtedodoaeecbalaaQuoP
namespace Go.Proofs.Ytedodoaeecbalaa
open Go.RowKit

theorem raw_set1 {w : World} {A : Option Addr} {n c : Nat} {ds : List Nat} (h : RawAt w A n c ds) {R : Nat} {cs : Array Value} (hV : Var w R 35 cs) (o : Nat) (x : Value) : RawAt (w.setCell ⟨R, o, none⟩ x) A n c ds :=
  ⟨h.len, h.cap, h.big, h.sl.away (o' := o) hV (by decide) x, h.digs⟩
/-- Two blocks that are read while others are written. -/
def HeldQ (g : Nat) (a b c d : Value) (w' : World) : Prop := g < w'.heap.size ∧ g + 1 < w'.heap.size ∧ w'.cell? ⟨g, 0, none⟩ = some a ∧ w'.cell? ⟨g, 1, none⟩ = some b ∧ w'.cell? ⟨g + 1, 0, none⟩ = some c ∧ w'.cell? ⟨g + 1, 1, none⟩ = some d
theorem heldQ_step {g : Nat} {a b c d : Value} {W w' : World} (hb : Below W.heap.size W w') (h : HeldQ g a b c d W) : HeldQ g a b c d w' := by
  obtain ⟨h0, h1, h2, h3, h4, h5⟩ := h
  have hs := hb.size
  obtain ⟨hc, _⟩ := bcell hb
  exact ⟨by omega, by omega, (hc _ _ h0).trans h2, (hc _ _ h0).trans h3, (hc _ _ h1).trans h4, (hc _ _ h1).trans h5⟩
theorem heldQ_drew {g : Nat} {a b c d : Value} {W : World} (h : HeldQ g a b c d W) : HeldQ g a b c d W.drew := h
theorem heldQ_store {g : Nat} {a b c d : Value} {W : World} {R o : Nat} (h1 : R ≠ g) (h2 : R ≠ g + 1) (u : Value) (h : HeldQ g a b c d W) : HeldQ g a b c d (W.setCell ⟨R, o, none⟩ u) := by
  obtain ⟨z0, z1, c0, c1, c2, c3⟩ := h
  refine ⟨by simpa [World.setCell] using z0, by simpa [World.setCell] using z1, ?_, ?_, ?_, ?_⟩
  all_goals (rw [World.cell?_setCell_other _ _ _ _ (by first | (simp; done) | (simp; omega))]; assumption)
theorem raw_len0 {w : World} {A : Option Addr} {n c : Nat} {ds : List Nat} (h : RawAt w A n c ds) (ht : Tight ds) : n = 0 ↔ val ds = 0 := by
  rw [val_eq_zero ht, ← h.len, List.length_eq_zero_iff]
theorem num_trim {w : World} {s : Bool} {A : Option Addr} {n c : Nat} {ds : List Nat} {z : Int} {m : Nat} {s' : Bool} (hr : RawAt w A n c ds) (ht : Tight ds) (hs : s = (s' && decide (¬ m = 0))) (hv : val ds = m) (hm : z.natAbs = m) (hz : s' = true → z ≤ 0) (hz' : s' = false → 0 ≤ z) :
    NumAt w (.agg #[.bool s, .slice A n c]) z := by
  refine num_mk hr ht ?_ (by omega)
  rw [hs]
  cases s'
  · have := hz' rfl
    rw [Bool.false_and]
    exact (decide_eq_false (by omega)).symm
  · have := hz rfl
    rw [Bool.true_and]
    exact decide_eq_decide.2 (by omega)

theorem sg_pos {d q : Int} {k : Nat} {s : Bool} (hs : s = decide (d < 0)) (hq : q = if d < 0 then -(k : Int) else (k : Int)) : q.natAbs = k ∧ (s = true → q ≤ 0) ∧ (s = false → 0 ≤ q) := by
  rcases Decidable.em (d < 0) with h | h
  · rw [if_pos h] at hq
    rw [decide_eq_true h] at hs
    subst hs
    exact ⟨by omega, fun _ => by omega, fun hh => absurd hh (by decide)⟩
  · rw [if_neg h] at hq
    rw [decide_eq_false h] at hs
    subst hs
    exact ⟨by omega, fun hh => absurd hh (by decide), fun _ => by omega⟩
theorem sg_neg {d q : Int} {k : Nat} {s : Bool} (hs : s = decide (d < 0)) (hq : q = if d < 0 then (k : Int) else -(k : Int)) : q.natAbs = k ∧ ((!s) = true → q ≤ 0) ∧ ((!s) = false → 0 ≤ q) := by
  rcases Decidable.em (d < 0) with h | h
  · rw [if_pos h] at hq
    rw [decide_eq_true h] at hs
    subst hs
    exact ⟨by omega, fun hh => absurd hh (by decide), fun _ => by omega⟩
  · rw [if_neg h] at hq
    rw [decide_eq_false h] at hs
    subst hs
    exact ⟨by omega, fun _ => by omega, fun hh => absurd hh (by decide)⟩
theorem sg_more {d q : Int} {k : Nat} {s : Bool} (hs : s = decide (d < 0)) (hq : q = if d < 0 then (k : Int) + 1 else -(k : Int) - 1) : q.natAbs = k + 1 ∧ ((!s) = true → q ≤ 0) ∧ ((!s) = false → 0 ≤ q) :=
  sg_neg (k := k + 1) hs (by rw [hq]; split <;> omega)

end Go.Proofs.Ytedodoaeecbalaa
