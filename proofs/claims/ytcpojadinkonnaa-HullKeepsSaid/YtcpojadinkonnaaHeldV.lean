/-
  Regions that draw their order and end in a store into one block of two cells: the block's size is kept in mind. Plain lemmas.
-/
import Derived.Test.YtcpojadinkonnaaHeld
namespace Go.Proofs.Ytcpojadinkonnaa
open Go.RowKit

def HeldV (R : Nat) (T : TypeId) (W0 w' : World) : Prop :=
  Below R W0 w' ∧ R < w'.heap.size ∧ (∀ b o, b < R → w'.cell? ⟨b, o, none⟩ = W0.cell? ⟨b, o, none⟩) ∧ (∀ o, o < 2 → w'.cell? ⟨R, o, none⟩ = some (rd w' R o)) ∧ (∀ o, w'.frozen? ⟨R, o, none⟩ = false) ∧
    (∃ p q, w'.heap[R]? = some (.cells #[p, q] T (0, 0)))
theorem heldV_start {W0 : World} {R : Nat} {t : TypeId} {a b : Value} (h : Var W0 R t #[a, b]) : HeldV R t W0 W0.drew := by
  obtain ⟨h1, h2, h3, h4, h5, _⟩ := heldT_start h
  exact ⟨h1, h2, h3, h4, h5, a, b, h⟩
theorem heldV_step {W0 W w' : World} {R : Nat} {T : TypeId} (hb : Below W.heap.size W w') (h : HeldV R T W0 W) : HeldV R T W0 w' := by
  obtain ⟨h1, h2, h3, h4, h5, p, q, h6⟩ := h
  obtain ⟨g1, g2, g3, g4, g5, _⟩ := heldT_step hb ⟨h1, h2, h3, h4, h5, #[p, q], h6⟩
  exact ⟨g1, g2, g3, g4, g5, p, q, (hb.block R h2).trans h6⟩
theorem set_two (p q u : Value) (o : Nat) : ∃ p' q', (#[p, q] : Array Value).setIfInBounds o u = #[p', q'] := by
  match o with
  | 0 => exact ⟨u, q, rfl⟩
  | 1 => exact ⟨p, u, rfl⟩
  | n + 2 => exact ⟨p, q, by simp⟩
theorem heldV_store {W0 W : World} {R : Nat} {T : TypeId} (h : HeldV R T W0 W) (o : Nat) (u : Value) : HeldV R T W0 (W.setCell ⟨R, o, none⟩ u) := by
  obtain ⟨h1, h2, h3, h4, h5, p, q, h6⟩ := h
  obtain ⟨g1, g2, g3, g4, g5, _⟩ := heldT_store ⟨h1, h2, h3, h4, h5, #[p, q], h6⟩ o u
  obtain ⟨p', q', e⟩ := set_two p q u o
  have hv := Var.store (t := T) h6 o u
  rw [e] at hv
  exact ⟨g1, g2, g3, g4, g5, p', q', hv⟩
theorem heldV_two {W0 W : World} {R : Nat} {T : TypeId} {a b : Value} (h : HeldV R T W0 ((W.setCell ⟨R, 0, none⟩ a).setCell ⟨R, 1, none⟩ b)) :
    ∃ W', (W.setCell ⟨R, 0, none⟩ a).setCell ⟨R, 1, none⟩ b = W' ∧ Below R W0 W' ∧ Var W' R T #[a, b] ∧ ∃ cs, Var W R T cs := by
  obtain ⟨h1, _, _, _, _, p, q, h6⟩ := h
  obtain ⟨cs1, h7⟩ := unset h6
  obtain ⟨cs0, h8⟩ := unset h7
  refine ⟨_, rfl, h1, ?_, cs0, h8⟩
  have hv : Var ((W.setCell ⟨R, 0, none⟩ a).setCell ⟨R, 1, none⟩ b) R T ((cs0.setIfInBounds 0 a).setIfInBounds 1 b) := (Var.store (t := T) h8 0 a).store 1 b
  have e : (some (Obj.cells #[p, q] T (0, 0)) : Option Obj) = some (.cells ((cs0.setIfInBounds 0 a).setIfInBounds 1 b) T (0, 0)) := h6.symm.trans hv
  injection e with e
  injection e with e _
  have hsz : cs0.size = 2 := by
    have := congrArg Array.size e
    simp at this
    omega
  have hcs : (cs0.setIfInBounds 0 a).setIfInBounds 1 b = #[a, b] := by
    match cs0, hsz with
    | ⟨[x, y]⟩, _ => rfl
  rw [hcs] at hv
  exact hv

end Go.Proofs.Ytcpojadinkonnaa
