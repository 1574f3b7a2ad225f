/-
  Regions that draw their order and end in a store into one block: what holds meanwhile. Plain lemmas.
-/
import Derived.Test.YtcpojadinkonnaaMem
namespace Go.Proofs.Ytcpojadinkonnaa
open Go.RowKit

/-- All below block R is as it was in W0; block R, of type T, has k cells that may be written. -/
def HeldT (R k : Nat) (T : TypeId) (W0 w' : World) : Prop :=
  Below R W0 w' ∧ R < w'.heap.size ∧ (∀ b o, b < R → w'.cell? ⟨b, o, none⟩ = W0.cell? ⟨b, o, none⟩) ∧ (∀ o, o < k → w'.cell? ⟨R, o, none⟩ = some (rd w' R o)) ∧ (∀ o, w'.frozen? ⟨R, o, none⟩ = false) ∧
    (∃ cs, w'.heap[R]? = some (.cells cs T (0, 0)))
theorem heldT_start {W0 : World} {R : Nat} {t : TypeId} {cs : Array Value} (h : Var W0 R t cs) : HeldT R cs.size t W0 W0.drew :=
  ⟨(Below.refl _ _).drew, h.lt, fun _ _ _ => rfl, fun o ho => rd_eq (w := W0.drew) (u := cs[o]) ((h.cell o).trans (Array.getElem?_eq_getElem ho)), fun o => h.free o, cs, h⟩
theorem heldT_step {W0 W w' : World} {R k : Nat} {T : TypeId} (hb : Below W.heap.size W w') (h : HeldT R k T W0 W) : HeldT R k T W0 w' := by
  obtain ⟨h1, h2, h3, h4, h5, cs, h6⟩ := h
  have hB := h1.trans (hb.mono (Nat.le_of_lt h2))
  refine ⟨hB, Nat.lt_of_lt_of_le h2 hb.size, fun b o hlt => hB.cell (p := ⟨b, o, none⟩) hlt, fun o ho => ?_, fun o => (hb.frozen (p := ⟨R, o, none⟩) h2).trans (h5 o), cs, (hb.block R h2).trans h6⟩
  exact rd_eq ((hb.cell (p := ⟨R, o, none⟩) h2).trans (h4 o ho))
theorem heldT_store {W0 W : World} {R k : Nat} {T : TypeId} (h : HeldT R k T W0 W) (o : Nat) (u : Value) : HeldT R k T W0 (W.setCell ⟨R, o, none⟩ u) := by
  obtain ⟨h1, h2, h3, h4, h5, cs, h6⟩ := h
  have hB := h1.setCell (p := ⟨R, o, none⟩) (Nat.le_refl R) u
  refine ⟨hB, by simpa [World.setCell] using h2, fun b o' hlt => hB.cell (p := ⟨b, o', none⟩) hlt, fun o' ho' => ?_, fun o' => ?_, _, Var.store (t := T) h6 o u⟩
  · obtain ⟨v, hv⟩ := cell?_setCell_some (p := ⟨R, o, none⟩) (x := u) (h4 o' ho')
    exact rd_eq hv
  · rw [World.frozen?_setCell]; exact h5 o'
/-- In the midst: what was below block R is as it was. -/
theorem heldT_bel {W0 W w : World} (R k : Nat) (T : TypeId) (h : HeldT R k T W0 W) (h0 : Below w.heap.size w W0) (hR : w.heap.size ≤ R) : Below w.heap.size w W := h0.trans (h.1.mono hR)
theorem unset {W : World} {R o : Nat} {u : Value} {T : TypeId} {cs : Array Value} (h : (W.setCell ⟨R, o, none⟩ u).heap[R]? = some (.cells cs T (0, 0))) : ∃ cs0, W.heap[R]? = some (.cells cs0 T (0, 0)) := by
  simp only [World.setCell, Array.getElem?_modify, if_true] at h
  cases hh : W.heap[R]? with
  | none => rw [hh] at h; simp at h
  | some x =>
    rw [hh] at h
    cases x with
    | cells c e f =>
      simp at h
      obtain ⟨_, h1, h2⟩ := h
      subst h1 h2
      exact ⟨c, rfl⟩
    | _ => simp at h
/-- A struct of two cells, written: what it reads as. -/
theorem heldT_two {W0 W : World} {R : Nat} {T : TypeId} {a b : Value} (h : HeldT R 2 T W0 ((W.setCell ⟨R, 0, none⟩ a).setCell ⟨R, 1, none⟩ b)) :
    ∃ W', (W.setCell ⟨R, 0, none⟩ a).setCell ⟨R, 1, none⟩ b = W' ∧ Below R W0 W' ∧ W'.cell? ⟨R, 0, none⟩ = some a ∧ W'.cell? ⟨R, 1, none⟩ = some b ∧ ∃ cs, Var W R T cs := by
  obtain ⟨h1, h2, _, h4, _, cs, h6⟩ := h
  have k0 := h4 0 (by omega)
  have k1 := h4 1 (by omega)
  obtain ⟨cs1, h7⟩ := unset h6
  refine ⟨_, rfl, h1, ?_, ?_, unset h7⟩
  · rw [k0]
    rw [World.cell?_setCell_other _ _ _ _ (by simp)] at k0
    rw [set_cell k0]
  · rw [k1]
    rw [set_cell k1]

end Go.Proofs.Ytcpojadinkonnaa
