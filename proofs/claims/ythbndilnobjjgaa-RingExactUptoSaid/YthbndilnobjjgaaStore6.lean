/-
  A law: a struct of six cells is stored into a variable at once.
-/
import Derived.Deep.MidRow
import Derived.Test.YthbndilnobjjgaaMem
namespace Go.Proofs.Ythbndilnobjjgaa
open Go.RowKit

section
variable {P : Program} {ops : Array Oper} {rest : List Oper} {op : Oper} {a : Act} {w : World} {Q : Exit → Act → World → Prop}
theorem wpList_store6 (hgd : op.guard = none) (ty : TypeId) (x y : Operand) (ho : op.op = .store ty x y) (g : Nat) (a0 a1 a2 a3 a4 a5 : Value) (hx : a.eval x = .pointer (some ⟨g, 0, none⟩)) (hy : a.eval y = .agg #[a0, a1, a2, a3, a4, a5])
    (o0 o1 o2 o3 o4 o5 : Value) (hV : Var w g ty #[o0, o1, o2, o3, o4, o5]) (hi : (P.info? ty).map (·.size) = some 6) (h1 : ∀ u ∈ [a0, a1, a2, a3, a4, a5], u.oneCell' = true)
    (h : ∀ w', Var w' g ty #[a0, a1, a2, a3, a4, a5] → Below g w w' → w'.heap.size = w.heap.size → wpList P ops Q rest (a.put op.dst undef) w') : wpList P ops Q (op :: rest) a w := by
  have hc : ∀ j, j < 6 → (w.cell? ⟨g, 0 + j, none⟩).isSome = true ∧ w.frozen? ⟨g, 0 + j, none⟩ = false := fun j hj => by
    rw [Nat.zero_add]
    refine ⟨?_, hV.free j⟩
    rw [hV.cell j]
    match j, hj with
    | 0, _ | 1, _ | 2, _ | 3, _ | 4, _ | 5, _ => rfl
  refine wpList_store_mid hgd ty x y ho g 0 #[a0, a1, a2, a3, a4, a5] hx hy hc hi (all_oneCell_toArray h1) (h _ ?_ ?_ ?_)
  · exact (((((hV.store 0 a0).store 1 a1).store 2 a2).store 3 a3).store 4 a4).store 5 a5
  · exact ((((((Below.refl g w).setCell (p := ⟨g, 0, none⟩) (Nat.le_refl _) a0).setCell (p := ⟨g, 1, none⟩) (Nat.le_refl _) a1).setCell (p := ⟨g, 2, none⟩) (Nat.le_refl _) a2).setCell (p := ⟨g, 3, none⟩) (Nat.le_refl _) a3).setCell (p := ⟨g, 4, none⟩) (Nat.le_refl _) a4).setCell (p := ⟨g, 5, none⟩) (Nat.le_refl _) a5
  · show ((((((w.setCell _ a0).setCell _ a1).setCell _ a2).setCell _ a3).setCell _ a4).setCell _ a5).heap.size = w.heap.size
    simp
theorem wpList_store2 (hgd : op.guard = none) (ty : TypeId) (x y : Operand) (ho : op.op = .store ty x y) (g : Nat) (a0 a1 : Value) (hx : a.eval x = .pointer (some ⟨g, 0, none⟩)) (hy : a.eval y = .agg #[a0, a1])
    (o0 o1 : Value) (hV : Var w g ty #[o0, o1]) (hi : (P.info? ty).map (·.size) = some 2) (h1 : ∀ u ∈ [a0, a1], u.oneCell' = true)
    (h : ∀ w', Var w' g ty #[a0, a1] → (∀ b, b ≠ g → w'.heap[b]? = w.heap[b]?) → Below g w w' → w'.heap.size = w.heap.size → wpList P ops Q rest (a.put op.dst undef) w') : wpList P ops Q (op :: rest) a w := by
  have hc : ∀ j, j < 2 → (w.cell? ⟨g, 0 + j, none⟩).isSome = true ∧ w.frozen? ⟨g, 0 + j, none⟩ = false := fun j hj => by
    rw [Nat.zero_add]
    refine ⟨?_, hV.free j⟩
    rw [hV.cell j]
    match j, hj with
    | 0, _ | 1, _ => rfl
  refine wpList_store_mid hgd ty x y ho g 0 #[a0, a1] hx hy hc hi (all_oneCell_toArray h1) (h _ ?_ ?_ ?_ ?_)
  · exact (hV.store 0 a0).store 1 a1
  · intro b hb
    exact (Below.heap_setCell _ _ _ b hb).trans (Below.heap_setCell _ _ _ b hb)
  · exact ((Below.refl g w).setCell (p := ⟨g, 0, none⟩) (Nat.le_refl _) a0).setCell (p := ⟨g, 1, none⟩) (Nat.le_refl _) a1
  · show ((w.setCell _ a0).setCell _ a1).heap.size = w.heap.size
    simp
end
theorem pair_cells {a b : Value} (h0 : a.oneCell' = true) (h1 : b.oneCell' = true) : ∀ u ∈ [a, b], u.oneCell' = true := fun u hu => by
  simp only [List.mem_cons, List.not_mem_nil, or_false] at hu
  rcases hu with rfl | rfl <;> assumption
theorem six_cells {a b c d e f : Value} (h0 : a.oneCell' = true) (h1 : b.oneCell' = true) (h2 : c.oneCell' = true) (h3 : d.oneCell' = true) (h4 : e.oneCell' = true) (h5 : f.oneCell' = true) : ∀ u ∈ [a, b, c, d, e, f], u.oneCell' = true := fun u hu => by
  simp only [List.mem_cons, List.not_mem_nil, or_false] at hu
  rcases hu with rfl | rfl | rfl | rfl | rfl | rfl <;> assumption

end Go.Proofs.Ythbndilnobjjgaa
