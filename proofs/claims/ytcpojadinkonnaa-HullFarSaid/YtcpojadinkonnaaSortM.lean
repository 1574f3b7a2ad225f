/-
  Plain: the points' order; a sorted list by insertion.
-/
import Derived.Test.YtcpojadinkonnaaCmpP
import Derived.Test.YtcpojadinkonnaaPts
import Derived.Sort.LotA
namespace Go.Proofs.Ytcpojadinkonnaa
open Go.RowKit

def pLt (p q : Pt) : Bool := decide (ptCmp p.1 p.2 q.1 q.2 < 0)
theorem pLt_iff (p q : Pt) : pLt p q = true ↔ p.1 < q.1 ∨ (p.1 = q.1 ∧ p.2 < q.2) := by
  unfold pLt
  rw [decide_eq_true_iff]
  unfold ptCmp
  repeat' split
  all_goals omega
theorem pLt_not (p q : Pt) : pLt p q = false ↔ ¬ (p.1 < q.1 ∨ (p.1 = q.1 ∧ p.2 < q.2)) := by rw [← pLt_iff, Bool.not_eq_true]
theorem pLt_swo : Go.Sort.SWO pLt where
  irrefl x := by rw [pLt_not]; omega
  trans x y z h1 h2 := by rw [pLt_iff] at *; omega
  ntrans x y z h1 h2 := by rw [pLt_not] at *; omega
theorem pLt_parts (x y : Pt) (h1 : pLt x y = false) (h2 : pLt y x = false) : x = y := by
  rw [pLt_not] at h1 h2
  exact Prod.ext (by omega) (by omega)
theorem pLt_asym {x y : Pt} (h : pLt x y = true) : pLt y x = false := by rw [pLt_iff] at h; rw [pLt_not]; omega
/-- In order. -/
def Ord (l : List Pt) : Prop := l.Pairwise fun x y => pLt y x = false
theorem ord_unique {l k : List Pt} (hp : l.Perm k) (h1 : Ord l) (h2 : Ord k) : l = k :=
  List.Perm.eq_of_pairwise (le := fun x y => pLt y x = false) (fun a b _ _ h1 h2 => pLt_parts a b h2 h1) h1 h2 hp
theorem ord_place {a b : List Pt} {p : Pt} (h : Ord (a ++ b)) (hb : ∀ y ∈ b, pLt p y = true) (ha : ∀ z, a.getLast? = some z → pLt p z = false) : Ord (a ++ p :: b) := by
  unfold Ord at h ⊢
  rw [List.pairwise_append] at h ⊢
  obtain ⟨h1, h2, h3⟩ := h
  have hp : ∀ x ∈ a, pLt p x = false := fun x hx => by
    rcases a.eq_nil_or_concat with rfl | ⟨a', z, rfl⟩
    · cases hx
    · rw [List.concat_eq_append] at h1 hx ha
      have hz := ha z (by simp)
      rw [List.mem_append, List.mem_singleton] at hx
      rcases hx with hx | rfl
      · rw [List.pairwise_append] at h1
        have := h1.2.2 x hx z (by simp)
        exact pLt_swo.ntrans p z x hz this
      · exact hz
  refine ⟨h1, List.pairwise_cons.2 ⟨fun y hy => pLt_asym (hb y hy), h2⟩, fun x hx y hy => ?_⟩
  rw [List.mem_cons] at hy
  rcases hy with rfl | hy
  · exact hp x hx
  · exact h3 x hx y hy

theorem own_store {W : World} {b n c j g : Nat} {e : TypeId} {xs : List Value} {u : Value} (h : W.ownsRow b e 2 (.slice (some ⟨g, 0, none⟩) n c) n xs) (_hj : j < xs.length) : (W.setCell ⟨g, j, none⟩ u).ownsRow b e 2 (.slice (some ⟨g, 0, none⟩) n c) n (xs.set j u) := by
  refine ⟨by rw [List.length_set]; exact h.1, ?_⟩
  have hl := h.1
  rcases h.2 with ⟨hv, _⟩ | ⟨g', cap, cur, hv, hb, hvar, h1, h2, h3, h4⟩
  · cases hv
  · have hv' := hv
    injection hv' with hA _ hc
    injection hA with hA
    injection hA with hA
    subst hA hc
    have vV : Var W g e cur := hvar
    refine .inr ⟨g, c, _, rfl, hb, vV.store j u, h1, h2, by simpa using h3, ?_⟩
    rw [Array.toList_setIfInBounds, List.take_set, h4]
theorem flat_swap (a b : List Pt) (z p : Pt) :
    ((((flat (a ++ z :: p :: b)).set (a.length * 2 + 2) (.int .i32 z.1)).set (a.length * 2 + 3) (.int .i32 z.2)).set (a.length * 2) (.int .i32 p.1)).set (a.length * 2 + 1) (.int .i32 p.2) = flat (a ++ p :: z :: b) := by
  have h : ∀ l : List Pt, flat (a ++ l) = flat a ++ flat l := fun l => by
    induction a with
    | nil => rfl
    | cons x a ih => rw [List.cons_append, flat, flat, ih]; rfl
  rw [h, h]
  have hl := flat_length a
  rw [List.set_append_right _ _ (by omega), List.set_append_right _ _ (by omega), List.set_append_right _ _ (by omega), List.set_append_right _ _ (by omega), hl]
  simp only [flat, Nat.add_sub_cancel_left, Nat.sub_self]
  rfl

end Go.Proofs.Ytcpojadinkonnaa
