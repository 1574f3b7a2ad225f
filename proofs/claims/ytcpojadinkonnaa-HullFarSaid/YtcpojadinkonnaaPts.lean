/-
  A slice of points in memory (printed by gen_pts.py out of other texts).
-/
import Derived.Test.YtcpojadinkonnaaRing
import Derived.Test.YtcpojadinkonnaaMem
namespace Go.Proofs.Ytcpojadinkonnaa
open Go.RowKit

def PT (p : Pt) : Value := .agg #[.int .i32 p.1, .int .i32 p.2]
/-- The slice value sv holds the points ps, in a block below n; or it is nil and there are none. -/
def PtsAt (n : Nat) (W : World) (sv : Value) (ps : List Pt) : Prop :=
  ((∃ A c, sv = .slice A 0 c) ∧ ps = []) ∨ ∃ b off cap, sv = .slice (some ⟨b, off, none⟩) ps.length cap ∧ b < n ∧ ∀ j, j < ps.length → W.cell? ⟨b, off + j * 2, none⟩ = some (.int .i32 (gp ps j).1) ∧ W.cell? ⟨b, off + j * 2 + 1, none⟩ = some (.int .i32 (gp ps j).2)
theorem PtsAt.below {n : Nat} {A B : World} (h : Below n A B) {sv : Value} {ps : List Pt} : PtsAt n A sv ps → PtsAt n B sv ps
  | .inl e => .inl e
  | .inr ⟨b, off, cap, e, hb, hc⟩ => .inr ⟨b, off, cap, e, hb, fun j hj => ⟨(h.cell (p := ⟨b, off + j * 2, none⟩) hb).trans (hc j hj).1, (h.cell (p := ⟨b, off + j * 2 + 1, none⟩) hb).trans (hc j hj).2⟩⟩

def IPt (p : Pt) : Prop := I32 p.1 ∧ I32 p.2
theorem gp_i {ps : List Pt} (h : ∀ p ∈ ps, IPt p) (k : Nat) : IPt (gp ps k) := by
  unfold gp
  by_cases hk : k < ps.length
  · rw [List.getElem?_eq_getElem hk]; exact h _ (List.getElem_mem hk)
  · rw [List.getElem?_eq_none (by omega)]; exact ⟨by unfold I32; decide, by unfold I32; decide⟩
theorem PtsAt.up {n m : Nat} (h : m ≤ n) {A : World} {sv : Value} {ps : List Pt} : PtsAt m A sv ps → PtsAt n A sv ps
  | .inl e => .inl e
  | .inr ⟨b, off, cap, e, hb, hc⟩ => .inr ⟨b, off, cap, e, by omega, hc⟩

theorem eltP : Elt Try.prog 23 32 (.agg #[.int .i32 0, .int .i32 0]) 2 8 := ⟨Try.underlying23, by kernel_rfl, rfl, by omega⟩

/-- A list of points as cells. -/
def flat : List Pt → List Value
  | [] => []
  | p :: ps => .int .i32 p.1 :: .int .i32 p.2 :: flat ps
theorem flat_snoc (p : Pt) : ∀ ps : List Pt, flat (ps ++ [p]) = flat ps ++ [.int .i32 p.1, .int .i32 p.2]
  | [] => rfl
  | q :: ps => by rw [List.cons_append, flat, flat, flat_snoc p ps]; rfl
theorem flat_length : ∀ ps : List Pt, (flat ps).length = ps.length * 2
  | [] => rfl
  | q :: ps => by rw [flat, List.length_cons, List.length_cons, List.length_cons, flat_length ps]; omega
theorem gp_cons (q : Pt) (ps : List Pt) (j : Nat) : gp (q :: ps) (j + 1) = gp ps j := rfl
theorem flat_get : ∀ (ps : List Pt) (j : Nat), j < ps.length → (flat ps)[j * 2]? = some (.int .i32 (gp ps j).1) ∧ (flat ps)[j * 2 + 1]? = some (.int .i32 (gp ps j).2)
  | [], _, h => absurd h (Nat.not_lt_zero _)
  | q :: ps, 0, _ => ⟨rfl, rfl⟩
  | q :: ps, j + 1, h => by
    obtain ⟨h1, h2⟩ := flat_get ps j (by simpa using h)
    rw [gp_cons, flat, show (j + 1) * 2 = j * 2 + 1 + 1 by omega]
    exact ⟨h1, h2⟩
theorem add_at (g j : Nat) : ((⟨g, 0, none⟩ : Addr).add j) = ⟨g, j, none⟩ := by
  unfold Addr.add
  by_cases hj0 : j = 0 <;> simp [hj0]
theorem gp_snoc_lt {ps : List Pt} {p : Pt} {j : Nat} (h : j < ps.length) : gp (ps ++ [p]) j = gp ps j := by
  unfold gp
  rw [List.getElem?_append_left h]
theorem gp_snoc_eq {ps : List Pt} {p : Pt} {j : Nat} (h : j = ps.length) : gp (ps ++ [p]) j = p := by
  subst h
  unfold gp
  simp

/-- A row of the call's own holds its points. -/
theorem ptsAt_of_own {W : World} {base : Nat} {v : Value} {k : Nat} {qs : List Pt} (h : W.ownsRow base 32 2 v k (flat qs)) (hl : qs.length = k) : PtsAt W.heap.size W v qs := by
  rcases h.2 with ⟨hv, h0⟩ | ⟨g, cap, cur, hv, hb, hg, h1, h2, h3, h4⟩
  · exact .inl ⟨⟨_, _, hv⟩, List.length_eq_zero_iff.1 (by omega)⟩
  · refine .inr ⟨g, 0, cap, by rw [hl]; exact hv, (h.lt g (by rw [hv]; rfl)).2, fun j hj => ?_⟩
    have hc := h.cells (g := g) (by rw [hv]; rfl)
    obtain ⟨e1, e2⟩ := flat_get qs j hj
    have f1 := hc _ _ e1
    have f2 := hc _ _ e2
    rw [add_at] at f1 f2
    rw [Nat.zero_add]
    exact ⟨f1, f2⟩

theorem two_cells {x y : Value} (hx : x.oneCell' = true) (hy : y.oneCell' = true) : ∀ u ∈ [x, y], u.oneCell' = true := fun u hu => by
  simp only [List.mem_cons, List.not_mem_nil, or_false] at hu
  rcases hu with rfl | rfl
  · exact hx
  · exact hy

end Go.Proofs.Ytcpojadinkonnaa
