/-
  inside.Crossings, Winding, Covers.
  The law's own turned: a ring told from another point on, backwards if it is told so.
-/
import Derived.Test.YthbndilnobjjgaaTell
import Derived.Test.YthbndilnobjjgaaTail
namespace Go.Proofs.Ythbndilnobjjgaa
open Go.RowKit Go.Shelf

theorem PtsAt.up {n m : Nat} (h : m ≤ n) {A : World} {sv : Value} {ps : List Pt} : PtsAt m A sv ps → PtsAt n A sv ps
  | .inl e => .inl e
  | .inr ⟨b, off, cap, e, hb, hc⟩ => .inr ⟨b, off, cap, e, by omega, hc⟩

theorem eltP : Elt Try.prog 23 28 (.agg #[.int .i32 0, .int .i32 0]) 2 8 := ⟨Try.underlying23, by kernel_rfl, rfl, by omega⟩

/-- A list of points as cells. -/
def flat : List Pt → List Value
  | [] => []
  | p :: ps => .int .i32 p.1 :: .int .i32 p.2 :: flat ps
theorem flat_snoc (p : Pt) : ∀ ps : List Pt, flat (ps ++ [p]) = flat ps ++ [.int .i32 p.1, .int .i32 p.2]
  | [] => rfl
  | q :: ps => by rw [List.cons_append, flat, flat, flat_snoc p ps]; rfl
theorem flat_length : ∀ ps : List Pt, (flat ps).length = ps.length * 2
  | [] => rfl
  | q :: ps => by rw [flat, List.length_cons, List.length_cons, List.length_cons, flat_length ps]; omega
theorem gp_cons (q : Pt) (ps : List Pt) (j : Nat) : gp (q :: ps) (j + 1) = gp ps j := rfl
theorem flat_get : ∀ (ps : List Pt) (j : Nat), j < ps.length → (flat ps)[j * 2]? = some (.int .i32 (gp ps j).1) ∧ (flat ps)[j * 2 + 1]? = some (.int .i32 (gp ps j).2)
  | [], _, h => absurd h (Nat.not_lt_zero _)
  | q :: ps, 0, _ => ⟨rfl, rfl⟩
  | q :: ps, j + 1, h => by
    obtain ⟨h1, h2⟩ := flat_get ps j (by simpa using h)
    rw [gp_cons, flat, show (j + 1) * 2 = j * 2 + 1 + 1 by omega]
    exact ⟨h1, h2⟩
theorem add_at (g j : Nat) : ((⟨g, 0, none⟩ : Addr).add j) = ⟨g, j, none⟩ := by
  unfold Addr.add
  by_cases hj0 : j = 0 <;> simp [hj0]
theorem gp_snoc_lt {ps : List Pt} {p : Pt} {j : Nat} (h : j < ps.length) : gp (ps ++ [p]) j = gp ps j := by
  unfold gp
  rw [List.getElem?_append_left h]
theorem gp_snoc_eq {ps : List Pt} {p : Pt} {j : Nat} (h : j = ps.length) : gp (ps ++ [p]) j = p := by
  subst h
  unfold gp
  simp

/-- A row of the call's own holds its points. -/
theorem ptsAt_of_own {W : World} {base : Nat} {v : Value} {k : Nat} {qs : List Pt} (h : W.ownsRow base 28 2 v k (flat qs)) (hl : qs.length = k) : PtsAt W.heap.size W v qs := by
  rcases h.2 with ⟨hv, h0⟩ | ⟨g, cap, cur, hv, hb, hg, h1, h2, h3, h4⟩
  · exact .inl ⟨⟨_, _, hv⟩, List.length_eq_zero_iff.1 (by omega)⟩
  · refine .inr ⟨g, 0, cap, by rw [hl]; exact hv, (h.lt g (by rw [hv]; rfl)).2, fun j hj => ?_⟩
    have hc := h.cells (g := g) (by rw [hv]; rfl)
    obtain ⟨e1, e2⟩ := flat_get qs j hj
    have f1 := hc _ _ e1
    have f2 := hc _ _ e2
    rw [add_at] at f1 f2
    rw [Nat.zero_add]
    exact ⟨f1, f2⟩

theorem two_cells {x y : Value} (hx : x.oneCell' = true) (hy : y.oneCell' = true) : ∀ u ∈ [x, y], u.oneCell' = true := fun u hu => by
  simp only [List.mem_cons, List.not_mem_nil, or_false] at hu
  rcases hu with rfl | rfl
  · exact hx
  · exact hy

/-- Where the n-th point on begins. -/
theorem turn_start {n : Int} {m : Nat} (hm : 0 < m) : ∃ r : Nat, n.tmod m + m = (r : Int) ∧ r < 2 * m := by
  have h1 := Int.lt_tmod_of_pos n (show (0 : Int) < m by omega)
  have h2 := Int.tmod_lt_of_pos n (show (0 : Int) < m by omega)
  exact ⟨(n.tmod m + m).toNat, by omega, by omega⟩

theorem start_at {t : Int} {r k L x : Nat} (hL : ¬ L = 0) (hr : t + (L : Int) = (r : Int)) (h2 : r < 2 * L) (h : (r + k) % L = x) : -(L : Int) ≤ t ∧ t < L ∧ (t + L + k) % (L : Int) = (x : Int) ∧ (t + L + k).tmod (L : Int) = (x : Int) ∧ x < L := by
  rw [hr]
  refine ⟨by omega, by omega, ?_, ?_, by rw [← h]; exact Nat.mod_lt _ (Nat.pos_of_ne_zero hL)⟩
  · rw [← h, Int.natCast_emod, Int.natCast_add]
  · rw [← h]; exact (Int.ofNat_tmod (r + k) L).symm
theorem back_at {L x : Nat} (h : x < L) : (L : Int) - 1 - (x : Int) = ((L - 1 - x : Nat) : Int) ∧ L - 1 - x < L := by omega

/-- The k-th point of the ring that is told from r on; backwards, if it is told so. -/
def told (back : Bool) (m r k : Nat) : Nat := if back then m - 1 - (r + k) % m else (r + k) % m

theorem told_step {ps qs : List Pt} {back : Bool} {L r k x : Nat} (hl : qs.length = k) (h : ∀ i, i < k → gp qs i = gp ps (told back L r i)) (hx : told back L r k = x) : ∀ i, i < k + 1 → gp (qs ++ [gp ps x]) i = gp ps (told back L r i) := fun i hi => by
  rcases Nat.lt_or_ge i k with h1 | h1
  · rw [gp_snoc_lt (by omega), h i h1]
  · obtain rfl : i = k := by omega
    rw [gp_snoc_eq hl.symm, hx]
theorem ipt_snoc {qs : List Pt} {p : Pt} (h : ∀ q ∈ qs, IPt q) (hp : IPt p) : ∀ q ∈ qs ++ [p], IPt q := fun q hq => by
  rcases List.mem_append.1 hq with h1 | h1
  · exact h q h1
  · rw [List.mem_singleton.1 h1]; exact hp

end Go.Proofs.Ythbndilnobjjgaa
