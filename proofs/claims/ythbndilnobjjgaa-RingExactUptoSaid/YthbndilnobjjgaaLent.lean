/-
  Chapter 04's own Lent, same, Left.
-/
import Derived.Test.YthbndilnobjjgaaCovers
namespace Go.Proofs.Ythbndilnobjjgaa
open Go.RowKit Go.Shelf

def mark : Pt := (77, -77)
def lent (ps : List Pt) (k : Nat) : List Pt := ps ++ List.replicate k mark
theorem lent_length (ps : List Pt) (k : Nat) : (lent ps k).length = ps.length + k := by simp [lent]
theorem lent_snoc (ps : List Pt) (k : Nat) : lent ps (k + 1) = lent ps k ++ [mark] := by
  unfold lent
  rw [List.replicate_succ', List.append_assoc]
theorem lent_lt {ps : List Pt} {k j : Nat} (h : j < ps.length) : gp (lent ps k) j = gp ps j := by
  unfold gp lent
  rw [List.getElem?_append_left h]
theorem lent_ge {ps : List Pt} {k j : Nat} (h : ps.length ≤ j) (h' : j < ps.length + k) : gp (lent ps k) j = mark := by
  unfold gp lent
  rw [List.getElem?_append_right h, List.getElem?_replicate, if_pos (by omega)]
  rfl

/-- Block g holds the points and twenty marks behind them. -/
def LentAt (W : World) (g cap : Nat) (ps : List Pt) : Prop := W.ownsRow 0 28 2 (.slice (some ⟨g, 0, none⟩) (ps.length + 20) cap) (ps.length + 20) (flat (lent ps 20))
theorem own_base {W : World} {b b' : Nat} {e : TypeId} {size n : Nat} {v : Value} {xs : List Value} (h : W.ownsRow b e size v n xs) (hb : b' ≤ b) : W.ownsRow b' e size v n xs := by
  refine ⟨h.1, ?_⟩
  rcases h.2 with h0 | ⟨g, cap, cur, hv, h1, h2⟩
  · exact .inl h0
  · exact .inr ⟨g, cap, cur, hv, by omega, h2⟩
theorem LentAt.lt {W : World} {g cap : Nat} {ps : List Pt} (h : LentAt W g cap ps) : g < W.heap.size := (World.ownsRow.lt h g rfl).2
theorem LentAt.cap {W : World} {g cap : Nat} {ps : List Pt} (h : LentAt W g cap ps) : ps.length + 20 ≤ cap ∧ cap ≤ 9223372036854775807 := by
  rcases h.2 with ⟨hv, _⟩ | ⟨g', cap', cur, hv, _, _, h1, h2, _⟩
  · cases hv
  · cases hv
    exact ⟨h1, by simpa only [maxLen] using h2⟩
theorem LentAt.below {W W' : World} {n g cap : Nat} {ps : List Pt} (hb : Below n W W') (hg : g < n) (h : LentAt W g cap ps) : LentAt W' g cap ps := by
  refine ⟨h.1, ?_⟩
  rcases h.2 with ⟨hv, _⟩ | ⟨g', cap', cur, hv, h0, h1, h2⟩
  · cases hv
  · cases hv
    exact .inr ⟨g, cap, cur, rfl, h0, (hb.block g hg).trans h1, h2⟩
theorem LentAt.at {W : World} {g cap : Nat} {ps : List Pt} (h : LentAt W g cap ps) {j : Nat} (hj : j < ps.length + 20) :
    W.cell? ⟨g, j * 2, none⟩ = some (.int .i32 (gp (lent ps 20) j).1) ∧ W.cell? ⟨g, j * 2 + 1, none⟩ = some (.int .i32 (gp (lent ps 20) j).2) := by
  have hc := World.ownsRow.cells h (g := g) rfl
  obtain ⟨e1, e2⟩ := flat_get (lent ps 20) j (by rw [lent_length]; exact hj)
  have f1 := hc _ _ e1
  have f2 := hc _ _ e2
  rw [add_at] at f1 f2
  exact ⟨f1, f2⟩
theorem LentAt.pts {W : World} {g cap : Nat} {ps : List Pt} (h : LentAt W g cap ps) : PtsAt W.heap.size W (.slice (some ⟨g, 0, none⟩) ps.length cap) ps := by
  refine .inr ⟨g, 0, cap, rfl, h.lt, fun j hj => ?_⟩
  have := h.at (j := j) (by omega)
  rw [lent_lt hj] at this
  rw [Nat.zero_add]
  exact this

theorem flat_one {ps : List Pt} : ∀ u ∈ flat ps, u.oneCell' = true := by
  induction ps with
  | nil => intro u hu; cases hu
  | cons p ps ih =>
    intro u hu
    simp only [flat, List.mem_cons] at hu
    rcases hu with rfl | rfl | hu
    · rfl
    · rfl
    · exact ih u hu
theorem flat_cells {W : World} {b off : Nat} {ps : List Pt} (hc : ∀ j, j < ps.length → W.cell? ⟨b, off + j * 2, none⟩ = some (.int .i32 (gp ps j).1) ∧ W.cell? ⟨b, off + j * 2 + 1, none⟩ = some (.int .i32 (gp ps j).2)) :
    ∀ j u, (flat ps)[j]? = some u → W.cell? ((⟨b, off, none⟩ : Addr).add j) = some u := fun j u hu => by
  have hj : j < ps.length * 2 := by
    rw [← flat_length]
    rcases Nat.lt_or_ge j (flat ps).length with h | h
    · exact h
    · rw [List.getElem?_eq_none h] at hu; cases hu
  have ha : (⟨b, off, none⟩ : Addr).add j = ⟨b, off + j, none⟩ := by
    unfold Addr.add
    by_cases hj0 : j = 0 <;> simp [hj0]
  rw [ha]
  obtain ⟨h1, h2⟩ := hc (j / 2) (by omega)
  obtain ⟨e1, e2⟩ := flat_get ps (j / 2) (by omega)
  rcases Nat.mod_two_eq_zero_or_one j with h | h
  · have : j / 2 * 2 = j := by omega
    rw [this] at e1 h1
    rw [h1, ← e1, hu]
  · have : j / 2 * 2 + 1 = j := by omega
    rw [this] at e2
    rw [show off + j = off + j / 2 * 2 + 1 by omega, h2, ← e2, hu]

section
variable {P : Program} {ops : Array Oper} {rest : List Oper} {o : Oper} {a : Act} {Q : Exit → Act → World → Prop} {w : World}
/-- 'append(nil, v...)': a row of the call's own that holds what the slice holds. -/
theorem wpList_lend (hgd : o.guard = none) (s x : Operand) (t : TypeId) (ho : o.op = .call { callee := .builtin .append, args := #[s, x], argTypes := #[t, t] })
    {e : TypeId} {z : Value} {size bytes : Nat} (E : Elt P t e z size bytes) (A : Option Addr) (L c : Nat) (news : List Value) (hs : a.eval s = .slice none 0 0) (hx : a.eval x = .slice A L c)
    (hl : news.length = L * size) (hA : (A = none ∧ L = 0) ∨ ∃ ad, A = some ad ∧ ∀ j u, news[j]? = some u → w.cell? (ad.add j) = some u) (h1 : ∀ u ∈ news, u.oneCell' = true) (hn : L ≤ maxLen) (hb : L * bytes ≤ 140737488355328)
    (h : ∀ A' c' w', w'.ownsRow w.heap.size e size (.slice A' L c') L news → w.grownBy w' none → wpList P ops Q rest (a.put o.dst (.slice A' L c')) w') : wpList P ops Q (o :: rest) a w := by
  obtain ⟨i, hi, hz, hsz, hby⟩ := info_parts E.info
  rcases hA with ⟨rfl, rfl⟩ | ⟨ad, rfl, hc⟩
  · have hnil : news = [] := List.eq_nil_of_length_eq_zero (by omega)
    subst hnil
    refine wpList_plain hgd fun _ hK => ?_
    have hr : (Builtin.append_ #[t, t] o.type #[.slice none 0 0, .slice none 0 c]).run P w = .ok (.slice none 0 0) w := by
      simp [Builtin.append_, run_underlying E.under, sizeOf, typeInfo, hi, Builtin.lenOf, Builtin.firstCells]
    unfold Oper.wp execOp
    simp only [ho, resolve, invoke, builtin, Sem.run_bind, Sem.run_pure, Result.andThen_ok, List.map_toArray, List.map_cons, List.map_nil, hs, hx, hr]
    exact hK _ _ (h none 0 w (World.ownsRow_nil _ _ _ _) ⟨rfl, rfl, rfl, Nat.le_refl _, fun _ _ _ => rfl⟩)
  · refine wpList_append_own w hgd s x t ho w.heap.size e i z size bytes E.under hi hz hsz hby E.cells E.pos (.slice none 0 0) 0 [] hs (World.ownsRow_nil _ _ _ _) ad L c news hx hl hc h1 (by omega) (by rw [Nat.zero_add]; exact hb) (Nat.le_refl _) ?_
    intro v' w' hown hg _
    rw [Nat.zero_add, List.nil_append] at hown
    rcases hown.2 with ⟨hv, hn0⟩ | ⟨g, cap, cur, hv, _⟩
    · subst hv
      subst hn0
      exact h none 0 w' hown hg
    · subst hv
      exact h _ _ w' hown hg
end

end Go.Proofs.Ythbndilnobjjgaa
