/-
  Memory that a call makes: a block known whole; an element laid behind a row of the call's own. Plain lemmas and one law; no walk.
-/
import Derived.Test.YtlogidnadfimlaaFrame
import Derived.Below
import Derived.Laws.OwnMore
import Derived.Laws.Rows
import Derived.Deep.Draws
import Derived.OwnWalk
import Derived.OneCell
namespace Go.Proofs.Ytlogidnadfimlaa
open Go.RowKit

/-- Block g is just the cells cs, of element type t; none of them is frozen. -/
def Var (w : World) (g : Nat) (t : TypeId) (cs : Array Value) : Prop := w.heap[g]? = some (.cells cs t (0, 0))

section
variable {w w' : World} {g : Nat} {t : TypeId} {cs : Array Value}
theorem Var.lt (h : Var w g t cs) : g < w.heap.size := by
  rcases Nat.lt_or_ge g w.heap.size with h0 | h0
  · exact h0
  · unfold Var at h; rw [Array.getElem?_eq_none h0] at h; cases h
theorem Var.cell (h : Var w g t cs) (i : Nat) : w.cell? ⟨g, i, none⟩ = cs[i]? := cell_of_row w g i cs t (0, 0) h
theorem Var.free (h : Var w g t cs) (i : Nat) : w.frozen? ⟨g, i, none⟩ = false := by
  unfold Var at h
  simp [World.frozen?, h]
theorem Var.new (w : World) (t : TypeId) (cs : Array Value) : Var (w.alloc (.cells cs t)) w.heap.size t cs := heap_alloc_new w _
theorem Var.new' (w : World) (t : TypeId) (cs : Array Value) {g : Nat} (hg : g = w.heap.size) : Var (w.alloc (.cells cs t)) g t cs := by subst hg; exact Var.new w t cs
theorem Var.drew (h : Var w g t cs) : Var w.drew g t cs := h
theorem Var.alloc (h : Var w g t cs) (o : Obj) : Var (w.alloc o) g t cs := (Below.heap_alloc w o g h.lt).trans h
theorem Var.store (h : Var w g t cs) (i : Nat) (u : Value) : Var (w.setCell ⟨g, i, none⟩ u) g t (cs.setIfInBounds i u) := by
  unfold Var at h ⊢
  simp [World.setCell, Array.getElem?_modify, h]
theorem Var.far (h : Var w g t cs) {p : Addr} (hp : g ≠ p.block) (u : Value) : Var (w.setCell p u) g t cs := (Below.heap_setCell w p u g hp).trans h
theorem Var.below {B : Nat} (h : Var w g t cs) (hb : Below B w w') (hg : g < B) : Var w' g t cs := (hb.block g hg).trans h
theorem Var.keep (h : Var w g t cs) (hb : Below w.heap.size w w') : Var w' g t cs := h.below hb h.lt
theorem Var.grown {row : Option Nat} (h : Var w g t cs) (hb : w.grownBy w' row) (hg : some g ≠ row) : Var w' g t cs := (hb.block g h.lt hg).trans h
theorem own_ge {base : Nat} {e : TypeId} {size n : Nat} {v : Value} {xs : List Value} (h : w.ownsRow base e size v n xs) : ∀ k, v.ownBlock = some k → base ≤ k := fun k hk => (h.lt k hk).1
theorem Var.push {base : Nat} {e : TypeId} {size n : Nat} {v : Value} {xs : List Value} (h : Var w g t cs) (hown : w.ownsRow base e size v n xs) (hg : g < base) (hb : w.grownBy w' v.ownBlock) : Var w' g t cs :=
  h.grown hb (fun e => by have := own_ge hown g e.symm; omega)
theorem below_push {B base : Nat} {a : World} {e : TypeId} {size n : Nat} {v : Value} {xs : List Value} (h : Below B a w) (hown : w.ownsRow base e size v n xs) (hB : B ≤ base) (hs : B ≤ w.heap.size) (hb : w.grownBy w' v.ownBlock) : Below B a w' :=
  h.grown hb hs fun k hk => by have := own_ge hown k hk; omega
end

/-- What lies at place o of block g. -/
def rd (w : World) (g o : Nat) : Value := (w.cell? ⟨g, o, none⟩).getD undef
theorem rd_eq {w : World} {g o : Nat} {u : Value} (h : w.cell? ⟨g, o, none⟩ = some u) : w.cell? ⟨g, o, none⟩ = some (rd w g o) := by unfold rd; rw [h]; rfl
/-- All below block R is as it was in W0; block R has k cells that may be written. -/
def HeldR (R k : Nat) (W0 w' : World) : Prop :=
  Below R W0 w' ∧ R < w'.heap.size ∧ (∀ b o, b < R → w'.cell? ⟨b, o, none⟩ = W0.cell? ⟨b, o, none⟩) ∧ (∀ o, o < k → w'.cell? ⟨R, o, none⟩ = some (rd w' R o)) ∧ (∀ o, w'.frozen? ⟨R, o, none⟩ = false)
theorem heldR_start {W0 : World} {R : Nat} {t : TypeId} {cs : Array Value} (h : Var W0 R t cs) : HeldR R cs.size W0 W0.drew :=
  ⟨(Below.refl _ _).drew, h.lt, fun _ _ _ => rfl, fun o ho => rd_eq (w := W0.drew) (u := cs[o]) ((h.cell o).trans (Array.getElem?_eq_getElem ho)), fun o => h.free o⟩
theorem heldR_step {W0 W w' : World} {R k : Nat} (hb : Below W.heap.size W w') (h : HeldR R k W0 W) : HeldR R k W0 w' := by
  obtain ⟨h1, h2, h3, h4, h5⟩ := h
  have hB := h1.trans (hb.mono (Nat.le_of_lt h2))
  refine ⟨hB, Nat.lt_of_lt_of_le h2 hb.size, fun b o hlt => hB.cell (p := ⟨b, o, none⟩) hlt, fun o ho => ?_, fun o => (hb.frozen (p := ⟨R, o, none⟩) h2).trans (h5 o)⟩
  exact rd_eq ((hb.cell (p := ⟨R, o, none⟩) h2).trans (h4 o ho))
theorem heldR_store {W0 W : World} {R k : Nat} (h : HeldR R k W0 W) (o : Nat) (u : Value) : HeldR R k W0 (W.setCell ⟨R, o, none⟩ u) := by
  obtain ⟨h1, h2, h3, h4, h5⟩ := h
  have hB := h1.setCell (p := ⟨R, o, none⟩) (Nat.le_refl R) u
  refine ⟨hB, by simpa [World.setCell] using h2, fun b o' hlt => hB.cell (p := ⟨b, o', none⟩) hlt, fun o' ho' => ?_, fun o' => ?_⟩
  · obtain ⟨v, hv⟩ := cell?_setCell_some (p := ⟨R, o, none⟩) (x := u) (h4 o' ho')
    exact rd_eq hv
  · rw [World.frozen?_setCell]; exact h5 o'

theorem own_keep {w w' : World} {base : Nat} {e : TypeId} {size n : Nat} {v : Value} {xs : List Value} (h : w.ownsRow base e size v n xs) (hb : Below w.heap.size w w') : w'.ownsRow base e size v n xs :=
  h.kept (row := none) ⟨hb.os, hb.tape, hb.output, hb.size, fun k hk _ => hb.block k hk⟩ (by cases hv : v.ownBlock <;> simp)
theorem one_cell {x : Value} (h : x.oneCell' = true) : ∀ u ∈ [x], u.oneCell' = true := fun u hu => by
  simp only [List.mem_singleton] at hu; rw [hu]; exact h
theorem le_maxLen {n : Nat} (h : n ≤ 70000000000000) : n ≤ maxLen := by simp only [maxLen]; omega

theorem set_cell {W : World} {p : Addr} {u v : Value} (h : (W.setCell p u).cell? p = some v) : v = u := by
  simp only [World.setCell, World.cell?, Array.getElem?_modify, if_true] at h
  cases hh : W.heap[p.block]? with
  | none => rw [hh] at h; simp at h
  | some o =>
    rw [hh] at h
    cases o with
    | cells c e f =>
      simp only [Option.map_some] at h
      by_cases hs : p.spot.isSome = true
      · rw [if_pos hs] at h; cases h
      · rw [if_neg hs, if_neg hs, Array.getElem?_setIfInBounds] at h
        simp at h
        exact h.2.symm
    | _ => simp at h
/-- A struct of four cells, written: what it reads as. -/
theorem rd_four {W0 W : World} {R : Nat} {a b c d : Value} (h : HeldR R 4 W0 ((((W.setCell ⟨R, 0, none⟩ a).setCell ⟨R, 1, none⟩ b).setCell ⟨R, 2, none⟩ c).setCell ⟨R, 3, none⟩ d)) :
    ∃ W', ((((W.setCell ⟨R, 0, none⟩ a).setCell ⟨R, 1, none⟩ b).setCell ⟨R, 2, none⟩ c).setCell ⟨R, 3, none⟩ d) = W' ∧ Below R W0 W' ∧ W'.cell? ⟨R, 0, none⟩ = some a ∧ W'.cell? ⟨R, 1, none⟩ = some b ∧ W'.cell? ⟨R, 2, none⟩ = some c ∧ W'.cell? ⟨R, 3, none⟩ = some d := by
  obtain ⟨h1, _, _, h4, _⟩ := h
  have k0 := h4 0 (by omega)
  have k1 := h4 1 (by omega)
  have k2 := h4 2 (by omega)
  have k3 := h4 3 (by omega)
  refine ⟨_, rfl, h1, ?_, ?_, ?_, ?_⟩
  · rw [k0]
    rw [World.cell?_setCell_other _ _ _ _ (by simp), World.cell?_setCell_other _ _ _ _ (by simp), World.cell?_setCell_other _ _ _ _ (by simp)] at k0
    rw [set_cell k0]
  · rw [k1]
    rw [World.cell?_setCell_other _ _ _ _ (by simp), World.cell?_setCell_other _ _ _ _ (by simp)] at k1
    rw [set_cell k1]
  · rw [k2]
    rw [World.cell?_setCell_other _ _ _ _ (by simp)] at k2
    rw [set_cell k2]
  · rw [k3]
    rw [set_cell k3]

/-- What the table of types says of a slice type and of its elements. -/
structure Elt (P : Program) (t e : TypeId) (z : Value) (size bytes : Nat) : Prop where
  under : P.underlying t = some (.slice e)
  info : (P.info? e).map (fun i => (i.zero, i.size, i.bytes)) = some (some z, size, bytes)
  cells : z.cells.size = size
  pos : 0 < size

section
variable {P : Program}
/-- 'x = append(x, u)' onto a row of the call's own. -/
theorem wpList_push {ops : Array Oper} {rest : List Oper} {o : Oper} {a : Act} {Q : Exit → Act → World → Prop} {w0 : World} (hgd : o.guard = none) (s x : Operand) (t : TypeId)
    (ho : o.op = .call { callee := .builtin .append, args := #[s, x], argTypes := #[t, t] })
    {e : TypeId} {z : Value} {size bytes : Nat} (E : Elt P t e z size bytes) (base : Nat) (A : Option Addr) (n c : Nat) (xs : List Value)
    (hs : a.eval s = .slice A n c) (hown : w0.ownsRow base e size (.slice A n c) n xs) (us : List Value) (hx : a.eval x = .slice (some ⟨w0.heap.size, 0, none⟩) 1 1)
    (hl : us.length = size) (h1 : ∀ u ∈ us, u.oneCell' = true) (hn : n + 1 ≤ maxLen) (hbytes : (n + 1) * bytes ≤ 140737488355328) (hbase : base ≤ w0.heap.size)
    (h : ∀ A' c' w', w'.ownsRow base e size (.slice A' (n + 1) c') (n + 1) (xs ++ us) → w0.grownBy w' (Value.slice A n c).ownBlock → wpList P ops Q rest (a.put o.dst (.slice A' (n + 1) c')) w') :
    wpList P ops Q (o :: rest) a (w0.alloc (.cells us.toArray e)) := by
  obtain ⟨i, hi, hz, hsz, hby⟩ := info_parts E.info
  refine wpList_append_own (w0.alloc (.cells us.toArray e)) hgd s x t ho base e i z size bytes E.under hi hz hsz hby E.cells E.pos (.slice A n c) n xs hs (hown.alloc _) ⟨w0.heap.size, 0, none⟩ 1 1 us hx (by omega) ?_ h1 hn hbytes (by simp; omega) ?_
  · intro j u hu
    have hj : j < us.length := by
      rcases Nat.lt_or_ge j us.length with h0 | h0
      · exact h0
      · rw [List.getElem?_eq_none h0] at hu; cases hu
    have hc := (Var.new w0 e us.toArray).cell j
    have ha : ((⟨w0.heap.size, 0, none⟩ : Addr).add j) = ⟨w0.heap.size, j, none⟩ := by
      unfold Addr.add
      by_cases hj0 : j = 0 <;> simp [hj0]
    rw [ha, hc]
    simpa using hu
  · intro v' w' hown' hg hnil
    have hg' : w0.grownBy w' (Value.slice A n c).ownBlock := ⟨hg.os, hg.tape, hg.output, Nat.le_trans (by simp) hg.size, fun k hk hne => (hg.block k (by simp; omega) hne).trans (Below.heap_alloc w0 _ k hk)⟩
    rcases hown'.2 with ⟨hv, hn0⟩ | ⟨g, cap, cur, hv, _⟩
    · omega
    · subst hv
      exact h _ _ w' hown' hg'
/-- 'x = append(x, u, v, ..)' onto a row of the call's own: m elements at once. -/
theorem wpList_pushes {ops : Array Oper} {rest : List Oper} {o : Oper} {a : Act} {Q : Exit → Act → World → Prop} {w0 : World} (hgd : o.guard = none) (s x : Operand) (t : TypeId)
    (ho : o.op = .call { callee := .builtin .append, args := #[s, x], argTypes := #[t, t] })
    {e : TypeId} {z : Value} {size bytes : Nat} (E : Elt P t e z size bytes) (base : Nat) (A : Option Addr) (n c : Nat) (xs : List Value)
    (hs : a.eval s = .slice A n c) (hown : w0.ownsRow base e size (.slice A n c) n xs) (m : Nat) (us : List Value) (hm : 0 < m) (hx : a.eval x = .slice (some ⟨w0.heap.size, 0, none⟩) m m)
    (hl : us.length = m * size) (h1 : ∀ u ∈ us, u.oneCell' = true) (hn : n + m ≤ maxLen) (hbytes : (n + m) * bytes ≤ 140737488355328) (hbase : base ≤ w0.heap.size)
    (h : ∀ A' c' w', w'.ownsRow base e size (.slice A' (n + m) c') (n + m) (xs ++ us) → w0.grownBy w' (Value.slice A n c).ownBlock → wpList P ops Q rest (a.put o.dst (.slice A' (n + m) c')) w') :
    wpList P ops Q (o :: rest) a (w0.alloc (.cells us.toArray e)) := by
  obtain ⟨i, hi, hz, hsz, hby⟩ := info_parts E.info
  refine wpList_append_own (w0.alloc (.cells us.toArray e)) hgd s x t ho base e i z size bytes E.under hi hz hsz hby E.cells E.pos (.slice A n c) n xs hs (hown.alloc _) ⟨w0.heap.size, 0, none⟩ m m us hx hl ?_ h1 hn hbytes (by simp; omega) ?_
  · intro j u hu
    have hc := (Var.new w0 e us.toArray).cell j
    have ha : ((⟨w0.heap.size, 0, none⟩ : Addr).add j) = ⟨w0.heap.size, j, none⟩ := by
      unfold Addr.add
      by_cases hj0 : j = 0 <;> simp [hj0]
    rw [ha, hc]
    simpa using hu
  · intro v' w' hown' hg hnil
    have hg' : w0.grownBy w' (Value.slice A n c).ownBlock := ⟨hg.os, hg.tape, hg.output, Nat.le_trans (by simp) hg.size, fun k hk hne => (hg.block k (by simp; omega) hne).trans (Below.heap_alloc w0 _ k hk)⟩
    rcases hown'.2 with ⟨hv, hn0⟩ | ⟨g, cap, cur, hv, _⟩
    · omega
    · subst hv
      exact h _ _ w' hown' hg'
end

end Go.Proofs.Ytlogidnadfimlaa
