/-
  inside.Edge: whether a point lies on a side of a ring.
-/
import Derived.Test.YthbndilnobjjgaaIter
namespace Go.Proofs.Ythbndilnobjjgaa
open Go.RowKit Go.Shelf

attribute [local go_sem] Oper.semAt_some

/-- Block B holds a point (or another struct of two 32-bit numbers). -/
def Two (W : World) (B : Nat) (t : TypeId) (p : Pt) : Prop := W.heap[B]? = some (.cells #[.int .i32 p.1, .int .i32 p.2] t (0, 0))
theorem Two.lt {W : World} {B : Nat} {t : TypeId} {p : Pt} (h : Two W B t p) : B < W.heap.size := (Array.getElem?_eq_some_iff.1 h).1
theorem Two.c0 {W : World} {B : Nat} {t : TypeId} {p : Pt} (h : Two W B t p) : W.cell? ⟨B, 0, none⟩ = some (.int .i32 p.1) := by simp [World.cell?, show W.heap[B]? = _ from h]
theorem Two.c1 {W : World} {B : Nat} {t : TypeId} {p : Pt} (h : Two W B t p) : W.cell? ⟨B, 1, none⟩ = some (.int .i32 p.2) := by simp [World.cell?, show W.heap[B]? = _ from h]
theorem Two.new (W : World) (t : TypeId) (p : Pt) : Two (W.alloc (.cells #[.int .i32 p.1, .int .i32 p.2] t)) W.heap.size t p := World.alloc_heap_new W _
theorem Two.kept {W W' : World} {row : Option Nat} {B : Nat} {t : TypeId} {p : Pt} (h : Two W B t p) (hg : W.grownBy W' row) (hne : some B ≠ row) : Two W' B t p := (hg.block B h.lt hne).trans h
theorem Two.alloc {W : World} {B : Nat} {t : TypeId} {p : Pt} (h : Two W B t p) (o : Obj) : Two (W.alloc o) B t p := h.kept (World.grownBy_alloc W o none) (by simp)
theorem Two.below {W W' : World} {n B : Nat} {t : TypeId} {p : Pt} (hb : Below n W W') (hB : B < n) (h : Two W B t p) : Two W' B t p := (hb.block B hB).trans h
theorem boxed_below {W W' : World} {n B : Nat} {t : TypeId} {v : Value} (hb : Below n W W') (hB : B < n) (h : Boxed W B t v) : Boxed W' B t v := (hb.block B hB).trans h
theorem two_own {β : Type} (B : Nat) (t : TypeId) (f : β → Pt) : Own (fun s W => Two W B t (f s)) := fun s X Y row hs hg hrow =>
  hs.kept hg (fun e' => by obtain ⟨o, ho, hc⟩ := hrow B e'.symm; rw [show X.heap[B]? = _ from hs] at ho; cases ho; cases hc)
theorem keepsFrom_below {B : Nat} {W W' : World} (h : Below W.heap.size W W') : KeepsFrom B W W' := ⟨h.size, fun k _ _ hk _ => (h.block k (Array.getElem?_eq_some_iff.1 hk).1).trans hk⟩

theorem any_upto {f : Pt × Pt → Bool} {ps : List Pt} {k : Nat} (hk : k ≤ ps.length) (h : (upto (sid ps) k).any f = true) : (sides ps).any f = true := by
  rw [List.any_eq_true] at h ⊢
  obtain ⟨x, hx, hf⟩ := h
  refine ⟨x, ?_, hf⟩
  unfold upto at hx
  unfold sides
  rw [List.mem_map] at hx ⊢
  obtain ⟨j, hj, e⟩ := hx
  rw [List.mem_range] at hj
  exact ⟨j, List.mem_range.2 (by omega), e⟩
def vals (l : List Sd) : List (Pt × Pt) := l.map Subtype.val
theorem vals_snoc (l : List Sd) (x : Sd) : vals (l ++ [x]) = vals l ++ [x.1] := by simp [vals]

end Go.Proofs.Ythbndilnobjjgaa
