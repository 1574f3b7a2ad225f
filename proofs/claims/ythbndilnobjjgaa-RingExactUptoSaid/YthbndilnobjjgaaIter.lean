/-
  The iterator inside.sides: a ring's sides, one after another.
-/
import Derived.RangeFuncNested
import Derived.RangeFuncBound
import Derived.RangeFuncCalls
import Derived.RangeFuncLeaves
import Derived.Shelf.Abstract
import Derived.Shelf.RegionOpen
import Derived.WalkKit
import Derived.OwnWalkIn
import Derived.TacticsInMore
import Derived.LoopNIn
import Derived.LoopIn
import Derived.Test.YthbndilnobjjgaaRing
import Derived.Test.YthbndilnobjjgaaTailIn
namespace Go.Proofs.Ythbndilnobjjgaa
open Go.RowKit Go.Shelf

attribute [local go_sem] Oper.semAt_some

def PT (p : Pt) : Value := .agg #[.int .i32 p.1, .int .i32 p.2]
def upto {α : Type} (f : Nat → α) (k : Nat) : List α := (List.range k).map f
theorem upto_succ {α : Type} (f : Nat → α) (k : Nat) : upto f (k + 1) = upto f k ++ [f k] := by simp [upto, List.range_succ]
theorem upto_length {α : Type} (f : Nat → α) (k : Nat) : (upto f k).length = k := by simp [upto]
/-- What a round keeps: every cell of a block below n, but for block B. -/
def Kx (B n : Nat) (W W' : World) : Prop := W.heap.size ≤ W'.heap.size ∧ ∀ b o, b < n → b ≠ B → W'.cell? ⟨b, o, none⟩ = W.cell? ⟨b, o, none⟩
theorem Kx.refl (B n : Nat) (W : World) : Kx B n W W := ⟨Nat.le_refl _, fun _ _ _ _ => rfl⟩
theorem Kx.trans {B n : Nat} {W W' W'' : World} (h : Kx B n W W') (k : Kx B n W' W'') : Kx B n W W'' := ⟨Nat.le_trans h.1 k.1, fun b o hb hB => (k.2 b o hb hB).trans (h.2 b o hb hB)⟩
theorem Kx.below {B n m : Nat} {W W' : World} (h : Below m W W') (hn : n ≤ m) : Kx B n W W' := ⟨h.size, fun b o hb _ => h.cell (p := ⟨b, o, none⟩) (by show b < m; omega)⟩
theorem kx_t {B n : Nat} {A C D : World} (h : Kx B n A C) (k : Kx B n C D) : Kx B n A D := h.trans k
theorem kx_b {B n : Nat} {w : World} (hn : n ≤ w.heap.size) (W : World) (l : Nat) (o o' : Obj) (hl : w.heap.size ≤ l) (h : W.heap[l]? = some o) (h1 : o.isCells = false) (h2 : o.isWalk = false) : Kx B n W (W.putObj l o') := Kx.below (belowK_b hn W l o o' hl h h1 h2) (Nat.le_refl _)

theorem wpIn_gen {F : Fence} {n : Nat} {P : Program} {c : Code} {Q : Exit → Act → World → Prop} {a : Act} {w : World} (h : ∀ W, w = W → c.wpIn F n P Q a W) : c.wpIn F n P Q a w := h w rfl
theorem mod_int {k m : Nat} (_hm : m ≠ 0) : ((k : Int) + 1).tmod (m : Int) = (((k + 1) % m : Nat) : Int) := by
  have : ((k : Int) + 1) = ((k + 1 : Nat) : Int) := by omega
  rw [this]
  exact (Int.ofNat_tmod (k + 1) m).symm

/-- The slice value sv holds the points ps, in a block below n; or it is nil and there are none. -/
def PtsAt (n : Nat) (W : World) (sv : Value) (ps : List Pt) : Prop :=
  ((∃ A c, sv = .slice A 0 c) ∧ ps = []) ∨ ∃ b off cap, sv = .slice (some ⟨b, off, none⟩) ps.length cap ∧ b < n ∧ ∀ j, j < ps.length → W.cell? ⟨b, off + j * 2, none⟩ = some (.int .i32 (gp ps j).1) ∧ W.cell? ⟨b, off + j * 2 + 1, none⟩ = some (.int .i32 (gp ps j).2)
theorem PtsAt.below {n : Nat} {A B : World} (h : Below n A B) {sv : Value} {ps : List Pt} : PtsAt n A sv ps → PtsAt n B sv ps
  | .inl e => .inl e
  | .inr ⟨b, off, cap, e, hb, hc⟩ => .inr ⟨b, off, cap, e, hb, fun j hj => ⟨(h.cell (p := ⟨b, off + j * 2, none⟩) hb).trans (hc j hj).1, (h.cell (p := ⟨b, off + j * 2 + 1, none⟩) hb).trans (hc j hj).2⟩⟩

def IPt (p : Pt) : Prop := I32 p.1 ∧ I32 p.2
theorem gp_i {ps : List Pt} (h : ∀ p ∈ ps, IPt p) (k : Nat) : IPt (gp ps k) := by
  unfold gp
  by_cases hk : k < ps.length
  · rw [List.getElem?_eq_getElem hk]; exact h _ (List.getElem_mem hk)
  · rw [List.getElem?_eq_none (by omega)]; exact ⟨by unfold I32; decide, by unfold I32; decide⟩
/-- A side between points of the lattice. -/
abbrev Sd := { x : Pt × Pt // IPt x.1 ∧ IPt x.2 }
def sdS (ps : List Pt) (h : ∀ p ∈ ps, IPt p) (k : Nat) : Sd := ⟨sid ps k, gp_i h _, gp_i h _⟩
def ePt (x : Sd) : Array Value := #[.agg #[.int .i32 x.1.1.1, .int .i32 x.1.1.2], .agg #[.int .i32 x.1.2.1, .int .i32 x.1.2.2]]
theorem sdS_map (ps : List Pt) (h : ∀ p ∈ ps, IPt p) (k : Nat) : (upto (sdS ps h) k).map Subtype.val = upto (sid ps) k := by simp [upto, sdS]

end Go.Proofs.Ythbndilnobjjgaa
