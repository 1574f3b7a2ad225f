/-
  The reference's numbers in memory: what a value of paddockref05.Whole stands for. Plain lemmas; no walk.
-/
import Derived.Test.YtpjgghakeaajbaaNatW
import Derived.Test.YtpjgghakeaajbaaMem
import Derived.Below
import Derived.Laws.OwnMore
import Derived.Laws.Rows
import Derived.Deep.Draws
import Derived.OwnWalk
namespace Go.Proofs.Ytpjgghakeaajbaa
open Go.RowKit

/-- A slice's cells: the list xs, where A points, in a block of 32-bit words; all of it lies in w. -/
def Sl (w : World) (A : Option Addr) (xs : List Value) : Prop :=
  ∀ j u, xs[j]? = some u → ∃ b o cur, A = some ⟨b, o, none⟩ ∧ b < w.heap.size ∧ w.heap[b]? = some (.cells cur 91 (0, 0)) ∧ w.cell? ⟨b, o + j, none⟩ = some u

theorem Sl.nil (w : World) (A : Option Addr) : Sl w A [] := fun j u h => by simp at h
theorem Sl.below {w w' : World} {A : Option Addr} {xs : List Value} (h : Sl w A xs) (hb : Below w.heap.size w w') : Sl w' A xs := fun j u hu => by
  obtain ⟨b, o, cur, e, hlt, hh, hc⟩ := h j u hu
  exact ⟨b, o, cur, e, Nat.lt_of_lt_of_le hlt hb.size, (hb.block b hlt).trans hh, (hb.cell (p := ⟨b, o + j, none⟩) hlt).trans hc⟩
theorem Sl.take {w : World} {A : Option Addr} {xs : List Value} (h : Sl w A xs) (n : Nat) : Sl w A (xs.take n) := fun j u hu => by
  rw [List.getElem?_take] at hu
  split at hu
  · exact h j u hu
  · cases hu
theorem Sl.of_own {w : World} {base : Nat} {A : Option Addr} {n c : Nat} {xs : List Value} (h : w.ownsRow base 91 1 (.slice A n c) n xs) : Sl w A xs := fun j u hu => by
  have hl : xs.length = n * 1 := h.1
  have hj : j < xs.length := by
    rcases Nat.lt_or_ge j xs.length with h0 | h0
    · exact h0
    · rw [List.getElem?_eq_none h0] at hu; cases hu
  rcases h.2 with ⟨_, h0⟩ | ⟨g, cap, cur, hv, _, hcur, _, _, hsz, htk⟩
  · omega
  · have hA : A = some ⟨g, 0, none⟩ := by injection hv
    subst hA
    have hlt : g < w.heap.size := by
      rcases Nat.lt_or_ge g w.heap.size with h0 | h0
      · exact h0
      · rw [Array.getElem?_eq_none h0] at hcur; cases hcur
    refine ⟨g, 0, cur, rfl, hlt, hcur, ?_⟩
    rw [cell_of_row w g (0 + j) cur _ (0, 0) hcur]
    rw [← htk, List.getElem?_take] at hu
    split at hu
    · simpa using hu
    · cases hu
/-- A store into a block of another type leaves the digits alone. -/
theorem Sl.away {w : World} {A : Option Addr} {xs : List Value} (h : Sl w A xs) {R o' : Nat} {t : TypeId} {cs : Array Value} (hR : w.heap[R]? = some (.cells cs t (0, 0))) (ht : t ≠ 91) (x : Value) : Sl (w.setCell ⟨R, o', none⟩ x) A xs := fun j y hy => by
  obtain ⟨b, o, cur, e, hb, hh, hc⟩ := h j y hy
  have hne : b ≠ R := by
    rintro rfl
    rw [hh] at hR
    injection hR with hR
    injection hR with _ e
    exact ht e.symm
  refine ⟨b, o, cur, e, by simpa [World.setCell] using hb, (Below.heap_setCell w ⟨R, o', none⟩ x b hne).trans hh, ?_⟩
  rw [World.cell?_setCell_other _ _ _ _ (fun e2 => hne (congrArg Addr.block e2).symm)]
  exact hc

def U (d : Nat) : Value := .int .u32 (d : Int)

structure RawAt (w : World) (A : Option Addr) (n c : Nat) (ds : List Nat) : Prop where
  len : ds.length = n
  cap : n ≤ c
  big : c ≤ 9223372036854775807
  sl : Sl w A (ds.map U)
  digs : Digs ds

theorem RawAt.below {w w' : World} {A : Option Addr} {n c : Nat} {ds : List Nat} (h : RawAt w A n c ds) (hb : Below w.heap.size w w') : RawAt w' A n c ds := ⟨h.len, h.cap, h.big, h.sl.below hb, h.digs⟩
theorem RawAt.at_ {w : World} {A : Option Addr} {n c : Nat} {ds : List Nat} (h : RawAt w A n c ds) {i : Nat} (hi : i < n) :
    ∃ b o, A = some ⟨b, o, none⟩ ∧ b < w.heap.size ∧ w.cell? ⟨b, o + i, none⟩ = some (.int .u32 ((ds.getD i 0 : Nat) : Int)) := by
  have hl : i < ds.length := by rw [h.len]; exact hi
  suffices hs : (ds.map U)[i]? = some (.int .u32 ((ds.getD i 0 : Nat) : Int)) by
    obtain ⟨b, o, cur, e, hb, _, hc⟩ := h.sl i _ hs
    exact ⟨b, o, e, hb, hc⟩
  rw [List.getElem?_map, List.getElem?_eq_getElem hl, List.getD_eq_getElem?_getD, List.getElem?_eq_getElem hl]
  rfl
theorem RawAt.take {w : World} {A : Option Addr} {n c : Nat} {ds : List Nat} (h : RawAt w A n c ds) {k : Nat} (hk : k ≤ n) : RawAt w A k c (ds.take k) :=
  ⟨by rw [List.length_take, h.len]; omega, by have := h.cap; omega, h.big, by rw [List.map_take]; exact h.sl.take k, h.digs.take k⟩

/-- A number's two cells written over: other numbers are as they were. -/
theorem RawAt.over {w : World} {A : Option Addr} {n c : Nat} {ds : List Nat} (h : RawAt w A n c ds) {R : Nat} {cs : Array Value} (hV : Var w R 51 cs) (x y : Value) :
    RawAt ((w.setCell ⟨R, 0, none⟩ x).setCell ⟨R, 1, none⟩ y) A n c ds :=
  ⟨h.len, h.cap, h.big, (h.sl.away (o' := 0) hV (by decide) x).away (o' := 1) (hV.store 0 x) (by decide) y, h.digs⟩

/-- The value v: a sign s, and a size m. -/
def MagAt (w : World) (v : Value) (s : Bool) (m : Nat) : Prop :=
  ∃ A n c ds, v = .agg #[.bool s, .slice A n c] ∧ RawAt w A n c ds ∧ Tight ds ∧ val ds = m
/-- The value v: the whole number z. -/
def NumAt (w : World) (v : Value) (z : Int) : Prop := MagAt w v (decide (z < 0)) z.natAbs

theorem MagAt.below {w w' : World} {v : Value} {s : Bool} {m : Nat} (h : MagAt w v s m) (hb : Below w.heap.size w w') : MagAt w' v s m := by
  obtain ⟨A, n, c, ds, h1, h2, h3⟩ := h
  exact ⟨A, n, c, ds, h1, h2.below hb, h3⟩
theorem MagAt.over {w : World} {v : Value} {s : Bool} {m : Nat} (h : MagAt w v s m) {R : Nat} {cs : Array Value} (hV : Var w R 51 cs) (x y : Value) :
    MagAt ((w.setCell ⟨R, 0, none⟩ x).setCell ⟨R, 1, none⟩ y) v s m := by
  obtain ⟨A, n, c, ds, h1, h2, h3⟩ := h
  exact ⟨A, n, c, ds, h1, h2.over hV x y, h3⟩
theorem NumAt.below {w w' : World} {v : Value} {z : Int} (h : NumAt w v z) (hb : Below w.heap.size w w') : NumAt w' v z := MagAt.below h hb

/-- Fewer than k digits' worth. -/
def Small (k m : Nat) : Prop := m < 4294967296 ^ k
theorem Small.mono {k l m : Nat} (h : Small k m) (hl : k ≤ l) : Small l m := Nat.lt_of_lt_of_le h (Nat.pow_le_pow_right (by omega) hl)
theorem Small.le {k m m' : Nat} (h : Small k m) (hm : m' ≤ m) : Small k m' := Nat.lt_of_le_of_lt hm h
theorem Small.add {k m m' : Nat} (h : Small k m) (h' : Small k m') : Small (k + 1) (m + m') := by
  unfold Small at *; rw [Nat.pow_succ]; omega
theorem Small.mul {k l m m' : Nat} (h : Small k m) (h' : Small l m') : Small (k + l) (m * m') := by
  unfold Small at *; rw [Nat.pow_add]
  exact Nat.mul_lt_mul'' h h'
theorem Small.len {k : Nat} {ds : List Nat} (ht : Tight ds) (h : Small k (val ds)) : ds.length ≤ k := length_le_of_val ht h

end Go.Proofs.Ytpjgghakeaajbaa
