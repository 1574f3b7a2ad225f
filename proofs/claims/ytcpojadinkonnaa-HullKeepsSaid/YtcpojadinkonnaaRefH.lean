/-
  The memory of the reference's Div: what its blocks hold, and what a store makes of it. No walk.
-/
import Derived.Test.YtcpojadinkonnaaRefG
namespace Go.Proofs.Ytcpojadinkonnaa
open Go.RowKit

structure Dv (w wr : World) (s1 s2 : Bool) (A1 A2 : Option Addr) (n1 c1 n2 c2 : Nat) (AQ : Option Addr) (nQ cQ : Nat) (dQ : List Nat) (AL : Option Addr) (nL cL : Nat) (dL : List Nat) : Prop where
  bel : Below w.heap.size w wr
  va : Var wr w.heap.size 64 #[.bool s1, .slice A1 n1 c1]
  vb : Var wr (w.heap.size + 1) 64 #[.bool s2, .slice A2 n2 c2]
  vr : Var wr (w.heap.size + 1 + 1) 64 #[.bool false, .slice none 0 0]
  vs : Var wr (w.heap.size + 1 + 1 + 1) 64 #[.bool false, .slice none 0 0]
  vq : Var wr (w.heap.size + 1 + 1 + 1 + 1) 64 #[.bool false, .slice AQ nQ cQ]
  vl : Var wr (w.heap.size + 1 + 1 + 1 + 1 + 1) 64 #[.bool false, .slice AL nL cL]
  rq : RawAt wr AQ nQ cQ dQ
  rl : RawAt wr AL nL cL dL
  tq : Tight dQ
  tl : Tight dL

section
variable {w wr w' : World} {s1 s2 : Bool} {A1 A2 : Option Addr} {n1 c1 n2 c2 : Nat} {AQ : Option Addr} {nQ cQ : Nat} {dQ : List Nat} {AL : Option Addr} {nL cL : Nat} {dL : List Nat} {A : Option Addr} {n c : Nat} {ds : List Nat}
theorem Dv.keep (h : Dv w wr s1 s2 A1 A2 n1 c1 n2 c2 AQ nQ cQ dQ AL nL cL dL) (hb : Below wr.heap.size wr w') : Dv w w' s1 s2 A1 A2 n1 c1 n2 c2 AQ nQ cQ dQ AL nL cL dL :=
  ⟨h.bel.trans (hb.mono h.bel.size), h.va.keep hb, h.vb.keep hb, h.vr.keep hb, h.vs.keep hb, h.vq.keep hb, h.vl.keep hb, h.rq.below hb, h.rl.below hb, h.tq, h.tl⟩
theorem Dv.setL (h : Dv w wr s1 s2 A1 A2 n1 c1 n2 c2 AQ nQ cQ dQ AL nL cL dL) (hr : RawAt wr A n c ds) (ht : Tight ds) :
    Dv w ((wr.setCell ⟨w.heap.size + 1 + 1 + 1 + 1 + 1, 0, none⟩ (.bool false)).setCell ⟨w.heap.size + 1 + 1 + 1 + 1 + 1, 1, none⟩ (.slice A n c)) s1 s2 A1 A2 n1 c1 n2 c2 AQ nQ cQ dQ A n c ds :=
  ⟨(h.bel.setCell (p := ⟨w.heap.size + 1 + 1 + 1 + 1 + 1, 0, none⟩) (by first | (simp; done) | (simp; omega)) _).setCell (p := ⟨w.heap.size + 1 + 1 + 1 + 1 + 1, 1, none⟩) (by first | (simp; done) | (simp; omega)) _,
    (h.va.far (p := ⟨w.heap.size + 1 + 1 + 1 + 1 + 1, 0, none⟩) (by first | (simp; done) | (simp; omega)) _).far (p := ⟨w.heap.size + 1 + 1 + 1 + 1 + 1, 1, none⟩) (by first | (simp; done) | (simp; omega)) _,
    (h.vb.far (p := ⟨w.heap.size + 1 + 1 + 1 + 1 + 1, 0, none⟩) (by first | (simp; done) | (simp; omega)) _).far (p := ⟨w.heap.size + 1 + 1 + 1 + 1 + 1, 1, none⟩) (by first | (simp; done) | (simp; omega)) _,
    (h.vr.far (p := ⟨w.heap.size + 1 + 1 + 1 + 1 + 1, 0, none⟩) (by first | (simp; done) | (simp; omega)) _).far (p := ⟨w.heap.size + 1 + 1 + 1 + 1 + 1, 1, none⟩) (by first | (simp; done) | (simp; omega)) _,
    (h.vs.far (p := ⟨w.heap.size + 1 + 1 + 1 + 1 + 1, 0, none⟩) (by first | (simp; done) | (simp; omega)) _).far (p := ⟨w.heap.size + 1 + 1 + 1 + 1 + 1, 1, none⟩) (by first | (simp; done) | (simp; omega)) _,
    (h.vq.far (p := ⟨w.heap.size + 1 + 1 + 1 + 1 + 1, 0, none⟩) (by simp) _).far (p := ⟨w.heap.size + 1 + 1 + 1 + 1 + 1, 1, none⟩) (by simp) _,
    (h.vl.store 0 _).store 1 _, h.rq.over h.vl _ _, hr.over h.vl _ _, h.tq, ht⟩
theorem Dv.setQ (h : Dv w wr s1 s2 A1 A2 n1 c1 n2 c2 AQ nQ cQ dQ AL nL cL dL) (hr : RawAt wr A n c ds) (ht : Tight ds) :
    Dv w ((wr.setCell ⟨w.heap.size + 1 + 1 + 1 + 1, 0, none⟩ (.bool false)).setCell ⟨w.heap.size + 1 + 1 + 1 + 1, 1, none⟩ (.slice A n c)) s1 s2 A1 A2 n1 c1 n2 c2 A n c ds AL nL cL dL :=
  ⟨(h.bel.setCell (p := ⟨w.heap.size + 1 + 1 + 1 + 1, 0, none⟩) (by first | (simp; done) | (simp; omega)) _).setCell (p := ⟨w.heap.size + 1 + 1 + 1 + 1, 1, none⟩) (by first | (simp; done) | (simp; omega)) _,
    (h.va.far (p := ⟨w.heap.size + 1 + 1 + 1 + 1, 0, none⟩) (by first | (simp; done) | (simp; omega)) _).far (p := ⟨w.heap.size + 1 + 1 + 1 + 1, 1, none⟩) (by first | (simp; done) | (simp; omega)) _,
    (h.vb.far (p := ⟨w.heap.size + 1 + 1 + 1 + 1, 0, none⟩) (by first | (simp; done) | (simp; omega)) _).far (p := ⟨w.heap.size + 1 + 1 + 1 + 1, 1, none⟩) (by first | (simp; done) | (simp; omega)) _,
    (h.vr.far (p := ⟨w.heap.size + 1 + 1 + 1 + 1, 0, none⟩) (by first | (simp; done) | (simp; omega)) _).far (p := ⟨w.heap.size + 1 + 1 + 1 + 1, 1, none⟩) (by first | (simp; done) | (simp; omega)) _,
    (h.vs.far (p := ⟨w.heap.size + 1 + 1 + 1 + 1, 0, none⟩) (by simp) _).far (p := ⟨w.heap.size + 1 + 1 + 1 + 1, 1, none⟩) (by simp) _,
    (h.vq.store 0 _).store 1 _,
    (h.vl.far (p := ⟨w.heap.size + 1 + 1 + 1 + 1, 0, none⟩) (by simp) _).far (p := ⟨w.heap.size + 1 + 1 + 1 + 1, 1, none⟩) (by simp) _,
    hr.over h.vq _ _, h.rl.over h.vq _ _, ht, h.tl⟩
theorem Dv.cells (h : Dv w wr s1 s2 A1 A2 n1 c1 n2 c2 AQ nQ cQ dQ AL nL cL dL) :
    (wr.cell? ⟨w.heap.size, 0, none⟩ = some (.bool s1) ∧ wr.cell? ⟨w.heap.size, 1, none⟩ = some (.slice A1 n1 c1)) ∧
    (wr.cell? ⟨w.heap.size + 1, 0, none⟩ = some (.bool s2) ∧ wr.cell? ⟨w.heap.size + 1, 1, none⟩ = some (.slice A2 n2 c2)) ∧
    (wr.cell? ⟨w.heap.size + 1 + 1, 0, none⟩ = some (.bool false) ∧ wr.cell? ⟨w.heap.size + 1 + 1, 1, none⟩ = some (.slice none 0 0)) ∧
    (wr.cell? ⟨w.heap.size + 1 + 1 + 1, 0, none⟩ = some (.bool false) ∧ wr.cell? ⟨w.heap.size + 1 + 1 + 1, 1, none⟩ = some (.slice none 0 0)) ∧
    (wr.cell? ⟨w.heap.size + 1 + 1 + 1 + 1, 0, none⟩ = some (.bool false) ∧ wr.cell? ⟨w.heap.size + 1 + 1 + 1 + 1, 1, none⟩ = some (.slice AQ nQ cQ)) ∧
    (wr.cell? ⟨w.heap.size + 1 + 1 + 1 + 1 + 1, 0, none⟩ = some (.bool false) ∧ wr.cell? ⟨w.heap.size + 1 + 1 + 1 + 1 + 1, 1, none⟩ = some (.slice AL nL cL)) :=
  ⟨⟨h.va.cell 0, h.va.cell 1⟩, ⟨h.vb.cell 0, h.vb.cell 1⟩, ⟨h.vr.cell 0, h.vr.cell 1⟩, ⟨h.vs.cell 0, h.vs.cell 1⟩, ⟨h.vq.cell 0, h.vq.cell 1⟩, ⟨h.vl.cell 0, h.vl.cell 1⟩⟩
theorem Dv.frees (h : Dv w wr s1 s2 A1 A2 n1 c1 n2 c2 AQ nQ cQ dQ AL nL cL dL) :
    (wr.frozen? ⟨w.heap.size + 1 + 1, 0, none⟩ = false ∧ wr.frozen? ⟨w.heap.size + 1 + 1, 1, none⟩ = false) ∧ (wr.frozen? ⟨w.heap.size + 1 + 1 + 1, 0, none⟩ = false ∧ wr.frozen? ⟨w.heap.size + 1 + 1 + 1, 1, none⟩ = false) ∧
    (wr.frozen? ⟨w.heap.size + 1 + 1 + 1 + 1, 0, none⟩ = false ∧ wr.frozen? ⟨w.heap.size + 1 + 1 + 1 + 1, 1, none⟩ = false) ∧ (wr.frozen? ⟨w.heap.size + 1 + 1 + 1 + 1 + 1, 0, none⟩ = false ∧ wr.frozen? ⟨w.heap.size + 1 + 1 + 1 + 1 + 1, 1, none⟩ = false) :=
  ⟨⟨h.vr.free 0, h.vr.free 1⟩, ⟨h.vs.free 0, h.vs.free 1⟩, ⟨h.vq.free 0, h.vq.free 1⟩, ⟨h.vl.free 0, h.vl.free 1⟩⟩
theorem Dv.sizes (h : Dv w wr s1 s2 A1 A2 n1 c1 n2 c2 AQ nQ cQ dQ AL nL cL dL) : w.heap.size < wr.heap.size ∧ w.heap.size + 1 < wr.heap.size ∧ w.heap.size + 1 + 1 < wr.heap.size ∧ w.heap.size + 1 + 1 + 1 < wr.heap.size ∧ w.heap.size + 1 + 1 + 1 + 1 < wr.heap.size ∧ w.heap.size + 1 + 1 + 1 + 1 + 1 < wr.heap.size :=
  ⟨h.va.lt, h.vb.lt, h.vr.lt, h.vs.lt, h.vq.lt, h.vl.lt⟩
end

theorem calls_gen {P : Program} {f : FuncId} {args : Array Value} {Q : Ending → World → Prop} {w : World} (h : ∀ W, W = w → Calls P f args W Q) : Calls P f args w Q := h w rfl
theorem one_small : Small 1 1 := by unfold Small; decide
theorem bit_of {d p : Nat} (_ : d < 65536) (_ : 0 < p) : (((IntKind.u64.wrap ((d : Int) / (p : Int))).tmod 2 == 1) = true ↔ d / p % 2 = 1) := by
  have h1 : (d : Int) / (p : Int) = ((d / p : Nat) : Int) := (Int.natCast_ediv d p).symm
  have h2 : d / p ≤ d := Nat.div_le_self d p
  rw [h1, IntKind.wrap_u64, beq_iff_eq, Int.tmod_eq_emod_of_nonneg (by omega)]
  omega
theorem small_two {m k : Nat} (h : m < 65536 ^ k) {b : Nat} (hb : b ≤ 1) : Small (k + 1) (2 * m + b) := by
  unfold Small; rw [Nat.pow_succ]; omega
theorem raw_len {w : World} {A : Option Addr} {n c : Nat} {ds : List Nat} (h : RawAt w A n c ds) (ht : Tight ds) {k : Nat} (hk : Small k (val ds)) : n ≤ k := num_len h ht rfl hk
theorem val_small {ds : List Nat} (h : Digs ds) {n : Nat} (hl : ds.length = n) : val ds < 65536 ^ n := by rw [← hl]; exact val_lt h

end Go.Proofs.Ytcpojadinkonnaa
