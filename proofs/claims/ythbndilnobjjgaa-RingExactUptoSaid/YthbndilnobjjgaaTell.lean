/-
  What Crossings and Winding are told of each side: their counting closures.
  inside.past: each side that passes the point to its right is told of: with the counting closures of Crossings and of Winding. Printed by wip/tools/gen_past.py.
-/
import Derived.Test.YthbndilnobjjgaaEdge
namespace Go.Proofs.Ythbndilnobjjgaa
open Go.RowKit Go.Shelf

theorem wrap_near {c d : Int} (h : -4611686018427387904 ≤ c ∧ c ≤ 4611686018427387904) (hd : -1 ≤ d ∧ d ≤ 1) : wrap64 (c + d) = c + d := by unfold wrap64; omega

attribute [local go_sem] Oper.semAt_some

theorem ownFrom_size {β : Type} (B n : Nat) : OwnFrom B (fun (_ : β) W => n ≤ W.heap.size) := fun _ _ _ _ hs hg _ => Nat.le_trans hs hg.size
theorem wrap_tell {m k L : Nat} {c t : Int} (hr : m * 8 ≤ 140737488355328) (hk : k < m) (hL : L = k) (ht : -(L : Int) ≤ t ∧ t ≤ L) (hc : -4503599627370496 ≤ c ∧ c ≤ 4503599627370496) : -4611686018427387904 ≤ c + t ∧ c + t ≤ 4611686018427387904 := by omega
theorem fc_none {p : Pt} {s : Pt × Pt} (h1 : ¬ (s.1.2 ≤ p.2 ∧ p.2 < s.2.2 ∧ 0 < trP p s)) (h2 : ¬ (p.2 < s.1.2 ∧ s.2.2 ≤ p.2 ∧ trP p s < 0)) : fc p s = 0 := by
  unfold fc rise fall
  rw [decide_eq_false h1, decide_eq_false h2]
  rfl
theorem fw_none {p : Pt} {s : Pt × Pt} (h1 : ¬ (s.1.2 ≤ p.2 ∧ p.2 < s.2.2 ∧ 0 < trP p s)) (h2 : ¬ (p.2 < s.1.2 ∧ s.2.2 ≤ p.2 ∧ trP p s < 0)) : fw p s = 0 := by
  unfold fw rise fall
  rw [decide_eq_false h1, decide_eq_false h2]
  rfl
theorem fc_rise {p : Pt} {s : Pt × Pt} (h1 : s.1.2 ≤ p.2 ∧ p.2 < s.2.2 ∧ 0 < trP p s) : fc p s = 1 := by
  unfold fc rise fall
  rw [decide_eq_true h1, decide_eq_false (fun h => by omega)]
  rfl
theorem fw_rise {p : Pt} {s : Pt × Pt} (h1 : s.1.2 ≤ p.2 ∧ p.2 < s.2.2 ∧ 0 < trP p s) : fw p s = 1 := by
  unfold fw rise fall
  rw [decide_eq_true h1, decide_eq_false (fun h => by omega)]
  rfl
theorem fc_fall {p : Pt} {s : Pt × Pt} (h1 : p.2 < s.1.2 ∧ s.2.2 ≤ p.2 ∧ trP p s < 0) : fc p s = 1 := by
  unfold fc rise fall
  rw [decide_eq_true h1, decide_eq_false (fun h => by omega)]
  rfl
theorem fw_fall {p : Pt} {s : Pt × Pt} (h1 : p.2 < s.1.2 ∧ s.2.2 ≤ p.2 ∧ trP p s < 0) : fw p s = -1 := by
  unfold fw rise fall
  rw [decide_eq_true h1, decide_eq_false (fun h => by omega)]
  rfl
theorem kx_set {B n : Nat} {W W' : World} (hb : Below W.heap.size W W') (hn : n ≤ W.heap.size) (v : Value) : Kx B n W (W'.setCell ⟨B, 0, none⟩ v) := by
  have h := Kx.below (B := B) hb hn
  refine ⟨by rw [World.size_setCell]; exact h.1, fun b o h1 h2 => ?_⟩
  rw [← h.2 b o h1 h2]
  exact World.cell?_of_block (w := W') (Below.heap_setCell _ _ _ b h2)

end Go.Proofs.Ythbndilnobjjgaa
