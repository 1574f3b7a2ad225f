/-
  Contracts: on the lattice, a point shifted, the box around two points.
-/
import Derived.Test.YtcpojadinkonnaaTurnD
import Derived.BigRegion
namespace Go.Proofs.Ytcpojadinkonnaa
open Go.RowKit

def inB (x y : Int) : Bool := decide ((-1073741823 ≤ x ∧ x ≤ 1073741823) ∧ (-1073741823 ≤ y ∧ y ≤ 1073741823))

theorem in_any (x y : Int) (w : World) : Calls Try.prog 30 #[(Value.agg #[.int .i32 (x), .int .i32 (y)])] w fun e w' => e = .returned (.bool (inB x y)) ∧ Below w.heap.size w w' := by
  go_enter Try.func30, Try.ntmps30
  go_wp2
  all_goals
    go_ret
    exact ⟨ret_bool (by unfold inB; rw [Bool.eq_iff_iff]; simp; try omega), by go_grown⟩

theorem ret_shift {a b a' b' : Int} {c c' : Bool} (h1 : a = a') (h2 : b = b') (h3 : c = c') : Ending.returned (.tuple #[(Value.agg #[.int .i32 (a), .int .i32 (b)]), .bool c]) = .returned (.tuple #[(Value.agg #[.int .i32 (a'), .int .i32 (b')]), .bool c']) := by rw [h1, h2, h3]

theorem shift_math {x b : Int} (h1 : I32 x) (h2 : I32 b) : wrap64 x = x ∧ wrap64 b = b ∧ wrap64 (x + b) = x + b ∧ wrap64 (wrap32 (x + b)) = wrap32 (x + b) := by
  unfold I32 at *; unfold wrap64 wrap32; omega

section
variable {w : World} {g : Nat} {t : TypeId} {a b c d : Value}
theorem four0 (h : Var w g t #[a, b, c, d]) (u : Value) : Var (w.setCell ⟨g, 0, none⟩ u) g t #[u, b, c, d] := h.store 0 u
theorem four1 (h : Var w g t #[a, b, c, d]) (u : Value) : Var (w.setCell ⟨g, 1, none⟩ u) g t #[a, u, c, d] := h.store 1 u
theorem four2 (h : Var w g t #[a, b, c, d]) (u : Value) : Var (w.setCell ⟨g, 2, none⟩ u) g t #[a, b, u, d] := h.store 2 u
theorem four3 (h : Var w g t #[a, b, c, d]) (u : Value) : Var (w.setCell ⟨g, 3, none⟩ u) g t #[a, b, c, u] := h.store 3 u
end

end Go.Proofs.Ytcpojadinkonnaa
