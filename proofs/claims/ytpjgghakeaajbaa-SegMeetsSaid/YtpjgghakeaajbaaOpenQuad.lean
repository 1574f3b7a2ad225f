/-
  A quad as an argument: eight coordinates.
-/
import Derived.Test.YtpjgghakeaajbaaLives
import Derived.Lib.SmallJoins
namespace Go.Proofs.Ytpjgghakeaajbaa
open Go.ChangeShapes Go.WideShapes Go.ChangeAt Go.RowKit

set_option maxRecDepth 100000 in
theorem open_quad {W : World} {base : Nat} {v : Value} (hv : Value.okWide Try.prog W .any base 25 v) : ∃ a b c d e f g h, I32 a ∧ I32 b ∧ I32 c ∧ I32 d ∧ I32 e ∧ I32 f ∧ I32 g ∧ I32 h ∧ v = .agg #[.int .i32 a, .int .i32 b, .int .i32 c, .int .i32 d, .int .i32 e, .int .i32 f, .int .i32 g, .int .i32 h] := by
  obtain ⟨cs, rfl, hl, hall⟩ := open_cells (ts := [21, 21, 21, 21, 21, 21, 21, 21]) Try.underlying25 (by kernel_rfl) (by kernel_rfl) hv
  match cs, hl with
  | [c0, c1, c2, c3, c4, c5, c6, c7], _ =>
    obtain ⟨t0, e0, h0⟩ := hall 0 c0 rfl
    obtain ⟨t1, e1, h1⟩ := hall 1 c1 rfl
    obtain ⟨t2, e2, h2⟩ := hall 2 c2 rfl
    obtain ⟨t3, e3, h3⟩ := hall 3 c3 rfl
    obtain ⟨t4, e4, h4⟩ := hall 4 c4 rfl
    obtain ⟨t5, e5, h5⟩ := hall 5 c5 rfl
    obtain ⟨t6, e6, h6⟩ := hall 6 c6 rfl
    obtain ⟨t7, e7, h7⟩ := hall 7 c7 rfl
    injection e0 with e0
    injection e1 with e1
    injection e2 with e2
    injection e3 with e3
    injection e4 with e4
    injection e5 with e5
    injection e6 with e6
    injection e7 with e7
    subst e0 e1 e2 e3 e4 e5 e6 e7
    obtain ⟨x0, rfl, k0⟩ := cell_int Try.underlying21 h0
    obtain ⟨x1, rfl, k1⟩ := cell_int Try.underlying21 h1
    obtain ⟨x2, rfl, k2⟩ := cell_int Try.underlying21 h2
    obtain ⟨x3, rfl, k3⟩ := cell_int Try.underlying21 h3
    obtain ⟨x4, rfl, k4⟩ := cell_int Try.underlying21 h4
    obtain ⟨x5, rfl, k5⟩ := cell_int Try.underlying21 h5
    obtain ⟨x6, rfl, k6⟩ := cell_int Try.underlying21 h6
    obtain ⟨x7, rfl, k7⟩ := cell_int Try.underlying21 h7
    exact ⟨x0, x1, x2, x3, x4, x5, x6, x7, has_i32 k0, has_i32 k1, has_i32 k2, has_i32 k3, has_i32 k4, has_i32 k5, has_i32 k6, has_i32 k7, rfl⟩

end Go.Proofs.Ytpjgghakeaajbaa
