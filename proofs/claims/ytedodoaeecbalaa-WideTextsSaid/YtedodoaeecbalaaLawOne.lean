/-
  What the laws of layer 1 share: their arguments, opened; their helpers' contracts.
-/
import Derived.Test.YtedodoaeecbalaaWide
import Derived.Lib.SmallJoins
namespace Go.Proofs.Ytedodoaeecbalaa
open Go.ChangeShapes Go.WideShapes Go.ChangeAt Go.RowKit

theorem lawof_any (x : Int) (w : World) :
    Calls Try.prog 11 #[.agg #[.int .i64 (hi64 x), .int .u64 (lo64 x)]] w fun e w' =>
      e = .returned (.agg #[.int .i64 (hi64 x), .int .u64 (lo64 x)]) ∧ Below w.heap.size w w' := by
  go_enter Try.func11, Try.ntmps11
  go_wp2
  go_returns
  exact ⟨rfl, by go_grown⟩

set_option maxRecDepth 100000 in
/-- A number's two halves, as an argument. -/
theorem open_pair {H : Type} {enc : TypeId × Value → H} {W : World} {base : Nat} {v : Value} {d : DataW H} {p : List MemPlace} (hv : Value.okWide Try.prog W .any base 25 v)
    (h : DataW.Trod enc Try.prog W 0 (fun _ => true) true 25 v d p) : ∃ x, In128 x ∧ v = .agg #[.int .i64 (hi64 x), .int .u64 (lo64 x)] := by
  obtain ⟨c0, c1, y0, y1, m, rfl, rfl, rfl, hy0, hy1⟩ := Joins.open_agg2 Try.underlying25 (by kernel_rfl) (show Try.prog.cellsOf 25 = 2 by kernel_rfl) hv h
  obtain ⟨a, e0, _, wa⟩ := DataW.trod_int Try.underlying2 hy0
  obtain ⟨b, e1, _, wb⟩ := DataW.trod_int Try.underlying23 hy1
  simp at e0 e1
  subst e0 e1
  have ba := bounds_i64 wa
  have bb := bounds_u64 wb
  obtain ⟨h1, h2⟩ := of_hi_lo ba bb
  exact ⟨of64 a b, of64_in ba bb, by rw [← h1, ← h2]⟩

end Go.Proofs.Ytedodoaeecbalaa
