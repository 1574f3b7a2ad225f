/-
  Contract of the reference's Quo: the quotient and what is left.
-/
import Derived.Test.YtedodoaeecbalaaQuoRA
import Derived.Test.YtedodoaeecbalaaQuoRB
import Derived.Test.YtedodoaeecbalaaQuoRC
namespace Go.Proofs.Ytedodoaeecbalaa
open Go.RowKit

theorem quo_ref {w0 : World} {v : Value} {x : Int} (hx : NumAt w0 v x) (hin : In128 x) (d : Int) (hd : I64 d) (hd0 : d ≠ 0) (w : World) (hw : Below w0.heap.size w0 w) :
    Calls Try.prog 39 #[v, .int .i64 d] w fun e w' => (∃ u u', e = .returned (.tuple #[u, u']) ∧ NumAt w' u (x / d) ∧ NumAt w' u' (x % d)) ∧ Below w.heap.size w w' := by
  rcases Decidable.em (x < 0) with h | h
  · rcases Decidable.em (x.natAbs % d.natAbs = 0) with h' | h'
    · exact quo_ref_b hx hin d hd hd0 h h' w hw
    · exact quo_ref_c hx hin d hd hd0 h h' w hw
  · exact quo_ref_a hx hin d hd hd0 h w hw

end Go.Proofs.Ytedodoaeecbalaa
