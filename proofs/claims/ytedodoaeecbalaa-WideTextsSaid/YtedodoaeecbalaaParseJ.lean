/-
  Contract of the reference's Parse: any text.
-/
import Derived.Test.YtedodoaeecbalaaParseR
import Derived.Test.YtedodoaeecbalaaParseS
namespace Go.Proofs.Ytedodoaeecbalaa
open Go.RowKit

theorem parse_ref (s : ByteArray) (hm : s.data.toList.length ≤ 9223372036854775807) (w : World) :
    Calls Try.prog 45 #[.string s] w fun e w' => (∃ v, e = .returned (.tuple #[v, .int .i64 (pcode s.data.toList)]) ∧ NumAt w' v (pval s.data.toList)) ∧ Below w.heap.size w w' := by
  rcases Nat.eq_zero_or_pos s.data.toList.length with h0 | h0
  · exact parse_ref_e s hm h0 w
  · rcases bel_says s.data.toList with ⟨hb, _, h45, hd⟩ | ⟨hb, hd, h45⟩
    · exact parse_ref_s s hm h0 hb hd h45 w
    · exact parse_ref_n s hm h0 hb hd (h45 h0) w

end Go.Proofs.Ytedodoaeecbalaa
