/-
  Package seg: Meet in every case: MeetSays.
-/
import Derived.Test.YtpjgghakeaajbaaMeetA
import Derived.Test.YtpjgghakeaajbaaMeetB
import Derived.Test.YtpjgghakeaajbaaMeetC
import Derived.Test.YtpjgghakeaajbaaSegG
namespace Go.Proofs.Ytpjgghakeaajbaa
open Go.RowKit

theorem segMeet_any (a b c d : Pt) (w : World) :
    Calls Try.prog 8 #[.agg #[.int .i32 a.1, .int .i32 a.2], .agg #[.int .i32 b.1, .int .i32 b.2], .agg #[.int .i32 c.1, .int .i32 c.2], .agg #[.int .i32 d.1, .int .i32 d.2]] w fun e w' => e = .returned (.agg #[.int .u8 (meet a b c d).k, .bool (meet a b c d).inn, .int .i64 (meet a b c d).f.1, .int .i64 (meet a b c d).f.2, .int .i64 (meet a b c d).t.1, .int .i64 (meet a b c d).t.2]) ∧ Below w.heap.size w w' := by
  cases hl : inP a && inP b && inP c && inP d with
  | false => exact segMeet_out a b c d hl w
  | true =>
    obtain ⟨a1, a2⟩ := a
    obtain ⟨b1, b2⟩ := b
    rcases Decidable.em (a1 = b1) with h1 | h1
    · subst h1
      rcases Decidable.em (a2 = b2) with h2 | h2
      · subst h2
        exact segMeet_same a1 a2 c d hl w
      · exact segMeet_way2 a1 a2 b2 c d hl h2 w
    · exact segMeet_way1 a1 a2 b1 b2 c d hl h1 w


theorem meet_says : MeetSays := segMeet_any

end Go.Proofs.Ytpjgghakeaajbaa
