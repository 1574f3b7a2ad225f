/-
  Contracts of point.Join and the reference's Join: the least box around two.
-/
import Derived.Test.YtpjgghakeaajbaaPoint
namespace Go.Proofs.Ytpjgghakeaajbaa
open Go.RowKit

theorem ret_box {a b c d a' b' c' d' : Int} (h1 : a = a') (h2 : b = b') (h3 : c = c') (h4 : d = d') : Ending.returned ((Value.agg #[.int .i32 (a), .int .i32 (b), .int .i32 (c), .int .i32 (d)])) = .returned ((Value.agg #[.int .i32 (a'), .int .i32 (b'), .int .i32 (c'), .int .i32 (d')])) := by rw [h1, h2, h3, h4]

set_option maxHeartbeats 1000000 in
theorem around_any (a b c d : Int) (w : World) :
    Calls Try.prog 53 #[(Value.agg #[.int .i32 (a), .int .i32 (b)]), (Value.agg #[.int .i32 (c), .int .i32 (d)])] w fun e w' => e = .returned ((Value.agg #[.int .i32 (min a c), .int .i32 (min b d), .int .i32 (max a c), .int .i32 (max b d)])) ∧ Below w.heap.size w w' := by
  go_enter Try.func53, Try.ntmps53
  go_wp2
  all_goals
    go_returns
    exact ⟨ret_box (by omega) (by omega) (by omega) (by omega), by go_grown⟩

theorem field_min (a b c d : Int) (W : World) : (Instr.field 84 (Value.agg #[.int .i32 (a), .int .i32 (b), .int .i32 (c), .int .i32 (d)]) 0).run Try.prog W = .ok (Value.agg #[.int .i32 (a), .int .i32 (b)]) W := by kernel_rfl
theorem field_max (a b c d : Int) (W : World) : (Instr.field 84 (Value.agg #[.int .i32 (a), .int .i32 (b), .int .i32 (c), .int .i32 (d)]) 1).run Try.prog W = .ok (Value.agg #[.int .i32 (c), .int .i32 (d)]) W := by kernel_rfl

/-- One coordinate of the least box around two: of two boxes that are none, of one, of both. -/
def jn (r r' : Bool) (p q m : Int) : Int := if r then (if r' then m else p) else if r' then q else 0

end Go.Proofs.Ytpjgghakeaajbaa
