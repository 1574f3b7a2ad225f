/-
  What Crossings and Winding are told of each side: their counting closures.
-/
import Derived.Test.YtohnglcdophkfaaEdge
namespace Go.Proofs.Ytohnglcdophkfaa
open Go.RowKit Go.Shelf

theorem wrap_near {c d : Int} (h : -4611686018427387904 ≤ c ∧ c ≤ 4611686018427387904) (hd : -1 ≤ d ∧ d ≤ 1) : wrap64 (c + d) = c + d := by unfold wrap64; omega

set_option maxHeartbeats 1000000 in
theorem tellC_any (W : World) (B : Nat) (c : Int) (b : Bool) (hB : Boxed W B 3 (.int .i64 c)) (hc : -4611686018427387904 ≤ c ∧ c ≤ 4611686018427387904) :
    Calls Try.prog 32 #[.bool b, .pointer (some ⟨B, 0, none⟩)] W fun e w' => (∃ v, e = .returned v) ∧ w' = W.setCell ⟨B, 0, none⟩ (.int .i64 (c + 1)) := by
  have hw := wrap_near hc (d := 1) (by omega)
  have cB := hB.cell
  have fB := hB.frozen
  go_enter Try.func32, Try.ntmps32
  go_wp2_with fail
  go_end0
  exact ⟨⟨_, rfl⟩, rfl⟩

set_option maxHeartbeats 1000000 in
theorem tellW_any (W : World) (B : Nat) (c : Int) (b : Bool) (hB : Boxed W B 3 (.int .i64 c)) (hc : -4611686018427387904 ≤ c ∧ c ≤ 4611686018427387904) :
    Calls Try.prog 31 #[.bool b, .pointer (some ⟨B, 0, none⟩)] W fun e w' => (∃ v, e = .returned v) ∧ w' = W.setCell ⟨B, 0, none⟩ (.int .i64 (c + if b then 1 else -1)) := by
  have hw := wrap_near hc (d := 1) (by omega)
  have hv := wrap_near hc (d := -1) (by omega)
  have cB := hB.cell
  have fB := hB.frozen
  cases b
  · go_enter Try.func31, Try.ntmps31
    go_wp2_with fail
    go_end0
    exact ⟨⟨_, rfl⟩, by rw [← Int.sub_eq_add_neg]⟩
  · go_enter Try.func31, Try.ntmps31
    go_wp2_with fail
    go_end0
    exact ⟨⟨_, rfl⟩, rfl⟩

end Go.Proofs.Ytohnglcdophkfaa
