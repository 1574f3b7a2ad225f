/-
  Contracts of cmp.Compare, cmp.Or and point.Around.
-/
import Derived.Test.YtcpojadinkonnaaTurnB
namespace Go.Proofs.Ytcpojadinkonnaa
open Go.RowKit

theorem nan_int32 (x : Int) (w : World) : Calls Try.prog 103 #[.int .i32 x] w fun e w' => e = .returned (.bool false) ∧ w = w' := by
  go_enter Try.func103, Try.ntmps103
  go_wp2
  all_goals
    go_ret
    exact ⟨ret_bool (by simp), rfl⟩

theorem compare_int32 (x y : Int) (w : World) : Calls Try.prog 92 #[.int .i32 x, .int .i32 y] w fun e w' => e = .returned (.int .i64 (cmpI x y)) ∧ w = w' := by
  have H1 := Lib.hid nan_int32
  go_enter Try.func92, Try.ntmps92
  go_wp2_with (go_at_call 103; refine (H1.out _ _).mono ?_; rintro e w1 ⟨rfl, rfl⟩)
  all_goals
    go_ret
    exact ⟨ret_intw (by unfold cmpI; (repeat' split) <;> omega), rfl⟩

theorem or_two (p q : Int) (b : Nat) (w : World) (hb : b < w.heap.size) (h0 : w.cell? ⟨b, 0, none⟩ = some (.int .i64 p)) (h1 : w.cell? ⟨b, 1, none⟩ = some (.int .i64 q)) :
    Calls Try.prog 91 #[.slice (some ⟨b, 0, none⟩) 2 2] w fun e w' => e = .returned (.int .i64 (if p = 0 then q else p)) ∧ Below w.heap.size w w' := by
  rcases Decidable.em (p = 0) with hp | hp
  · subst hp
    rw [if_pos rfl]
    rcases Decidable.em (q = 0) with hq | hq
    · subst hq
      go_enter Try.func91, Try.ntmps91
      go_wp2_with fail
      go_loopw [8] (fun t wr => wr = w ∧ (t = .int .i64 0 ∨ t = .int .i64 1 ∨ t = .int .i64 2)) (fun t _ => 2 - (intOf t).toNat)
      case atStart => exact ⟨rfl, .inl rfl⟩
      case round =>
        obtain ⟨rfl, rfl | rfl | rfl⟩ := hrel
        · go_wp2_with fail
          go_roundw
          case rel => simp
          case measure => simp [intOf]
        · go_wp2_with fail
          go_roundw
          case rel => simp
          case measure => simp [intOf]
        · go_wp2_with fail
          refine bodyPost_ret (by simp [results, Try.results91, go_sem, *]; try rfl) rfl ?_
          exact ⟨rfl, by go_grown⟩
    · have hq' : (q == 0) = false := by simp; exact hq
      clear hq
      go_enter Try.func91, Try.ntmps91
      go_wp2_with fail
      go_loopw [8] (fun t wr => wr = w ∧ (t = .int .i64 0 ∨ t = .int .i64 1)) (fun t _ => 2 - (intOf t).toNat)
      case atStart => exact ⟨rfl, .inl rfl⟩
      case round =>
        obtain ⟨rfl, rfl | rfl⟩ := hrel
        · go_wp2_with fail
          go_roundw
          case rel => simp
          case measure => simp [intOf]
        · go_wp2_with fail
          refine bodyPost_ret (by simp [results, Try.results91, go_sem, *]; try rfl) rfl ?_
          exact ⟨rfl, by go_grown⟩
  · rw [if_neg hp]
    have hp' : (p == 0) = false := by simp; exact hp
    clear hp
    go_enter Try.func91, Try.ntmps91
    go_wp2_with fail
    go_loopw [8] (fun t wr => wr = w ∧ t = .int .i64 0) (fun t _ => 2 - (intOf t).toNat)
    case atStart => exact ⟨rfl, rfl⟩
    case round =>
      obtain ⟨rfl, rfl⟩ := hrel
      go_wp2_with fail
      refine bodyPost_ret (by simp [results, Try.results91, go_sem, *]; try rfl) rfl ?_
      exact ⟨rfl, by go_grown⟩

end Go.Proofs.Ytcpojadinkonnaa
