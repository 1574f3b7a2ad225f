/-
  The document's next: the point behind the i-th.
-/
import Derived.Test.YtohnglcdophkfaaCovers
namespace Go.Proofs.Ytohnglcdophkfaa
open Go.RowKit Go.Shelf

theorem next_at {k L : Nat} (hk : k < L) : (k + 1 < L ∧ (k + 1) % L = k + 1) ∨ (¬ k + 1 < L ∧ (k + 1) % L = 0) := by
  rcases Nat.lt_or_ge (k + 1) L with h | h
  · exact .inl ⟨h, Nat.mod_eq_of_lt h⟩
  · have : k + 1 = L := by omega
    exact .inr ⟨by omega, by rw [this, Nat.mod_self]⟩

set_option maxHeartbeats 400000 in
theorem next_ref (sv : Value) (ps : List Pt) (k m : Nat) (hk : k < ps.length) (hreach : ps.length * 8 ≤ 140737488355328) (w : World) (hm : m ≤ w.heap.size) (hI : PtsAt m w sv ps) :
    Calls Try.prog 36 #[sv, .int .i64 (k : Int)] w fun e w' => e = .returned (.agg #[.int .i32 (sid ps k).2.1, .int .i32 (sid ps k).2.2]) ∧ Below w.heap.size w w' := by
  rcases hI with ⟨_, rfl⟩ | ⟨b, off, cap, rfl, hb, hc⟩
  · exact absurd hk (Nat.not_lt_zero _)
  · obtain ⟨q, hq⟩ : ∃ q, gp ps ((k + 1) % ps.length) = q := ⟨_, rfl⟩
    show Calls _ _ _ _ fun e w' => e = .returned (.agg #[.int .i32 (gp ps ((k + 1) % ps.length)).1, .int .i32 (gp ps ((k + 1) % ps.length)).2]) ∧ _
    rw [hq]
    obtain ⟨L, hL⟩ : ∃ L, ps.length = L := ⟨_, rfl⟩
    rw [hL] at hk hreach hc hq ⊢
    have hbw : b < w.heap.size := by omega
    rcases next_at hk with ⟨h1, h2⟩ | ⟨h1, h2⟩
    · rw [h2] at hq
      obtain ⟨c0, c1⟩ := hc _ h1
      rw [hq] at c0 c1
      clear hq hc h2
      go_enter Try.func36, Try.ntmps36
      go_wp2_with fail
      refine bodyPost_ret (by simp [results, Try.results36, go_sem, *]; try rfl) rfl ?_
      exact ⟨rfl, by go_grown⟩
    · rw [h2] at hq
      obtain ⟨c0, c1⟩ := hc 0 (by omega)
      rw [hq, Nat.zero_mul, Nat.add_zero] at c0 c1
      clear hq hc h2
      go_enter Try.func36, Try.ntmps36
      go_wp2_with fail
      refine bodyPost_ret (by simp [results, Try.results36, go_sem, *]; try rfl) rfl ?_
      exact ⟨rfl, by go_grown⟩

end Go.Proofs.Ytohnglcdophkfaa
