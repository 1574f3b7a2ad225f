/-
  inside.Crossings, Winding, Covers.
-/
import Derived.Test.YtohnglcdophkfaaPast
import Derived.Test.YtohnglcdophkfaaTail
namespace Go.Proofs.Ytohnglcdophkfaa
open Go.RowKit Go.Shelf

theorem PtsAt.up {n m : Nat} (h : m ≤ n) {A : World} {sv : Value} {ps : List Pt} : PtsAt m A sv ps → PtsAt n A sv ps
  | .inl e => .inl e
  | .inr ⟨b, off, cap, e, hb, hc⟩ => .inr ⟨b, off, cap, e, by omega, hc⟩

set_option maxHeartbeats 1000000 in
theorem crossings_any (sv : Value) (ps : List Pt) (p : Pt) (m : Nat) (hp : IPt p) (hps : ∀ p ∈ ps, IPt p) (hreach : ps.length * 8 ≤ 140737488355328) (w : World) (hm : m ≤ w.heap.size) (hI : PtsAt m w sv ps) :
    Calls Try.prog 15 #[sv, .agg #[.int .i32 p.1, .int .i32 p.2]] w fun e w' => e = .returned (.int .i64 (crossings ps p)) ∧ Below w.heap.size w w' := by
  have h0 : (0 : Int) + tot (fc p) (sides ps) = crossings ps p := Int.zero_add _
  go_enter Try.func15, Try.ntmps15
  go_wp2_with fail
  refine (pastC_any _ sv ps p (w.heap.size + 1) m 0 hp hps hreach (by omega) ?_ (hI.below ?_) (by omega)).mono ?_
  · have := Boxed.new (w.alloc (.cells #[.int .i32 p.1, .int .i32 p.2] 25)) 3 (.int .i64 0)
    rw [World.size_alloc] at this
    exact this
  · exact ((Below.refl m w).alloc hm _).alloc (by simp; omega) _
  · rintro e w1 ⟨⟨v, rfl⟩, hb1, hb_w1⟩
    rw [h0] at hb1
    have hc1 := hb1.cell
    have hB : Below w.heap.size w w1 := (((Below.refl _ w).alloc (Nat.le_refl _) _).alloc (by simp) _).trans (hb_w1.mono (by omega))
    go_wp2_with fail
    go_ret
    exact ⟨rfl, hB⟩

set_option maxHeartbeats 1000000 in
theorem winding_any (sv : Value) (ps : List Pt) (p : Pt) (m : Nat) (hp : IPt p) (hps : ∀ p ∈ ps, IPt p) (hreach : ps.length * 8 ≤ 140737488355328) (w : World) (hm : m ≤ w.heap.size) (hI : PtsAt m w sv ps) :
    Calls Try.prog 12 #[sv, .agg #[.int .i32 p.1, .int .i32 p.2]] w fun e w' => e = .returned (.int .i64 (winding ps p)) ∧ Below w.heap.size w w' := by
  have h0 : (0 : Int) + tot (fw p) (sides ps) = winding ps p := Int.zero_add _
  go_enter Try.func12, Try.ntmps12
  go_wp2_with fail
  refine (pastW_any _ sv ps p (w.heap.size + 1) m 0 hp hps hreach (by omega) ?_ (hI.below ?_) (by omega)).mono ?_
  · have := Boxed.new (w.alloc (.cells #[.int .i32 p.1, .int .i32 p.2] 25)) 3 (.int .i64 0)
    rw [World.size_alloc] at this
    exact this
  · exact ((Below.refl m w).alloc hm _).alloc (by simp; omega) _
  · rintro e w1 ⟨⟨v, rfl⟩, hb1, hb_w1⟩
    rw [h0] at hb1
    have hc1 := hb1.cell
    have hB : Below w.heap.size w w1 := (((Below.refl _ w).alloc (Nat.le_refl _) _).alloc (by simp) _).trans (hb_w1.mono (by omega))
    go_wp2_with fail
    go_ret
    exact ⟨rfl, hB⟩

set_option maxHeartbeats 1000000 in
theorem covers_any (sv : Value) (ps : List Pt) (p : Pt) (m : Nat) (hp : IPt p) (hps : ∀ p ∈ ps, IPt p) (hreach : ps.length * 8 ≤ 140737488355328) (w : World) (hm : m ≤ w.heap.size) (hI : PtsAt m w sv ps) :
    Calls Try.prog 11 #[sv, .agg #[.int .i32 p.1, .int .i32 p.2]] w fun e w' => e = .returned (.bool (covers ps p)) ∧ Below w.heap.size w w' := by
  have H1 := Lib.hid (fun W (hb : Below m w W) (hl : m ≤ W.heap.size) => edge_any W sv ps p hp hps hreach ((hI.below hb).up hl))
  have H2 := Lib.hid (fun W (hb : Below m w W) (hl : m ≤ W.heap.size) => crossings_any sv ps p m hp hps hreach W hl (hI.below hb))
  have hpos : 0 ≤ crossings ps p := tot_pos _ (fc_pos p) _
  unfold covers
  cases he : edge ps p
  · rw [he] at H1
    rw [Bool.false_or]
    have hc : ∃ b, decide (crossings ps p % 2 = 1) = b ∧ ((crossings ps p).tmod 2 == 1) = b := by
      refine ⟨_, rfl, ?_⟩
      rw [Int.tmod_eq_emod_of_nonneg hpos]
      rfl
    obtain ⟨b, hb1, hb2⟩ := hc
    rw [hb1]
    clear hb1 he hpos
    go_enter Try.func11, Try.ntmps11
    go_wp2_with fail
    refine (H1.out _ (by go_grown) (by simp; omega)).mono ?_
    rintro e w1 ⟨rfl, hb_w1⟩
    obtain ⟨hc_w1, hf_w1⟩ := bcell hb_w1
    have hz_w1 := hb_w1.size
    try simp at hz_w1
    have hB_w1 : Below w.heap.size w w1 := Below.trans (by go_grown) (hb_w1.mono (by go_size))
    go_wp2_with fail
    refine (H2.out _ (by exact (hB_w1.mono hm)) (by omega)).mono ?_
    rintro e w2 ⟨rfl, hb_w2⟩
    obtain ⟨hc_w2, hf_w2⟩ := bcell hb_w2
    have hz_w2 := hb_w2.size
    try simp at hz_w2
    have hB_w2 : Below w.heap.size w w2 := Below.trans (by go_grown) (hb_w2.mono (by go_size))
    go_wp2_with fail
    go_ret
    exact ⟨rfl, by go_grown⟩
  · rw [he] at H1
    rw [Bool.true_or]
    clear he hpos
    go_enter Try.func11, Try.ntmps11
    go_wp2_with fail
    refine (H1.out _ (by go_grown) (by simp; omega)).mono ?_
    rintro e w1 ⟨rfl, hb_w1⟩
    obtain ⟨hc_w1, hf_w1⟩ := bcell hb_w1
    have hz_w1 := hb_w1.size
    try simp at hz_w1
    have hB_w1 : Below w.heap.size w w1 := Below.trans (by go_grown) (hb_w1.mono (by go_size))
    go_wp2_with fail
    go_ret
    exact ⟨rfl, by go_grown⟩

end Go.Proofs.Ytohnglcdophkfaa
