/-
  Contracts of package point's functions on boxes, and of the reference's: what each computes; older memory is left alone.
-/
import Derived.Test.YthbndilnobjjgaaMem
import Derived.WalkSpells
import Derived.WalkLawsBesides
import Derived.Lib.Hide
namespace Go.Proofs.Ythbndilnobjjgaa
open Go.RowKit

theorem ret_bool {a b : Bool} (h : a = b) : Ending.returned (.bool a) = .returned (.bool b) := by rw [h]

/-- A box's value: its least and its greatest corner. -/

def rightB (a b c d : Int) : Bool := decide (a ≤ c ∧ b ≤ d)
def hasB (a b c d x y : Int) : Bool := decide (a ≤ x ∧ x ≤ c ∧ b ≤ y ∧ y ≤ d)
def meetB (a b c d a' b' c' d' : Int) : Bool := decide ((a ≤ c ∧ b ≤ d) ∧ (a' ≤ c' ∧ b' ≤ d') ∧ a ≤ c' ∧ a' ≤ c ∧ b ≤ d' ∧ b' ≤ d)
theorem has_of_meet (a b c d x y : Int) : meetB a b c d x y x y = hasB a b c d x y := by
  unfold meetB hasB
  rw [Bool.eq_iff_iff]; simp only [decide_eq_true_eq]; omega

theorem right_any (a b c d : Int) (w : World) :
    Calls Try.prog 76 #[(Value.agg #[.int .i32 (a), .int .i32 (b), .int .i32 (c), .int .i32 (d)])] w fun e w' => e = .returned (.bool (rightB a b c d)) ∧ Below w.heap.size w w' := by
  go_enter Try.func76, Try.ntmps76
  go_wp2
  all_goals
    go_ret
    exact ⟨ret_bool (by unfold rightB; rw [Bool.eq_iff_iff]; simp; try omega), by go_grown⟩

theorem right_split {a b c d : Int} : (rightB a b c d = true ∧ Hid (a ≤ c ∧ b ≤ d)) ∨ (rightB a b c d = false ∧ Hid (¬ (a ≤ c ∧ b ≤ d))) := by
  by_cases h : a ≤ c ∧ b ≤ d
  · exact .inl ⟨by simpa [rightB] using h, Lib.hid h⟩
  · exact .inr ⟨by simpa [rightB] using h, Lib.hid h⟩

set_option maxHeartbeats 2000000 in
theorem meet_any (a b c d a' b' c' d' : Int) (w : World) :
    Calls Try.prog 77 #[(Value.agg #[.int .i32 (a), .int .i32 (b), .int .i32 (c), .int .i32 (d)]), (Value.agg #[.int .i32 (a'), .int .i32 (b'), .int .i32 (c'), .int .i32 (d')])] w fun e w' => e = .returned (.bool (meetB a b c d a' b' c' d')) ∧ Below w.heap.size w w' := by
  rcases @right_split a b c d with ⟨hr, H1⟩ | ⟨hr, H1⟩
  · rcases @right_split a' b' c' d' with ⟨hr', H2⟩ | ⟨hr', H2⟩
    all_goals
      go_enter Try.func77, Try.ntmps77
      go_wp2_with fail
      refine (right_any _ _ _ _ _).mono ?_
      rintro e w1 ⟨rfl, hb_w1⟩
      obtain ⟨hc_w1, hf_w1⟩ := bcell hb_w1
      have hz_w1 := hb_w1.size
      try simp at hz_w1
      have hB_w1 : Below w.heap.size w w1 := Below.trans (by go_grown) (hb_w1.mono (by go_size))
      have hs_w1_0 : w.heap.size < w1.heap.size := by omega
      have hs_w1_1 : w.heap.size + 1 < w1.heap.size := by omega
      go_wp2_with fail
      refine (right_any _ _ _ _ _).mono ?_
      rintro e w2 ⟨rfl, hb_w2⟩
      obtain ⟨hc_w2, hf_w2⟩ := bcell hb_w2
      have hz_w2 := hb_w2.size
      try simp at hz_w2
      have hB_w2 : Below w.heap.size w w2 := Below.trans (by go_grown) (hb_w2.mono (by go_size))
      have hs_w2_0 : w.heap.size < w2.heap.size := by omega
      have hs_w2_1 : w.heap.size + 1 < w2.heap.size := by omega
      go_wp2_with fail
      all_goals
        go_ret
        exact ⟨ret_bool (by have h1 := H1.out; have h2 := H2.out; unfold meetB; rw [Bool.eq_iff_iff]; simp; try omega), by go_grown⟩
  · go_enter Try.func77, Try.ntmps77
    go_wp2_with fail
    refine (right_any _ _ _ _ _).mono ?_
    rintro e w1 ⟨rfl, hb_w1⟩
    obtain ⟨hc_w1, hf_w1⟩ := bcell hb_w1
    have hz_w1 := hb_w1.size
    try simp at hz_w1
    have hB_w1 : Below w.heap.size w w1 := Below.trans (by go_grown) (hb_w1.mono (by go_size))
    have hs_w1_0 : w.heap.size < w1.heap.size := by omega
    have hs_w1_1 : w.heap.size + 1 < w1.heap.size := by omega
    go_wp2_with fail
    all_goals
      go_ret
      exact ⟨ret_bool (by have h1 := H1.out; unfold meetB; rw [Bool.eq_iff_iff]; simp; try omega), by go_grown⟩

theorem has_any (a b c d x y : Int) (w : World) :
    Calls Try.prog 64 #[(Value.agg #[.int .i32 (a), .int .i32 (b), .int .i32 (c), .int .i32 (d)]), (Value.agg #[.int .i32 (x), .int .i32 (y)])] w fun e w' => e = .returned (.bool (hasB a b c d x y)) ∧ Below w.heap.size w w' := by
  go_enter Try.func64, Try.ntmps64
  go_wp2_with fail
  refine (meet_any _ _ _ _ _ _ _ _ _).mono ?_
  rintro e w1 ⟨rfl, hb_w1⟩
  obtain ⟨hc_w1, hf_w1⟩ := bcell hb_w1
  have hz_w1 := hb_w1.size
  try simp at hz_w1
  have hB_w1 : Below w.heap.size w w1 := Below.trans (by go_grown) (hb_w1.mono (by go_size))
  go_wp2_with fail
  go_ret
  exact ⟨ret_bool (has_of_meet _ _ _ _ _ _), by go_grown⟩

end Go.Proofs.Ythbndilnobjjgaa
