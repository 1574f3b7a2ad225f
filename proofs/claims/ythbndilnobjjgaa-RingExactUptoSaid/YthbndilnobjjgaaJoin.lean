/-
  Contracts of point.Join and the reference's Join: the least box around two.
-/
import Derived.Test.YthbndilnobjjgaaPoint
namespace Go.Proofs.Ythbndilnobjjgaa
open Go.RowKit

theorem ret_box {a b c d a' b' c' d' : Int} (h1 : a = a') (h2 : b = b') (h3 : c = c') (h4 : d = d') : Ending.returned ((Value.agg #[.int .i32 (a), .int .i32 (b), .int .i32 (c), .int .i32 (d)])) = .returned ((Value.agg #[.int .i32 (a'), .int .i32 (b'), .int .i32 (c'), .int .i32 (d')])) := by rw [h1, h2, h3, h4]

set_option maxHeartbeats 1000000 in
theorem around_any (a b c d : Int) (w : World) :
    Calls Try.prog 65 #[(Value.agg #[.int .i32 (a), .int .i32 (b)]), (Value.agg #[.int .i32 (c), .int .i32 (d)])] w fun e w' => e = .returned ((Value.agg #[.int .i32 (min a c), .int .i32 (min b d), .int .i32 (max a c), .int .i32 (max b d)])) ∧ Below w.heap.size w w' := by
  go_enter Try.func65, Try.ntmps65
  go_wp2
  all_goals
    go_returns
    exact ⟨ret_box (by omega) (by omega) (by omega) (by omega), by go_grown⟩

theorem field_min (a b c d : Int) (W : World) : (Instr.field 42 (Value.agg #[.int .i32 (a), .int .i32 (b), .int .i32 (c), .int .i32 (d)]) 0).run Try.prog W = .ok (Value.agg #[.int .i32 (a), .int .i32 (b)]) W := by kernel_rfl
theorem field_max (a b c d : Int) (W : World) : (Instr.field 42 (Value.agg #[.int .i32 (a), .int .i32 (b), .int .i32 (c), .int .i32 (d)]) 1).run Try.prog W = .ok (Value.agg #[.int .i32 (c), .int .i32 (d)]) W := by kernel_rfl

/-- One coordinate of the least box around two: of two boxes that are none, of one, of both. -/
def jn (r r' : Bool) (p q m : Int) : Int := if r then (if r' then m else p) else if r' then q else 0

set_option maxHeartbeats 2000000 in
set_option maxRecDepth 100000 in
theorem join_any (a b c d a' b' c' d' : Int) (w : World) :
    Calls Try.prog 63 #[(Value.agg #[.int .i32 (a), .int .i32 (b), .int .i32 (c), .int .i32 (d)]), (Value.agg #[.int .i32 (a'), .int .i32 (b'), .int .i32 (c'), .int .i32 (d')])] w fun e w' =>
      e = .returned ((Value.agg #[.int .i32 (jn (rightB a b c d) (rightB a' b' c' d') a a' (min a a')), .int .i32 (jn (rightB a b c d) (rightB a' b' c' d') b b' (min b b')), .int .i32 (jn (rightB a b c d) (rightB a' b' c' d') c c' (max c c')), .int .i32 (jn (rightB a b c d) (rightB a' b' c' d') d d' (max d d'))])) ∧ Below w.heap.size w w' := by
  rcases @right_split a b c d with ⟨hr, H1⟩ | ⟨hr, H1⟩
  all_goals rcases @right_split a' b' c' d' with ⟨hr', H2⟩ | ⟨hr', H2⟩
  all_goals rw [hr, hr']
  all_goals simp only [jn, if_true, Bool.false_eq_true, if_false]
  · go_enter Try.func63, Try.ntmps63
    go_wp2_with fail
    refine (right_any _ _ _ _ _).mono ?_
    rintro e w1 ⟨rfl, hb_w1⟩
    obtain ⟨hc_w1, hf_w1⟩ := bcell hb_w1
    have hz_w1 := hb_w1.size
    try simp at hz_w1
    have hB_w1 : Below w.heap.size w w1 := Below.trans (by go_grown) (hb_w1.mono (by go_size))
    have hs_w1_0 : w.heap.size < w1.heap.size := by omega
    have hs_w1_1 : w.heap.size + 1 < w1.heap.size := by omega
    have hs_w1_2 : w.heap.size + 1 + 1 < w1.heap.size := by omega
    go_wp2_with fail
    refine (right_any _ _ _ _ _).mono ?_
    rintro e w2 ⟨rfl, hb_w2⟩
    obtain ⟨hc_w2, hf_w2⟩ := bcell hb_w2
    have hz_w2 := hb_w2.size
    try simp at hz_w2
    have hB_w2 : Below w.heap.size w w2 := Below.trans (by go_grown) (hb_w2.mono (by go_size))
    have hs_w2_0 : w.heap.size < w2.heap.size := by omega
    have hs_w2_1 : w.heap.size + 1 < w2.heap.size := by omega
    have hs_w2_2 : w.heap.size + 1 + 1 < w2.heap.size := by omega
    go_wp2_with fail
    refine (right_any _ _ _ _ _).mono ?_
    rintro e w3 ⟨rfl, hb_w3⟩
    obtain ⟨hc_w3, hf_w3⟩ := bcell hb_w3
    have hz_w3 := hb_w3.size
    try simp at hz_w3
    have hB_w3 : Below w.heap.size w w3 := Below.trans (by go_grown) (hb_w3.mono (by go_size))
    have hs_w3_0 : w.heap.size < w3.heap.size := by omega
    have hs_w3_1 : w.heap.size + 1 < w3.heap.size := by omega
    have hs_w3_2 : w.heap.size + 1 + 1 < w3.heap.size := by omega
    go_wp2_with fail
    have vR : Var w3 (w.heap.size + 1 + 1) 42 #[.int .i32 0, .int .i32 0, .int .i32 0, .int .i32 0] := (((Var.new' _ _ _ (by simp)).keep hb_w1).keep hb_w2).keep hb_w3
    have hf0 := field_min
    have hf1 := field_max
    go_region_held3 (fun w' => Below (w.heap.size + 1 + 1) w3 w' ∧ w.heap.size + 1 + 1 < w'.heap.size ∧ (∀ b o, b < w.heap.size + 1 + 1 → w'.cell? ⟨b, o, none⟩ = w3.cell? ⟨b, o, none⟩) ∧ (∀ o, o < 4 → w'.cell? ⟨w.heap.size + 1 + 1, o, none⟩ = some (rd w' (w.heap.size + 1 + 1) o)) ∧ (∀ o, w'.frozen? ⟨w.heap.size + 1 + 1, o, none⟩ = false))
      (first | exact heldR_step hb_wk (by assumption) | exact heldR_start vR | (repeat (refine heldR_store ?_ _ _)); assumption)
      (first | (go_at_call 65; refine (around_any _ _ _ _ _).mono ?_; rintro e wk ⟨rfl, hb_wk⟩))
    obtain ⟨W', e', hB', k0, k1, k2, k3⟩ := rd_four (by assumption)
    rw [e']
    go_wp2_with fail
    refine bodyPost_ret (by simp [results, Try.results63, go_sem, *]; try rfl) rfl ?_
    exact ⟨rfl, Below.trans hB_w3 (hB'.mono (by omega))⟩
  · go_enter Try.func63, Try.ntmps63
    go_wp2_with fail
    refine (right_any _ _ _ _ _).mono ?_
    rintro e w1 ⟨rfl, hb_w1⟩
    obtain ⟨hc_w1, hf_w1⟩ := bcell hb_w1
    have hz_w1 := hb_w1.size
    try simp at hz_w1
    have hB_w1 : Below w.heap.size w w1 := Below.trans (by go_grown) (hb_w1.mono (by go_size))
    have hs_w1_0 : w.heap.size < w1.heap.size := by omega
    have hs_w1_1 : w.heap.size + 1 < w1.heap.size := by omega
    have hs_w1_2 : w.heap.size + 1 + 1 < w1.heap.size := by omega
    go_wp2_with fail
    refine (right_any _ _ _ _ _).mono ?_
    rintro e w2 ⟨rfl, hb_w2⟩
    obtain ⟨hc_w2, hf_w2⟩ := bcell hb_w2
    have hz_w2 := hb_w2.size
    try simp at hz_w2
    have hB_w2 : Below w.heap.size w w2 := Below.trans (by go_grown) (hb_w2.mono (by go_size))
    have hs_w2_0 : w.heap.size < w2.heap.size := by omega
    have hs_w2_1 : w.heap.size + 1 < w2.heap.size := by omega
    have hs_w2_2 : w.heap.size + 1 + 1 < w2.heap.size := by omega
    go_wp2_with fail
    refine (right_any _ _ _ _ _).mono ?_
    rintro e w3 ⟨rfl, hb_w3⟩
    obtain ⟨hc_w3, hf_w3⟩ := bcell hb_w3
    have hz_w3 := hb_w3.size
    try simp at hz_w3
    have hB_w3 : Below w.heap.size w w3 := Below.trans (by go_grown) (hb_w3.mono (by go_size))
    have hs_w3_0 : w.heap.size < w3.heap.size := by omega
    have hs_w3_1 : w.heap.size + 1 < w3.heap.size := by omega
    have hs_w3_2 : w.heap.size + 1 + 1 < w3.heap.size := by omega
    go_wp2_with fail
    refine bodyPost_ret (by simp [results, Try.results63, go_sem, *]; try rfl) rfl ?_
    exact ⟨rfl, by go_grown⟩
  · go_enter Try.func63, Try.ntmps63
    go_wp2_with fail
    refine (right_any _ _ _ _ _).mono ?_
    rintro e w1 ⟨rfl, hb_w1⟩
    obtain ⟨hc_w1, hf_w1⟩ := bcell hb_w1
    have hz_w1 := hb_w1.size
    try simp at hz_w1
    have hB_w1 : Below w.heap.size w w1 := Below.trans (by go_grown) (hb_w1.mono (by go_size))
    have hs_w1_0 : w.heap.size < w1.heap.size := by omega
    have hs_w1_1 : w.heap.size + 1 < w1.heap.size := by omega
    have hs_w1_2 : w.heap.size + 1 + 1 < w1.heap.size := by omega
    go_wp2_with fail
    refine (right_any _ _ _ _ _).mono ?_
    rintro e w2 ⟨rfl, hb_w2⟩
    obtain ⟨hc_w2, hf_w2⟩ := bcell hb_w2
    have hz_w2 := hb_w2.size
    try simp at hz_w2
    have hB_w2 : Below w.heap.size w w2 := Below.trans (by go_grown) (hb_w2.mono (by go_size))
    have hs_w2_0 : w.heap.size < w2.heap.size := by omega
    have hs_w2_1 : w.heap.size + 1 < w2.heap.size := by omega
    have hs_w2_2 : w.heap.size + 1 + 1 < w2.heap.size := by omega
    go_wp2_with fail
    refine (right_any _ _ _ _ _).mono ?_
    rintro e w3 ⟨rfl, hb_w3⟩
    obtain ⟨hc_w3, hf_w3⟩ := bcell hb_w3
    have hz_w3 := hb_w3.size
    try simp at hz_w3
    have hB_w3 : Below w.heap.size w w3 := Below.trans (by go_grown) (hb_w3.mono (by go_size))
    have hs_w3_0 : w.heap.size < w3.heap.size := by omega
    have hs_w3_1 : w.heap.size + 1 < w3.heap.size := by omega
    have hs_w3_2 : w.heap.size + 1 + 1 < w3.heap.size := by omega
    go_wp2_with fail
    refine bodyPost_ret (by simp [results, Try.results63, go_sem, *]; try rfl) rfl ?_
    exact ⟨rfl, by go_grown⟩
  · go_enter Try.func63, Try.ntmps63
    go_wp2_with fail
    refine (right_any _ _ _ _ _).mono ?_
    rintro e w1 ⟨rfl, hb_w1⟩
    obtain ⟨hc_w1, hf_w1⟩ := bcell hb_w1
    have hz_w1 := hb_w1.size
    try simp at hz_w1
    have hB_w1 : Below w.heap.size w w1 := Below.trans (by go_grown) (hb_w1.mono (by go_size))
    have hs_w1_0 : w.heap.size < w1.heap.size := by omega
    have hs_w1_1 : w.heap.size + 1 < w1.heap.size := by omega
    have hs_w1_2 : w.heap.size + 1 + 1 < w1.heap.size := by omega
    go_wp2_with fail
    refine (right_any _ _ _ _ _).mono ?_
    rintro e w2 ⟨rfl, hb_w2⟩
    obtain ⟨hc_w2, hf_w2⟩ := bcell hb_w2
    have hz_w2 := hb_w2.size
    try simp at hz_w2
    have hB_w2 : Below w.heap.size w w2 := Below.trans (by go_grown) (hb_w2.mono (by go_size))
    have hs_w2_0 : w.heap.size < w2.heap.size := by omega
    have hs_w2_1 : w.heap.size + 1 < w2.heap.size := by omega
    have hs_w2_2 : w.heap.size + 1 + 1 < w2.heap.size := by omega
    go_wp2_with fail
    refine bodyPost_ret (by simp [results, Try.results63, go_sem, *]; try rfl) rfl ?_
    exact ⟨rfl, by go_grown⟩

end Go.Proofs.Ythbndilnobjjgaa
