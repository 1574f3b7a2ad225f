/-
  Package seg: Touch (from Meet's contract).
-/
import Derived.Test.YthbndilnobjjgaaSegD
namespace Go.Proofs.Ythbndilnobjjgaa
open Go.RowKit

/-- What Meet answers. -/
def MeetSays : Prop := ∀ (a b c d : Pt) (w : World),
    Calls Try.prog 53 #[.agg #[.int .i32 a.1, .int .i32 a.2], .agg #[.int .i32 b.1, .int .i32 b.2], .agg #[.int .i32 c.1, .int .i32 c.2], .agg #[.int .i32 d.1, .int .i32 d.2]] w fun e w' => e = .returned (.agg #[.int .u8 (meet a b c d).k, .bool (meet a b c d).inn, .int .i64 (meet a b c d).f.1, .int .i64 (meet a b c d).f.2, .int .i64 (meet a b c d).t.1, .int .i64 (meet a b c d).t.2]) ∧ Below w.heap.size w w'

def Mt3 (m : Mt) : Prop := m = mt0 ∨ m.k = 1 ∨ m.k = 2
theorem mt3_ite {p : Prop} [Decidable p] {a b : Mt} (ha : Mt3 a) (hb : Mt3 b) : Mt3 (if p then a else b) := by split <;> assumption
theorem mt3_0 : Mt3 mt0 := Or.inl rfl
theorem mt3_1 (n d : Int) (i : Bool) : Mt3 (mtOne n d i) := Or.inr (Or.inl rfl)
theorem meet_3 (a b c d : Pt) : Mt3 (meet a b c d) := by
  unfold meet mtAlong mtCross
  repeat (first | exact mt3_0 | exact mt3_1 _ _ _ | exact Or.inr (Or.inr rfl) | refine mt3_ite ?_ ?_)

theorem touches_no {a b c d : Pt} (h : meet a b c d = mt0) : touches a b c d = false := by unfold touches; rw [h]; rfl
theorem touches_yes {a b c d : Pt} (h : (meet a b c d).k = 1 ∨ (meet a b c d).k = 2) : touches a b c d = true := by unfold touches; rw [decide_eq_true_eq]; omega

set_option maxRecDepth 100000 in
set_option maxHeartbeats 800000 in
theorem touch_of (H : MeetSays) (a b c d : Pt) (w : World) :
    Calls Try.prog 34 #[.agg #[.int .i32 a.1, .int .i32 a.2], .agg #[.int .i32 b.1, .int .i32 b.2], .agg #[.int .i32 c.1, .int .i32 c.2], .agg #[.int .i32 d.1, .int .i32 d.2]] w fun e w' => e = .returned (.bool (touches a b c d)) ∧ Below w.heap.size w w' := by
  have h := fun W => H a b c d W
  have h3 := meet_3 a b c d
  rcases h3 with h0 | h0 | h0
  · rw [touches_no h0]
    rw [h0] at h
    have HM := Lib.hid h
    clear h h0 H
    go_enter Try.func34, Try.ntmps34
    go_wp2_with fail
    refine (HM.out _).mono ?_
    rintro e w1 ⟨rfl, hb_w1⟩
    obtain ⟨hc_w1, hf_w1⟩ := bcell hb_w1
    have hz_w1 := hb_w1.size
    try simp at hz_w1
    have hB_w1 : Below w.heap.size w w1 := Below.trans (by go_grown) (hb_w1.mono (by go_size))
    go_wp2_with fail
    refine bodyPost_ret (by simp [results, Try.results34, go_sem, *]; try rfl) rfl ?_
    exact ⟨ret_bool (by rfl), by go_grown⟩
  · rw [touches_yes (Or.inl h0)]
    rw [h0] at h
    have HM := Lib.hid h
    clear h h0 H
    go_enter Try.func34, Try.ntmps34
    go_wp2_with fail
    refine (HM.out _).mono ?_
    rintro e w1 ⟨rfl, hb_w1⟩
    obtain ⟨hc_w1, hf_w1⟩ := bcell hb_w1
    have hz_w1 := hb_w1.size
    try simp at hz_w1
    have hB_w1 : Below w.heap.size w w1 := Below.trans (by go_grown) (hb_w1.mono (by go_size))
    go_wp2_with fail
    refine bodyPost_ret (by simp [results, Try.results34, go_sem, *]; try rfl) rfl ?_
    exact ⟨ret_bool (by rfl), by go_grown⟩
  · rw [touches_yes (Or.inr h0)]
    rw [h0] at h
    have HM := Lib.hid h
    clear h h0 H
    go_enter Try.func34, Try.ntmps34
    go_wp2_with fail
    refine (HM.out _).mono ?_
    rintro e w1 ⟨rfl, hb_w1⟩
    obtain ⟨hc_w1, hf_w1⟩ := bcell hb_w1
    have hz_w1 := hb_w1.size
    try simp at hz_w1
    have hB_w1 : Below w.heap.size w w1 := Below.trans (by go_grown) (hb_w1.mono (by go_size))
    go_wp2_with fail
    refine bodyPost_ret (by simp [results, Try.results34, go_sem, *]; try rfl) rfl ?_
    exact ⟨ret_bool (by rfl), by go_grown⟩

end Go.Proofs.Ythbndilnobjjgaa
