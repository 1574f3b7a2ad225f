/-
  The document's layer 6: Turn, On, Touch.
-/
import Derived.Test.YthbndilnobjjgaaCheckM
import Derived.Test.YthbndilnobjjgaaTail
namespace Go.Proofs.Ythbndilnobjjgaa
open Go.RowKit

theorem in06 (p : Pt) (w : World) : Calls Try.prog 44 #[.agg #[.int .i32 p.1, .int .i32 p.2]] w fun e w' => e = .returned (.bool (inP p)) ∧ Below w.heap.size w w' := by
  obtain ⟨x, y⟩ := p
  go_enter Try.func44, Try.ntmps44
  go_wp2
  all_goals
    go_ret
    exact ⟨ret_bool (by unfold inP; rw [Bool.eq_iff_iff]; simp; try omega), by go_grown⟩

def Lt6 (p : Pt) : Prop := (-1073741823 ≤ p.1 ∧ p.1 ≤ 1073741823) ∧ (-1073741823 ≤ p.2 ∧ p.2 ≤ 1073741823)
theorem lt6_of {p : Pt} (h : inP p = true) : Lt6 p := by
  unfold inP at h
  rw [decide_eq_true_eq] at h
  exact h

theorem prod6 {a b : Int} (ha : -2147483646 ≤ a ∧ a ≤ 2147483646) (hb : -2147483646 ≤ b ∧ b ≤ 2147483646) : -4611686009837453316 ≤ a * b ∧ a * b ≤ 4611686009837453316 := by
  have h1 : a.natAbs ≤ 2147483646 := by omega
  have h2 : b.natAbs ≤ 2147483646 := by omega
  have h3 := Nat.mul_le_mul h1 h2
  rw [← Int.natAbs_mul] at h3
  omega
theorem ret_i6 {a b : Int} (h : a = b) : Ending.returned (.int .i64 a) = .returned (.int .i64 b) := by rw [h]

set_option maxHeartbeats 1000000 in
theorem turn06 (o a b : Pt) (ho : Lt6 o) (ha : Lt6 a) (hb : Lt6 b) (w : World) :
    Calls Try.prog 48 #[.agg #[.int .i32 o.1, .int .i32 o.2], .agg #[.int .i32 a.1, .int .i32 a.2], .agg #[.int .i32 b.1, .int .i32 b.2]] w fun e w' => e = .returned (.int .i64 (t6 o a b)) ∧ Below w.heap.size w w' := by
  obtain ⟨ox, oy⟩ := o
  obtain ⟨ax, ay⟩ := a
  obtain ⟨bx, by_⟩ := b
  unfold Lt6 at ho ha hb
  unfold t6 trn
  dsimp only at *
  have q1 := prod6 (a := ax - ox) (b := by_ - oy) (by omega) (by omega)
  have q2 := prod6 (a := ay - oy) (b := bx - ox) (by omega) (by omega)
  obtain ⟨d1, hd1⟩ : ∃ z, ax - ox = z := ⟨_, rfl⟩
  obtain ⟨d2, hd2⟩ : ∃ z, by_ - oy = z := ⟨_, rfl⟩
  obtain ⟨d3, hd3⟩ : ∃ z, ay - oy = z := ⟨_, rfl⟩
  obtain ⟨d4, hd4⟩ : ∃ z, bx - ox = z := ⟨_, rfl⟩
  have x1 : wrap64 ax = ax := by unfold wrap64; omega
  have x2 : wrap64 ox = ox := by unfold wrap64; omega
  have x3 : wrap64 by_ = by_ := by unfold wrap64; omega
  have x4 : wrap64 oy = oy := by unfold wrap64; omega
  have x5 : wrap64 ay = ay := by unfold wrap64; omega
  have x6 : wrap64 bx = bx := by unfold wrap64; omega
  have e1 : wrap64 (ax - ox) = d1 := by rw [← hd1]; unfold wrap64; omega
  have e2 : wrap64 (by_ - oy) = d2 := by rw [← hd2]; unfold wrap64; omega
  have e3 : wrap64 (ay - oy) = d3 := by rw [← hd3]; unfold wrap64; omega
  have e4 : wrap64 (bx - ox) = d4 := by rw [← hd4]; unfold wrap64; omega
  have k1 : wrap64 d1 = d1 := by rw [← hd1]; unfold wrap64; omega
  have k2 : wrap64 d2 = d2 := by rw [← hd2]; unfold wrap64; omega
  have k3 : wrap64 d3 = d3 := by rw [← hd3]; unfold wrap64; omega
  have k4 : wrap64 d4 = d4 := by rw [← hd4]; unfold wrap64; omega
  rw [hd1, hd2] at q1 ⊢
  rw [hd3, hd4] at q2 ⊢
  have p1 : wrap64 (d1 * d2) = d1 * d2 := by unfold wrap64; omega
  have p2 : wrap64 (d3 * d4) = d3 * d4 := by unfold wrap64; omega
  clear ho ha hb hd1 hd2 hd3 hd4
  go_enter Try.func48, Try.ntmps48
  go_wp2_with fail
  all_goals
    refine bodyPost_ret (by simp [results, Try.results48, go_sem, *]; try rfl) rfl ?_
    exact ⟨ret_i6 (by unfold cmpI; (repeat' split) <;> omega), by go_grown⟩

/-- v between a and b, whichever is the greater. -/
def bw6 (v a b : Int) : Bool := decide ((a ≤ v ∧ v ≤ b) ∨ (b ≤ v ∧ v ≤ a))
theorem between06 (v a b : Int) (w : World) :
    Calls Try.prog 75 #[.int .i32 v, .int .i32 a, .int .i32 b] w fun e w' => e = .returned (.bool (bw6 v a b)) ∧ Below w.heap.size w w' := by
  go_enter Try.func75, Try.ntmps75
  go_wp2_with fail
  all_goals
    go_returns
    exact ⟨ret_bool (by unfold bw6; rw [Bool.eq_iff_iff]; simp; try omega), by go_grown⟩
theorem onP_bw (p a b : Pt) : onP p (a, b) = (decide (t6 a b p = 0) && (bw6 p.1 a.1 b.1 && bw6 p.2 a.2 b.2)) := by
  unfold onP onB hasB bw6 t6
  rw [Bool.eq_iff_iff]
  simp only [Bool.and_eq_true, decide_eq_true_eq]
  omega

set_option maxHeartbeats 1000000 in
theorem on06 (p a b : Pt) (hp : Lt6 p) (ha : Lt6 a) (hb : Lt6 b) (w : World) :
    Calls Try.prog 61 #[.agg #[.int .i32 p.1, .int .i32 p.2], .agg #[.int .i32 a.1, .int .i32 a.2], .agg #[.int .i32 b.1, .int .i32 b.2]] w fun e w' => e = .returned (.bool (onP p (a, b))) ∧ Below w.heap.size w w' := by
  have T := Lib.hid (fun W => turn06 a b p ha hb hp W)
  have B1 := Lib.hid (fun W => between06 p.1 a.1 b.1 W)
  have B2 := Lib.hid (fun W => between06 p.2 a.2 b.2 W)
  clear ha hb hp
  rw [onP_bw]
  obtain ⟨x, hx⟩ : ∃ z, bw6 p.1 a.1 b.1 = z := ⟨_, rfl⟩
  obtain ⟨y, hy⟩ : ∃ z, bw6 p.2 a.2 b.2 = z := ⟨_, rfl⟩
  obtain ⟨k, hk⟩ : ∃ z, t6 a b p = z := ⟨_, rfl⟩
  rw [hx] at B1 ⊢
  rw [hy] at B2 ⊢
  rw [hk] at T ⊢
  clear hx hy hk
  obtain ⟨px, py⟩ := p
  obtain ⟨ax, ay⟩ := a
  obtain ⟨bx, by_⟩ := b
  dsimp only at *
  rcases Decidable.em (k = 0) with rfl | hk0
  · cases x
    · rw [show (decide ((0 : Int) = 0) && (false && y)) = false from rfl]
      go_enter Try.func61, Try.ntmps61
      go_wp2_with fail
      refine (T.out _).mono ?_
      rintro e w1 ⟨rfl, hb_w1⟩
      obtain ⟨hc_w1, hf_w1⟩ := bcell hb_w1
      have hz_w1 := hb_w1.size
      try simp at hz_w1
      have hB_w1 : Below w.heap.size w w1 := Below.trans (by go_grown) (hb_w1.mono (by go_size))
      have hs_w1_0 : w.heap.size < w1.heap.size := by omega
      have hs_w1_1 : w.heap.size + 1 < w1.heap.size := by omega
      have hs_w1_2 : w.heap.size + 1 + 1 < w1.heap.size := by omega
      go_wp2_with fail
      refine (B1.out _).mono ?_
      rintro e w2 ⟨rfl, hb_w2⟩
      obtain ⟨hc_w2, hf_w2⟩ := bcell hb_w2
      have hz_w2 := hb_w2.size
      try simp at hz_w2
      have hB_w2 : Below w.heap.size w w2 := Below.trans (by go_grown) (hb_w2.mono (by go_size))
      have hs_w2_0 : w.heap.size < w2.heap.size := by omega
      have hs_w2_1 : w.heap.size + 1 < w2.heap.size := by omega
      have hs_w2_2 : w.heap.size + 1 + 1 < w2.heap.size := by omega
      go_wp2_with fail
      refine bodyPost_ret (by simp [results, Try.results61, go_sem, *]; try rfl) rfl ?_
      exact ⟨rfl, by go_grown⟩
    · rw [show (decide ((0 : Int) = 0) && (true && y)) = y by simp]
      go_enter Try.func61, Try.ntmps61
      go_wp2_with fail
      refine (T.out _).mono ?_
      rintro e w1 ⟨rfl, hb_w1⟩
      obtain ⟨hc_w1, hf_w1⟩ := bcell hb_w1
      have hz_w1 := hb_w1.size
      try simp at hz_w1
      have hB_w1 : Below w.heap.size w w1 := Below.trans (by go_grown) (hb_w1.mono (by go_size))
      have hs_w1_0 : w.heap.size < w1.heap.size := by omega
      have hs_w1_1 : w.heap.size + 1 < w1.heap.size := by omega
      have hs_w1_2 : w.heap.size + 1 + 1 < w1.heap.size := by omega
      go_wp2_with fail
      refine (B1.out _).mono ?_
      rintro e w2 ⟨rfl, hb_w2⟩
      obtain ⟨hc_w2, hf_w2⟩ := bcell hb_w2
      have hz_w2 := hb_w2.size
      try simp at hz_w2
      have hB_w2 : Below w.heap.size w w2 := Below.trans (by go_grown) (hb_w2.mono (by go_size))
      have hs_w2_0 : w.heap.size < w2.heap.size := by omega
      have hs_w2_1 : w.heap.size + 1 < w2.heap.size := by omega
      have hs_w2_2 : w.heap.size + 1 + 1 < w2.heap.size := by omega
      go_wp2_with fail
      refine (B2.out _).mono ?_
      rintro e w3 ⟨rfl, hb_w3⟩
      obtain ⟨hc_w3, hf_w3⟩ := bcell hb_w3
      have hz_w3 := hb_w3.size
      try simp at hz_w3
      have hB_w3 : Below w.heap.size w w3 := Below.trans (by go_grown) (hb_w3.mono (by go_size))
      have hs_w3_0 : w.heap.size < w3.heap.size := by omega
      have hs_w3_1 : w.heap.size + 1 < w3.heap.size := by omega
      have hs_w3_2 : w.heap.size + 1 + 1 < w3.heap.size := by omega
      go_wp2_with fail
      refine bodyPost_ret (by simp [results, Try.results61, go_sem, *]; try rfl) rfl ?_
      exact ⟨rfl, by go_grown⟩
  · rw [show (decide (k = 0) && (x && y)) = false by simp [hk0]]
    have hne : (k == 0) = false := beq_eq_false_iff_ne.2 hk0
    go_enter Try.func61, Try.ntmps61
    go_wp2_with fail
    refine (T.out _).mono ?_
    rintro e w1 ⟨rfl, hb_w1⟩
    obtain ⟨hc_w1, hf_w1⟩ := bcell hb_w1
    have hz_w1 := hb_w1.size
    try simp at hz_w1
    have hB_w1 : Below w.heap.size w w1 := Below.trans (by go_grown) (hb_w1.mono (by go_size))
    have hs_w1_0 : w.heap.size < w1.heap.size := by omega
    have hs_w1_1 : w.heap.size + 1 < w1.heap.size := by omega
    have hs_w1_2 : w.heap.size + 1 + 1 < w1.heap.size := by omega
    go_wp2_with fail
    refine bodyPost_ret (by simp [results, Try.results61, go_sem, *]; try rfl) rfl ?_
    exact ⟨rfl, by go_grown⟩

set_option maxHeartbeats 1000000 in
theorem more06 (a b c : Pt) (ha : Lt6 a) (hb : Lt6 b) (hc : Lt6 c) (w : World) :
    Calls Try.prog 62 #[.agg #[.int .i32 a.1, .int .i32 a.2], .agg #[.int .i32 b.1, .int .i32 b.2], .agg #[.int .i32 c.1, .int .i32 c.2]] w fun e w' => e = .returned (.bool (foldF a b c)) ∧ Below w.heap.size w w' := by
  have T := Lib.hid (fun W => turn06 a b c ha hb hc W)
  have O1 := Lib.hid (fun W => on06 a b c ha hb hc W)
  have O2 := Lib.hid (fun W => on06 c a b hc ha hb W)
  clear ha hb hc
  unfold foldF
  obtain ⟨k, hk⟩ : ∃ z, t6 a b c = z := ⟨_, rfl⟩
  obtain ⟨x, hx⟩ : ∃ z, onP a (b, c) = z := ⟨_, rfl⟩
  obtain ⟨y, hy⟩ : ∃ z, onP c (a, b) = z := ⟨_, rfl⟩
  rw [hk] at T ⊢
  rw [hx] at O1 ⊢
  rw [hy] at O2 ⊢
  clear hx hy hk
  obtain ⟨ax, ay⟩ := a
  obtain ⟨bx, by_⟩ := b
  obtain ⟨cx, cy⟩ := c
  dsimp only at *
  rcases Decidable.em (k = 0) with rfl | hk0
  · cases x
    · rw [show (decide ((0 : Int) = 0) && (false || y)) = y by simp]
      go_enter Try.func62, Try.ntmps62
      go_wp2_with fail
      refine (T.out _).mono ?_
      rintro e w1 ⟨rfl, hb_w1⟩
      obtain ⟨hc_w1, hf_w1⟩ := bcell hb_w1
      have hz_w1 := hb_w1.size
      try simp at hz_w1
      have hB_w1 : Below w.heap.size w w1 := Below.trans (by go_grown) (hb_w1.mono (by go_size))
      have hs_w1_0 : w.heap.size < w1.heap.size := by omega
      have hs_w1_1 : w.heap.size + 1 < w1.heap.size := by omega
      have hs_w1_2 : w.heap.size + 1 + 1 < w1.heap.size := by omega
      go_wp2_with fail
      refine (O1.out _).mono ?_
      rintro e w2 ⟨rfl, hb_w2⟩
      obtain ⟨hc_w2, hf_w2⟩ := bcell hb_w2
      have hz_w2 := hb_w2.size
      try simp at hz_w2
      have hB_w2 : Below w.heap.size w w2 := Below.trans (by go_grown) (hb_w2.mono (by go_size))
      have hs_w2_0 : w.heap.size < w2.heap.size := by omega
      have hs_w2_1 : w.heap.size + 1 < w2.heap.size := by omega
      have hs_w2_2 : w.heap.size + 1 + 1 < w2.heap.size := by omega
      go_wp2_with fail
      refine (O2.out _).mono ?_
      rintro e w3 ⟨rfl, hb_w3⟩
      obtain ⟨hc_w3, hf_w3⟩ := bcell hb_w3
      have hz_w3 := hb_w3.size
      try simp at hz_w3
      have hB_w3 : Below w.heap.size w w3 := Below.trans (by go_grown) (hb_w3.mono (by go_size))
      have hs_w3_0 : w.heap.size < w3.heap.size := by omega
      have hs_w3_1 : w.heap.size + 1 < w3.heap.size := by omega
      have hs_w3_2 : w.heap.size + 1 + 1 < w3.heap.size := by omega
      go_wp2_with fail
      refine bodyPost_ret (by simp [results, Try.results62, go_sem, *]; try rfl) rfl ?_
      exact ⟨rfl, by go_grown⟩
    · rw [show (decide ((0 : Int) = 0) && (true || y)) = true by simp]
      go_enter Try.func62, Try.ntmps62
      go_wp2_with fail
      refine (T.out _).mono ?_
      rintro e w1 ⟨rfl, hb_w1⟩
      obtain ⟨hc_w1, hf_w1⟩ := bcell hb_w1
      have hz_w1 := hb_w1.size
      try simp at hz_w1
      have hB_w1 : Below w.heap.size w w1 := Below.trans (by go_grown) (hb_w1.mono (by go_size))
      have hs_w1_0 : w.heap.size < w1.heap.size := by omega
      have hs_w1_1 : w.heap.size + 1 < w1.heap.size := by omega
      have hs_w1_2 : w.heap.size + 1 + 1 < w1.heap.size := by omega
      go_wp2_with fail
      refine (O1.out _).mono ?_
      rintro e w2 ⟨rfl, hb_w2⟩
      obtain ⟨hc_w2, hf_w2⟩ := bcell hb_w2
      have hz_w2 := hb_w2.size
      try simp at hz_w2
      have hB_w2 : Below w.heap.size w w2 := Below.trans (by go_grown) (hb_w2.mono (by go_size))
      have hs_w2_0 : w.heap.size < w2.heap.size := by omega
      have hs_w2_1 : w.heap.size + 1 < w2.heap.size := by omega
      have hs_w2_2 : w.heap.size + 1 + 1 < w2.heap.size := by omega
      go_wp2_with fail
      refine bodyPost_ret (by simp [results, Try.results62, go_sem, *]; try rfl) rfl ?_
      exact ⟨rfl, by go_grown⟩
  · rw [show (decide (k = 0) && (x || y)) = false by simp [hk0]]
    have hne : (k == 0) = false := beq_eq_false_iff_ne.2 hk0
    go_enter Try.func62, Try.ntmps62
    go_wp2_with fail
    refine (T.out _).mono ?_
    rintro e w1 ⟨rfl, hb_w1⟩
    obtain ⟨hc_w1, hf_w1⟩ := bcell hb_w1
    have hz_w1 := hb_w1.size
    try simp at hz_w1
    have hB_w1 : Below w.heap.size w w1 := Below.trans (by go_grown) (hb_w1.mono (by go_size))
    have hs_w1_0 : w.heap.size < w1.heap.size := by omega
    have hs_w1_1 : w.heap.size + 1 < w1.heap.size := by omega
    have hs_w1_2 : w.heap.size + 1 + 1 < w1.heap.size := by omega
    go_wp2_with fail
    refine bodyPost_ret (by simp [results, Try.results62, go_sem, *]; try rfl) rfl ?_
    exact ⟨rfl, by go_grown⟩

theorem t6_bd (o a b : Pt) : -1 ≤ t6 o a b ∧ t6 o a b ≤ 1 := trn_bd _ _ _ _ _ _
set_option maxHeartbeats 2000000 in
theorem touch06 (a b c d : Pt) (w : World) :
    Calls Try.prog 42 #[.agg #[.int .i32 a.1, .int .i32 a.2], .agg #[.int .i32 b.1, .int .i32 b.2], .agg #[.int .i32 c.1, .int .i32 c.2], .agg #[.int .i32 d.1, .int .i32 d.2]] w fun e w' => e = .returned (.bool (touches a b c d)) ∧ Below w.heap.size w w' := by
  rw [← touch6_is]
  have IA := Lib.hid (fun W => in06 a W)
  have IB := Lib.hid (fun W => in06 b W)
  have IC := Lib.hid (fun W => in06 c W)
  have ID := Lib.hid (fun W => in06 d W)
  have T1 : Hid (inP a = true → inP b = true → inP c = true → inP d = true → ∀ W, Calls Try.prog 48 #[.agg #[.int .i32 a.1, .int .i32 a.2], .agg #[.int .i32 b.1, .int .i32 b.2], .agg #[.int .i32 c.1, .int .i32 c.2]] W fun e w' => e = .returned (.int .i64 (t6 a b c)) ∧ Below W.heap.size W w') := Lib.hid (fun h1 h2 h3 h4 W => turn06 a b c (lt6_of h1) (lt6_of h2) (lt6_of h3) W)
  have T2 : Hid (inP a = true → inP b = true → inP c = true → inP d = true → ∀ W, Calls Try.prog 48 #[.agg #[.int .i32 a.1, .int .i32 a.2], .agg #[.int .i32 b.1, .int .i32 b.2], .agg #[.int .i32 d.1, .int .i32 d.2]] W fun e w' => e = .returned (.int .i64 (t6 a b d)) ∧ Below W.heap.size W w') := Lib.hid (fun h1 h2 h3 h4 W => turn06 a b d (lt6_of h1) (lt6_of h2) (lt6_of h4) W)
  have T3 : Hid (inP a = true → inP b = true → inP c = true → inP d = true → ∀ W, Calls Try.prog 48 #[.agg #[.int .i32 c.1, .int .i32 c.2], .agg #[.int .i32 d.1, .int .i32 d.2], .agg #[.int .i32 a.1, .int .i32 a.2]] W fun e w' => e = .returned (.int .i64 (t6 c d a)) ∧ Below W.heap.size W w') := Lib.hid (fun h1 h2 h3 h4 W => turn06 c d a (lt6_of h3) (lt6_of h4) (lt6_of h1) W)
  have T4 : Hid (inP a = true → inP b = true → inP c = true → inP d = true → ∀ W, Calls Try.prog 48 #[.agg #[.int .i32 c.1, .int .i32 c.2], .agg #[.int .i32 d.1, .int .i32 d.2], .agg #[.int .i32 b.1, .int .i32 b.2]] W fun e w' => e = .returned (.int .i64 (t6 c d b)) ∧ Below W.heap.size W w') := Lib.hid (fun h1 h2 h3 h4 W => turn06 c d b (lt6_of h3) (lt6_of h4) (lt6_of h2) W)
  have O1 : Hid (inP a = true → inP b = true → inP c = true → inP d = true → ∀ W, Calls Try.prog 61 #[.agg #[.int .i32 a.1, .int .i32 a.2], .agg #[.int .i32 c.1, .int .i32 c.2], .agg #[.int .i32 d.1, .int .i32 d.2]] W fun e w' => e = .returned (.bool (onP a (c, d))) ∧ Below W.heap.size W w') := Lib.hid (fun h1 h2 h3 h4 W => on06 a c d (lt6_of h1) (lt6_of h3) (lt6_of h4) W)
  have O2 : Hid (inP a = true → inP b = true → inP c = true → inP d = true → ∀ W, Calls Try.prog 61 #[.agg #[.int .i32 b.1, .int .i32 b.2], .agg #[.int .i32 c.1, .int .i32 c.2], .agg #[.int .i32 d.1, .int .i32 d.2]] W fun e w' => e = .returned (.bool (onP b (c, d))) ∧ Below W.heap.size W w') := Lib.hid (fun h1 h2 h3 h4 W => on06 b c d (lt6_of h2) (lt6_of h3) (lt6_of h4) W)
  have O3 : Hid (inP a = true → inP b = true → inP c = true → inP d = true → ∀ W, Calls Try.prog 61 #[.agg #[.int .i32 c.1, .int .i32 c.2], .agg #[.int .i32 a.1, .int .i32 a.2], .agg #[.int .i32 b.1, .int .i32 b.2]] W fun e w' => e = .returned (.bool (onP c (a, b))) ∧ Below W.heap.size W w') := Lib.hid (fun h1 h2 h3 h4 W => on06 c a b (lt6_of h3) (lt6_of h1) (lt6_of h2) W)
  have O4 : Hid (inP a = true → inP b = true → inP c = true → inP d = true → ∀ W, Calls Try.prog 61 #[.agg #[.int .i32 d.1, .int .i32 d.2], .agg #[.int .i32 a.1, .int .i32 a.2], .agg #[.int .i32 b.1, .int .i32 b.2]] W fun e w' => e = .returned (.bool (onP d (a, b))) ∧ Below W.heap.size W w') := Lib.hid (fun h1 h2 h3 h4 W => on06 d a b (lt6_of h4) (lt6_of h1) (lt6_of h2) W)
  have bd1 := t6_bd a b c
  have bd2 := t6_bd a b d
  have bd3 := t6_bd c d a
  have bd4 := t6_bd c d b
  unfold touch6
  obtain ⟨va, hva⟩ : ∃ z, inP a = z := ⟨_, rfl⟩
  obtain ⟨vb, hvb⟩ : ∃ z, inP b = z := ⟨_, rfl⟩
  obtain ⟨vc, hvc⟩ : ∃ z, inP c = z := ⟨_, rfl⟩
  obtain ⟨vd, hvd⟩ : ∃ z, inP d = z := ⟨_, rfl⟩
  obtain ⟨o1, ho1⟩ : ∃ z, onP a (c, d) = z := ⟨_, rfl⟩
  obtain ⟨o2, ho2⟩ : ∃ z, onP b (c, d) = z := ⟨_, rfl⟩
  obtain ⟨o3, ho3⟩ : ∃ z, onP c (a, b) = z := ⟨_, rfl⟩
  obtain ⟨o4, ho4⟩ : ∃ z, onP d (a, b) = z := ⟨_, rfl⟩
  obtain ⟨t1, ht1⟩ : ∃ z, t6 a b c = z := ⟨_, rfl⟩
  obtain ⟨t2, ht2⟩ : ∃ z, t6 a b d = z := ⟨_, rfl⟩
  obtain ⟨t3, ht3⟩ : ∃ z, t6 c d a = z := ⟨_, rfl⟩
  obtain ⟨t4, ht4⟩ : ∃ z, t6 c d b = z := ⟨_, rfl⟩
  rw [hva, hvb, hvc, hvd] at T1 T2 T3 T4 O1 O2 O3 O4 ⊢
  rw [hva] at IA
  rw [hvb] at IB
  rw [hvc] at IC
  rw [hvd] at ID
  rw [ho1] at O1 ⊢
  rw [ho2] at O2 ⊢
  rw [ho3] at O3 ⊢
  rw [ho4] at O4 ⊢
  rw [ht1] at T1 bd1 ⊢
  rw [ht2] at T2 bd2 ⊢
  rw [ht3] at T3 bd3 ⊢
  rw [ht4] at T4 bd4 ⊢
  clear hva hvb hvc hvd ho1 ho2 ho3 ho4 ht1 ht2 ht3 ht4
  obtain ⟨ax, ay⟩ := a
  obtain ⟨bx, by_⟩ := b
  obtain ⟨cx, cy⟩ := c
  obtain ⟨dx, dy⟩ := d
  dsimp only at *
  cases va
  · clear T1 T2 T3 T4 O1 O2 O3 O4 bd1 bd2 bd3 bd4
    simp only [Bool.false_and, if_neg Bool.false_ne_true]
    go_enter Try.func42, Try.ntmps42
    go_wp2_with fail
    refine (IA.out _).mono ?_
    rintro e w1 ⟨rfl, hb_w1⟩
    obtain ⟨hc_w1, hf_w1⟩ := bcell hb_w1
    have hz_w1 := hb_w1.size
    try simp at hz_w1
    have hB_w1 : Below w.heap.size w w1 := Below.trans (by go_grown) (hb_w1.mono (by go_size))
    have hs_w1_0 : w.heap.size < w1.heap.size := by omega
    have hs_w1_1 : w.heap.size + 1 < w1.heap.size := by omega
    have hs_w1_2 : w.heap.size + 1 + 1 < w1.heap.size := by omega
    have hs_w1_3 : w.heap.size + 1 + 1 + 1 < w1.heap.size := by omega
    go_wp2_with fail
    refine bodyPost_ret (by simp [results, Try.results42, go_sem, *]; try rfl) rfl ?_
    exact ⟨rfl, by go_grown⟩
  cases vb
  · clear T1 T2 T3 T4 O1 O2 O3 O4 bd1 bd2 bd3 bd4
    simp only [Bool.false_and, Bool.and_false, if_neg Bool.false_ne_true]
    go_enter Try.func42, Try.ntmps42
    go_wp2_with fail
    refine (IA.out _).mono ?_
    rintro e w1 ⟨rfl, hb_w1⟩
    obtain ⟨hc_w1, hf_w1⟩ := bcell hb_w1
    have hz_w1 := hb_w1.size
    try simp at hz_w1
    have hB_w1 : Below w.heap.size w w1 := Below.trans (by go_grown) (hb_w1.mono (by go_size))
    have hs_w1_0 : w.heap.size < w1.heap.size := by omega
    have hs_w1_1 : w.heap.size + 1 < w1.heap.size := by omega
    have hs_w1_2 : w.heap.size + 1 + 1 < w1.heap.size := by omega
    have hs_w1_3 : w.heap.size + 1 + 1 + 1 < w1.heap.size := by omega
    go_wp2_with fail
    refine (IB.out _).mono ?_
    rintro e w2 ⟨rfl, hb_w2⟩
    obtain ⟨hc_w2, hf_w2⟩ := bcell hb_w2
    have hz_w2 := hb_w2.size
    try simp at hz_w2
    have hB_w2 : Below w.heap.size w w2 := Below.trans (by go_grown) (hb_w2.mono (by go_size))
    have hs_w2_0 : w.heap.size < w2.heap.size := by omega
    have hs_w2_1 : w.heap.size + 1 < w2.heap.size := by omega
    have hs_w2_2 : w.heap.size + 1 + 1 < w2.heap.size := by omega
    have hs_w2_3 : w.heap.size + 1 + 1 + 1 < w2.heap.size := by omega
    go_wp2_with fail
    refine bodyPost_ret (by simp [results, Try.results42, go_sem, *]; try rfl) rfl ?_
    exact ⟨rfl, by go_grown⟩
  cases vc
  · clear T1 T2 T3 T4 O1 O2 O3 O4 bd1 bd2 bd3 bd4
    simp only [Bool.false_and, Bool.and_false, Bool.true_and, if_neg Bool.false_ne_true]
    go_enter Try.func42, Try.ntmps42
    go_wp2_with fail
    refine (IA.out _).mono ?_
    rintro e w1 ⟨rfl, hb_w1⟩
    obtain ⟨hc_w1, hf_w1⟩ := bcell hb_w1
    have hz_w1 := hb_w1.size
    try simp at hz_w1
    have hB_w1 : Below w.heap.size w w1 := Below.trans (by go_grown) (hb_w1.mono (by go_size))
    have hs_w1_0 : w.heap.size < w1.heap.size := by omega
    have hs_w1_1 : w.heap.size + 1 < w1.heap.size := by omega
    have hs_w1_2 : w.heap.size + 1 + 1 < w1.heap.size := by omega
    have hs_w1_3 : w.heap.size + 1 + 1 + 1 < w1.heap.size := by omega
    go_wp2_with fail
    refine (IB.out _).mono ?_
    rintro e w2 ⟨rfl, hb_w2⟩
    obtain ⟨hc_w2, hf_w2⟩ := bcell hb_w2
    have hz_w2 := hb_w2.size
    try simp at hz_w2
    have hB_w2 : Below w.heap.size w w2 := Below.trans (by go_grown) (hb_w2.mono (by go_size))
    have hs_w2_0 : w.heap.size < w2.heap.size := by omega
    have hs_w2_1 : w.heap.size + 1 < w2.heap.size := by omega
    have hs_w2_2 : w.heap.size + 1 + 1 < w2.heap.size := by omega
    have hs_w2_3 : w.heap.size + 1 + 1 + 1 < w2.heap.size := by omega
    go_wp2_with fail
    refine (IC.out _).mono ?_
    rintro e w3 ⟨rfl, hb_w3⟩
    obtain ⟨hc_w3, hf_w3⟩ := bcell hb_w3
    have hz_w3 := hb_w3.size
    try simp at hz_w3
    have hB_w3 : Below w.heap.size w w3 := Below.trans (by go_grown) (hb_w3.mono (by go_size))
    have hs_w3_0 : w.heap.size < w3.heap.size := by omega
    have hs_w3_1 : w.heap.size + 1 < w3.heap.size := by omega
    have hs_w3_2 : w.heap.size + 1 + 1 < w3.heap.size := by omega
    have hs_w3_3 : w.heap.size + 1 + 1 + 1 < w3.heap.size := by omega
    go_wp2_with fail
    refine bodyPost_ret (by simp [results, Try.results42, go_sem, *]; try rfl) rfl ?_
    exact ⟨rfl, by go_grown⟩
  cases vd
  · clear T1 T2 T3 T4 O1 O2 O3 O4 bd1 bd2 bd3 bd4
    simp only [Bool.and_false, Bool.true_and, if_neg Bool.false_ne_true]
    go_enter Try.func42, Try.ntmps42
    go_wp2_with fail
    refine (IA.out _).mono ?_
    rintro e w1 ⟨rfl, hb_w1⟩
    obtain ⟨hc_w1, hf_w1⟩ := bcell hb_w1
    have hz_w1 := hb_w1.size
    try simp at hz_w1
    have hB_w1 : Below w.heap.size w w1 := Below.trans (by go_grown) (hb_w1.mono (by go_size))
    have hs_w1_0 : w.heap.size < w1.heap.size := by omega
    have hs_w1_1 : w.heap.size + 1 < w1.heap.size := by omega
    have hs_w1_2 : w.heap.size + 1 + 1 < w1.heap.size := by omega
    have hs_w1_3 : w.heap.size + 1 + 1 + 1 < w1.heap.size := by omega
    go_wp2_with fail
    refine (IB.out _).mono ?_
    rintro e w2 ⟨rfl, hb_w2⟩
    obtain ⟨hc_w2, hf_w2⟩ := bcell hb_w2
    have hz_w2 := hb_w2.size
    try simp at hz_w2
    have hB_w2 : Below w.heap.size w w2 := Below.trans (by go_grown) (hb_w2.mono (by go_size))
    have hs_w2_0 : w.heap.size < w2.heap.size := by omega
    have hs_w2_1 : w.heap.size + 1 < w2.heap.size := by omega
    have hs_w2_2 : w.heap.size + 1 + 1 < w2.heap.size := by omega
    have hs_w2_3 : w.heap.size + 1 + 1 + 1 < w2.heap.size := by omega
    go_wp2_with fail
    refine (IC.out _).mono ?_
    rintro e w3 ⟨rfl, hb_w3⟩
    obtain ⟨hc_w3, hf_w3⟩ := bcell hb_w3
    have hz_w3 := hb_w3.size
    try simp at hz_w3
    have hB_w3 : Below w.heap.size w w3 := Below.trans (by go_grown) (hb_w3.mono (by go_size))
    have hs_w3_0 : w.heap.size < w3.heap.size := by omega
    have hs_w3_1 : w.heap.size + 1 < w3.heap.size := by omega
    have hs_w3_2 : w.heap.size + 1 + 1 < w3.heap.size := by omega
    have hs_w3_3 : w.heap.size + 1 + 1 + 1 < w3.heap.size := by omega
    go_wp2_with fail
    refine (ID.out _).mono ?_
    rintro e w4 ⟨rfl, hb_w4⟩
    obtain ⟨hc_w4, hf_w4⟩ := bcell hb_w4
    have hz_w4 := hb_w4.size
    try simp at hz_w4
    have hB_w4 : Below w.heap.size w w4 := Below.trans (by go_grown) (hb_w4.mono (by go_size))
    have hs_w4_0 : w.heap.size < w4.heap.size := by omega
    have hs_w4_1 : w.heap.size + 1 < w4.heap.size := by omega
    have hs_w4_2 : w.heap.size + 1 + 1 < w4.heap.size := by omega
    have hs_w4_3 : w.heap.size + 1 + 1 + 1 < w4.heap.size := by omega
    go_wp2_with fail
    refine bodyPost_ret (by simp [results, Try.results42, go_sem, *]; try rfl) rfl ?_
    exact ⟨rfl, by go_grown⟩
  simp only [Bool.and_true, if_pos]
  replace T1 := Lib.hid (T1.out rfl rfl rfl rfl)
  replace O1 := Lib.hid (O1.out rfl rfl rfl rfl)
  replace T2 := Lib.hid (T2.out rfl rfl rfl rfl)
  replace O2 := Lib.hid (O2.out rfl rfl rfl rfl)
  replace T3 := Lib.hid (T3.out rfl rfl rfl rfl)
  replace O3 := Lib.hid (O3.out rfl rfl rfl rfl)
  replace T4 := Lib.hid (T4.out rfl rfl rfl rfl)
  replace O4 := Lib.hid (O4.out rfl rfl rfl rfl)
  cases o1
  rotate_left
  · clear T1 T2 T3 T4 bd1 bd2 bd3 bd4
    simp only [Bool.true_or, if_pos]
    go_enter Try.func42, Try.ntmps42
    go_wp2_with fail
    refine (IA.out _).mono ?_
    rintro e w1 ⟨rfl, hb_w1⟩
    obtain ⟨hc_w1, hf_w1⟩ := bcell hb_w1
    have hz_w1 := hb_w1.size
    try simp at hz_w1
    have hB_w1 : Below w.heap.size w w1 := Below.trans (by go_grown) (hb_w1.mono (by go_size))
    have hs_w1_0 : w.heap.size < w1.heap.size := by omega
    have hs_w1_1 : w.heap.size + 1 < w1.heap.size := by omega
    have hs_w1_2 : w.heap.size + 1 + 1 < w1.heap.size := by omega
    have hs_w1_3 : w.heap.size + 1 + 1 + 1 < w1.heap.size := by omega
    go_wp2_with fail
    refine (IB.out _).mono ?_
    rintro e w2 ⟨rfl, hb_w2⟩
    obtain ⟨hc_w2, hf_w2⟩ := bcell hb_w2
    have hz_w2 := hb_w2.size
    try simp at hz_w2
    have hB_w2 : Below w.heap.size w w2 := Below.trans (by go_grown) (hb_w2.mono (by go_size))
    have hs_w2_0 : w.heap.size < w2.heap.size := by omega
    have hs_w2_1 : w.heap.size + 1 < w2.heap.size := by omega
    have hs_w2_2 : w.heap.size + 1 + 1 < w2.heap.size := by omega
    have hs_w2_3 : w.heap.size + 1 + 1 + 1 < w2.heap.size := by omega
    go_wp2_with fail
    refine (IC.out _).mono ?_
    rintro e w3 ⟨rfl, hb_w3⟩
    obtain ⟨hc_w3, hf_w3⟩ := bcell hb_w3
    have hz_w3 := hb_w3.size
    try simp at hz_w3
    have hB_w3 : Below w.heap.size w w3 := Below.trans (by go_grown) (hb_w3.mono (by go_size))
    have hs_w3_0 : w.heap.size < w3.heap.size := by omega
    have hs_w3_1 : w.heap.size + 1 < w3.heap.size := by omega
    have hs_w3_2 : w.heap.size + 1 + 1 < w3.heap.size := by omega
    have hs_w3_3 : w.heap.size + 1 + 1 + 1 < w3.heap.size := by omega
    go_wp2_with fail
    refine (ID.out _).mono ?_
    rintro e w4 ⟨rfl, hb_w4⟩
    obtain ⟨hc_w4, hf_w4⟩ := bcell hb_w4
    have hz_w4 := hb_w4.size
    try simp at hz_w4
    have hB_w4 : Below w.heap.size w w4 := Below.trans (by go_grown) (hb_w4.mono (by go_size))
    have hs_w4_0 : w.heap.size < w4.heap.size := by omega
    have hs_w4_1 : w.heap.size + 1 < w4.heap.size := by omega
    have hs_w4_2 : w.heap.size + 1 + 1 < w4.heap.size := by omega
    have hs_w4_3 : w.heap.size + 1 + 1 + 1 < w4.heap.size := by omega
    go_wp2_with fail
    refine (O1.out _).mono ?_
    rintro e w5 ⟨rfl, hb_w5⟩
    obtain ⟨hc_w5, hf_w5⟩ := bcell hb_w5
    have hz_w5 := hb_w5.size
    try simp at hz_w5
    have hB_w5 : Below w.heap.size w w5 := Below.trans (by go_grown) (hb_w5.mono (by go_size))
    have hs_w5_0 : w.heap.size < w5.heap.size := by omega
    have hs_w5_1 : w.heap.size + 1 < w5.heap.size := by omega
    have hs_w5_2 : w.heap.size + 1 + 1 < w5.heap.size := by omega
    have hs_w5_3 : w.heap.size + 1 + 1 + 1 < w5.heap.size := by omega
    go_wp2_with fail
    refine bodyPost_ret (by simp [results, Try.results42, go_sem, *]; try rfl) rfl ?_
    exact ⟨rfl, by go_grown⟩
  cases o2
  rotate_left
  · clear T1 T2 T3 T4 bd1 bd2 bd3 bd4
    simp only [Bool.true_or, Bool.or_true, if_pos]
    go_enter Try.func42, Try.ntmps42
    go_wp2_with fail
    refine (IA.out _).mono ?_
    rintro e w1 ⟨rfl, hb_w1⟩
    obtain ⟨hc_w1, hf_w1⟩ := bcell hb_w1
    have hz_w1 := hb_w1.size
    try simp at hz_w1
    have hB_w1 : Below w.heap.size w w1 := Below.trans (by go_grown) (hb_w1.mono (by go_size))
    have hs_w1_0 : w.heap.size < w1.heap.size := by omega
    have hs_w1_1 : w.heap.size + 1 < w1.heap.size := by omega
    have hs_w1_2 : w.heap.size + 1 + 1 < w1.heap.size := by omega
    have hs_w1_3 : w.heap.size + 1 + 1 + 1 < w1.heap.size := by omega
    go_wp2_with fail
    refine (IB.out _).mono ?_
    rintro e w2 ⟨rfl, hb_w2⟩
    obtain ⟨hc_w2, hf_w2⟩ := bcell hb_w2
    have hz_w2 := hb_w2.size
    try simp at hz_w2
    have hB_w2 : Below w.heap.size w w2 := Below.trans (by go_grown) (hb_w2.mono (by go_size))
    have hs_w2_0 : w.heap.size < w2.heap.size := by omega
    have hs_w2_1 : w.heap.size + 1 < w2.heap.size := by omega
    have hs_w2_2 : w.heap.size + 1 + 1 < w2.heap.size := by omega
    have hs_w2_3 : w.heap.size + 1 + 1 + 1 < w2.heap.size := by omega
    go_wp2_with fail
    refine (IC.out _).mono ?_
    rintro e w3 ⟨rfl, hb_w3⟩
    obtain ⟨hc_w3, hf_w3⟩ := bcell hb_w3
    have hz_w3 := hb_w3.size
    try simp at hz_w3
    have hB_w3 : Below w.heap.size w w3 := Below.trans (by go_grown) (hb_w3.mono (by go_size))
    have hs_w3_0 : w.heap.size < w3.heap.size := by omega
    have hs_w3_1 : w.heap.size + 1 < w3.heap.size := by omega
    have hs_w3_2 : w.heap.size + 1 + 1 < w3.heap.size := by omega
    have hs_w3_3 : w.heap.size + 1 + 1 + 1 < w3.heap.size := by omega
    go_wp2_with fail
    refine (ID.out _).mono ?_
    rintro e w4 ⟨rfl, hb_w4⟩
    obtain ⟨hc_w4, hf_w4⟩ := bcell hb_w4
    have hz_w4 := hb_w4.size
    try simp at hz_w4
    have hB_w4 : Below w.heap.size w w4 := Below.trans (by go_grown) (hb_w4.mono (by go_size))
    have hs_w4_0 : w.heap.size < w4.heap.size := by omega
    have hs_w4_1 : w.heap.size + 1 < w4.heap.size := by omega
    have hs_w4_2 : w.heap.size + 1 + 1 < w4.heap.size := by omega
    have hs_w4_3 : w.heap.size + 1 + 1 + 1 < w4.heap.size := by omega
    go_wp2_with fail
    refine (O1.out _).mono ?_
    rintro e w5 ⟨rfl, hb_w5⟩
    obtain ⟨hc_w5, hf_w5⟩ := bcell hb_w5
    have hz_w5 := hb_w5.size
    try simp at hz_w5
    have hB_w5 : Below w.heap.size w w5 := Below.trans (by go_grown) (hb_w5.mono (by go_size))
    have hs_w5_0 : w.heap.size < w5.heap.size := by omega
    have hs_w5_1 : w.heap.size + 1 < w5.heap.size := by omega
    have hs_w5_2 : w.heap.size + 1 + 1 < w5.heap.size := by omega
    have hs_w5_3 : w.heap.size + 1 + 1 + 1 < w5.heap.size := by omega
    go_wp2_with fail
    refine (O2.out _).mono ?_
    rintro e w6 ⟨rfl, hb_w6⟩
    obtain ⟨hc_w6, hf_w6⟩ := bcell hb_w6
    have hz_w6 := hb_w6.size
    try simp at hz_w6
    have hB_w6 : Below w.heap.size w w6 := Below.trans (by go_grown) (hb_w6.mono (by go_size))
    have hs_w6_0 : w.heap.size < w6.heap.size := by omega
    have hs_w6_1 : w.heap.size + 1 < w6.heap.size := by omega
    have hs_w6_2 : w.heap.size + 1 + 1 < w6.heap.size := by omega
    have hs_w6_3 : w.heap.size + 1 + 1 + 1 < w6.heap.size := by omega
    go_wp2_with fail
    refine bodyPost_ret (by simp [results, Try.results42, go_sem, *]; try rfl) rfl ?_
    exact ⟨rfl, by go_grown⟩
  cases o3
  rotate_left
  · clear T1 T2 T3 T4 bd1 bd2 bd3 bd4
    simp only [Bool.true_or, Bool.or_true, Bool.false_or, if_pos]
    go_enter Try.func42, Try.ntmps42
    go_wp2_with fail
    refine (IA.out _).mono ?_
    rintro e w1 ⟨rfl, hb_w1⟩
    obtain ⟨hc_w1, hf_w1⟩ := bcell hb_w1
    have hz_w1 := hb_w1.size
    try simp at hz_w1
    have hB_w1 : Below w.heap.size w w1 := Below.trans (by go_grown) (hb_w1.mono (by go_size))
    have hs_w1_0 : w.heap.size < w1.heap.size := by omega
    have hs_w1_1 : w.heap.size + 1 < w1.heap.size := by omega
    have hs_w1_2 : w.heap.size + 1 + 1 < w1.heap.size := by omega
    have hs_w1_3 : w.heap.size + 1 + 1 + 1 < w1.heap.size := by omega
    go_wp2_with fail
    refine (IB.out _).mono ?_
    rintro e w2 ⟨rfl, hb_w2⟩
    obtain ⟨hc_w2, hf_w2⟩ := bcell hb_w2
    have hz_w2 := hb_w2.size
    try simp at hz_w2
    have hB_w2 : Below w.heap.size w w2 := Below.trans (by go_grown) (hb_w2.mono (by go_size))
    have hs_w2_0 : w.heap.size < w2.heap.size := by omega
    have hs_w2_1 : w.heap.size + 1 < w2.heap.size := by omega
    have hs_w2_2 : w.heap.size + 1 + 1 < w2.heap.size := by omega
    have hs_w2_3 : w.heap.size + 1 + 1 + 1 < w2.heap.size := by omega
    go_wp2_with fail
    refine (IC.out _).mono ?_
    rintro e w3 ⟨rfl, hb_w3⟩
    obtain ⟨hc_w3, hf_w3⟩ := bcell hb_w3
    have hz_w3 := hb_w3.size
    try simp at hz_w3
    have hB_w3 : Below w.heap.size w w3 := Below.trans (by go_grown) (hb_w3.mono (by go_size))
    have hs_w3_0 : w.heap.size < w3.heap.size := by omega
    have hs_w3_1 : w.heap.size + 1 < w3.heap.size := by omega
    have hs_w3_2 : w.heap.size + 1 + 1 < w3.heap.size := by omega
    have hs_w3_3 : w.heap.size + 1 + 1 + 1 < w3.heap.size := by omega
    go_wp2_with fail
    refine (ID.out _).mono ?_
    rintro e w4 ⟨rfl, hb_w4⟩
    obtain ⟨hc_w4, hf_w4⟩ := bcell hb_w4
    have hz_w4 := hb_w4.size
    try simp at hz_w4
    have hB_w4 : Below w.heap.size w w4 := Below.trans (by go_grown) (hb_w4.mono (by go_size))
    have hs_w4_0 : w.heap.size < w4.heap.size := by omega
    have hs_w4_1 : w.heap.size + 1 < w4.heap.size := by omega
    have hs_w4_2 : w.heap.size + 1 + 1 < w4.heap.size := by omega
    have hs_w4_3 : w.heap.size + 1 + 1 + 1 < w4.heap.size := by omega
    go_wp2_with fail
    refine (O1.out _).mono ?_
    rintro e w5 ⟨rfl, hb_w5⟩
    obtain ⟨hc_w5, hf_w5⟩ := bcell hb_w5
    have hz_w5 := hb_w5.size
    try simp at hz_w5
    have hB_w5 : Below w.heap.size w w5 := Below.trans (by go_grown) (hb_w5.mono (by go_size))
    have hs_w5_0 : w.heap.size < w5.heap.size := by omega
    have hs_w5_1 : w.heap.size + 1 < w5.heap.size := by omega
    have hs_w5_2 : w.heap.size + 1 + 1 < w5.heap.size := by omega
    have hs_w5_3 : w.heap.size + 1 + 1 + 1 < w5.heap.size := by omega
    go_wp2_with fail
    refine (O2.out _).mono ?_
    rintro e w6 ⟨rfl, hb_w6⟩
    obtain ⟨hc_w6, hf_w6⟩ := bcell hb_w6
    have hz_w6 := hb_w6.size
    try simp at hz_w6
    have hB_w6 : Below w.heap.size w w6 := Below.trans (by go_grown) (hb_w6.mono (by go_size))
    have hs_w6_0 : w.heap.size < w6.heap.size := by omega
    have hs_w6_1 : w.heap.size + 1 < w6.heap.size := by omega
    have hs_w6_2 : w.heap.size + 1 + 1 < w6.heap.size := by omega
    have hs_w6_3 : w.heap.size + 1 + 1 + 1 < w6.heap.size := by omega
    go_wp2_with fail
    refine (O3.out _).mono ?_
    rintro e w7 ⟨rfl, hb_w7⟩
    obtain ⟨hc_w7, hf_w7⟩ := bcell hb_w7
    have hz_w7 := hb_w7.size
    try simp at hz_w7
    have hB_w7 : Below w.heap.size w w7 := Below.trans (by go_grown) (hb_w7.mono (by go_size))
    have hs_w7_0 : w.heap.size < w7.heap.size := by omega
    have hs_w7_1 : w.heap.size + 1 < w7.heap.size := by omega
    have hs_w7_2 : w.heap.size + 1 + 1 < w7.heap.size := by omega
    have hs_w7_3 : w.heap.size + 1 + 1 + 1 < w7.heap.size := by omega
    go_wp2_with fail
    refine bodyPost_ret (by simp [results, Try.results42, go_sem, *]; try rfl) rfl ?_
    exact ⟨rfl, by go_grown⟩
  cases o4
  rotate_left
  · clear T1 T2 T3 T4 bd1 bd2 bd3 bd4
    simp only [Bool.or_true, Bool.false_or, if_pos]
    go_enter Try.func42, Try.ntmps42
    go_wp2_with fail
    refine (IA.out _).mono ?_
    rintro e w1 ⟨rfl, hb_w1⟩
    obtain ⟨hc_w1, hf_w1⟩ := bcell hb_w1
    have hz_w1 := hb_w1.size
    try simp at hz_w1
    have hB_w1 : Below w.heap.size w w1 := Below.trans (by go_grown) (hb_w1.mono (by go_size))
    have hs_w1_0 : w.heap.size < w1.heap.size := by omega
    have hs_w1_1 : w.heap.size + 1 < w1.heap.size := by omega
    have hs_w1_2 : w.heap.size + 1 + 1 < w1.heap.size := by omega
    have hs_w1_3 : w.heap.size + 1 + 1 + 1 < w1.heap.size := by omega
    go_wp2_with fail
    refine (IB.out _).mono ?_
    rintro e w2 ⟨rfl, hb_w2⟩
    obtain ⟨hc_w2, hf_w2⟩ := bcell hb_w2
    have hz_w2 := hb_w2.size
    try simp at hz_w2
    have hB_w2 : Below w.heap.size w w2 := Below.trans (by go_grown) (hb_w2.mono (by go_size))
    have hs_w2_0 : w.heap.size < w2.heap.size := by omega
    have hs_w2_1 : w.heap.size + 1 < w2.heap.size := by omega
    have hs_w2_2 : w.heap.size + 1 + 1 < w2.heap.size := by omega
    have hs_w2_3 : w.heap.size + 1 + 1 + 1 < w2.heap.size := by omega
    go_wp2_with fail
    refine (IC.out _).mono ?_
    rintro e w3 ⟨rfl, hb_w3⟩
    obtain ⟨hc_w3, hf_w3⟩ := bcell hb_w3
    have hz_w3 := hb_w3.size
    try simp at hz_w3
    have hB_w3 : Below w.heap.size w w3 := Below.trans (by go_grown) (hb_w3.mono (by go_size))
    have hs_w3_0 : w.heap.size < w3.heap.size := by omega
    have hs_w3_1 : w.heap.size + 1 < w3.heap.size := by omega
    have hs_w3_2 : w.heap.size + 1 + 1 < w3.heap.size := by omega
    have hs_w3_3 : w.heap.size + 1 + 1 + 1 < w3.heap.size := by omega
    go_wp2_with fail
    refine (ID.out _).mono ?_
    rintro e w4 ⟨rfl, hb_w4⟩
    obtain ⟨hc_w4, hf_w4⟩ := bcell hb_w4
    have hz_w4 := hb_w4.size
    try simp at hz_w4
    have hB_w4 : Below w.heap.size w w4 := Below.trans (by go_grown) (hb_w4.mono (by go_size))
    have hs_w4_0 : w.heap.size < w4.heap.size := by omega
    have hs_w4_1 : w.heap.size + 1 < w4.heap.size := by omega
    have hs_w4_2 : w.heap.size + 1 + 1 < w4.heap.size := by omega
    have hs_w4_3 : w.heap.size + 1 + 1 + 1 < w4.heap.size := by omega
    go_wp2_with fail
    refine (O1.out _).mono ?_
    rintro e w5 ⟨rfl, hb_w5⟩
    obtain ⟨hc_w5, hf_w5⟩ := bcell hb_w5
    have hz_w5 := hb_w5.size
    try simp at hz_w5
    have hB_w5 : Below w.heap.size w w5 := Below.trans (by go_grown) (hb_w5.mono (by go_size))
    have hs_w5_0 : w.heap.size < w5.heap.size := by omega
    have hs_w5_1 : w.heap.size + 1 < w5.heap.size := by omega
    have hs_w5_2 : w.heap.size + 1 + 1 < w5.heap.size := by omega
    have hs_w5_3 : w.heap.size + 1 + 1 + 1 < w5.heap.size := by omega
    go_wp2_with fail
    refine (O2.out _).mono ?_
    rintro e w6 ⟨rfl, hb_w6⟩
    obtain ⟨hc_w6, hf_w6⟩ := bcell hb_w6
    have hz_w6 := hb_w6.size
    try simp at hz_w6
    have hB_w6 : Below w.heap.size w w6 := Below.trans (by go_grown) (hb_w6.mono (by go_size))
    have hs_w6_0 : w.heap.size < w6.heap.size := by omega
    have hs_w6_1 : w.heap.size + 1 < w6.heap.size := by omega
    have hs_w6_2 : w.heap.size + 1 + 1 < w6.heap.size := by omega
    have hs_w6_3 : w.heap.size + 1 + 1 + 1 < w6.heap.size := by omega
    go_wp2_with fail
    refine (O3.out _).mono ?_
    rintro e w7 ⟨rfl, hb_w7⟩
    obtain ⟨hc_w7, hf_w7⟩ := bcell hb_w7
    have hz_w7 := hb_w7.size
    try simp at hz_w7
    have hB_w7 : Below w.heap.size w w7 := Below.trans (by go_grown) (hb_w7.mono (by go_size))
    have hs_w7_0 : w.heap.size < w7.heap.size := by omega
    have hs_w7_1 : w.heap.size + 1 < w7.heap.size := by omega
    have hs_w7_2 : w.heap.size + 1 + 1 < w7.heap.size := by omega
    have hs_w7_3 : w.heap.size + 1 + 1 + 1 < w7.heap.size := by omega
    go_wp2_with fail
    refine (O4.out _).mono ?_
    rintro e w8 ⟨rfl, hb_w8⟩
    obtain ⟨hc_w8, hf_w8⟩ := bcell hb_w8
    have hz_w8 := hb_w8.size
    try simp at hz_w8
    have hB_w8 : Below w.heap.size w w8 := Below.trans (by go_grown) (hb_w8.mono (by go_size))
    have hs_w8_0 : w.heap.size < w8.heap.size := by omega
    have hs_w8_1 : w.heap.size + 1 < w8.heap.size := by omega
    have hs_w8_2 : w.heap.size + 1 + 1 < w8.heap.size := by omega
    have hs_w8_3 : w.heap.size + 1 + 1 + 1 < w8.heap.size := by omega
    go_wp2_with fail
    refine bodyPost_ret (by simp [results, Try.results42, go_sem, *]; try rfl) rfl ?_
    exact ⟨rfl, by go_grown⟩
  simp only [Bool.or_false, if_neg Bool.false_ne_true]
  have wf : ∀ x y : Int, -1 ≤ x ∧ x ≤ 1 → -1 ≤ y ∧ y ≤ 1 → wrap64 (x * y) = x * y := fun x y h1 h2 => by
    have e1 : x = -1 ∨ x = 0 ∨ x = 1 := by omega
    have e2 : y = -1 ∨ y = 0 ∨ y = 1 := by omega
    rcases e1 with rfl | rfl | rfl <;> rcases e2 with rfl | rfl | rfl <;> simp [wrap64]
  obtain ⟨r1, hr1⟩ : ∃ z, t1 * t2 = z := ⟨_, rfl⟩
  obtain ⟨r2, hr2⟩ : ∃ z, t3 * t4 = z := ⟨_, rfl⟩
  have m1 := (wf t1 t2 bd1 bd2).trans hr1
  have m2 := (wf t3 t4 bd3 bd4).trans hr2
  rw [hr1, hr2]
  clear wf bd1 bd2 bd3 bd4 hr1 hr2
  rcases Int.lt_or_le r1 0 with h1 | h1
  · rw [show decide (r1 < 0) = true from decide_eq_true h1, Bool.true_and]
    have d1 : decide (r1 < 0) = true := decide_eq_true h1
    obtain ⟨b2, hb2⟩ : ∃ z, decide (r2 < 0) = z := ⟨_, rfl⟩
    rw [hb2]
    go_enter Try.func42, Try.ntmps42
    go_wp2_with fail
    refine (IA.out _).mono ?_
    rintro e w1 ⟨rfl, hb_w1⟩
    obtain ⟨hc_w1, hf_w1⟩ := bcell hb_w1
    have hz_w1 := hb_w1.size
    try simp at hz_w1
    have hB_w1 : Below w.heap.size w w1 := Below.trans (by go_grown) (hb_w1.mono (by go_size))
    have hs_w1_0 : w.heap.size < w1.heap.size := by omega
    have hs_w1_1 : w.heap.size + 1 < w1.heap.size := by omega
    have hs_w1_2 : w.heap.size + 1 + 1 < w1.heap.size := by omega
    have hs_w1_3 : w.heap.size + 1 + 1 + 1 < w1.heap.size := by omega
    go_wp2_with fail
    refine (IB.out _).mono ?_
    rintro e w2 ⟨rfl, hb_w2⟩
    obtain ⟨hc_w2, hf_w2⟩ := bcell hb_w2
    have hz_w2 := hb_w2.size
    try simp at hz_w2
    have hB_w2 : Below w.heap.size w w2 := Below.trans (by go_grown) (hb_w2.mono (by go_size))
    have hs_w2_0 : w.heap.size < w2.heap.size := by omega
    have hs_w2_1 : w.heap.size + 1 < w2.heap.size := by omega
    have hs_w2_2 : w.heap.size + 1 + 1 < w2.heap.size := by omega
    have hs_w2_3 : w.heap.size + 1 + 1 + 1 < w2.heap.size := by omega
    go_wp2_with fail
    refine (IC.out _).mono ?_
    rintro e w3 ⟨rfl, hb_w3⟩
    obtain ⟨hc_w3, hf_w3⟩ := bcell hb_w3
    have hz_w3 := hb_w3.size
    try simp at hz_w3
    have hB_w3 : Below w.heap.size w w3 := Below.trans (by go_grown) (hb_w3.mono (by go_size))
    have hs_w3_0 : w.heap.size < w3.heap.size := by omega
    have hs_w3_1 : w.heap.size + 1 < w3.heap.size := by omega
    have hs_w3_2 : w.heap.size + 1 + 1 < w3.heap.size := by omega
    have hs_w3_3 : w.heap.size + 1 + 1 + 1 < w3.heap.size := by omega
    go_wp2_with fail
    refine (ID.out _).mono ?_
    rintro e w4 ⟨rfl, hb_w4⟩
    obtain ⟨hc_w4, hf_w4⟩ := bcell hb_w4
    have hz_w4 := hb_w4.size
    try simp at hz_w4
    have hB_w4 : Below w.heap.size w w4 := Below.trans (by go_grown) (hb_w4.mono (by go_size))
    have hs_w4_0 : w.heap.size < w4.heap.size := by omega
    have hs_w4_1 : w.heap.size + 1 < w4.heap.size := by omega
    have hs_w4_2 : w.heap.size + 1 + 1 < w4.heap.size := by omega
    have hs_w4_3 : w.heap.size + 1 + 1 + 1 < w4.heap.size := by omega
    go_wp2_with fail
    refine (O1.out _).mono ?_
    rintro e w5 ⟨rfl, hb_w5⟩
    obtain ⟨hc_w5, hf_w5⟩ := bcell hb_w5
    have hz_w5 := hb_w5.size
    try simp at hz_w5
    have hB_w5 : Below w.heap.size w w5 := Below.trans (by go_grown) (hb_w5.mono (by go_size))
    have hs_w5_0 : w.heap.size < w5.heap.size := by omega
    have hs_w5_1 : w.heap.size + 1 < w5.heap.size := by omega
    have hs_w5_2 : w.heap.size + 1 + 1 < w5.heap.size := by omega
    have hs_w5_3 : w.heap.size + 1 + 1 + 1 < w5.heap.size := by omega
    go_wp2_with fail
    refine (O2.out _).mono ?_
    rintro e w6 ⟨rfl, hb_w6⟩
    obtain ⟨hc_w6, hf_w6⟩ := bcell hb_w6
    have hz_w6 := hb_w6.size
    try simp at hz_w6
    have hB_w6 : Below w.heap.size w w6 := Below.trans (by go_grown) (hb_w6.mono (by go_size))
    have hs_w6_0 : w.heap.size < w6.heap.size := by omega
    have hs_w6_1 : w.heap.size + 1 < w6.heap.size := by omega
    have hs_w6_2 : w.heap.size + 1 + 1 < w6.heap.size := by omega
    have hs_w6_3 : w.heap.size + 1 + 1 + 1 < w6.heap.size := by omega
    go_wp2_with fail
    refine (O3.out _).mono ?_
    rintro e w7 ⟨rfl, hb_w7⟩
    obtain ⟨hc_w7, hf_w7⟩ := bcell hb_w7
    have hz_w7 := hb_w7.size
    try simp at hz_w7
    have hB_w7 : Below w.heap.size w w7 := Below.trans (by go_grown) (hb_w7.mono (by go_size))
    have hs_w7_0 : w.heap.size < w7.heap.size := by omega
    have hs_w7_1 : w.heap.size + 1 < w7.heap.size := by omega
    have hs_w7_2 : w.heap.size + 1 + 1 < w7.heap.size := by omega
    have hs_w7_3 : w.heap.size + 1 + 1 + 1 < w7.heap.size := by omega
    go_wp2_with fail
    refine (O4.out _).mono ?_
    rintro e w8 ⟨rfl, hb_w8⟩
    obtain ⟨hc_w8, hf_w8⟩ := bcell hb_w8
    have hz_w8 := hb_w8.size
    try simp at hz_w8
    have hB_w8 : Below w.heap.size w w8 := Below.trans (by go_grown) (hb_w8.mono (by go_size))
    have hs_w8_0 : w.heap.size < w8.heap.size := by omega
    have hs_w8_1 : w.heap.size + 1 < w8.heap.size := by omega
    have hs_w8_2 : w.heap.size + 1 + 1 < w8.heap.size := by omega
    have hs_w8_3 : w.heap.size + 1 + 1 + 1 < w8.heap.size := by omega
    go_wp2_with fail
    have hq_w8 := @wd_cell w8
    refine wp_region_wd (by kernel_rfl) (by kernel_rfl) ?_
    repeat (go_big_quiet_step ((first | (go_at_call 48; first | (with_reducible exact quiet_wd (T1.out _)) | (with_reducible exact quiet_wd (T2.out _)) | (with_reducible exact quiet_wd (T3.out _)) | (with_reducible exact quiet_wd (T4.out _))))))
    refine wpQuiet_nil ?_
    rintro w9 ⟨⟨wx, hb_w9⟩, hwx⟩
    obtain rfl : w9 = wx := hwx
    clear hq_w8
    have hz_w9 := hb_w9.size
    obtain ⟨hc_w9, hf_w9⟩ := bcell hb_w9
    have hB_w9 : Below w.heap.size w w9 := Below.trans (by go_grown) (hb_w9.mono (by go_size))
    have hs_w9_0 : w.heap.size < w9.heap.size := Nat.lt_of_lt_of_le (by assumption) hb_w9.size
    have hs_w9_1 : w.heap.size + 1 < w9.heap.size := Nat.lt_of_lt_of_le (by assumption) hb_w9.size
    have hs_w9_2 : w.heap.size + 1 + 1 < w9.heap.size := Nat.lt_of_lt_of_le (by assumption) hb_w9.size
    have hs_w9_3 : w.heap.size + 1 + 1 + 1 < w9.heap.size := Nat.lt_of_lt_of_le (by assumption) hb_w9.size
    go_wp2_with fail
    refine bodyPost_ret (by simp [results, Try.results42, go_sem, *]; try rfl) rfl ?_
    exact ⟨rfl, by go_grown⟩
  · rw [show decide (r1 < 0) = false from decide_eq_false (by omega), Bool.false_and]
    have d1 : decide (r1 < 0) = false := decide_eq_false (by omega)
    go_enter Try.func42, Try.ntmps42
    go_wp2_with fail
    refine (IA.out _).mono ?_
    rintro e w1 ⟨rfl, hb_w1⟩
    obtain ⟨hc_w1, hf_w1⟩ := bcell hb_w1
    have hz_w1 := hb_w1.size
    try simp at hz_w1
    have hB_w1 : Below w.heap.size w w1 := Below.trans (by go_grown) (hb_w1.mono (by go_size))
    have hs_w1_0 : w.heap.size < w1.heap.size := by omega
    have hs_w1_1 : w.heap.size + 1 < w1.heap.size := by omega
    have hs_w1_2 : w.heap.size + 1 + 1 < w1.heap.size := by omega
    have hs_w1_3 : w.heap.size + 1 + 1 + 1 < w1.heap.size := by omega
    go_wp2_with fail
    refine (IB.out _).mono ?_
    rintro e w2 ⟨rfl, hb_w2⟩
    obtain ⟨hc_w2, hf_w2⟩ := bcell hb_w2
    have hz_w2 := hb_w2.size
    try simp at hz_w2
    have hB_w2 : Below w.heap.size w w2 := Below.trans (by go_grown) (hb_w2.mono (by go_size))
    have hs_w2_0 : w.heap.size < w2.heap.size := by omega
    have hs_w2_1 : w.heap.size + 1 < w2.heap.size := by omega
    have hs_w2_2 : w.heap.size + 1 + 1 < w2.heap.size := by omega
    have hs_w2_3 : w.heap.size + 1 + 1 + 1 < w2.heap.size := by omega
    go_wp2_with fail
    refine (IC.out _).mono ?_
    rintro e w3 ⟨rfl, hb_w3⟩
    obtain ⟨hc_w3, hf_w3⟩ := bcell hb_w3
    have hz_w3 := hb_w3.size
    try simp at hz_w3
    have hB_w3 : Below w.heap.size w w3 := Below.trans (by go_grown) (hb_w3.mono (by go_size))
    have hs_w3_0 : w.heap.size < w3.heap.size := by omega
    have hs_w3_1 : w.heap.size + 1 < w3.heap.size := by omega
    have hs_w3_2 : w.heap.size + 1 + 1 < w3.heap.size := by omega
    have hs_w3_3 : w.heap.size + 1 + 1 + 1 < w3.heap.size := by omega
    go_wp2_with fail
    refine (ID.out _).mono ?_
    rintro e w4 ⟨rfl, hb_w4⟩
    obtain ⟨hc_w4, hf_w4⟩ := bcell hb_w4
    have hz_w4 := hb_w4.size
    try simp at hz_w4
    have hB_w4 : Below w.heap.size w w4 := Below.trans (by go_grown) (hb_w4.mono (by go_size))
    have hs_w4_0 : w.heap.size < w4.heap.size := by omega
    have hs_w4_1 : w.heap.size + 1 < w4.heap.size := by omega
    have hs_w4_2 : w.heap.size + 1 + 1 < w4.heap.size := by omega
    have hs_w4_3 : w.heap.size + 1 + 1 + 1 < w4.heap.size := by omega
    go_wp2_with fail
    refine (O1.out _).mono ?_
    rintro e w5 ⟨rfl, hb_w5⟩
    obtain ⟨hc_w5, hf_w5⟩ := bcell hb_w5
    have hz_w5 := hb_w5.size
    try simp at hz_w5
    have hB_w5 : Below w.heap.size w w5 := Below.trans (by go_grown) (hb_w5.mono (by go_size))
    have hs_w5_0 : w.heap.size < w5.heap.size := by omega
    have hs_w5_1 : w.heap.size + 1 < w5.heap.size := by omega
    have hs_w5_2 : w.heap.size + 1 + 1 < w5.heap.size := by omega
    have hs_w5_3 : w.heap.size + 1 + 1 + 1 < w5.heap.size := by omega
    go_wp2_with fail
    refine (O2.out _).mono ?_
    rintro e w6 ⟨rfl, hb_w6⟩
    obtain ⟨hc_w6, hf_w6⟩ := bcell hb_w6
    have hz_w6 := hb_w6.size
    try simp at hz_w6
    have hB_w6 : Below w.heap.size w w6 := Below.trans (by go_grown) (hb_w6.mono (by go_size))
    have hs_w6_0 : w.heap.size < w6.heap.size := by omega
    have hs_w6_1 : w.heap.size + 1 < w6.heap.size := by omega
    have hs_w6_2 : w.heap.size + 1 + 1 < w6.heap.size := by omega
    have hs_w6_3 : w.heap.size + 1 + 1 + 1 < w6.heap.size := by omega
    go_wp2_with fail
    refine (O3.out _).mono ?_
    rintro e w7 ⟨rfl, hb_w7⟩
    obtain ⟨hc_w7, hf_w7⟩ := bcell hb_w7
    have hz_w7 := hb_w7.size
    try simp at hz_w7
    have hB_w7 : Below w.heap.size w w7 := Below.trans (by go_grown) (hb_w7.mono (by go_size))
    have hs_w7_0 : w.heap.size < w7.heap.size := by omega
    have hs_w7_1 : w.heap.size + 1 < w7.heap.size := by omega
    have hs_w7_2 : w.heap.size + 1 + 1 < w7.heap.size := by omega
    have hs_w7_3 : w.heap.size + 1 + 1 + 1 < w7.heap.size := by omega
    go_wp2_with fail
    refine (O4.out _).mono ?_
    rintro e w8 ⟨rfl, hb_w8⟩
    obtain ⟨hc_w8, hf_w8⟩ := bcell hb_w8
    have hz_w8 := hb_w8.size
    try simp at hz_w8
    have hB_w8 : Below w.heap.size w w8 := Below.trans (by go_grown) (hb_w8.mono (by go_size))
    have hs_w8_0 : w.heap.size < w8.heap.size := by omega
    have hs_w8_1 : w.heap.size + 1 < w8.heap.size := by omega
    have hs_w8_2 : w.heap.size + 1 + 1 < w8.heap.size := by omega
    have hs_w8_3 : w.heap.size + 1 + 1 + 1 < w8.heap.size := by omega
    go_wp2_with fail
    have hq_w8 := @wd_cell w8
    refine wp_region_wd (by kernel_rfl) (by kernel_rfl) ?_
    repeat (go_big_quiet_step ((first | (go_at_call 48; first | (with_reducible exact quiet_wd (T1.out _)) | (with_reducible exact quiet_wd (T2.out _))))))
    refine wpQuiet_nil ?_
    rintro w9 ⟨⟨wx, hb_w9⟩, hwx⟩
    obtain rfl : w9 = wx := hwx
    clear hq_w8
    have hz_w9 := hb_w9.size
    obtain ⟨hc_w9, hf_w9⟩ := bcell hb_w9
    have hB_w9 : Below w.heap.size w w9 := Below.trans (by go_grown) (hb_w9.mono (by go_size))
    have hs_w9_0 : w.heap.size < w9.heap.size := Nat.lt_of_lt_of_le (by assumption) hb_w9.size
    have hs_w9_1 : w.heap.size + 1 < w9.heap.size := Nat.lt_of_lt_of_le (by assumption) hb_w9.size
    have hs_w9_2 : w.heap.size + 1 + 1 < w9.heap.size := Nat.lt_of_lt_of_le (by assumption) hb_w9.size
    have hs_w9_3 : w.heap.size + 1 + 1 + 1 < w9.heap.size := Nat.lt_of_lt_of_le (by assumption) hb_w9.size
    go_wp2_with fail
    refine bodyPost_ret (by simp [results, Try.results42, go_sem, *]; try rfl) rfl ?_
    exact ⟨rfl, by go_grown⟩

end Go.Proofs.Ythbndilnobjjgaa
