/-
  Plain: on a segment, by an outer and an inner product; the meeting of two segments changed about.
-/
import Derived.Test.YthbndilnobjjgaaSegD
namespace Go.Proofs.Ythbndilnobjjgaa

/-- p is on the segment from a to b. -/
def On (p a b : Pt) : Prop := cr (sb a b) (sb a p) = 0 ∧ 0 ≤ dt (sb a p) (sb p b)

theorem zero_of_sq {z : Int} (h : z * z = 0) : z = 0 := by
  rcases Int.mul_eq_zero.1 h with h | h <;> exact h
theorem sq_nn (z : Int) : 0 ≤ z * z := by
  rcases Int.le_total 0 z with h | h
  · exact Int.mul_nonneg h h
  · have := Int.mul_nonneg (show 0 ≤ -z by omega) (show 0 ≤ -z by omega)
    rw [Int.neg_mul_neg] at this; exact this
theorem nn_of_mul {L z : Int} (hL : 0 < L) (h : 0 ≤ L * z) : 0 ≤ z := by
  rcases Int.lt_or_le z 0 with hz | hz
  · have := Int.mul_neg_of_pos_of_neg hL hz; omega
  · exact hz
theorem le_of_mul {L y z : Int} (hL : 0 < L) (h : L * y ≤ L * z) : y ≤ z := by
  have := nn_of_mul hL (z := z - y) (by rw [Int.mul_sub]; omega); omega
theorem dt_nn (u : Pt) : 0 ≤ dt u u := by have := sq_nn u.1; have := sq_nn u.2; unfold dt; omega
theorem dt_zero {u : Pt} (h : dt u u ≤ 0) : u = (0, 0) := by
  have h1 := sq_nn u.1
  have h2 := sq_nn u.2
  unfold dt at h
  exact Prod.ext (zero_of_sq (by omega)) (zero_of_sq (by omega))
theorem sb_zero {a b : Pt} (h : sb a b = (0, 0)) : a = b := by
  unfold sb at h
  injection h with h1 h2
  exact Prod.ext (by omega) (by omega)
theorem sb_self (a : Pt) : sb a a = (0, 0) := by unfold sb; exact Prod.ext (by show a.1 - a.1 = 0; omega) (by show a.2 - a.2 = 0; omega)
theorem sb_pos {a b : Pt} (h : ¬ a = b) : 0 < dt (sb a b) (sb a b) := by
  have h1 := dt_nn (sb a b)
  rcases Int.lt_or_le 0 (dt (sb a b) (sb a b)) with h2 | h2
  · exact h2
  · exact absurd (sb_zero (dt_zero h2)) h

/-- 0 ≤ x * y, by signs. -/
theorem mul_nn {x y : Int} : 0 ≤ x * y ↔ (0 ≤ x ∧ 0 ≤ y) ∨ (x ≤ 0 ∧ y ≤ 0) := by
  constructor
  · intro h
    rcases Int.lt_or_le x 0 with hx | hx
    · rcases Int.lt_or_le 0 y with hy | hy
      · have := Int.mul_neg_of_neg_of_pos hx hy; omega
      · exact Or.inr ⟨by omega, hy⟩
    · rcases Int.lt_or_le y 0 with hy | hy
      · rcases Int.lt_or_le 0 x with hx' | hx'
        · have := Int.mul_neg_of_pos_of_neg hx' hy; omega
        · exact Or.inr ⟨hx', by omega⟩
      · exact Or.inl ⟨hx, hy⟩
  · rintro (⟨h1, h2⟩ | ⟨h1, h2⟩)
    · exact Int.mul_nonneg h1 h2
    · have := Int.mul_nonneg (show 0 ≤ -x by omega) (show 0 ≤ -y by omega)
      rw [Int.neg_mul_neg] at this; exact this

theorem on_comm {p a b : Pt} (h : On p a b) : On p b a := by
  obtain ⟨h1, h2⟩ := h
  unfold On
  simp only [cr, dt, sb] at h1 h2 ⊢
  constructor
  · grind
  · grind

/-- Where on the line: the inner product q with the way, between 0 and its square. -/
theorem on_iff {p a b : Pt} (hab : ¬ a = b) : On p a b ↔ cr (sb a b) (sb a p) = 0 ∧ 0 ≤ dt (sb a p) (sb a b) ∧ dt (sb a p) (sb a b) ≤ dt (sb a b) (sb a b) := by
  have hL := sb_pos hab
  unfold On
  constructor
  · rintro ⟨h1, h2⟩
    refine ⟨h1, ?_⟩
    have e : dt (sb a b) (sb a b) * dt (sb a p) (sb p b) = dt (sb a p) (sb a b) * (dt (sb a b) (sb a b) - dt (sb a p) (sb a b)) := by
      simp only [cr, dt, sb] at h1 ⊢
      grind
    have h3 : 0 ≤ dt (sb a p) (sb a b) * (dt (sb a b) (sb a b) - dt (sb a p) (sb a b)) := by rw [← e]; exact Int.mul_nonneg (by omega) h2
    have h4 := mul_nn.1 h3
    omega
  · rintro ⟨h1, h2, h3⟩
    refine ⟨h1, ?_⟩
    have e : dt (sb a b) (sb a b) * dt (sb a p) (sb p b) = dt (sb a p) (sb a b) * (dt (sb a b) (sb a b) - dt (sb a p) (sb a b)) := by
      simp only [cr, dt, sb] at h1 ⊢
      grind
    refine nn_of_mul hL ?_
    rw [e]
    exact Int.mul_nonneg h2 (by omega)

theorem on_same {p a : Pt} : On p a a ↔ p = a := by
  unfold On
  constructor
  · rintro ⟨_, h⟩
    have e : dt (sb a p) (sb p a) = -dt (sb a p) (sb a p) := by simp only [dt, sb]; grind
    have h2 := dt_nn (sb a p)
    exact (sb_zero (dt_zero (by omega))).symm
  · rintro rfl
    simp only [cr, dt, sb]
    constructor <;> simp

theorem btwS {x y z : Int} : 0 ≤ (z - x) * (y - z) ↔ min x y ≤ z ∧ z ≤ max x y := by
  rw [mul_nn]
  omega
theorem cmpI_0 {x y : Int} : cmpI x y = 0 ↔ x = y := by
  unfold cmpI
  split
  · omega
  · split <;> omega
theorem onP_parts {p a b : Pt} : onP p (a, b) = true ↔ (0 ≤ (p.1 - a.1) * (b.1 - p.1) ∧ 0 ≤ (p.2 - a.2) * (b.2 - p.2)) ∧ cr (sb a b) (sb a p) = 0 := by
  unfold onP onB hasB trn
  simp only [Bool.and_eq_true, decide_eq_true_eq]
  rw [cmpI_0, btwS, btwS]
  unfold cr sb
  simp only
  constructor
  · rintro ⟨⟨h1, h2, h3, h4⟩, h5⟩
    exact ⟨⟨⟨h1, h2⟩, h3, h4⟩, by omega⟩
  · rintro ⟨⟨⟨h1, h2⟩, h3, h4⟩, h5⟩
    exact ⟨⟨h1, h2, h3, h4⟩, by omega⟩
theorem onP_iff {p a b : Pt} : onP p (a, b) = true ↔ On p a b := by
  rw [onP_parts]
  constructor
  · rintro ⟨⟨h1, h2⟩, h3⟩
    refine ⟨h3, ?_⟩
    unfold dt sb
    simp only
    omega
  · intro h
    rcases Decidable.em (a = b) with hab | hab
    · subst hab
      obtain rfl := on_same.1 h
      refine ⟨⟨?_, ?_⟩, ?_⟩
      · simp
      · simp
      · simp [cr, sb]
    · have hL := sb_pos hab
      obtain ⟨h1, h2, h3⟩ := (on_iff hab).1 h
      have h4 : 0 ≤ dt (sb a p) (sb a b) * (dt (sb a b) (sb a b) - dt (sb a p) (sb a b)) := Int.mul_nonneg h2 (by omega)
      have hLL := Int.mul_pos hL hL
      have e1 : (dt (sb a b) (sb a b) * dt (sb a b) (sb a b)) * ((p.1 - a.1) * (b.1 - p.1)) = (dt (sb a p) (sb a b) * (dt (sb a b) (sb a b) - dt (sb a p) (sb a b))) * ((b.1 - a.1) * (b.1 - a.1)) := by
        simp only [cr, dt, sb] at h1 ⊢
        grind
      have e2 : (dt (sb a b) (sb a b) * dt (sb a b) (sb a b)) * ((p.2 - a.2) * (b.2 - p.2)) = (dt (sb a p) (sb a b) * (dt (sb a b) (sb a b) - dt (sb a p) (sb a b))) * ((b.2 - a.2) * (b.2 - a.2)) := by
        simp only [cr, dt, sb] at h1 ⊢
        grind
      exact ⟨⟨nn_of_mul hLL (by rw [e1]; exact Int.mul_nonneg h4 (sq_nn _)), nn_of_mul hLL (by rw [e2]; exact Int.mul_nonneg h4 (sq_nn _))⟩, h1⟩

/-! ### Near -/
theorem or_ite {p : Prop} [Decidable p] {a b : Bool} : (if p then a else b) = true ↔ (p ∧ a = true) ∨ (¬ p ∧ b = true) := by
  split <;> simp_all

theorem near_le {p a b : Pt} {r R : Int} (h0 : 0 ≤ r) (h : r ≤ R) (hn : nearR p a b r = true) : nearR p a b R = true := by
  have hr : r * r ≤ R * R := Int.mul_le_mul h h h0 (by omega)
  have hL := dt_nn (sb a b)
  unfold nearR at hn ⊢
  split at hn
  · rename_i hi
    rw [if_pos hi]
    rw [decide_eq_true_eq] at hn ⊢
    exact Int.le_trans hn (Int.mul_le_mul_of_nonneg_right hr hL)
  · rename_i hi
    rw [if_neg hi]
    split at hn
    · rename_i h2
      rw [if_pos h2]
      rw [decide_eq_true_eq] at hn ⊢
      omega
    · rename_i h2
      rw [if_neg h2]
      rw [decide_eq_true_eq] at hn ⊢
      omega

theorem nearR_comm (p a b : Pt) (r : Int) : nearR p a b r = nearR p b a r := by
  have e1 : dt (sb b p) (sb b a) = dt (sb a b) (sb a b) - dt (sb a p) (sb a b) := by simp only [dt, sb]; grind
  have e2 : dt (sb b a) (sb b a) = dt (sb a b) (sb a b) := by simp only [dt, sb]; grind
  have e3 : cr (sb b a) (sb b p) * cr (sb b a) (sb b p) = cr (sb a b) (sb a p) * cr (sb a b) (sb a p) := by simp only [cr, sb]; grind
  unfold nearR
  rw [e1, e2, e3]
  have hz : dt (sb a b) (sb a b) ≤ 0 → sb a b = (0, 0) := fun h => dt_zero h
  have h0 := dt_nn (sb a b)
  obtain ⟨q, hq⟩ : ∃ q, dt (sb a p) (sb a b) = q := ⟨_, rfl⟩
  obtain ⟨L, hL⟩ : ∃ q, dt (sb a b) (sb a b) = q := ⟨_, rfl⟩
  rw [hL] at hz h0
  rw [hq, hL]
  rcases Decidable.em (0 < q ∧ q < L) with h | h
  · rw [if_pos h, if_pos (show 0 < L - q ∧ L - q < L by omega)]
  · rw [if_neg h, if_neg (show ¬ (0 < L - q ∧ L - q < L) by omega)]
    rcases Int.lt_or_le 0 q with h1 | h1
    · rw [if_pos h1, if_neg (show ¬ 0 < L - q by omega)]
    · rw [if_neg (show ¬ 0 < q by omega)]
      rcases Int.lt_or_le 0 (L - q) with h2 | h2
      · rw [if_pos h2]
      · rw [if_neg (show ¬ 0 < L - q by omega)]
        obtain rfl := sb_zero (hz (by omega))
        rfl
theorem near_comm (p a b : Pt) (r : Int) : near p a b r = near p b a r := by
  unfold near
  rw [nearR_comm p a b r, show (inP p && inP a && inP b) = (inP p && inP b && inP a) by cases inP p <;> cases inP a <;> cases inP b <;> rfl]

/-- A point is no further from a segment than from an end. -/
theorem nearR_end {p a b : Pt} {r : Int} (h : dt (sb a p) (sb a p) ≤ r * r) : nearR p a b r = true := by
  unfold nearR
  rcases Decidable.em (0 < dt (sb a p) (sb a b) ∧ dt (sb a p) (sb a b) < dt (sb a b) (sb a b)) with h1 | h1
  · rw [if_pos h1, decide_eq_true_eq]
    have e : cr (sb a b) (sb a p) * cr (sb a b) (sb a p) = dt (sb a p) (sb a p) * dt (sb a b) (sb a b) - dt (sb a p) (sb a b) * dt (sb a p) (sb a b) := by simp only [cr, dt, sb]; grind
    rw [e]
    have h2 := sq_nn (dt (sb a p) (sb a b))
    have h3 := Int.mul_le_mul_of_nonneg_right h (dt_nn (sb a b))
    omega
  · rw [if_neg h1]
    rcases Int.lt_or_le 0 (dt (sb a p) (sb a b)) with h2 | h2
    · rw [if_pos h2, decide_eq_true_eq]
      have e : dt (sb b p) (sb b p) = dt (sb a p) (sb a p) - 2 * dt (sb a p) (sb a b) + dt (sb a b) (sb a b) := by simp only [dt, sb]; grind
      omega
    · rw [if_neg (by omega), decide_eq_true_eq]
      exact h
theorem nearR_point (p a : Pt) (r : Int) : nearR p a a r = decide (dt (sb a p) (sb a p) ≤ r * r) := by
  unfold nearR
  rw [show dt (sb a p) (sb a a) = 0 by rw [sb_self]; simp [dt]]
  simp
/-- With radius 0: on the segment. -/
theorem nearR_zero {p a b : Pt} (h : nearR p a b 0 = true) : On p a b := by
  unfold nearR at h
  split at h
  · rename_i h1
    rw [decide_eq_true_eq] at h
    have h2 := sq_nn (cr (sb a b) (sb a p))
    have h3 : cr (sb a b) (sb a p) = 0 := zero_of_sq (by simp at h; omega)
    have hab : ¬ a = b := fun e => by
      subst e
      rw [sb_self] at h1
      simp [dt] at h1
    exact (on_iff hab).2 ⟨h3, by omega, by omega⟩
  · split at h
    · rw [decide_eq_true_eq] at h
      obtain rfl := sb_zero (dt_zero (u := sb b p) (by simpa using h))
      simp only [On, cr, dt, sb]
      constructor
      · grind
      · simp
    · rw [decide_eq_true_eq] at h
      obtain rfl := sb_zero (dt_zero (u := sb a p) (by simpa using h))
      simp only [On, cr, dt, sb]
      constructor
      · simp
      · simp

end Go.Proofs.Ythbndilnobjjgaa
