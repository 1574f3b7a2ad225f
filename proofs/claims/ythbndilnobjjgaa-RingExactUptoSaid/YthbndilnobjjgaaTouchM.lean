/-
  Plain: whether two segments touch, by turns and points on them (as the document's layer 6 asks), is what the layer of segments tells.
-/
import Derived.Test.YthbndilnobjjgaaSegQ
namespace Go.Proofs.Ythbndilnobjjgaa

/-- The turn from o by a to b: -1, 0 or 1. -/
def t6 (o a b : Pt) : Int := trn o.1 o.2 a.1 a.2 b.1 b.2
theorem t6_cr (o a b : Pt) : (t6 o a b = 1 ↔ 0 < cr (sb o a) (sb o b)) ∧ (t6 o a b = -1 ↔ cr (sb o a) (sb o b) < 0) ∧ (t6 o a b = 0 ↔ cr (sb o a) (sb o b) = 0) := by
  have e : cr (sb o a) (sb o b) = (a.1 - o.1) * (b.2 - o.2) - (a.2 - o.2) * (b.1 - o.1) := rfl
  rw [e]
  unfold t6 trn cmpI
  obtain ⟨x, hx⟩ : ∃ x, (a.1 - o.1) * (b.2 - o.2) = x := ⟨_, rfl⟩
  obtain ⟨y, hy⟩ : ∃ y, (a.2 - o.2) * (b.1 - o.1) = y := ⟨_, rfl⟩
  rw [hx, hy]
  split
  · omega
  · split <;> omega
def touch6 (a b c d : Pt) : Bool :=
  if inP a && inP b && inP c && inP d then
    if onP a (c, d) || onP b (c, d) || onP c (a, b) || onP d (a, b) then true
    else decide (t6 a b c * t6 a b d < 0) && decide (t6 c d a * t6 c d b < 0)
  else false

/-- On a segment across the other one's way. -/
theorem on_across {a b c d : Pt} (h0 : ¬ cr (sb a b) (sb c d) = 0) : On a c d ↔ cr (sb a c) (sb c d) = 0 ∧ ((0 ≤ cr (sb a c) (sb a b) ∧ cr (sb a c) (sb a b) ≤ cr (sb a b) (sb c d)) ∨ (cr (sb a b) (sb c d) ≤ cr (sb a c) (sb a b) ∧ cr (sb a c) (sb a b) ≤ 0)) := by
  have hcd : ¬ c = d := fun e => h0 (by subst e; rw [sb_self]; simp [cr])
  rw [on_iff hcd]
  have e1 : cr (sb c d) (sb c a) = cr (sb a c) (sb c d) := by simp only [cr, sb]; grind
  rw [e1]
  have hM := sb_pos hcd
  have key : cr (sb a c) (sb c d) = 0 → dt (sb c d) (sb c d) * cr (sb a c) (sb a b) = dt (sb c a) (sb c d) * cr (sb a b) (sb c d) := fun h => by
    simp only [cr, dt, sb] at h ⊢; grind
  obtain ⟨M, hMe⟩ : ∃ z, dt (sb c d) (sb c d) = z := ⟨_, rfl⟩
  obtain ⟨D, hD⟩ : ∃ z, cr (sb a b) (sb c d) = z := ⟨_, rfl⟩
  obtain ⟨s, hs⟩ : ∃ z, cr (sb a c) (sb a b) = z := ⟨_, rfl⟩
  obtain ⟨E, hE⟩ : ∃ z, dt (sb c a) (sb c d) = z := ⟨_, rfl⟩
  rw [hMe, hD, hs, hE] at key
  rw [hMe] at hM
  rw [hD] at h0
  rw [hMe, hD, hs, hE]
  clear e1 hMe hD hs hE
  refine and_congr_right fun ht => ?_
  have k := key ht
  clear key ht
  constructor
  · rintro ⟨h1, h2⟩
    rcases Int.lt_or_gt_of_ne h0 with hd | hd
    · right
      constructor
      · refine le_of_mul hM ?_
        rw [k]
        have := Int.mul_nonneg (show 0 ≤ M - E by omega) (show 0 ≤ -D by omega)
        have e : (M - E) * -D = E * D - M * D := by grind
        omega
      · have := Int.mul_nonneg h1 (show 0 ≤ -D by omega)
        have e : E * -D = -(E * D) := by grind
        have h3 : 0 ≤ M * -s := by
          have e2 : M * -s = -(M * s) := by grind
          omega
        have := nn_of_mul hM h3
        omega
    · left
      constructor
      · refine nn_of_mul hM ?_
        rw [k]; exact Int.mul_nonneg h1 (by omega)
      · refine le_of_mul hM ?_
        rw [k]
        exact Int.mul_le_mul_of_nonneg_right h2 (by omega)
  · intro h
    rcases Int.lt_or_gt_of_ne h0 with hd | hd
    · have hs : D ≤ s ∧ s ≤ 0 := by omega
      have h1 : 0 ≤ M * -s := Int.mul_nonneg (by omega) (by omega)
      have h2 : M * D ≤ M * s := Int.mul_le_mul_of_nonneg_left hs.1 (by omega)
      have e1 : -D * E = M * -s := by grind
      have e2 : -D * E ≤ -D * M := by
        have e3 : -D * M = -(M * D) := by grind
        have e4 : M * -s = -(M * s) := by grind
        omega
      exact ⟨nn_of_mul (L := -D) (by omega) (by omega), le_of_mul (L := -D) (by omega) e2⟩
    · have hs : 0 ≤ s ∧ s ≤ D := by omega
      have h1 : 0 ≤ M * s := Int.mul_nonneg (by omega) hs.1
      have h2 : M * s ≤ M * D := Int.mul_le_mul_of_nonneg_left hs.2 (by omega)
      have e1 : D * E = M * s := by grind
      have e3 : D * M = M * D := Int.mul_comm _ _
      exact ⟨nn_of_mul (L := D) hd (by omega), le_of_mul (L := D) hd (by omega)⟩

theorem opp_iff {x y p q : Int} (hx : (x = 1 ↔ 0 < p) ∧ (x = -1 ↔ p < 0) ∧ (x = 0 ↔ p = 0)) (hy : (y = 1 ↔ 0 < q) ∧ (y = -1 ↔ q < 0) ∧ (y = 0 ↔ q = 0)) : x * y < 0 ↔ (0 < p ∧ q < 0) ∨ (p < 0 ∧ 0 < q) := by
  have h1 : x = 1 ∨ x = -1 ∨ x = 0 := by omega
  have h2 : y = 1 ∨ y = -1 ∨ y = 0 := by omega
  rcases h1 with rfl | rfl | rfl <;> rcases h2 with rfl | rfl | rfl <;> simp at hx hy ⊢ <;> omega

theorem touch6_iff {a b c d : Pt} (hl : (inP a && inP b && inP c && inP d) = true) : touch6 a b c d = true ↔ Tch a b c d := by
  unfold touch6
  rw [hl, if_pos rfl]
  have h1 := opp_iff (t6_cr a b c) (t6_cr a b d)
  have h2 := opp_iff (t6_cr c d a) (t6_cr c d b)
  rw [show cr (sb a b) (sb a c) = -cr (sb a c) (sb a b) by simp only [cr, sb]; grind, show cr (sb a b) (sb a d) = cr (sb a b) (sb c d) - cr (sb a c) (sb a b) by simp only [cr, sb]; grind] at h1
  rw [show cr (sb c d) (sb c a) = cr (sb a c) (sb c d) by simp only [cr, sb]; grind, show cr (sb c d) (sb c b) = cr (sb a c) (sb c d) - cr (sb a b) (sb c d) by simp only [cr, sb]; grind] at h2
  have hor : (onP a (c, d) || onP b (c, d) || onP c (a, b) || onP d (a, b)) = true ↔ (On a c d ∨ On b c d ∨ On c a b ∨ On d a b) := by
    simp only [Bool.or_eq_true, onP_iff, or_assoc]
  have hall : (if (onP a (c, d) || onP b (c, d) || onP c (a, b) || onP d (a, b)) = true then true else decide (t6 a b c * t6 a b d < 0) && decide (t6 c d a * t6 c d b < 0)) = true ↔
      (On a c d ∨ On b c d ∨ On c a b ∨ On d a b) ∨ (t6 a b c * t6 a b d < 0 ∧ t6 c d a * t6 c d b < 0) := by
    rw [← hor]
    split
    · rename_i h; simp [h]
    · rename_i h; simp [h]
  rw [hall, h1, h2]
  unfold Tch In1
  rcases Decidable.em (cr (sb a b) (sb c d) = 0) with h0 | h0
  · rw [h0]
    constructor
    · rintro (h | h)
      · exact Or.inr ⟨rfl, h⟩
      · omega
    · rintro (h | ⟨_, h⟩)
      · omega
      · exact Or.inl h
  · have o1 := on_across (a := a) (b := b) (c := c) (d := d) h0
    have o2 := on_across (a := b) (b := a) (c := c) (d := d) (by rw [show cr (sb b a) (sb c d) = -cr (sb a b) (sb c d) by simp only [cr, sb]; grind]; omega)
    have o3 := on_across (a := c) (b := d) (c := a) (d := b) (by rw [show cr (sb c d) (sb a b) = -cr (sb a b) (sb c d) by simp only [cr, sb]; grind]; omega)
    have o4 := on_across (a := d) (b := c) (c := a) (d := b) (by rw [show cr (sb d c) (sb a b) = cr (sb a b) (sb c d) by simp only [cr, sb]; grind]; omega)
    rw [show cr (sb b a) (sb c d) = -cr (sb a b) (sb c d) by simp only [cr, sb]; grind, show cr (sb b c) (sb c d) = cr (sb a c) (sb c d) - cr (sb a b) (sb c d) by simp only [cr, sb]; grind, show cr (sb b c) (sb b a) = -cr (sb a c) (sb a b) by simp only [cr, sb]; grind] at o2
    rw [show cr (sb c d) (sb a b) = -cr (sb a b) (sb c d) by simp only [cr, sb]; grind, show cr (sb c a) (sb a b) = -cr (sb a c) (sb a b) by simp only [cr, sb]; grind, show cr (sb c a) (sb c d) = -cr (sb a c) (sb c d) by simp only [cr, sb]; grind] at o3
    rw [show cr (sb d c) (sb a b) = cr (sb a b) (sb c d) by simp only [cr, sb]; grind, show cr (sb d a) (sb a b) = cr (sb a b) (sb c d) - cr (sb a c) (sb a b) by simp only [cr, sb]; grind, show cr (sb d a) (sb d c) = cr (sb a c) (sb c d) by simp only [cr, sb]; grind] at o4
    rw [o1, o2, o3, o4]
    obtain ⟨D, hD⟩ : ∃ z, cr (sb a b) (sb c d) = z := ⟨_, rfl⟩
    obtain ⟨s, hs⟩ : ∃ z, cr (sb a c) (sb a b) = z := ⟨_, rfl⟩
    obtain ⟨t, ht⟩ : ∃ z, cr (sb a c) (sb c d) = z := ⟨_, rfl⟩
    rw [hD] at h0
    rw [hD, hs, ht]
    clear o1 o2 o3 o4 h1 h2 hor hall hD hs ht
    omega

theorem touch6_is (a b c d : Pt) : touch6 a b c d = touches a b c d := by
  cases h : inP a && inP b && inP c && inP d with
  | true => rw [Bool.eq_iff_iff, touch6_iff h, touches_iff h]
  | false =>
    unfold touch6 touches meet
    rw [h, if_neg Bool.false_ne_true, if_neg Bool.false_ne_true]
    rfl

end Go.Proofs.Ythbndilnobjjgaa
