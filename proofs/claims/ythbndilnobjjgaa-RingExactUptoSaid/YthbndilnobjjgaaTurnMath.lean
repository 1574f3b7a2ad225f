/-
  Plain mathematics of turns and of the order of directions. No program in sight.
-/
import Derived.Test.YthbndilnobjjgaaWideMath
namespace Go.Proofs.Ythbndilnobjjgaa
open Go.RowKit

theorem cmpI_sub {p q p' q' : Int} (h : p - q = p' - q') : cmpI p q = cmpI p' q' := by
  unfold cmpI; split <;> split <;> (try split) <;> (try split) <;> omega
theorem cmpI_neg {p q p' q' : Int} (h : p - q = q' - p') : cmpI p q = -cmpI p' q' := by
  unfold cmpI; split <;> split <;> (try split) <;> (try split) <;> omega
theorem cmpI_nought {p q : Int} (h : p = q) : cmpI p q = 0 := by subst h; exact cmp_self p
theorem cmpI_bd (p q : Int) : -1 ≤ cmpI p q ∧ cmpI p q ≤ 1 := by unfold cmpI; split <;> (try split) <;> omega
theorem cmpI_pos {p q : Int} : 0 < cmpI p q ↔ q < p := by unfold cmpI; split <;> (try split) <;> omega
theorem cmpI_below {p q : Int} : cmpI p q < 0 ↔ p < q := by unfold cmpI; split <;> (try split) <;> omega
theorem cmpI_eq {p q : Int} : cmpI p q = 0 ↔ p = q := by unfold cmpI; split <;> (try split) <;> omega

/-- The turn that a, then b, makes seen from o. -/
def trn (ox oy ax ay bx by_ : Int) : Int := cmpI ((ax - ox) * (by_ - oy)) ((ay - oy) * (bx - ox))
theorem trn_bd (ox oy ax ay bx by_ : Int) : -1 ≤ trn ox oy ax ay bx by_ ∧ trn ox oy ax ay bx by_ ≤ 1 := cmpI_bd _ _
theorem trn_round (ox oy ax ay bx by_ : Int) : trn ax ay bx by_ ox oy = trn ox oy ax ay bx by_ := cmpI_sub (by grind)
theorem trn_back (ox oy ax ay bx by_ : Int) : trn ox oy bx by_ ax ay = -trn ox oy ax ay bx by_ := cmpI_neg (by grind)
theorem trn_same (ox oy ax ay : Int) : trn ox oy ox oy ax ay = 0 := cmpI_nought (by grind)
theorem trn_twice (ox oy ax ay : Int) : trn ox oy ax ay ax ay = 0 := cmpI_nought (by grind)
theorem trn_first (ox oy ax ay : Int) : trn ox oy ax ay ox oy = 0 := cmpI_nought (by grind)
theorem trn_move (ox oy ax ay bx by_ x y : Int) : trn (ox + x) (oy + y) (ax + x) (ay + y) (bx + x) (by_ + y) = trn ox oy ax ay bx by_ := cmpI_sub (by grind)
/-- The cross product. -/
def crs (ox oy ax ay bx by_ : Int) : Int := (ax - ox) * (by_ - oy) - (ay - oy) * (bx - ox)
theorem crs_pos (ox oy ax ay bx by_ : Int) : 0 < trn ox oy ax ay bx by_ ↔ 0 < crs ox oy ax ay bx by_ := by unfold trn crs; rw [cmpI_pos]; omega
theorem crs_neg (ox oy ax ay bx by_ : Int) : trn ox oy ax ay bx by_ < 0 ↔ crs ox oy ax ay bx by_ < 0 := by unfold trn crs; rw [cmpI_below]; omega
theorem sq_nonneg (a : Int) : 0 ≤ a * a := by
  rcases Int.le_total 0 a with h | h
  · exact Int.mul_nonneg h h
  · exact Int.mul_nonneg_of_nonpos_of_nonpos h h
theorem sq_nought {a : Int} (h : a * a = 0) : a = 0 := by rcases Int.mul_eq_zero.1 h with h | h <;> exact h
theorem dist_nonneg (a b : Int) : 0 ≤ a * a + b * b := Int.add_nonneg (sq_nonneg a) (sq_nonneg b)
theorem dist_nought {a b : Int} : a * a + b * b = 0 ↔ a = 0 ∧ b = 0 := by
  have h1 := sq_nonneg a
  have h2 := sq_nonneg b
  constructor
  · intro h; exact ⟨sq_nought (by omega), sq_nought (by omega)⟩
  · rintro ⟨rfl, rfl⟩; rfl

/-- Which half turn a direction falls into. -/
def hf (x y : Int) : Int := if x = 0 ∧ y = 0 then 0 else if 0 < y ∨ y = 0 ∧ 0 < x then 1 else 2
def arn (ux uy vx vy : Int) : Int := if cmpI (hf ux uy) (hf vx vy) = 0 then -cmpI (ux * vy) (uy * vx) else cmpI (hf ux uy) (hf vx vy)
theorem arn_back (ux uy vx vy : Int) : arn vx vy ux uy = -arn ux uy vx vy := by
  have h1 := @cmpI_neg (hf vx vy) (hf ux uy) (hf ux uy) (hf vx vy) (by omega)
  have h2 : cmpI (vx * uy) (vy * ux) = -cmpI (ux * vy) (uy * vx) := cmpI_neg (by grind)
  unfold arn
  rw [h1, h2]
  split <;> split <;> omega
theorem arn_self (ux uy : Int) : arn ux uy ux uy = 0 := by
  have h : cmpI (ux * uy) (uy * ux) = 0 := cmpI_nought (by grind)
  unfold arn
  rw [if_pos (cmp_self _), h]; rfl
theorem arn_le {ux uy vx vy : Int} : arn ux uy vx vy ≤ 0 ↔ hf ux uy < hf vx vy ∨ (hf ux uy = hf vx vy ∧ 0 ≤ ux * vy - uy * vx) := by
  have h1 := @cmpI_below (ux * vy) (uy * vx)
  have h2 := @cmpI_below (hf ux uy) (hf vx vy)
  have h3 := @cmpI_eq (hf ux uy) (hf vx vy)
  have h4 := @cmpI_pos (hf ux uy) (hf vx vy)
  unfold arn
  split <;> omega
theorem up_trans {ux uy vx vy wx wy : Int} (hu : 0 < uy ∨ uy = 0 ∧ 0 < ux) (hv : 0 < vy ∨ vy = 0 ∧ 0 < vx) (hw : 0 < wy ∨ wy = 0 ∧ 0 < wx)
    (h1 : 0 ≤ ux * vy - uy * vx) (h2 : 0 ≤ vx * wy - vy * wx) : 0 ≤ ux * wy - uy * wx := by
  rcases hv with hv | ⟨rfl, hv⟩
  · have e : (ux * wy - uy * wx) * vy = (ux * vy - uy * vx) * wy + (vx * wy - vy * wx) * uy := by grind
    have p1 := Int.mul_nonneg h1 (show 0 ≤ wy by omega)
    have p2 := Int.mul_nonneg h2 (show 0 ≤ uy by omega)
    rcases Int.lt_or_le (ux * wy - uy * wx) 0 with h | h
    · have := Int.mul_neg_of_neg_of_pos h hv
      omega
    · exact h
  · rcases hu with hu | ⟨rfl, hu⟩
    · have := Int.mul_pos hu hv
      simp only [Int.mul_zero] at h1
      omega
    · have := Int.mul_nonneg (show 0 ≤ ux by omega) (show 0 ≤ wy by omega)
      simp only [Int.zero_mul]
      omega
theorem hf_ways (x y : Int) : (hf x y = 0 ∧ x = 0 ∧ y = 0) ∨ (hf x y = 1 ∧ (0 < y ∨ y = 0 ∧ 0 < x)) ∨ (hf x y = 2 ∧ (0 < -y ∨ -y = 0 ∧ 0 < -x)) := by
  unfold hf; split <;> (try split) <;> omega
theorem arn_trans {ux uy vx vy wx wy : Int} (h1 : arn ux uy vx vy ≤ 0) (h2 : arn vx vy wx wy ≤ 0) : arn ux uy wx wy ≤ 0 := by
  rw [arn_le] at *
  rcases h1 with h1 | ⟨h1, k1⟩
  · left; omega
  rcases h2 with h2 | ⟨h2, k2⟩
  · left; omega
  right
  refine ⟨by omega, ?_⟩
  rcases hf_ways ux uy with ⟨hu, rfl, rfl⟩ | ⟨hu, gu⟩ | ⟨hu, gu⟩
  · simp
  · rcases hf_ways vx vy with ⟨hv, _, _⟩ | ⟨hv, gv⟩ | ⟨hv, gv⟩ <;> try omega
    rcases hf_ways wx wy with ⟨hw, _, _⟩ | ⟨hw, gw⟩ | ⟨hw, gw⟩ <;> try omega
    exact up_trans gu gv gw k1 k2
  · rcases hf_ways vx vy with ⟨hv, _, _⟩ | ⟨hv, gv⟩ | ⟨hv, gv⟩ <;> try omega
    rcases hf_ways wx wy with ⟨hw, _, _⟩ | ⟨hw, gw⟩ | ⟨hw, gw⟩ <;> try omega
    have := up_trans gu gv gw (by rw [Int.neg_mul_neg, Int.neg_mul_neg]; exact k1) (by rw [Int.neg_mul_neg, Int.neg_mul_neg]; exact k2)
    rw [Int.neg_mul_neg, Int.neg_mul_neg] at this
    exact this
theorem arn_right {ux uy : Int} (h : ¬ (ux = 0 ∧ uy = 0)) : arn 1 0 ux uy ≤ 0 ∧ (arn 1 0 ux uy = 0 ↔ uy = 0 ∧ 0 < ux) := by
  have h1 := @cmpI_below uy 0
  have h2 := @cmpI_eq uy 0
  have h3 : hf 1 0 = 1 := by decide
  have h5 : cmpI 1 2 = -1 := by decide
  have h6 : cmpI 1 1 = 0 := by decide
  unfold arn
  rw [h3, Int.one_mul, Int.zero_mul]
  rcases hf_ways ux uy with ⟨hu, a, b⟩ | ⟨hu, gu⟩ | ⟨hu, gu⟩
  · exact absurd ⟨a, b⟩ h
  · rw [hu, if_pos h6]; omega
  · rw [hu, if_neg (by omega), h5]; omega

theorem arn_trn (ox oy ax ay bx by_ : Int) : (if cmpI (hf (ax - ox) (ay - oy)) (hf (bx - ox) (by_ - oy)) = 0 then wrap64 (-trn ox oy ax ay bx by_) else cmpI (hf (ax - ox) (ay - oy)) (hf (bx - ox) (by_ - oy))) = arn (ax - ox) (ay - oy) (bx - ox) (by_ - oy) := by
  have h := trn_bd ox oy ax ay bx by_
  have e : wrap64 (-trn ox oy ax ay bx by_) = -trn ox oy ax ay bx by_ := by unfold wrap64; omega
  rw [e]
  unfold arn trn
  rfl
attribute [irreducible] trn crs hf arn
end Go.Proofs.Ythbndilnobjjgaa
