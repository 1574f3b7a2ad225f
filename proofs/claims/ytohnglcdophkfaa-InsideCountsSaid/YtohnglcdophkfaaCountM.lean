/-
  Plain: how many points of the lattice lie within a ring, and on its edge.
-/
import Derived.Test.YtohnglcdophkfaaCheckM
import Derived.Test.YtohnglcdophkfaaIter
namespace Go.Proofs.Ytohnglcdophkfaa
open Go.RowKit

/-- The lattice's points on a side, one end left out. -/
def sideN (s : Pt × Pt) : Nat := Nat.gcd (s.2.1 - s.1.1).natAbs (s.2.2 - s.1.2).natAbs
/-- Twice the area that a side adds. -/
def sideA (s : Pt × Pt) : Int := s.1.1 * s.2.2 - s.1.2 * s.2.1
def sumN (ps : List Pt) : Nat → Nat
  | 0 => 0
  | k + 1 => sumN ps k + sideN (sid ps k)
def sumA (ps : List Pt) : Nat → Int
  | 0 => 0
  | k + 1 => sumA ps k + sideA (sid ps k)
theorem sideN_bd {s : Pt × Pt} (h1 : IPt s.1) (h2 : IPt s.2) : sideN s ≤ 4294967295 := by
  unfold sideN
  obtain ⟨⟨a1, a2⟩, b1, b2⟩ := h1
  obtain ⟨⟨c1, c2⟩, d1, d2⟩ := h2
  rcases Nat.eq_zero_or_pos (s.2.1 - s.1.1).natAbs with h | h
  · rw [h, Nat.gcd_zero_left]
    omega
  · exact Nat.le_trans (Nat.le_of_dvd h (Nat.gcd_dvd_left _ _)) (by omega)
theorem abs_prod {a b : Int} (ha : I32 a) (hb : I32 b) : (a * b).natAbs ≤ 4611686018427387904 := by
  have h1 : a.natAbs ≤ 2147483648 := by unfold I32 at ha; omega
  have h2 : b.natAbs ≤ 2147483648 := by unfold I32 at hb; omega
  rw [Int.natAbs_mul]
  exact Nat.mul_le_mul h1 h2
theorem sideA_bd {s : Pt × Pt} (h1 : IPt s.1) (h2 : IPt s.2) : (sideA s).natAbs ≤ 9223372036854775808 := by
  unfold sideA
  have a := abs_prod h1.1 h2.2
  have b := abs_prod h1.2 h2.1
  omega
theorem sid_i {ps : List Pt} (h : ∀ p ∈ ps, IPt p) (k : Nat) : IPt (sid ps k).1 ∧ IPt (sid ps k).2 := by
  have g : ∀ i, IPt (gp ps i) := fun i => by
    unfold gp
    cases e : ps[i]? with
    | none => exact ⟨⟨by decide, by decide⟩, ⟨by decide, by decide⟩⟩
    | some p => exact h p (List.mem_of_getElem? e)
  exact ⟨g _, g _⟩
theorem sumN_bd {ps : List Pt} (h : ∀ p ∈ ps, IPt p) (k : Nat) : sumN ps k ≤ k * 4294967295 := by
  induction k with
  | zero => exact Nat.le_refl _
  | succ k ih =>
    have := sideN_bd (sid_i h k).1 (sid_i h k).2
    show sumN ps k + sideN (sid ps k) ≤ _
    omega
theorem sumA_bd {ps : List Pt} (h : ∀ p ∈ ps, IPt p) (k : Nat) : (sumA ps k).natAbs ≤ k * 9223372036854775808 := by
  induction k with
  | zero => simp [sumA]
  | succ k ih =>
    rw [Nat.succ_mul]
    exact Nat.le_trans (Int.natAbs_add_le _ _) (Nat.add_le_add ih (sideA_bd (sid_i h k).1 (sid_i h k).2))
/-- What 64 bits hold of twice the area. -/
def twiceA (a : Int) : Int := if -9223372036854775808 ≤ ((a.natAbs : Nat) : Int) ∧ ((a.natAbs : Nat) : Int) ≤ 9223372036854775807 then ((a.natAbs : Nat) : Int) else 0
theorem twice_bd (a : Int) : 0 ≤ twiceA a ∧ twiceA a ≤ 9223372036854775807 := by
  unfold twiceA
  split <;> omega
def withinN (t g : Int) : Int := wrap64 ((wrap64 (t - g + 2)).tdiv 2)
theorem within_one {t g : Int} : wrap64 ((wrap64 (wrap64 (t - g) + 2)).tdiv 2) = withinN t g := by
  unfold withinN
  rw [show wrap64 (wrap64 (t - g) + 2) = wrap64 (t - g + 2) by unfold wrap64; omega]
theorem within_two {t g : Int} : wrap64 ((wrap64 (wrap64 (t + 2) - g)).tdiv 2) = withinN t g := by
  unfold withinN
  rw [show wrap64 (wrap64 (t + 2) - g) = wrap64 (t - g + 2) by unfold wrap64; omega]
/-- Counts' answer. -/
def CntIs (ps : List Pt) (s : Int × Int × Int) : Prop := ∃ r, ChkIs ps r ∧ ((r.1 ≠ 0 ∧ s = (0, 0, r.1)) ∨ (r.1 = 0 ∧ s = (withinN (twiceA (sumA ps ps.length)) (sumN ps ps.length), (sumN ps ps.length : Int), 0)))
theorem cnt_one {ps : List Pt} {s t : Int × Int × Int} (h : CntIs ps s) (k : CntIs ps t) : s = t := by
  obtain ⟨r, hr, h⟩ := h
  obtain ⟨r', hr', k⟩ := k
  obtain rfl := chk_one hr hr'
  rcases h with ⟨h0, rfl⟩ | ⟨h0, rfl⟩ <;> rcases k with ⟨k0, rfl⟩ | ⟨k0, rfl⟩
  · rfl
  · exact absurd k0 h0
  · exact absurd h0 k0
  · rfl
def CntOut (ps : List Pt) (e : Ending) : Prop := ∃ s, CntIs ps s ∧ e = .returned (.tuple #[.int .i64 s.1, .int .i64 s.2.1, .int .i64 s.2.2])
theorem cnt_bad {ps : List Pt} {r : Int × Nat × Nat} (h : ChkIs ps r) (h0 : r.1 ≠ 0) : CntOut ps (.returned (.tuple #[.int .i64 0, .int .i64 0, .int .i64 r.1])) := ⟨(0, 0, r.1), ⟨r, h, .inl ⟨h0, rfl⟩⟩, rfl⟩
theorem cnt_fine {ps : List Pt} {r : Int × Nat × Nat} (h : ChkIs ps r) (h0 : r.1 = 0) {x y : Int} (hx : x = withinN (twiceA (sumA ps ps.length)) (sumN ps ps.length)) (hy : y = (sumN ps ps.length : Int)) : CntOut ps (.returned (.tuple #[.int .i64 x, .int .i64 y, .int .i64 0])) :=
  ⟨_, ⟨r, h, .inr ⟨h0, rfl⟩⟩, by rw [hx, hy]⟩
/-- A fine ring is short. -/
theorem chk_short {ps : List Pt} {r : Int × Nat × Nat} (h : ChkIs ps r) (h0 : r.1 = 0) : 3 ≤ ps.length ∧ ps.length ≤ 64 := by
  rcases h with ⟨_, rfl⟩ | ⟨h1, _⟩
  · cases h0
  · exact h1
theorem cmpI_m1 {a : Int} (h : a < 0) : cmpI a 0 = -1 := by unfold cmpI; rw [if_pos h]
theorem cmpI_nn {a : Int} (h : ¬ a < 0) : ¬ cmpI a 0 < 0 := by unfold cmpI; rw [if_neg h]; split <;> decide
theorem abs_neg {a : Int} (h : a < 0) : -a = (a.natAbs : Int) := by omega
theorem abs_nn {a : Int} (h : ¬ a < 0) : a = (a.natAbs : Int) := by omega

end Go.Proofs.Ytohnglcdophkfaa
