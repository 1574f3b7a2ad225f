/-
  Plain: whether two segments touch, told alike from both; the meeting changed about.
-/
import Derived.Test.YthbndilnobjjgaaSegP
namespace Go.Proofs.Ythbndilnobjjgaa

/-- Crossing: the numbers t and s between 0 and D (all three turned about where D is below 0). -/
def In1 (D t s : Int) : Prop := (0 < D ∧ (0 ≤ t ∧ t ≤ D) ∧ 0 ≤ s ∧ s ≤ D) ∨ (D < 0 ∧ (D ≤ t ∧ t ≤ 0) ∧ D ≤ s ∧ s ≤ 0)
def Tch (a b c d : Pt) : Prop := In1 (cr (sb a b) (sb c d)) (cr (sb a c) (sb c d)) (cr (sb a c) (sb a b)) ∨ (cr (sb a b) (sb c d) = 0 ∧ (On a c d ∨ On b c d ∨ On c a b ∨ On d a b))

theorem tch_swap {a b c d : Pt} (h : Tch a b c d) : Tch c d a b := by
  unfold Tch In1 at h ⊢
  rw [show cr (sb c d) (sb a b) = -cr (sb a b) (sb c d) by simp only [cr, sb]; grind, show cr (sb c a) (sb a b) = -cr (sb a c) (sb a b) by simp only [cr, sb]; grind,
    show cr (sb c a) (sb c d) = -cr (sb a c) (sb c d) by simp only [cr, sb]; grind]
  rcases h with h | ⟨h1, h2 | h2 | h2 | h2⟩
  · exact Or.inl (by omega)
  · exact Or.inr ⟨by omega, Or.inr (Or.inr (Or.inl h2))⟩
  · exact Or.inr ⟨by omega, Or.inr (Or.inr (Or.inr h2))⟩
  · exact Or.inr ⟨by omega, Or.inl h2⟩
  · exact Or.inr ⟨by omega, Or.inr (Or.inl h2)⟩
theorem tch_back {a b c d : Pt} (h : Tch a b c d) : Tch b a c d := by
  unfold Tch In1 at h ⊢
  rw [show cr (sb b a) (sb c d) = -cr (sb a b) (sb c d) by simp only [cr, sb]; grind, show cr (sb b c) (sb c d) = cr (sb a c) (sb c d) - cr (sb a b) (sb c d) by simp only [cr, sb]; grind,
    show cr (sb b c) (sb b a) = -cr (sb a c) (sb a b) by simp only [cr, sb]; grind]
  rcases h with h | ⟨h1, h2 | h2 | h2 | h2⟩
  · exact Or.inl (by omega)
  · exact Or.inr ⟨by omega, Or.inr (Or.inl h2)⟩
  · exact Or.inr ⟨by omega, Or.inl h2⟩
  · exact Or.inr ⟨by omega, Or.inr (Or.inr (Or.inl (on_comm h2)))⟩
  · exact Or.inr ⟨by omega, Or.inr (Or.inr (Or.inr (on_comm h2)))⟩

theorem along_k {L c d : Int} : (mtAlong L c d).k ≠ 0 ↔ max 0 (min c d) ≤ min L (max c d) := by
  unfold mtAlong
  split
  · rename_i h
    exact ⟨fun e => absurd rfl e, fun e => absurd h (by omega)⟩
  · split
    · rename_i h1 h2
      exact ⟨fun _ => by omega, fun _ => (show (1 : Int) ≠ 0 by decide)⟩
    · rename_i h1 h2
      exact ⟨fun _ => by omega, fun _ => (show (2 : Int) ≠ 0 by decide)⟩
theorem cross_k {D t s : Int} : (mtCross D t s).k ≠ 0 ↔ ¬ (t < 0 ∨ D < t ∨ s < 0 ∨ D < s) := by
  unfold mtCross
  split
  · rename_i h
    exact ⟨fun e => absurd rfl e, fun e => absurd h e⟩
  · rename_i h
    exact ⟨fun _ => h, fun _ => (show (1 : Int) ≠ 0 by decide)⟩

/-- On one line, all by the place along u. -/
theorem line_iff {a b c d : Pt} (hab : ¬ a = b) (h0 : cr (sb a b) (sb c d) = 0) (h1 : cr (sb a b) (sb a c) = 0) :
    (On a c d ∨ On b c d ∨ On c a b ∨ On d a b) ↔ max 0 (min (dt (sb a c) (sb a b)) (dt (sb a d) (sb a b))) ≤ min (dt (sb a b) (sb a b)) (max (dt (sb a c) (sb a b)) (dt (sb a d) (sb a b))) := by
  have hL := sb_pos hab
  have h2 : cr (sb a b) (sb a d) = 0 := by simp only [cr, sb] at h0 h1 ⊢; grind
  have lin : ∀ z : Int, dt (sb a b) (sb a b) * z = 0 → z = 0 := fun z hz => by
    rcases Int.mul_eq_zero.1 hz with h | h
    · omega
    · exact h
  have ea : On a c d ↔ 0 ≤ dt (sb a c) (sb a b) * -dt (sb a d) (sb a b) := by
    have e : dt (sb a b) (sb a b) * dt (sb c a) (sb a d) = dt (sb a c) (sb a b) * -dt (sb a d) (sb a b) := by
      simp only [cr, dt, sb] at h1 h2 ⊢; grind
    have e0 : cr (sb c d) (sb c a) = 0 := lin _ (by simp only [cr, dt, sb] at h1 h2 h0 ⊢; grind)
    rw [← e]
    exact ⟨fun h => Int.mul_nonneg (by omega) h.2, fun h => ⟨e0, nn_of_mul hL h⟩⟩
  have eb : On b c d ↔ 0 ≤ (dt (sb a b) (sb a b) - dt (sb a c) (sb a b)) * (dt (sb a d) (sb a b) - dt (sb a b) (sb a b)) := by
    have e : dt (sb a b) (sb a b) * dt (sb c b) (sb b d) = (dt (sb a b) (sb a b) - dt (sb a c) (sb a b)) * (dt (sb a d) (sb a b) - dt (sb a b) (sb a b)) := by
      simp only [cr, dt, sb] at h1 h2 ⊢; grind
    have e0 : cr (sb c d) (sb c b) = 0 := lin _ (by simp only [cr, dt, sb] at h1 h2 h0 ⊢; grind)
    rw [← e]
    exact ⟨fun h => Int.mul_nonneg (by omega) h.2, fun h => ⟨e0, nn_of_mul hL h⟩⟩
  rw [ea, eb, on_iff hab, on_iff hab, mul_nn, mul_nn]
  obtain ⟨C, hC⟩ : ∃ z, dt (sb a c) (sb a b) = z := ⟨_, rfl⟩
  obtain ⟨D, hD⟩ : ∃ z, dt (sb a d) (sb a b) = z := ⟨_, rfl⟩
  obtain ⟨L, hL'⟩ : ∃ z, dt (sb a b) (sb a b) = z := ⟨_, rfl⟩
  rw [hL'] at hL
  rw [hC, hD, hL', h1, h2]
  clear ea eb hC hD hL' h1 h2 lin
  omega

theorem off_line {a b c d : Pt} (_ : ¬ a = b) (h0 : cr (sb a b) (sb c d) = 0) (h1 : ¬ cr (sb a b) (sb a c) = 0) : ¬ (On a c d ∨ On b c d ∨ On c a b ∨ On d a b) := by
  have key : ∀ p : Pt, cr (sb a b) (sb a p) = 0 → On p c d → False := fun p hp ho => by
    rcases Decidable.em (c = d) with hcd | hcd
    · subst hcd
      obtain rfl := on_same.1 ho
      exact h1 hp
    · have hM := sb_pos hcd
      have e : dt (sb c d) (sb c d) * cr (sb a b) (sb a c) = 0 := by
        have := ho.1
        simp only [cr, dt, sb] at h0 hp this ⊢
        grind
      rcases Int.mul_eq_zero.1 e with h | h
      · omega
      · exact h1 h
  rintro (h | h | h | h)
  · exact key a (by simp only [cr, sb]; grind) h
  · exact key b (by simp only [cr, sb]; grind) h
  · exact h1 h.1
  · exact h1 (by have := h.1; simp only [cr, sb] at this h0 ⊢; grind)

theorem touches_iff {a b c d : Pt} (hl : (inP a && inP b && inP c && inP d) = true) : touches a b c d = true ↔ Tch a b c d := by
  unfold touches meet
  rw [hl, if_pos rfl, decide_eq_true_eq]
  rcases Decidable.em (a = b) with hab | hab
  · subst hab
    rw [if_pos rfl]
    have h0 : cr (sb a a) (sb c d) = 0 := by rw [sb_self]; simp [cr]
    cases ho : onP a (c, d) with
    | true =>
      rw [if_pos rfl]
      exact ⟨fun _ => Or.inr ⟨h0, Or.inl (onP_iff.1 ho)⟩, fun _ => (show (1 : Int) ≠ 0 by decide)⟩
    | false =>
      rw [if_neg Bool.false_ne_true]
      have hn : ¬ On a c d := fun h => by rw [onP_iff.2 h] at ho; exact Bool.false_ne_true ho.symm
      refine ⟨fun h => absurd rfl h, fun h => absurd ?_ hn⟩
      unfold Tch In1 at h
      rcases h with h | ⟨_, h | h | h | h⟩
      · omega
      · exact h
      · exact h
      · obtain rfl := on_same.1 h
        simp only [On, cr, dt, sb]
        constructor <;> simp
      · obtain rfl := on_same.1 h
        simp only [On, cr, dt, sb]
        constructor
        · grind
        · simp
  · rw [if_neg hab]
    unfold Tch
    rcases Decidable.em (cr (sb a b) (sb c d) = 0) with h0 | h0
    · rw [if_pos h0]
      have hin : ¬ In1 (cr (sb a b) (sb c d)) (cr (sb a c) (sb c d)) (cr (sb a c) (sb a b)) := by unfold In1; omega
      rcases Decidable.em (cr (sb a b) (sb a c) = 0) with h1 | h1
      · rw [if_pos h1, along_k, ← line_iff hab h0 h1]
        exact ⟨fun h => Or.inr ⟨h0, h⟩, fun h => by
          rcases h with h | h
          · exact absurd h hin
          · exact h.2⟩
      · rw [if_neg h1]
        refine ⟨fun h => absurd rfl h, fun h => ?_⟩
        rcases h with h | h
        · exact absurd h hin
        · exact absurd h.2 (off_line hab h0 h1)
    · rw [if_neg h0, cross_k]
      unfold sg In1
      constructor
      · intro h
        split at h
        · exact Or.inl (by omega)
        · exact Or.inl (by omega)
      · rintro (h | h)
        · split
          · omega
          · omega
        · exact absurd h.1 h0

end Go.Proofs.Ythbndilnobjjgaa
