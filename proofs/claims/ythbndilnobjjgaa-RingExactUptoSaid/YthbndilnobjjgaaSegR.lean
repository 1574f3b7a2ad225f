/-
  Plain: what is to be shown of two segments whose ends are changed about.
-/
import Derived.Test.YthbndilnobjjgaaSegQ
namespace Go.Proofs.Ythbndilnobjjgaa

def four4 (a b c d : Pt) : Bool := inP a && inP b && inP c && inP d

theorem touches_out {a b c d : Pt} (h : (inP a && inP b && inP c && inP d) = false) : touches a b c d = false := by
  unfold touches meet
  rw [h, if_neg Bool.false_ne_true]
  rfl
theorem bool_iff {x y : Bool} (h : x = true ↔ y = true) : x = y := by
  cases x <;> cases y <;> simp_all
theorem in_swap (a b c d : Pt) : (inP c && inP d && inP a && inP b) = (inP a && inP b && inP c && inP d) := by cases inP a <;> cases inP b <;> cases inP c <;> cases inP d <;> rfl
theorem in_back (a b c d : Pt) : (inP b && inP a && inP c && inP d) = (inP a && inP b && inP c && inP d) := by cases inP a <;> cases inP b <;> cases inP c <;> cases inP d <;> rfl
theorem in_flip (a b c d : Pt) : (inP a && inP b && inP d && inP c) = (inP a && inP b && inP c && inP d) := by cases inP a <;> cases inP b <;> cases inP c <;> cases inP d <;> rfl

theorem touches_swap (a b c d : Pt) : touches c d a b = touches a b c d := by
  cases h : inP a && inP b && inP c && inP d with
  | false => rw [touches_out h, touches_out (by rw [in_swap]; exact h)]
  | true => exact bool_iff ((touches_iff (by rw [in_swap]; exact h)).trans (Iff.trans ⟨tch_swap, tch_swap⟩ (touches_iff h).symm))
theorem touches_back (a b c d : Pt) : touches b a c d = touches a b c d := by
  cases h : inP a && inP b && inP c && inP d with
  | false => rw [touches_out h, touches_out (by rw [in_back]; exact h)]
  | true => exact bool_iff ((touches_iff (by rw [in_back]; exact h)).trans (Iff.trans ⟨tch_back, tch_back⟩ (touches_iff h).symm))

theorem along_comm (L c d : Int) : mtAlong L d c = mtAlong L c d := by unfold mtAlong; rw [Int.min_comm d c, Int.max_comm d c]
theorem cross_flip (D t s : Int) : mtCross D t (D - s) = mtCross D t s := by
  unfold mtCross
  rcases Decidable.em (t < 0 ∨ D < t ∨ s < 0 ∨ D < s) with h | h
  · rw [if_pos h, if_pos (by omega)]
  · rw [if_neg h, if_neg (show ¬ (t < 0 ∨ D < t ∨ D - s < 0 ∨ D < D - s) by omega)]
    rw [show (decide (0 < t ∧ t < D ∧ 0 < D - s ∧ D - s < D)) = decide (0 < t ∧ t < D ∧ 0 < s ∧ s < D) from decide_eq_decide.2 (by omega)]
theorem sg_neg {z : Int} (h : ¬ z = 0) : sg (-z) = -sg z := by
  unfold sg
  rcases Int.lt_or_le z 0 with h1 | h1
  · rw [if_pos h1, if_neg (by omega)]; rfl
  · rw [if_neg (show ¬ z < 0 by omega), if_pos (by omega)]
theorem meet_flip (a b c d : Pt) : meet a b d c = meet a b c d := by
  have hx : cr (sb a b) (sb d c) = -cr (sb a b) (sb c d) := by simp only [cr, sb]; grind
  have h2 : cr (sb a b) (sb a d) = cr (sb a b) (sb a c) + cr (sb a b) (sb c d) := by simp only [cr, sb]; grind
  have h3 : cr (sb a d) (sb d c) = -cr (sb a c) (sb c d) := by simp only [cr, sb]; grind
  have h4 : cr (sb a d) (sb a b) = cr (sb a c) (sb a b) - cr (sb a b) (sb c d) := by simp only [cr, sb]; grind
  unfold meet
  rw [in_flip, show onP a (d, c) = onP a (c, d) from on_swap a (c, d), hx, h2, h3, h4, along_comm]
  obtain ⟨u, hu⟩ : ∃ z, cr (sb a b) (sb c d) = z := ⟨_, rfl⟩
  obtain ⟨t, ht⟩ : ∃ z, cr (sb a c) (sb c d) = z := ⟨_, rfl⟩
  obtain ⟨s, hs⟩ : ∃ z, cr (sb a c) (sb a b) = z := ⟨_, rfl⟩
  rw [hu, ht, hs]
  rcases Decidable.em (u = 0) with h | h
  · rw [h, if_pos rfl]
    simp
  · rw [if_neg h, if_neg (show ¬ -u = 0 by omega), sg_neg h]
    rw [show -sg u * -u = sg u * u from Int.neg_mul_neg _ _, show -sg u * -t = sg u * t from Int.neg_mul_neg _ _, show -sg u * (s - u) = sg u * u - sg u * s by rw [Int.neg_mul, Int.mul_sub]; omega, cross_flip]

/-- 1 less a fraction. -/
def lessF (x : Int × Int) : Int × Int := (x.2 - x.1, x.2)
theorem fr_less {n d : Int} (h0 : 0 ≤ n) (h1 : n ≤ d) : fr (d - n) d = lessF (fr n d) := by
  unfold fr lessF
  have e : Nat.gcd (d - n).natAbs d.natAbs = Nat.gcd n.natAbs d.natAbs := by
    rw [Int.natAbs_sub_of_nonneg_of_le h0 h1, Nat.gcd_self_sub_left (by omega)]
  rw [e]
  refine Prod.ext ?_ rfl
  show (d - n) / _ = d / _ - n / _
  refine Int.sub_ediv_of_dvd _ ?_
  have := Int.natCast_dvd_natCast.2 (Nat.gcd_dvd_left n.natAbs d.natAbs)
  rwa [Int.natAbs_of_nonneg h0] at this
def lessM (m : Mt) : Mt := ⟨m.k, m.inn, lessF m.t, lessF m.f⟩
theorem along_back {L c d : Int} (hL : 0 ≤ L) (hk : (mtAlong L c d).k ≠ 0) : mtAlong L (L - c) (L - d) = lessM (mtAlong L c d) := by
  have hk' := along_k.1 hk
  have e1 : max 0 (min (L - c) (L - d)) = L - min L (max c d) := by omega
  have e2 : min L (max (L - c) (L - d)) = L - max 0 (min c d) := by omega
  unfold mtAlong
  rw [e1, e2]
  obtain ⟨x, hx⟩ : ∃ x, max 0 (min c d) = x := ⟨_, rfl⟩
  obtain ⟨y, hy⟩ : ∃ y, min L (max c d) = y := ⟨_, rfl⟩
  have b1 : 0 ≤ x := by omega
  have b2 : y ≤ L := by omega
  rw [hx, hy] at hk' ⊢
  clear hx hy e1 e2 hk
  rw [if_neg (show ¬ L - x < L - y by omega), if_neg (show ¬ y < x by omega)]
  rcases Decidable.em (x = y) with h | h
  · subst h
    rw [if_pos rfl, if_pos rfl]
    unfold mtOne lessM
    rw [fr_less b1 b2]
  · rw [if_neg h, if_neg (show ¬ L - y = L - x by omega)]
    unfold lessM
    rw [fr_less (show 0 ≤ y by omega) b2, fr_less b1 (show x ≤ L by omega)]
theorem cross_back {D t s : Int} (hk : (mtCross D t s).k ≠ 0) : mtCross D (D - t) s = lessM (mtCross D t s) := by
  have hk' := cross_k.1 hk
  unfold mtCross
  rw [if_neg hk', if_neg (show ¬ (D - t < 0 ∨ D < D - t ∨ s < 0 ∨ D < s) by omega)]
  rw [show (decide (0 < D - t ∧ D - t < D ∧ 0 < s ∧ s < D)) = decide (0 < t ∧ t < D ∧ 0 < s ∧ s < D) from decide_eq_decide.2 (by omega)]
  unfold mtOne lessM
  rw [fr_less (by omega) (by omega)]
theorem meet_back {a b c d : Pt} (hab : ¬ a = b) (hk : (meet a b c d).k ≠ 0) : meet b a c d = lessM (meet a b c d) := by
  have hba : ¬ b = a := fun e => hab e.symm
  have hL := dt_nn (sb a b)
  have h1 : cr (sb b a) (sb c d) = -cr (sb a b) (sb c d) := by simp only [cr, sb]; grind
  have h2 : cr (sb b a) (sb b c) = -cr (sb a b) (sb a c) := by simp only [cr, sb]; grind
  have h3 : cr (sb b c) (sb c d) = cr (sb a c) (sb c d) - cr (sb a b) (sb c d) := by simp only [cr, sb]; grind
  have h4 : cr (sb b c) (sb b a) = -cr (sb a c) (sb a b) := by simp only [cr, sb]; grind
  have h5 : dt (sb b a) (sb b a) = dt (sb a b) (sb a b) := by simp only [dt, sb]; grind
  have h6 : dt (sb b c) (sb b a) = dt (sb a b) (sb a b) - dt (sb a c) (sb a b) := by simp only [dt, sb]; grind
  have h7 : dt (sb b d) (sb b a) = dt (sb a b) (sb a b) - dt (sb a d) (sb a b) := by simp only [dt, sb]; grind
  unfold meet at hk ⊢
  rw [in_back, if_neg hba, if_neg hab, h1, h2, h3, h4, h5, h6, h7]
  rw [if_neg hab] at hk
  cases hi : inP a && inP b && inP c && inP d with
  | false => rw [hi, if_neg Bool.false_ne_true] at hk; exact absurd rfl hk
  | true =>
    rw [hi, if_pos rfl] at hk
    rw [if_pos rfl, if_pos rfl]
    obtain ⟨u, hu⟩ : ∃ z, cr (sb a b) (sb c d) = z := ⟨_, rfl⟩
    obtain ⟨v, hv⟩ : ∃ z, cr (sb a b) (sb a c) = z := ⟨_, rfl⟩
    obtain ⟨t, ht⟩ : ∃ z, cr (sb a c) (sb c d) = z := ⟨_, rfl⟩
    obtain ⟨s, hs⟩ : ∃ z, cr (sb a c) (sb a b) = z := ⟨_, rfl⟩
    rw [hu, hv, ht, hs] at hk
    rw [hu, hv, ht, hs]
    rcases Decidable.em (u = 0) with h | h
    · rw [if_pos h] at hk
      rw [if_pos h, if_pos (show -u = 0 by omega)]
      rcases Decidable.em (v = 0) with h' | h'
      · rw [if_pos h'] at hk
        rw [if_pos h', if_pos (show -v = 0 by omega)]
        exact along_back hL hk
      · rw [if_neg h'] at hk
        exact absurd rfl hk
    · rw [if_neg h] at hk
      rw [if_neg h, if_neg (show ¬ -u = 0 by omega), sg_neg h]
      rw [show -sg u * -u = sg u * u from Int.neg_mul_neg _ _, show -sg u * (t - u) = sg u * u - sg u * t by rw [Int.neg_mul, Int.mul_sub]; omega, show -sg u * -s = sg u * s from Int.neg_mul_neg _ _]
      exact cross_back hk

/-- A fraction from 0 to 1 of 64 bits. -/
def Fb (x : Int × Int) : Prop := 0 ≤ x.1 ∧ x.1 ≤ x.2 ∧ x.2 ≤ 9223372036854775807
theorem fr_fb {n d : Int} (h0 : 0 ≤ n) (h1 : n ≤ d) (h2 : d ≤ 9223372036854775807) : Fb (fr n d) := by
  unfold fr
  obtain ⟨G, hG⟩ : ∃ G : Nat, Nat.gcd n.natAbs d.natAbs = G := ⟨_, rfl⟩
  rw [hG]
  have hd : 0 ≤ d := by omega
  rcases Nat.eq_zero_or_pos G with hz | hp
  · subst hz
    simp [Fb]
  · have hp' : (0 : Int) < (G : Int) := by omega
    have := Int.ediv_le_self (a := d) (G : Int) hd
    exact ⟨Int.ediv_nonneg h0 (by omega), Int.ediv_le_ediv hp' h1, by show d / (G : Int) ≤ _; omega⟩
def MFb (m : Mt) : Prop := Fb m.f ∧ Fb m.t
theorem mfb_0 : MFb mt0 := ⟨⟨by decide, by decide, by decide⟩, ⟨by decide, by decide, by decide⟩⟩
theorem mfb_1 {n d : Int} (i : Bool) (h0 : 0 ≤ n) (h1 : n ≤ d) (h2 : d ≤ 9223372036854775807) : MFb (mtOne n d i) := ⟨fr_fb h0 h1 h2, fr_fb h0 h1 h2⟩
theorem meet_fb (a b c d : Pt) : MFb (meet a b c d) := by
  unfold meet
  cases hi : inP a && inP b && inP c && inP d with
  | false => rw [if_neg Bool.false_ne_true]; exact mfb_0
  | true =>
    simp only [Bool.and_eq_true] at hi
    obtain ⟨⟨⟨ia, ib⟩, ic⟩, id'⟩ := hi
    have hL := dt_nn (sb a b)
    have bL := (dt_bd (dv_sb ia ib) (dv_sb ia ib)).2
    have bD := cr_bd (dv_sb ia ib) (dv_sb ic id')
    rw [if_pos rfl]
    split
    · split
      · exact mfb_1 _ (by decide) (by decide) (by decide)
      · exact mfb_0
    · split
      · split
        · unfold mtAlong
          split
          · exact mfb_0
          · split
            · exact mfb_1 _ (by omega) (by omega) bL
            · exact ⟨fr_fb (by omega) (by omega) bL, fr_fb (by omega) (by omega) bL⟩
        · exact mfb_0
      · obtain ⟨u, hu⟩ : ∃ z, cr (sb a b) (sb c d) = z := ⟨_, rfl⟩
        rw [hu] at bD ⊢
        have b2 : sg u * u ≤ 9223372036854775807 := by unfold sg; split <;> omega
        unfold mtCross
        split
        · exact mfb_0
        · rename_i h
          exact mfb_1 _ (by omega) (by omega) b2

/-! ### Near a segment -/
theorem near_any2 {p a b : Pt} {r : Int} : near p a b r = true ↔ 0 ≤ r ∧ (inP p && inP a && inP b) = true ∧ (3037000498 ≤ r ∨ nearR p a b r = true) := by
  unfold near
  rcases Int.lt_or_le r 0 with h | h
  · rw [if_pos h]
    exact ⟨fun e => absurd e Bool.false_ne_true, fun e => absurd e.1 (by omega)⟩
  · rw [if_neg (show ¬ r < 0 by omega)]
    cases hi : inP p && inP a && inP b with
    | false =>
      rw [if_neg Bool.false_ne_true]
      exact ⟨fun e => absurd e Bool.false_ne_true, fun e => e.2.1⟩
    | true =>
      rw [if_pos rfl]
      rcases Int.lt_or_le r 3037000498 with h1 | h1
      · rw [if_neg (show ¬ 3037000498 ≤ r by omega)]
        exact ⟨fun e => ⟨h, rfl, Or.inr e⟩, fun e => by
          rcases e.2.2 with e | e
          · omega
          · exact e⟩
      · rw [if_pos h1]
        exact ⟨fun _ => ⟨h, rfl, Or.inl h1⟩, fun _ => rfl⟩
theorem near_more {p a b : Pt} {r R : Int} (h : r ≤ R) (hn : near p a b r = true) : near p a b R = true := by
  obtain ⟨h0, hi, h2⟩ := near_any2.1 hn
  refine near_any2.2 ⟨by omega, hi, ?_⟩
  rcases h2 with h2 | h2
  · exact Or.inl (by omega)
  · exact Or.inr (near_le h0 h h2)

theorem nearSeg_in_eq {a b c d : Pt} {r : Int} (h0 : 0 ≤ r) (hi : (inP a && inP b && inP c && inP d) = true) : nearSeg a b c d r = (near a c d r || near b c d r || near c a b r || near d a b r || touches a b c d) := by
  unfold nearSeg
  rw [if_neg (show ¬ r < 0 by omega), hi, if_pos rfl]
theorem nearSeg_no {a b c d : Pt} {r : Int} (h : r < 0 ∨ (inP a && inP b && inP c && inP d) = false) : nearSeg a b c d r = false := by
  unfold nearSeg
  rcases Int.lt_or_le r 0 with h0 | h0
  · rw [if_pos h0]
  · rw [if_neg (show ¬ r < 0 by omega)]
    rcases h with h | h
    · omega
    · rw [h, if_neg Bool.false_ne_true]
theorem seg_cases (a b c d : Pt) (r : Int) : (r < 0 ∨ (inP a && inP b && inP c && inP d) = false) ∨ (0 ≤ r ∧ (inP a && inP b && inP c && inP d) = true) := by
  rcases Int.lt_or_le r 0 with h | h
  · exact Or.inl (Or.inl h)
  · cases hi : inP a && inP b && inP c && inP d with
    | false => exact Or.inl (Or.inr rfl)
    | true => exact Or.inr ⟨h, rfl⟩

theorem nearSeg_swap (a b c d : Pt) (r : Int) : nearSeg c d a b r = nearSeg a b c d r := by
  rcases seg_cases a b c d r with h | ⟨h0, hi⟩
  · rw [nearSeg_no h, nearSeg_no (by rw [in_swap]; exact h)]
  · rw [nearSeg_in_eq h0 hi, nearSeg_in_eq h0 (by rw [in_swap]; exact hi), touches_swap]
    cases near a c d r <;> cases near b c d r <;> cases near c a b r <;> cases near d a b r <;> rfl
theorem nearSeg_back (a b c d : Pt) (r : Int) : nearSeg b a c d r = nearSeg a b c d r := by
  rcases seg_cases a b c d r with h | ⟨h0, hi⟩
  · rw [nearSeg_no h, nearSeg_no (by rw [in_back]; exact h)]
  · rw [nearSeg_in_eq h0 hi, nearSeg_in_eq h0 (by rw [in_back]; exact hi), touches_back, near_comm c b a, near_comm d b a]
    cases near a c d r <;> cases near b c d r <;> rfl
theorem nearSeg_flip (a b c d : Pt) (r : Int) : nearSeg a b d c r = nearSeg a b c d r := by
  rw [← nearSeg_swap a b d c, nearSeg_back, nearSeg_swap]
theorem nearSeg_both (a b c d : Pt) (r : Int) : nearSeg b a d c r = nearSeg a b c d r := by rw [nearSeg_back, nearSeg_flip]
theorem nearSeg_more {a b c d : Pt} {r R : Int} (h : r ≤ R) (hn : nearSeg a b c d r = true) : nearSeg a b c d R = true := by
  rcases seg_cases a b c d r with h1 | ⟨h0, hi⟩
  · rw [nearSeg_no h1] at hn
    exact absurd hn Bool.false_ne_true
  · rw [nearSeg_in_eq h0 hi] at hn
    rw [nearSeg_in_eq (by omega) hi]
    simp only [Bool.or_eq_true] at hn ⊢
    rcases hn with (((hn | hn) | hn) | hn) | hn
    · exact Or.inl (Or.inl (Or.inl (Or.inl (near_more h hn))))
    · exact Or.inl (Or.inl (Or.inl (Or.inr (near_more h hn))))
    · exact Or.inl (Or.inl (Or.inr (near_more h hn)))
    · exact Or.inl (Or.inr (near_more h hn))
    · exact Or.inr hn

theorem in_parts {a b c d : Pt} (hi : (inP a && inP b && inP c && inP d) = true) : inP a = true ∧ inP b = true ∧ inP c = true ∧ inP d = true := by
  simp only [Bool.and_eq_true] at hi
  exact ⟨hi.1.1.1, hi.1.1.2, hi.1.2, hi.2⟩
/-- On it: it touches. -/
theorem touch_end {a b c d : Pt} (hi : (inP a && inP b && inP c && inP d) = true) (h : On a c d) : touches a b c d = true := by
  rw [touches_iff hi]
  unfold Tch
  rcases Decidable.em (cr (sb a b) (sb c d) = 0) with h0 | h0
  · exact Or.inr ⟨h0, Or.inl h⟩
  · refine Or.inl ?_
    have hcd : ¬ c = d := fun e => by
      subst e
      rw [sb_self] at h0
      simp [cr] at h0
    have hL := sb_pos hcd
    obtain ⟨h1, h2, h3⟩ := (on_iff hcd).1 h
    have ht : cr (sb a c) (sb c d) = 0 := by simp only [cr, sb] at h1 ⊢; grind
    have e : dt (sb c d) (sb c d) * cr (sb a c) (sb a b) = dt (sb c a) (sb c d) * cr (sb a b) (sb c d) := by
      simp only [cr, dt, sb] at h1 ⊢
      grind
    obtain ⟨D, hD⟩ : ∃ z, cr (sb a b) (sb c d) = z := ⟨_, rfl⟩
    obtain ⟨s, hs⟩ : ∃ z, cr (sb a c) (sb a b) = z := ⟨_, rfl⟩
    obtain ⟨q, hq⟩ : ∃ z, dt (sb c a) (sb c d) = z := ⟨_, rfl⟩
    obtain ⟨L, hL'⟩ : ∃ z, dt (sb c d) (sb c d) = z := ⟨_, rfl⟩
    rw [hD] at h0
    rw [hL'] at hL
    rw [hq] at h2
    rw [hq, hL'] at h3
    rw [hD, hs, hq, hL'] at e
    rw [ht, hD, hs]
    unfold In1
    rcases Int.lt_or_le D 0 with hn | hn
    · refine Or.inr ⟨hn, by omega, ?_, ?_⟩
      · refine le_of_mul hL ?_
        rw [e]
        have := Int.mul_le_mul_of_nonpos_right h3 (show D ≤ 0 by omega)
        exact this
      · have h5 : 0 ≤ L * -s := by
          rw [Int.mul_neg, e, ← Int.mul_neg]
          exact Int.mul_nonneg h2 (by omega)
        have := nn_of_mul hL h5
        omega
    · refine Or.inl ⟨by omega, by omega, ?_, ?_⟩
      · refine nn_of_mul hL ?_
        rw [e]
        exact Int.mul_nonneg h2 hn
      · refine le_of_mul hL ?_
        rw [e]
        exact Int.mul_le_mul_of_nonneg_right h3 hn
theorem near_zero {p a b : Pt} (h : near p a b 0 = true) : On p a b := by
  obtain ⟨_, _, h1 | h1⟩ := near_any2.1 h
  · omega
  · exact nearR_zero h1
theorem nearSeg_zero (a b c d : Pt) : nearSeg a b c d 0 = touches a b c d := by
  rcases seg_cases a b c d 0 with h | ⟨h0, hi⟩
  · rcases h with h | h
    · omega
    · rw [nearSeg_no (Or.inr h), touches_out h]
  · rw [nearSeg_in_eq h0 hi]
    refine bool_iff ?_
    simp only [Bool.or_eq_true]
    constructor
    · rintro ((((h | h) | h) | h) | h)
      · exact touch_end hi (near_zero h)
      · rw [← touches_back]
        exact touch_end (by rw [in_back]; exact hi) (near_zero h)
      · rw [← touches_swap]
        exact touch_end (by rw [in_swap]; exact hi) (near_zero h)
      · rw [← touches_swap, ← touches_back]
        exact touch_end (by rw [in_back, in_swap]; exact hi) (near_zero h)
      · exact h
    · exact fun h => Or.inr h

/-- A point is a segment of one point. -/
theorem near_point (a c d : Pt) (r : Int) : nearSeg a a c d r = near a c d r := by
  rcases seg_cases a a c d r with h | ⟨h0, hi⟩
  · rw [nearSeg_no h]
    cases hn : near a c d r with
    | false => rfl
    | true =>
      obtain ⟨h1, h2, _⟩ := near_any2.1 hn
      rcases h with h | h
      · omega
      · simp only [Bool.and_eq_true] at h2
        rw [h2.1.1, h2.1.2, h2.2] at h
        exact absurd h.symm Bool.false_ne_true
  · obtain ⟨ia, _, ic, id'⟩ := in_parts hi
    have hin : (inP a && inP c && inP d) = true := by rw [ia, ic, id']; rfl
    rw [nearSeg_in_eq h0 hi]
    refine bool_iff ?_
    simp only [Bool.or_eq_true]
    have fin : ∀ p q : Pt, (3037000498 ≤ r ∨ nearR q a a r = true) → (3037000498 ≤ r ∨ nearR a q p r = true) := fun p q h => by
      rcases h with h | h
      · exact Or.inl h
      · refine Or.inr (nearR_end ?_)
        rw [nearR_point, decide_eq_true_eq] at h
        rw [show dt (sb q a) (sb q a) = dt (sb a q) (sb a q) by simp only [dt, sb]; grind]
        exact h
    constructor
    · rintro ((((h | h) | h) | h) | h)
      · exact h
      · exact h
      · obtain ⟨_, _, h2⟩ := near_any2.1 h
        exact near_any2.2 ⟨h0, hin, fin d c h2⟩
      · obtain ⟨_, _, h2⟩ := near_any2.1 h
        rw [near_comm]
        exact near_any2.2 ⟨h0, by rw [ia, ic, id']; rfl, fin c d h2⟩
      · have h3 := h
        rw [← nearSeg_zero] at h3
        rw [nearSeg_in_eq (by decide) hi] at h3
        rw [touches_iff hi] at h
        unfold Tch at h
        have ho : On a c d := by
          rcases h with h | ⟨_, h | h | h | h⟩
          · unfold In1 at h
            rw [sb_self] at h
            simp [cr] at h
          · exact h
          · exact h
          · obtain rfl := on_same.1 h
            simp only [On, cr, dt, sb]
            constructor <;> simp
          · obtain rfl := on_same.1 h
            simp only [On, cr, dt, sb]
            constructor
            · grind
            · simp
        refine near_any2.2 ⟨h0, hin, ?_⟩
        refine Or.inr (near_le (Int.le_refl 0) h0 ?_)
        unfold nearR
        rcases Decidable.em (c = d) with hcd | hcd
        · subst hcd
          obtain rfl := on_same.1 ho
          simp [dt, sb]
        · obtain ⟨h1, h2, h4⟩ := (on_iff hcd).1 ho
          rcases Decidable.em (0 < dt (sb c a) (sb c d) ∧ dt (sb c a) (sb c d) < dt (sb c d) (sb c d)) with h5 | h5
          · rw [if_pos h5, h1, decide_eq_true_eq]
            simp
          · rw [if_neg h5]
            have hL := sb_pos hcd
            rcases Int.lt_or_le 0 (dt (sb c a) (sb c d)) with h6 | h6
            · rw [if_pos h6, decide_eq_true_eq]
              have e : dt (sb c d) (sb c d) * dt (sb d a) (sb d a) = (dt (sb c d) (sb c d) - dt (sb c a) (sb c d)) * (dt (sb c d) (sb c d) - dt (sb c a) (sb c d)) := by
                simp only [cr, dt, sb] at h1 ⊢; grind
              rw [show dt (sb c d) (sb c d) - dt (sb c a) (sb c d) = 0 by omega] at e
              rcases Int.mul_eq_zero.1 (e.trans (Int.zero_mul _)) with e | e
              · omega
              · rw [e]; decide
            · rw [if_neg (show ¬ 0 < dt (sb c a) (sb c d) by omega), decide_eq_true_eq]
              have e : dt (sb c d) (sb c d) * dt (sb c a) (sb c a) = dt (sb c a) (sb c d) * dt (sb c a) (sb c d) := by
                simp only [cr, dt, sb] at h1 ⊢; grind
              rw [show dt (sb c a) (sb c d) = 0 by omega] at e
              rcases Int.mul_eq_zero.1 (e.trans (Int.zero_mul _)) with e | e
              · omega
              · rw [e]; decide
    · exact fun h => Or.inl (Or.inl (Or.inl (Or.inl h)))

theorem near_far {a b c d : Pt} (hi : (inP a && inP b && inP c && inP d) = true) : near a c d 3037000498 = true ∧ nearSeg a b c d 3037000498 = true := by
  obtain ⟨ia, _, ic, id'⟩ := in_parts hi
  have h : near a c d 3037000498 = true := near_any2.2 ⟨by decide, by rw [ia, ic, id']; rfl, Or.inl (by decide)⟩
  refine ⟨h, ?_⟩
  rw [nearSeg_in_eq (by decide) hi, h]
  rfl

end Go.Proofs.Ythbndilnobjjgaa
