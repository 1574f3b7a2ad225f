/-
  Plain: a pair of points as far apart as any two; both are corners of the hull.
-/
import Derived.Test.YtcpojadinkonnaaAroundM
namespace Go.Proofs.Ytcpojadinkonnaa
open Go.RowKit

def sqd (p q : Pt) : Int := (q.1 - p.1) * (q.1 - p.1) + (q.2 - p.2) * (q.2 - p.2)
theorem sqd_comm (p q : Pt) : sqd p q = sqd q p := by unfold sqd; grind
def stepF (ps : List Pt) (a b : Nat) (s : Nat × Nat × Int) : Nat × Nat × Int := if s.2.2 < sqd (gp ps a) (gp ps b) then (a, b, sqd (gp ps a) (gp ps b)) else s
def inF (ps : List Pt) (a : Nat) : Nat → Nat × Nat × Int → Nat × Nat × Int
  | 0, s => s
  | k + 1, s => stepF ps a (a + 1 + k) (inF ps a k s)
def outF (ps : List Pt) : Nat → Nat × Nat × Int
  | 0 => (0, 0, -1)
  | a + 1 => inF ps a (ps.length - (a + 1)) (outF ps a)

def Fit (ps : List Pt) (s : Nat × Nat × Int) : Prop := s = (0, 0, -1) ∨ (s.1 < s.2.1 ∧ s.2.1 < ps.length ∧ s.2.2 = sqd (gp ps s.1) (gp ps s.2.1))
theorem step_fit {ps : List Pt} {a b : Nat} {s : Nat × Nat × Int} (h : Fit ps s) (hab : a < b) (hb : b < ps.length) : Fit ps (stepF ps a b s) ∧ s.2.2 ≤ (stepF ps a b s).2.2 ∧ sqd (gp ps a) (gp ps b) ≤ (stepF ps a b s).2.2 := by
  unfold stepF
  split
  · exact ⟨.inr ⟨hab, hb, rfl⟩, by dsimp only; omega, Int.le_refl _⟩
  · exact ⟨h, Int.le_refl _, by omega⟩
theorem in_fit {ps : List Pt} {a : Nat} {s : Nat × Nat × Int} (h : Fit ps s) : ∀ k, a + k < ps.length → Fit ps (inF ps a k s) ∧ s.2.2 ≤ (inF ps a k s).2.2 ∧ ∀ t, t < k → sqd (gp ps a) (gp ps (a + 1 + t)) ≤ (inF ps a k s).2.2
  | 0, _ => ⟨h, Int.le_refl _, fun t ht => by omega⟩
  | k + 1, hk => by
    obtain ⟨h1, h2, h3⟩ := in_fit (a := a) h k (by omega)
    obtain ⟨g1, g2, g3⟩ := step_fit (a := a) (b := a + 1 + k) h1 (by omega) (by omega)
    refine ⟨g1, Int.le_trans h2 g2, fun t ht => ?_⟩
    rcases Nat.lt_or_ge t k with h4 | h4
    · exact Int.le_trans (h3 t h4) g2
    · rw [show t = k by omega]; exact g3
theorem out_fit (ps : List Pt) : ∀ a, a ≤ ps.length → Fit ps (outF ps a) ∧ ∀ x y, x < a → x < y → y < ps.length → sqd (gp ps x) (gp ps y) ≤ (outF ps a).2.2
  | 0, _ => ⟨.inl rfl, fun x y h => by omega⟩
  | a + 1, ha => by
    obtain ⟨h1, h2⟩ := out_fit ps a (by omega)
    obtain ⟨g1, g2, g3⟩ := in_fit (a := a) h1 (ps.length - (a + 1)) (by omega)
    refine ⟨g1, fun x y hx hxy hy => ?_⟩
    rcases Nat.lt_or_ge x a with h3 | h3
    · exact Int.le_trans (h2 x y h3 hxy hy) g2
    · obtain rfl : x = a := by omega
      have := g3 (y - (x + 1)) (by omega)
      rwa [show x + 1 + (y - (x + 1)) = y by omega] at this
theorem sqd_nn (p q : Pt) : 0 ≤ sqd p q := by
  unfold sqd
  have h1 := sq_nonneg (q.1 - p.1)
  have h2 := sq_nonneg (q.2 - p.2)
  omega
theorem sq_pos {a : Int} (h : a ≠ 0) : 0 < a * a := by
  rcases Int.lt_or_gt_of_ne h with h1 | h1
  · exact Int.mul_pos_of_neg_of_neg h1 h1
  · exact Int.mul_pos h1 h1
theorem sqd_pos {p q : Pt} (h : p ≠ q) : 0 < sqd p q := by
  unfold sqd
  have h1 := sq_nonneg (q.1 - p.1)
  have h2 := sq_nonneg (q.2 - p.2)
  by_cases h3 : q.1 - p.1 = 0
  · have h4 : q.2 - p.2 ≠ 0 := fun e => h (Prod.ext (by omega) (by omega))
    have := sq_pos h4
    omega
  · have := sq_pos h3
    omega
/-- The pair that is found: as far apart as any two. -/
theorem far_max {ps : List Pt} (h2 : 2 ≤ ps.length) : (outF ps ps.length).1 < (outF ps ps.length).2.1 ∧ (outF ps ps.length).2.1 < ps.length ∧ ∀ x y, x < ps.length → y < ps.length → sqd (gp ps x) (gp ps y) ≤ sqd (gp ps (outF ps ps.length).1) (gp ps (outF ps ps.length).2.1) := by
  obtain ⟨h, hm⟩ := out_fit ps ps.length (Nat.le_refl _)
  have h01 := hm 0 1 (by omega) (by omega) (by omega)
  have hnn := sqd_nn (gp ps 0) (gp ps 1)
  rcases h with h | ⟨h3, h4, h5⟩
  · rw [h] at h01
    dsimp only at h01
    omega
  · refine ⟨h3, h4, fun x y hx hy => ?_⟩
    rw [← h5]
    rcases Nat.lt_trichotomy x y with k | k | k
    · exact hm x y hx k hy
    · subst k
      have : sqd (gp ps x) (gp ps x) = 0 := by unfold sqd; grind
      omega
    · rw [sqd_comm]; exact hm y x hy k hx

theorem neg_of {a e : Int} (ha : a < 0) (h : 0 ≤ a * e) : e ≤ 0 := by
  rcases Int.lt_or_le 0 e with h1 | h1
  · have := Int.mul_neg_of_neg_of_pos ha h1
    omega
  · exact h1
/-- Within an open half plane the turns go on. -/
theorem half_trans {u1 u2 v1 v2 w1 w2 d1 d2 : Int} (hu : u1 * d1 + u2 * d2 < 0) (hv : v1 * d1 + v2 * d2 < 0) (hw : w1 * d1 + w2 * d2 < 0) (h1 : 0 ≤ cx u1 u2 v1 v2) (h2 : 0 ≤ cx v1 v2 w1 w2) : 0 ≤ cx u1 u2 w1 w2 := by
  have e : cx u1 u2 w1 w2 * -(v1 * d1 + v2 * d2) = cx u1 u2 v1 v2 * -(w1 * d1 + w2 * d2) + cx v1 v2 w1 w2 * -(u1 * d1 + u2 * d2) := by unfold cx; grind
  refine nonneg_of (v := -(v1 * d1 + v2 * d2)) ?_ (by omega)
  rw [e]
  exact Int.add_nonneg (Int.mul_nonneg h1 (by omega)) (Int.mul_nonneg h2 (by omega))
theorem opposite {u1 u2 v1 v2 d1 d2 : Int} (ha : u1 * v1 ≤ 0) (hc : u2 * v2 ≤ 0) (h0 : cx u1 u2 v1 v2 = 0) (hu : u1 * d1 + u2 * d2 < 0) (hv : v1 * d1 + v2 * d2 < 0) : False := by
  have hp := Int.mul_pos_of_neg_of_neg hu hv
  have hb : u1 * v2 = u2 * v1 := by unfold cx at h0; omega
  have e : (u1 * d1 + u2 * d2) * (v1 * d1 + v2 * d2) = (u1 * v1) * (d1 * d1) + 2 * (u1 * v2) * (d1 * d2) + (u2 * v2) * (d2 * d2) := by grind
  rw [e] at hp
  obtain ⟨a, hae⟩ : ∃ a, u1 * v1 = a := ⟨_, rfl⟩
  obtain ⟨b, hbe⟩ : ∃ a, u1 * v2 = a := ⟨_, rfl⟩
  obtain ⟨c, hce⟩ : ∃ a, u2 * v2 = a := ⟨_, rfl⟩
  have hac : b * b = a * c := by
    rw [← hae, ← hbe, ← hce]
    have : u1 * v2 * (u1 * v2) = u1 * v2 * (u2 * v1) := by rw [← hb]
    rw [this]; grind
  rw [hae, hbe, hce] at hp
  rw [hae] at ha
  rw [hce] at hc
  rcases Int.lt_or_le a 0 with h1 | h1
  · have k : a * (a * (d1 * d1) + 2 * b * (d1 * d2) + c * (d2 * d2)) = (a * d1 + b * d2) * (a * d1 + b * d2) := by
      have : (a * d1 + b * d2) * (a * d1 + b * d2) = a * a * (d1 * d1) + 2 * a * b * (d1 * d2) + b * b * (d2 * d2) := by grind
      rw [this, hac]; grind
    have := neg_of h1 (by rw [k]; exact sq_nonneg _)
    omega
  · have a0 : a = 0 := by omega
    rw [a0, Int.zero_mul] at hac
    have b0 : b = 0 := by
      rcases Int.mul_eq_zero.1 hac with h | h <;> exact h
    rw [a0, b0] at hp
    have := Int.mul_nonneg (show 0 ≤ -c by omega) (sq_nonneg d2)
    have k : -c * (d2 * d2) = -(c * (d2 * d2)) := by grind
    rw [k] at this
    simp at hp
    omega

/-- A point that no other one is as far from some point of the row is a corner. -/
theorem far_corner (ps : List Pt) {P Q : Pt} (hP : P ∈ ps) (_hne : P ≠ Q) (hmax : ∀ x ∈ ps, sqd x Q ≤ sqd P Q) : P ∈ hullL ps := by
  obtain ⟨l, ha, hm, ⟨_, e⟩ | ⟨_, HI, h2⟩⟩ := hullL_is ps
  · rw [e]; exact (hm P).2 hP
  · obtain ⟨H, hH⟩ : ∃ H, hullL ps = H := ⟨_, rfl⟩
    rw [hH] at HI h2 ⊢
    refine Classical.byContradiction fun hn => ?_
    have hPl : P ∈ l := (hm P).2 hP
    have hg : ∀ x ∈ H, (x.1 - P.1) * (P.1 - Q.1) + (x.2 - P.2) * (P.2 - Q.2) < 0 := fun x hx => by
      have h1 := hmax x ((hm x).1 (HI.mem x hx))
      have h3 := sqd_pos (p := P) (q := x) (fun e => hn (e ▸ hx))
      have e : sqd x Q = sqd P x + 2 * ((x.1 - P.1) * (P.1 - Q.1) + (x.2 - P.2) * (P.2 - Q.2)) + sqd P Q := by unfold sqd; grind
      omega
    have hedge : ∀ k, k < H.length → 0 ≤ cx ((gp H k).1 - P.1) ((gp H k).2 - P.2) ((gp H ((k + 1) % H.length)).1 - P.1) ((gp H ((k + 1) % H.length)).2 - P.2) := fun k hk => by
      have h1 := (((fol_iff _ _ _).1 (walk_at HI hk)).2 P hPl).1
      have h3 := cr_ge h1
      have e : cr (gp H k) (gp H ((k + 1) % H.length)) P = cx ((gp H k).1 - P.1) ((gp H k).2 - P.2) ((gp H ((k + 1) % H.length)).1 - P.1) ((gp H ((k + 1) % H.length)).2 - P.2) := by unfold cr cx; grind
      omega
    have key : ∀ k, 1 ≤ k → k < H.length → 0 ≤ cx ((gp H 1).1 - P.1) ((gp H 1).2 - P.2) ((gp H k).1 - P.1) ((gp H k).2 - P.2) := by
      intro k
      induction k with
      | zero => intro h; omega
      | succ k ih =>
        intro _ hk
        rcases Nat.eq_zero_or_pos k with h0 | h0
        · subst h0
          have : cx ((gp H 1).1 - P.1) ((gp H 1).2 - P.2) ((gp H (0 + 1)).1 - P.1) ((gp H (0 + 1)).2 - P.2) = 0 := by unfold cx; grind
          omega
        · have h1 := ih h0 (by omega)
          have h3 := hedge k (by omega)
          rw [Nat.mod_eq_of_lt hk] at h3
          exact half_trans (hg _ (gp_mem (by omega))) (hg _ (gp_mem (by omega))) (hg _ (gp_mem hk)) h1 h3
    have hlast := hedge (H.length - 1) (by omega)
    rw [show H.length - 1 + 1 = H.length by omega, Nat.mod_self] at hlast
    have h10 : 0 ≤ cx ((gp H 1).1 - P.1) ((gp H 1).2 - P.2) ((gp H 0).1 - P.1) ((gp H 0).2 - P.2) :=
      half_trans (hg _ (gp_mem (by omega))) (hg _ (gp_mem (by omega))) (hg _ (gp_mem (by omega))) (key (H.length - 1) (by omega) (by omega)) hlast
    have h01 := hedge 0 (by omega)
    rw [Nat.zero_add, Nat.mod_eq_of_lt (by omega)] at h01
    rw [cx_neg] at h10
    have hz : cx ((gp H 0).1 - P.1) ((gp H 0).2 - P.2) ((gp H 1).1 - P.1) ((gp H 1).2 - P.2) = 0 := by omega
    have hw := walk_at HI (i := 0) (by omega)
    rw [Nat.zero_add, Nat.mod_eq_of_lt (by omega)] at hw
    have hcr : cr (gp H 0) (gp H 1) P = 0 := by
      rw [← hz]; unfold cr cx; grind
    rcases (((fol_iff _ _ _).1 hw).2 P hPl).2 ((tr_zero _ _ _).2 hcr) with h3 | h3
    · exact hn (h3 ▸ gp_mem (by omega))
    · obtain ⟨b1, b2⟩ := on_back h3
      have m1 : ((gp H 0).1 - P.1) * ((gp H 1).1 - P.1) ≤ 0 := by
        rcases b1 with b1 | b1
        · exact Int.mul_nonpos_of_nonpos_of_nonneg (by omega) (by omega)
        · exact Int.mul_nonpos_of_nonneg_of_nonpos (by omega) (by omega)
      have m2 : ((gp H 0).2 - P.2) * ((gp H 1).2 - P.2) ≤ 0 := by
        rcases b2 with b2 | b2
        · exact Int.mul_nonpos_of_nonpos_of_nonneg (by omega) (by omega)
        · exact Int.mul_nonpos_of_nonneg_of_nonpos (by omega) (by omega)
      exact opposite m1 m2 hz (hg _ (gp_mem (by omega))) (hg _ (gp_mem (by omega)))

end Go.Proofs.Ytcpojadinkonnaa
