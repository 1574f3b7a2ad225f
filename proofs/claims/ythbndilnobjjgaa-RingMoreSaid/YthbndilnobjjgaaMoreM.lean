/-
  Plain: a point put in the midst of a side changes nothing: the ring stays whole, its one form and its area stay.
-/
import Derived.Test.YthbndilnobjjgaaNormM
import Derived.Test.YthbndilnobjjgaaSegR
namespace Go.Proofs.Ythbndilnobjjgaa

/-- m in the midst of a and b. -/
def Mid (a b m : Pt) : Prop := 2 * m.1 = a.1 + b.1 ∧ 2 * m.2 = a.2 + b.2
theorem mid_swap {a b m : Pt} (h : Mid a b m) : Mid b a m := ⟨by have := h.1; omega, by have := h.2; omega⟩
theorem mid_ne {a b m : Pt} (h : Mid a b m) (hab : ¬ a = b) : ¬ a = m := fun e => by
  subst e
  refine hab (Prod.ext ?_ ?_)
  · have := h.1; omega
  · have := h.2; omega
theorem mid_in {a b m : Pt} (h : Mid a b m) (ha : inP a = true) (hb : inP b = true) : inP m = true := by
  unfold inP at *
  rw [decide_eq_true_eq] at *
  have := h.1
  have := h.2
  omega
/-- By the two ways: e the half of the side, u to the point before it. -/
theorem mid_e {a b m : Pt} (h : Mid a b m) : b.1 = a.1 + 2 * (m.1 - a.1) ∧ b.2 = a.2 + 2 * (m.2 - a.2) := ⟨by have := h.1; omega, by have := h.2; omega⟩
/-- What the half meets, the whole meets. -/
theorem tch_half {a b m c d : Pt} (h : Mid a b m) (hab : ¬ a = b) (ht : Tch a m c d) : Tch a b c d := by
  have ham := mid_ne h hab
  have e := mid_e h
  obtain ⟨b1, b2⟩ := b
  obtain ⟨rfl, rfl⟩ : b1 = a.1 + 2 * (m.1 - a.1) ∧ b2 = a.2 + 2 * (m.2 - a.2) := e
  have k1 : cr (sb a (a.1 + 2 * (m.1 - a.1), a.2 + 2 * (m.2 - a.2))) (sb c d) = 2 * cr (sb a m) (sb c d) := by simp only [cr, sb]; grind
  have k2 : cr (sb a c) (sb a (a.1 + 2 * (m.1 - a.1), a.2 + 2 * (m.2 - a.2))) = 2 * cr (sb a c) (sb a m) := by simp only [cr, sb]; grind
  have k3 : cr (sb a (a.1 + 2 * (m.1 - a.1), a.2 + 2 * (m.2 - a.2))) (sb a c) = 2 * cr (sb a m) (sb a c) := by simp only [cr, sb]; grind
  have k4 : ∀ q : Pt, dt (sb a q) (sb a (a.1 + 2 * (m.1 - a.1), a.2 + 2 * (m.2 - a.2))) = 2 * dt (sb a q) (sb a m) := fun q => by simp only [dt, sb]; grind
  have k5 : dt (sb a (a.1 + 2 * (m.1 - a.1), a.2 + 2 * (m.2 - a.2))) (sb a (a.1 + 2 * (m.1 - a.1), a.2 + 2 * (m.2 - a.2))) = 4 * dt (sb a m) (sb a m) := by simp only [dt, sb]; grind
  have hE := sb_pos ham
  rcases ht with ht | ⟨h0, ht⟩
  · left
    unfold In1 at *
    rw [k1, k2]
    clear k1 k2 k3 k4 k5 hE
    omega
  · right
    refine ⟨by rw [k1, h0]; rfl, ?_⟩
    rcases Decidable.em (cr (sb a m) (sb a c) = 0) with h1 | h1
    · rw [line_iff ham h0 h1] at ht
      rw [line_iff hab (by rw [k1, h0]; rfl) (by rw [k3, h1]; rfl), k4, k4, k5]
      clear k1 k2 k3 k4 k5 h0 h1
      omega
    · exact absurd ht (off_line ham h0 h1)

theorem t6_zero {p a b : Pt} : t6 p a b = 0 ↔ cr (sb p a) (sb p b) = 0 := (t6_cr p a b).2.2
theorem foldF_iff {p a b : Pt} : foldF p a b = true ↔ cr (sb p a) (sb p b) = 0 ∧ (On p a b ∨ On b p a) := by
  unfold foldF
  rw [Bool.and_eq_true, decide_eq_true_eq, Bool.or_eq_true, t6_zero, onP_iff, onP_iff]
theorem fold_back (p a b : Pt) : foldF b a p = foldF p a b := by
  rw [Bool.eq_iff_iff, foldF_iff, foldF_iff]
  have e : cr (sb b a) (sb b p) = - cr (sb p a) (sb p b) := by simp only [cr, sb]; grind
  rw [e]
  constructor
  · rintro ⟨h, h1 | h1⟩
    · exact ⟨by omega, Or.inr (on_comm h1)⟩
    · exact ⟨by omega, Or.inl (on_comm h1)⟩
  · rintro ⟨h, h1 | h1⟩
    · exact ⟨by omega, Or.inr (on_comm h1)⟩
    · exact ⟨by omega, Or.inl (on_comm h1)⟩
theorem neg_of_sq {x U E : Int} (hE : 0 < E) (hx : x * x = U * E) (h1 : 2 * x < U) (h2 : x < 2 * E) : x < 0 := by
  rcases (show x < 0 ∨ 0 ≤ x by omega) with h | h
  · exact h
  exfalso
  have a1 := Int.mul_le_mul_of_nonneg_right (show 2 * x + 1 ≤ U by omega) (show 0 ≤ E by omega)
  have a2 := Int.mul_le_mul_of_nonneg_left (show x ≤ 2 * E - 1 by omega) h
  have e1 : (2 * x + 1) * E = 2 * (x * E) + E := by grind
  have e2 : x * (2 * E - 1) = 2 * (x * E) - x := by grind
  omega
/-- No fold: the point before lies on the far side. -/
theorem no_fold {p a b m : Pt} (h : Mid a b m) (hab : ¬ a = b) (hpa : ¬ p = a) (hf : foldF p a b = false) (h0 : cr (sb a m) (sb a p) = 0) : dt (sb a p) (sb a m) < 0 := by
  have ham := mid_ne h hab
  have e := mid_e h
  obtain ⟨b1, b2⟩ := b
  obtain ⟨rfl, rfl⟩ : b1 = a.1 + 2 * (m.1 - a.1) ∧ b2 = a.2 + 2 * (m.2 - a.2) := e
  have hn : ¬ (cr (sb p a) (sb p (a.1 + 2 * (m.1 - a.1), a.2 + 2 * (m.2 - a.2))) = 0 ∧ (On p a (a.1 + 2 * (m.1 - a.1), a.2 + 2 * (m.2 - a.2)) ∨ On (a.1 + 2 * (m.1 - a.1), a.2 + 2 * (m.2 - a.2)) p a)) := fun h => by
    rw [foldF_iff.2 h] at hf; cases hf
  have z : cr (sb p a) (sb p (a.1 + 2 * (m.1 - a.1), a.2 + 2 * (m.2 - a.2))) = 0 := by simp only [cr, sb] at h0 ⊢; grind
  have hE := sb_pos ham
  have hU := sb_pos (fun e => hpa e.symm : ¬ a = p)
  have sq : dt (sb a p) (sb a m) * dt (sb a p) (sb a m) = dt (sb a p) (sb a p) * dt (sb a m) (sb a m) := by
    have e : dt (sb a p) (sb a m) * dt (sb a p) (sb a m) = dt (sb a p) (sb a p) * dt (sb a m) (sb a m) - cr (sb a m) (sb a p) * cr (sb a m) (sb a p) := by simp only [cr, dt, sb]; grind
    rw [e, h0]; omega
  refine neg_of_sq hE sq ?_ ?_
  · refine Int.lt_of_not_ge fun hc => hn ⟨z, Or.inl ⟨by simp only [cr, sb] at h0 ⊢; grind, ?_⟩⟩
    have e : dt (sb a p) (sb p (a.1 + 2 * (m.1 - a.1), a.2 + 2 * (m.2 - a.2))) = 2 * dt (sb a p) (sb a m) - dt (sb a p) (sb a p) := by simp only [dt, sb]; grind
    omega
  · refine Int.lt_of_not_ge fun hc => hn ⟨z, Or.inr ⟨by simp only [cr, sb] at h0 ⊢; grind, ?_⟩⟩
    have e : dt (sb p (a.1 + 2 * (m.1 - a.1), a.2 + 2 * (m.2 - a.2))) (sb (a.1 + 2 * (m.1 - a.1), a.2 + 2 * (m.2 - a.2)) a) = 2 * dt (sb a p) (sb a m) - 4 * dt (sb a m) (sb a m) := by simp only [dt, sb]; grind
    omega
theorem fold_half {p a b m : Pt} (h : Mid a b m) (hab : ¬ a = b) (hpa : ¬ p = a) (hf : foldF p a b = false) : foldF p a m = false := by
  rw [Bool.eq_false_iff]
  intro hc
  obtain ⟨h0, hc⟩ := foldF_iff.1 hc
  have z : cr (sb a m) (sb a p) = 0 := by simp only [cr, sb] at h0 ⊢; grind
  have x := no_fold h hab hpa hf z
  have hE := sb_pos (mid_ne h hab)
  have hU := sb_pos (fun e => hpa e.symm : ¬ a = p)
  rcases hc with ⟨_, hc⟩ | ⟨_, hc⟩
  · have e : dt (sb a p) (sb p m) = dt (sb a p) (sb a m) - dt (sb a p) (sb a p) := by simp only [dt, sb]; grind
    omega
  · have e : dt (sb p m) (sb m a) = dt (sb a p) (sb a m) - dt (sb a m) (sb a m) := by simp only [dt, sb]; grind
    omega
theorem fold_mid {a b m : Pt} (h : Mid a b m) (hab : ¬ a = b) : foldF a m b = false := by
  rw [Bool.eq_false_iff]
  intro hc
  obtain ⟨_, hc⟩ := foldF_iff.1 hc
  have hE := sb_pos (mid_ne h hab)
  have e := mid_e h
  obtain ⟨b1, b2⟩ := b
  obtain ⟨rfl, rfl⟩ : b1 = a.1 + 2 * (m.1 - a.1) ∧ b2 = a.2 + 2 * (m.2 - a.2) := e
  rcases hc with ⟨_, hc⟩ | ⟨_, hc⟩
  · have e : dt (sb m a) (sb a (a.1 + 2 * (m.1 - a.1), a.2 + 2 * (m.2 - a.2))) = - (2 * dt (sb a m) (sb a m)) := by simp only [dt, sb]; grind
    omega
  · have e : dt (sb a (a.1 + 2 * (m.1 - a.1), a.2 + 2 * (m.2 - a.2))) (sb (a.1 + 2 * (m.1 - a.1), a.2 + 2 * (m.2 - a.2)) m) = - (2 * dt (sb a m) (sb a m)) := by simp only [dt, sb]; grind
    omega
/-- The half beyond the midst does not meet the side before. -/
theorem tch_far {p a b m : Pt} (h : Mid a b m) (hab : ¬ a = b) (hpa : ¬ p = a) (hf : foldF p a b = false) : ¬ Tch m b p a := by
  have nf := no_fold h hab hpa hf
  have hE := sb_pos (mid_ne h hab)
  have hmb : ¬ m = b := fun e => mid_ne (mid_swap h) (fun e => hab e.symm) e.symm
  have e := mid_e h
  obtain ⟨b1, b2⟩ := b
  obtain ⟨rfl, rfl⟩ : b1 = a.1 + 2 * (m.1 - a.1) ∧ b2 = a.2 + 2 * (m.2 - a.2) := e
  have k1 : cr (sb m (a.1 + 2 * (m.1 - a.1), a.2 + 2 * (m.2 - a.2))) (sb p a) = - cr (sb a m) (sb a p) := by simp only [cr, sb]; grind
  have k2 : cr (sb m p) (sb p a) = cr (sb a m) (sb a p) := by simp only [cr, sb]; grind
  have k3 : cr (sb m (a.1 + 2 * (m.1 - a.1), a.2 + 2 * (m.2 - a.2))) (sb m p) = cr (sb a m) (sb a p) := by simp only [cr, sb]; grind
  have k4 : dt (sb m p) (sb m (a.1 + 2 * (m.1 - a.1), a.2 + 2 * (m.2 - a.2))) = dt (sb a p) (sb a m) - dt (sb a m) (sb a m) := by simp only [dt, sb]; grind
  have k5 : dt (sb m a) (sb m (a.1 + 2 * (m.1 - a.1), a.2 + 2 * (m.2 - a.2))) = - dt (sb a m) (sb a m) := by simp only [dt, sb]; grind
  rintro (ht | ⟨h0, ht⟩)
  · unfold In1 at ht
    rw [k1, k2] at ht
    clear k1 k2 k3 k4 k5 nf
    omega
  · rw [k1] at h0
    have h0' : cr (sb a m) (sb a p) = 0 := by omega
    have x := nf h0'
    rw [line_iff hmb (by rw [k1]; exact h0) (by rw [k3]; exact h0'), k4, k5] at ht
    clear k1 k2 k3 k4 k5 nf
    omega

theorem in4 {a b c d : Pt} (h : ¬ (inP a && inP b && inP c && inP d) = true) : touches a b c d = false := touches_out (Bool.eq_false_iff.2 h)
theorem t_half {a b m c d : Pt} (h : Mid a b m) (hab : ¬ a = b) (hb : inP b = true) (ht : touches a b c d = false) : touches a m c d = false := by
  rcases Decidable.em ((inP a && inP m && inP c && inP d) = true) with hi | hi
  · rw [Bool.eq_false_iff] at ht ⊢
    refine fun hc => ht ((touches_iff ?_).2 (tch_half h hab ((touches_iff hi).1 hc)))
    simp only [Bool.and_eq_true] at hi ⊢
    exact ⟨⟨⟨hi.1.1.1, hb⟩, hi.1.2⟩, hi.2⟩
  · exact in4 hi
theorem t_half2 {a b m c d : Pt} (h : Mid a b m) (hab : ¬ a = b) (ha : inP a = true) (ht : touches a b c d = false) : touches m b c d = false := by
  rw [← touches_back]
  exact t_half (mid_swap h) (fun e => hab e.symm) ha (by rw [touches_back]; exact ht)
theorem t_far {p a b m : Pt} (h : Mid a b m) (hab : ¬ a = b) (hpa : ¬ p = a) (hf : foldF p a b = false) : touches m b p a = false := by
  rcases Decidable.em ((inP m && inP b && inP p && inP a) = true) with hi | hi
  · rw [Bool.eq_false_iff]
    exact fun hc => tch_far h hab hpa hf ((touches_iff hi).1 hc)
  · exact in4 hi
theorem t_far2 {a b m q : Pt} (h : Mid a b m) (hab : ¬ a = b) (hbq : ¬ b = q) (hf : foldF a b q = false) : touches a m b q = false := by
  have := t_far (p := q) (mid_swap h) (fun e => hab e.symm) (fun e => hbq e.symm) (by rw [fold_back]; exact hf)
  rw [touches_back, touches_swap, touches_back, touches_swap] at this
  exact this

/-- The next point. -/
def nx (ps : List Pt) (k : Nat) : Pt := gp ps ((k + 1) % ps.length)
def PF (ps : List Pt) (i j : Nat) : Prop :=
  (j = i + 1 → foldF (gp ps i) (nx ps i) (nx ps j) = false) ∧ (¬ j = i + 1 → (i = 0 ∧ j = ps.length - 1) → foldF (gp ps j) (nx ps j) (nx ps i) = false) ∧
    (¬ j = i + 1 → ¬ (i = 0 ∧ j = ps.length - 1) → touches (gp ps i) (nx ps i) (gp ps j) (nx ps j) = false)
theorem pf_iff {ps : List Pt} {i j : Nat} : pairF ps i j = 0 ↔ PF ps i j := by
  have e : ∀ (t : Bool) (z : Int), z ≠ 0 → ((if t = true then z else 0) = 0 ↔ t = false) := fun t z hz => by
    cases t
    · exact ⟨fun _ => rfl, fun _ => rfl⟩
    · exact ⟨fun h => absurd h hz, fun h => by cases h⟩
  show (if j = i + 1 then (if foldF (gp ps i) (nx ps i) (nx ps j) = true then (63 : Int) else 0) else if i = 0 ∧ j = ps.length - 1 then (if foldF (gp ps j) (nx ps j) (nx ps i) = true then 63 else 0) else if touches (gp ps i) (nx ps i) (gp ps j) (nx ps j) = true then 64 else 0) = 0 ↔ _
  unfold PF
  rcases Decidable.em (j = i + 1) with h1 | h1
  · rw [if_pos h1, e _ _ (by decide)]
    exact ⟨fun h => ⟨fun _ => h, fun k => absurd h1 k, fun k => absurd h1 k⟩, fun h => h.1 h1⟩
  · rw [if_neg h1]
    rcases Decidable.em (i = 0 ∧ j = ps.length - 1) with h2 | h2
    · rw [if_pos h2, e _ _ (by decide)]
      exact ⟨fun h => ⟨fun k => absurd k h1, fun _ _ => h, fun _ k => absurd h2 k⟩, fun h => h.2.1 h1 h2⟩
    · rw [if_neg h2, e _ _ (by decide)]
      exact ⟨fun h => ⟨fun k => absurd k h1, fun _ k => absurd k h2, fun _ _ => h⟩, fun h => h.2.2 h1 h2⟩

/-- w is v with m put in behind its q-th point. -/
structure Ins (v w : List Pt) (n q : Nat) (m : Pt) : Prop where
  n3 : 3 ≤ n
  qn : q < n
  vl : v.length = n
  wl : w.length = n + 1
  g1 : ∀ k, k ≤ q → gp w k = gp v k
  g2 : gp w (q + 1) = m
  g3 : ∀ k, q + 1 < k → k ≤ n → gp w k = gp v (k - 1)
  mid : Mid (gp v q) (nx v q) m
theorem nx_lt {ps : List Pt} {k : Nat} (h : k + 1 < ps.length) : nx ps k = gp ps (k + 1) := by unfold nx; rw [Nat.mod_eq_of_lt h]
theorem nx_last {ps : List Pt} {k : Nat} (h : k + 1 = ps.length) : nx ps k = gp ps 0 := by unfold nx; rw [h, Nat.mod_self]
namespace Ins
variable {v w : List Pt} {n q : Nat} {m : Pt}
theorem n1 (I : Ins v w n q m) {k : Nat} (h : k < q) : nx w k = nx v k := by
  have := I.qn
  rw [nx_lt (by rw [I.wl]; omega), nx_lt (by rw [I.vl]; omega), I.g1 _ (by omega)]
theorem n2 (I : Ins v w n q m) : nx w q = m := by
  have := I.qn
  rw [nx_lt (by rw [I.wl]; omega), I.g2]
theorem n3' (I : Ins v w n q m) : nx w (q + 1) = nx v q := by
  have := I.qn
  rcases Decidable.em (q + 1 = n) with h | h
  · rw [nx_last (by rw [I.wl]; omega), nx_last (by rw [I.vl]; omega), I.g1 _ (Nat.zero_le _)]
  · rw [nx_lt (by rw [I.wl]; omega), nx_lt (by rw [I.vl]; omega), I.g3 _ (by omega) (by omega)]
    rfl
theorem n4 (I : Ins v w n q m) {k : Nat} (h : q + 1 < k) (hk : k ≤ n) : nx w k = nx v (k - 1) := by
  rcases Decidable.em (k = n) with h1 | h1
  · rw [nx_last (by rw [I.wl]; omega), nx_last (by rw [I.vl]; omega), I.g1 _ (Nat.zero_le _)]
  · rw [nx_lt (by rw [I.wl]; omega), nx_lt (by rw [I.vl]; omega), I.g3 _ (by omega) (by omega)]
    rw [show k + 1 - 1 = k - 1 + 1 by omega]
theorem pairs (I : Ins v w n q m) (hin : ∀ k, k < n → inP (gp v k) = true) (hd : ∀ k, k < n → ¬ gp v k = nx v k) (hv : ∀ i j, i < j → j < n → PF v i j) : ∀ i j, i < j → j < n + 1 → PF w i j := by
  intro i j hij hj
  have hq := I.qn
  have h3 := I.n3
  have hm := I.mid
  have hab := hd q hq
  have ha := hin q hq
  have hb : inP (nx v q) = true := hin _ (by rw [I.vl]; exact Nat.mod_lt _ (by omega))
  unfold PF
  rw [I.wl]
  rcases Nat.lt_trichotomy j q with c | rfl | c
  · have pv := hv i j hij (by omega)
    unfold PF at pv
    rw [I.vl] at pv
    rw [I.g1 i (by omega), I.g1 j (by omega), I.n1 (by omega : i < q), I.n1 c]
    exact ⟨pv.1, fun _ h => by omega, fun h _ => pv.2.2 h (by omega)⟩
  · have pv := hv i j hij hq
    unfold PF at pv
    rw [I.vl] at pv
    have di := hd i (by omega)
    rw [I.g1 i (by omega), I.g1 j (by omega), I.n1 hij, I.n2]
    refine ⟨fun h => ?_, fun _ h => by omega, fun h _ => ?_⟩
    · have e : nx v i = gp v j := by rw [nx_lt (by rw [I.vl]; omega), h]
      have p := pv.1 h
      rw [e] at p di ⊢
      exact fold_half hm hab di p
    · rcases Decidable.em (i = 0 ∧ j = n - 1) with c2 | c2
      · have e : nx v j = gp v i := by rw [nx_last (by rw [I.vl]; omega), c2.1]
        have p := pv.2.1 h c2
        rw [e] at p hab hm
        rw [← touches_swap]
        exact t_far2 hm hab di p
      · rw [← touches_swap]
        exact t_half hm hab hb (by rw [touches_swap]; exact pv.2.2 h c2)
  rcases Nat.lt_trichotomy j (q + 1) with c1 | rfl | c1
  · omega
  · rcases Nat.lt_trichotomy i q with d | rfl | d
    · have pv := hv i q d hq
      unfold PF at pv
      rw [I.vl] at pv
      have di := hd i (by omega)
      rw [I.g1 i (by omega), I.g2, I.n1 d, I.n3']
      refine ⟨fun h => by omega, fun h h2 => ?_, fun h h2 => ?_⟩
      · have e : nx v q = gp v i := by rw [nx_last (by rw [I.vl]; omega), h2.1]
        have p := pv.2.1 (by omega) (by omega)
        rw [e] at p hab hm ⊢
        rw [← fold_back]
        exact fold_half (mid_swap hm) (fun e => hab e.symm) (fun e => di e.symm) (by rw [fold_back]; exact p)
      · rcases Decidable.em (q = i + 1) with c2 | c2
        · have e : nx v i = gp v q := by rw [nx_lt (by rw [I.vl]; omega), c2]
          have p := pv.1 c2
          rw [e] at p di ⊢
          rw [← touches_swap]
          exact t_far hm hab di p
        · rw [← touches_swap]
          exact t_half2 hm hab ha (by rw [touches_swap]; exact pv.2.2 c2 (by omega))
    · rw [I.g1 i (by omega), I.g2, I.n2, I.n3']
      exact ⟨fun _ => fold_mid hm hab, fun h => by omega, fun h => by omega⟩
    · omega
  · rw [I.g3 j c1 (by omega), I.n4 c1 (by omega)]
    have dj := hd (j - 1) (by omega)
    rcases Nat.lt_trichotomy i q with d | rfl | d
    · have pv := hv i (j - 1) (by omega) (by omega)
      unfold PF at pv
      rw [I.vl] at pv
      rw [I.g1 i (by omega), I.n1 d]
      exact ⟨fun h => by omega, fun _ h => pv.2.1 (by omega) (by omega), fun _ h => pv.2.2 (by omega) (by omega)⟩
    · have pv := hv i (j - 1) (by omega) (by omega)
      unfold PF at pv
      rw [I.vl] at pv
      rw [I.g1 i (by omega), I.n2]
      refine ⟨fun h => by omega, fun _ h => ?_, fun h h2 => ?_⟩
      · have e : nx v (j - 1) = gp v i := by rw [nx_last (by rw [I.vl]; omega), h.1]
        have p := pv.2.1 (by omega) (by omega)
        rw [e] at p dj ⊢
        exact fold_half hm hab dj p
      · rcases Decidable.em (j - 1 = i + 1) with c2 | c2
        · have e : nx v i = gp v (j - 1) := by rw [nx_lt (by rw [I.vl]; omega), c2]
          have p := pv.1 c2
          rw [e] at p hab hm
          exact t_far2 hm hab dj p
        · exact t_half hm hab hb (pv.2.2 c2 (by omega))
    · rcases Nat.lt_trichotomy i (q + 1) with d1 | rfl | d1
      · omega
      · have pv := hv q (j - 1) (by omega) (by omega)
        unfold PF at pv
        rw [I.vl] at pv
        rw [I.g2, I.n3']
        refine ⟨fun h => ?_, fun _ h => by omega, fun h _ => ?_⟩
        · have e : nx v q = gp v (j - 1) := by rw [nx_lt (by rw [I.vl]; omega)]; congr 1; omega
          have p := pv.1 (by omega)
          rw [e] at p hab hm ⊢
          rw [← fold_back]
          exact fold_half (mid_swap hm) (fun e => hab e.symm) (fun e => dj e.symm) (by rw [fold_back]; exact p)
        · rcases Decidable.em (q = 0 ∧ j - 1 = n - 1) with c2 | c2
          · have e : nx v (j - 1) = gp v q := by rw [nx_last (by rw [I.vl]; omega), c2.1]
            have p := pv.2.1 (by omega) c2
            rw [e] at p dj ⊢
            exact t_far hm hab dj p
          · exact t_half2 hm hab ha (pv.2.2 (by omega) c2)
      · have pv := hv (i - 1) (j - 1) (by omega) (by omega)
        unfold PF at pv
        rw [I.vl] at pv
        rw [I.g3 i d1 (by omega), I.n4 d1 (by omega)]
        exact ⟨fun h => pv.1 (by omega), fun _ h => by omega, fun h _ => pv.2.2 (by omega) (by omega)⟩
end Ins

end Go.Proofs.Ythbndilnobjjgaa
