/-
  Plain: a point put in the midst of a side changes nothing: the ring stays whole, its one form and its area stay.
  Plain: the points of a whole ring are distinct; the one form begun at the one least point, gone round the other way.
  The document's Normal: less.
  The document's Normal: what follows its first loop. Printed by wip/tools/gen_norm6.py.
  The document's Normal.
  The document's Convex.
-/
import Derived.Test.YthbndilnobjjgaaNormM
import Derived.Test.YthbndilnobjjgaaSegR
import Derived.Test.YthbndilnobjjgaaNormP
import Derived.Test.YthbndilnobjjgaaArea6
namespace Go.Proofs.Ythbndilnobjjgaa
section
/-- m in the midst of a and b. -/
def Mid (a b m : Pt) : Prop := 2 * m.1 = a.1 + b.1 ∧ 2 * m.2 = a.2 + b.2
theorem mid_swap {a b m : Pt} (h : Mid a b m) : Mid b a m := ⟨by have := h.1; omega, by have := h.2; omega⟩
theorem mid_ne {a b m : Pt} (h : Mid a b m) (hab : ¬ a = b) : ¬ a = m := fun e => by
  subst e
  refine hab (Prod.ext ?_ ?_)
  · have := h.1; omega
  · have := h.2; omega
theorem mid_in {a b m : Pt} (h : Mid a b m) (ha : inP a = true) (hb : inP b = true) : inP m = true := by
  unfold inP at *
  rw [decide_eq_true_eq] at *
  have := h.1
  have := h.2
  omega
/-- By the two ways: e the half of the side, u to the point before it. -/
theorem mid_e {a b m : Pt} (h : Mid a b m) : b.1 = a.1 + 2 * (m.1 - a.1) ∧ b.2 = a.2 + 2 * (m.2 - a.2) := ⟨by have := h.1; omega, by have := h.2; omega⟩
/-- What the half meets, the whole meets. -/
theorem tch_half {a b m c d : Pt} (h : Mid a b m) (hab : ¬ a = b) (ht : Tch a m c d) : Tch a b c d := by
  have ham := mid_ne h hab
  have e := mid_e h
  obtain ⟨b1, b2⟩ := b
  obtain ⟨rfl, rfl⟩ : b1 = a.1 + 2 * (m.1 - a.1) ∧ b2 = a.2 + 2 * (m.2 - a.2) := e
  have k1 : cr (sb a (a.1 + 2 * (m.1 - a.1), a.2 + 2 * (m.2 - a.2))) (sb c d) = 2 * cr (sb a m) (sb c d) := by simp only [cr, sb]; grind
  have k2 : cr (sb a c) (sb a (a.1 + 2 * (m.1 - a.1), a.2 + 2 * (m.2 - a.2))) = 2 * cr (sb a c) (sb a m) := by simp only [cr, sb]; grind
  have k3 : cr (sb a (a.1 + 2 * (m.1 - a.1), a.2 + 2 * (m.2 - a.2))) (sb a c) = 2 * cr (sb a m) (sb a c) := by simp only [cr, sb]; grind
  have k4 : ∀ q : Pt, dt (sb a q) (sb a (a.1 + 2 * (m.1 - a.1), a.2 + 2 * (m.2 - a.2))) = 2 * dt (sb a q) (sb a m) := fun q => by simp only [dt, sb]; grind
  have k5 : dt (sb a (a.1 + 2 * (m.1 - a.1), a.2 + 2 * (m.2 - a.2))) (sb a (a.1 + 2 * (m.1 - a.1), a.2 + 2 * (m.2 - a.2))) = 4 * dt (sb a m) (sb a m) := by simp only [dt, sb]; grind
  have hE := sb_pos ham
  rcases ht with ht | ⟨h0, ht⟩
  · left
    unfold In1 at *
    rw [k1, k2]
    clear k1 k2 k3 k4 k5 hE
    omega
  · right
    refine ⟨by rw [k1, h0]; rfl, ?_⟩
    rcases Decidable.em (cr (sb a m) (sb a c) = 0) with h1 | h1
    · rw [line_iff ham h0 h1] at ht
      rw [line_iff hab (by rw [k1, h0]; rfl) (by rw [k3, h1]; rfl), k4, k4, k5]
      clear k1 k2 k3 k4 k5 h0 h1
      omega
    · exact absurd ht (off_line ham h0 h1)

theorem t6_zero {p a b : Pt} : t6 p a b = 0 ↔ cr (sb p a) (sb p b) = 0 := (t6_cr p a b).2.2
theorem foldF_iff {p a b : Pt} : foldF p a b = true ↔ cr (sb p a) (sb p b) = 0 ∧ (On p a b ∨ On b p a) := by
  unfold foldF
  rw [Bool.and_eq_true, decide_eq_true_eq, Bool.or_eq_true, t6_zero, onP_iff, onP_iff]
theorem fold_back (p a b : Pt) : foldF b a p = foldF p a b := by
  rw [Bool.eq_iff_iff, foldF_iff, foldF_iff]
  have e : cr (sb b a) (sb b p) = - cr (sb p a) (sb p b) := by simp only [cr, sb]; grind
  rw [e]
  constructor
  · rintro ⟨h, h1 | h1⟩
    · exact ⟨by omega, Or.inr (on_comm h1)⟩
    · exact ⟨by omega, Or.inl (on_comm h1)⟩
  · rintro ⟨h, h1 | h1⟩
    · exact ⟨by omega, Or.inr (on_comm h1)⟩
    · exact ⟨by omega, Or.inl (on_comm h1)⟩
theorem neg_of_sq {x U E : Int} (hE : 0 < E) (hx : x * x = U * E) (h1 : 2 * x < U) (h2 : x < 2 * E) : x < 0 := by
  rcases (show x < 0 ∨ 0 ≤ x by omega) with h | h
  · exact h
  exfalso
  have a1 := Int.mul_le_mul_of_nonneg_right (show 2 * x + 1 ≤ U by omega) (show 0 ≤ E by omega)
  have a2 := Int.mul_le_mul_of_nonneg_left (show x ≤ 2 * E - 1 by omega) h
  have e1 : (2 * x + 1) * E = 2 * (x * E) + E := by grind
  have e2 : x * (2 * E - 1) = 2 * (x * E) - x := by grind
  omega
/-- No fold: the point before lies on the far side. -/
theorem no_fold {p a b m : Pt} (h : Mid a b m) (hab : ¬ a = b) (hpa : ¬ p = a) (hf : foldF p a b = false) (h0 : cr (sb a m) (sb a p) = 0) : dt (sb a p) (sb a m) < 0 := by
  have ham := mid_ne h hab
  have e := mid_e h
  obtain ⟨b1, b2⟩ := b
  obtain ⟨rfl, rfl⟩ : b1 = a.1 + 2 * (m.1 - a.1) ∧ b2 = a.2 + 2 * (m.2 - a.2) := e
  have hn : ¬ (cr (sb p a) (sb p (a.1 + 2 * (m.1 - a.1), a.2 + 2 * (m.2 - a.2))) = 0 ∧ (On p a (a.1 + 2 * (m.1 - a.1), a.2 + 2 * (m.2 - a.2)) ∨ On (a.1 + 2 * (m.1 - a.1), a.2 + 2 * (m.2 - a.2)) p a)) := fun h => by
    rw [foldF_iff.2 h] at hf; cases hf
  have z : cr (sb p a) (sb p (a.1 + 2 * (m.1 - a.1), a.2 + 2 * (m.2 - a.2))) = 0 := by simp only [cr, sb] at h0 ⊢; grind
  have hE := sb_pos ham
  have hU := sb_pos (fun e => hpa e.symm : ¬ a = p)
  have sq : dt (sb a p) (sb a m) * dt (sb a p) (sb a m) = dt (sb a p) (sb a p) * dt (sb a m) (sb a m) := by
    have e : dt (sb a p) (sb a m) * dt (sb a p) (sb a m) = dt (sb a p) (sb a p) * dt (sb a m) (sb a m) - cr (sb a m) (sb a p) * cr (sb a m) (sb a p) := by simp only [cr, dt, sb]; grind
    rw [e, h0]; omega
  refine neg_of_sq hE sq ?_ ?_
  · refine Int.lt_of_not_ge fun hc => hn ⟨z, Or.inl ⟨by simp only [cr, sb] at h0 ⊢; grind, ?_⟩⟩
    have e : dt (sb a p) (sb p (a.1 + 2 * (m.1 - a.1), a.2 + 2 * (m.2 - a.2))) = 2 * dt (sb a p) (sb a m) - dt (sb a p) (sb a p) := by simp only [dt, sb]; grind
    omega
  · refine Int.lt_of_not_ge fun hc => hn ⟨z, Or.inr ⟨by simp only [cr, sb] at h0 ⊢; grind, ?_⟩⟩
    have e : dt (sb p (a.1 + 2 * (m.1 - a.1), a.2 + 2 * (m.2 - a.2))) (sb (a.1 + 2 * (m.1 - a.1), a.2 + 2 * (m.2 - a.2)) a) = 2 * dt (sb a p) (sb a m) - 4 * dt (sb a m) (sb a m) := by simp only [dt, sb]; grind
    omega
theorem fold_half {p a b m : Pt} (h : Mid a b m) (hab : ¬ a = b) (hpa : ¬ p = a) (hf : foldF p a b = false) : foldF p a m = false := by
  rw [Bool.eq_false_iff]
  intro hc
  obtain ⟨h0, hc⟩ := foldF_iff.1 hc
  have z : cr (sb a m) (sb a p) = 0 := by simp only [cr, sb] at h0 ⊢; grind
  have x := no_fold h hab hpa hf z
  have hE := sb_pos (mid_ne h hab)
  have hU := sb_pos (fun e => hpa e.symm : ¬ a = p)
  rcases hc with ⟨_, hc⟩ | ⟨_, hc⟩
  · have e : dt (sb a p) (sb p m) = dt (sb a p) (sb a m) - dt (sb a p) (sb a p) := by simp only [dt, sb]; grind
    omega
  · have e : dt (sb p m) (sb m a) = dt (sb a p) (sb a m) - dt (sb a m) (sb a m) := by simp only [dt, sb]; grind
    omega
theorem fold_mid {a b m : Pt} (h : Mid a b m) (hab : ¬ a = b) : foldF a m b = false := by
  rw [Bool.eq_false_iff]
  intro hc
  obtain ⟨_, hc⟩ := foldF_iff.1 hc
  have hE := sb_pos (mid_ne h hab)
  have e := mid_e h
  obtain ⟨b1, b2⟩ := b
  obtain ⟨rfl, rfl⟩ : b1 = a.1 + 2 * (m.1 - a.1) ∧ b2 = a.2 + 2 * (m.2 - a.2) := e
  rcases hc with ⟨_, hc⟩ | ⟨_, hc⟩
  · have e : dt (sb m a) (sb a (a.1 + 2 * (m.1 - a.1), a.2 + 2 * (m.2 - a.2))) = - (2 * dt (sb a m) (sb a m)) := by simp only [dt, sb]; grind
    omega
  · have e : dt (sb a (a.1 + 2 * (m.1 - a.1), a.2 + 2 * (m.2 - a.2))) (sb (a.1 + 2 * (m.1 - a.1), a.2 + 2 * (m.2 - a.2)) m) = - (2 * dt (sb a m) (sb a m)) := by simp only [dt, sb]; grind
    omega
/-- The half beyond the midst does not meet the side before. -/
theorem tch_far {p a b m : Pt} (h : Mid a b m) (hab : ¬ a = b) (hpa : ¬ p = a) (hf : foldF p a b = false) : ¬ Tch m b p a := by
  have nf := no_fold h hab hpa hf
  have hE := sb_pos (mid_ne h hab)
  have hmb : ¬ m = b := fun e => mid_ne (mid_swap h) (fun e => hab e.symm) e.symm
  have e := mid_e h
  obtain ⟨b1, b2⟩ := b
  obtain ⟨rfl, rfl⟩ : b1 = a.1 + 2 * (m.1 - a.1) ∧ b2 = a.2 + 2 * (m.2 - a.2) := e
  have k1 : cr (sb m (a.1 + 2 * (m.1 - a.1), a.2 + 2 * (m.2 - a.2))) (sb p a) = - cr (sb a m) (sb a p) := by simp only [cr, sb]; grind
  have k2 : cr (sb m p) (sb p a) = cr (sb a m) (sb a p) := by simp only [cr, sb]; grind
  have k3 : cr (sb m (a.1 + 2 * (m.1 - a.1), a.2 + 2 * (m.2 - a.2))) (sb m p) = cr (sb a m) (sb a p) := by simp only [cr, sb]; grind
  have k4 : dt (sb m p) (sb m (a.1 + 2 * (m.1 - a.1), a.2 + 2 * (m.2 - a.2))) = dt (sb a p) (sb a m) - dt (sb a m) (sb a m) := by simp only [dt, sb]; grind
  have k5 : dt (sb m a) (sb m (a.1 + 2 * (m.1 - a.1), a.2 + 2 * (m.2 - a.2))) = - dt (sb a m) (sb a m) := by simp only [dt, sb]; grind
  rintro (ht | ⟨h0, ht⟩)
  · unfold In1 at ht
    rw [k1, k2] at ht
    clear k1 k2 k3 k4 k5 nf
    omega
  · rw [k1] at h0
    have h0' : cr (sb a m) (sb a p) = 0 := by omega
    have x := nf h0'
    rw [line_iff hmb (by rw [k1]; exact h0) (by rw [k3]; exact h0'), k4, k5] at ht
    clear k1 k2 k3 k4 k5 nf
    omega

theorem in4 {a b c d : Pt} (h : ¬ (inP a && inP b && inP c && inP d) = true) : touches a b c d = false := touches_out (Bool.eq_false_iff.2 h)
theorem t_half {a b m c d : Pt} (h : Mid a b m) (hab : ¬ a = b) (hb : inP b = true) (ht : touches a b c d = false) : touches a m c d = false := by
  rcases Decidable.em ((inP a && inP m && inP c && inP d) = true) with hi | hi
  · rw [Bool.eq_false_iff] at ht ⊢
    refine fun hc => ht ((touches_iff ?_).2 (tch_half h hab ((touches_iff hi).1 hc)))
    simp only [Bool.and_eq_true] at hi ⊢
    exact ⟨⟨⟨hi.1.1.1, hb⟩, hi.1.2⟩, hi.2⟩
  · exact in4 hi
theorem t_half2 {a b m c d : Pt} (h : Mid a b m) (hab : ¬ a = b) (ha : inP a = true) (ht : touches a b c d = false) : touches m b c d = false := by
  rw [← touches_back]
  exact t_half (mid_swap h) (fun e => hab e.symm) ha (by rw [touches_back]; exact ht)
theorem t_far {p a b m : Pt} (h : Mid a b m) (hab : ¬ a = b) (hpa : ¬ p = a) (hf : foldF p a b = false) : touches m b p a = false := by
  rcases Decidable.em ((inP m && inP b && inP p && inP a) = true) with hi | hi
  · rw [Bool.eq_false_iff]
    exact fun hc => tch_far h hab hpa hf ((touches_iff hi).1 hc)
  · exact in4 hi
theorem t_far2 {a b m q : Pt} (h : Mid a b m) (hab : ¬ a = b) (hbq : ¬ b = q) (hf : foldF a b q = false) : touches a m b q = false := by
  have := t_far (p := q) (mid_swap h) (fun e => hab e.symm) (fun e => hbq e.symm) (by rw [fold_back]; exact hf)
  rw [touches_back, touches_swap, touches_back, touches_swap] at this
  exact this

/-- The next point. -/
def nx (ps : List Pt) (k : Nat) : Pt := gp ps ((k + 1) % ps.length)
def PF (ps : List Pt) (i j : Nat) : Prop :=
  (j = i + 1 → foldF (gp ps i) (nx ps i) (nx ps j) = false) ∧ (¬ j = i + 1 → (i = 0 ∧ j = ps.length - 1) → foldF (gp ps j) (nx ps j) (nx ps i) = false) ∧
    (¬ j = i + 1 → ¬ (i = 0 ∧ j = ps.length - 1) → touches (gp ps i) (nx ps i) (gp ps j) (nx ps j) = false)
theorem pf_iff {ps : List Pt} {i j : Nat} : pairF ps i j = 0 ↔ PF ps i j := by
  have e : ∀ (t : Bool) (z : Int), z ≠ 0 → ((if t = true then z else 0) = 0 ↔ t = false) := fun t z hz => by
    cases t
    · exact ⟨fun _ => rfl, fun _ => rfl⟩
    · exact ⟨fun h => absurd h hz, fun h => by cases h⟩
  show (if j = i + 1 then (if foldF (gp ps i) (nx ps i) (nx ps j) = true then (63 : Int) else 0) else if i = 0 ∧ j = ps.length - 1 then (if foldF (gp ps j) (nx ps j) (nx ps i) = true then 63 else 0) else if touches (gp ps i) (nx ps i) (gp ps j) (nx ps j) = true then 64 else 0) = 0 ↔ _
  unfold PF
  rcases Decidable.em (j = i + 1) with h1 | h1
  · rw [if_pos h1, e _ _ (by decide)]
    exact ⟨fun h => ⟨fun _ => h, fun k => absurd h1 k, fun k => absurd h1 k⟩, fun h => h.1 h1⟩
  · rw [if_neg h1]
    rcases Decidable.em (i = 0 ∧ j = ps.length - 1) with h2 | h2
    · rw [if_pos h2, e _ _ (by decide)]
      exact ⟨fun h => ⟨fun k => absurd k h1, fun _ _ => h, fun _ k => absurd h2 k⟩, fun h => h.2.1 h1 h2⟩
    · rw [if_neg h2, e _ _ (by decide)]
      exact ⟨fun h => ⟨fun k => absurd k h1, fun _ k => absurd k h2, fun _ _ => h⟩, fun h => h.2.2 h1 h2⟩

/-- w is v with m put in behind its q-th point. -/
structure Ins (v w : List Pt) (n q : Nat) (m : Pt) : Prop where
  n3 : 3 ≤ n
  qn : q < n
  vl : v.length = n
  wl : w.length = n + 1
  g1 : ∀ k, k ≤ q → gp w k = gp v k
  g2 : gp w (q + 1) = m
  g3 : ∀ k, q + 1 < k → k ≤ n → gp w k = gp v (k - 1)
  mid : Mid (gp v q) (nx v q) m
theorem nx_lt {ps : List Pt} {k : Nat} (h : k + 1 < ps.length) : nx ps k = gp ps (k + 1) := by unfold nx; rw [Nat.mod_eq_of_lt h]
theorem nx_last {ps : List Pt} {k : Nat} (h : k + 1 = ps.length) : nx ps k = gp ps 0 := by unfold nx; rw [h, Nat.mod_self]
namespace Ins
variable {v w : List Pt} {n q : Nat} {m : Pt}
theorem n1 (I : Ins v w n q m) {k : Nat} (h : k < q) : nx w k = nx v k := by
  have := I.qn
  rw [nx_lt (by rw [I.wl]; omega), nx_lt (by rw [I.vl]; omega), I.g1 _ (by omega)]
theorem n2 (I : Ins v w n q m) : nx w q = m := by
  have := I.qn
  rw [nx_lt (by rw [I.wl]; omega), I.g2]
theorem n3' (I : Ins v w n q m) : nx w (q + 1) = nx v q := by
  have := I.qn
  rcases Decidable.em (q + 1 = n) with h | h
  · rw [nx_last (by rw [I.wl]; omega), nx_last (by rw [I.vl]; omega), I.g1 _ (Nat.zero_le _)]
  · rw [nx_lt (by rw [I.wl]; omega), nx_lt (by rw [I.vl]; omega), I.g3 _ (by omega) (by omega)]
    rfl
theorem n4 (I : Ins v w n q m) {k : Nat} (h : q + 1 < k) (hk : k ≤ n) : nx w k = nx v (k - 1) := by
  rcases Decidable.em (k = n) with h1 | h1
  · rw [nx_last (by rw [I.wl]; omega), nx_last (by rw [I.vl]; omega), I.g1 _ (Nat.zero_le _)]
  · rw [nx_lt (by rw [I.wl]; omega), nx_lt (by rw [I.vl]; omega), I.g3 _ (by omega) (by omega)]
    rw [show k + 1 - 1 = k - 1 + 1 by omega]
theorem pairs (I : Ins v w n q m) (hin : ∀ k, k < n → inP (gp v k) = true) (hd : ∀ k, k < n → ¬ gp v k = nx v k) (hv : ∀ i j, i < j → j < n → PF v i j) : ∀ i j, i < j → j < n + 1 → PF w i j := by
  intro i j hij hj
  have hq := I.qn
  have h3 := I.n3
  have hm := I.mid
  have hab := hd q hq
  have ha := hin q hq
  have hb : inP (nx v q) = true := hin _ (by rw [I.vl]; exact Nat.mod_lt _ (by omega))
  unfold PF
  rw [I.wl]
  rcases Nat.lt_trichotomy j q with c | rfl | c
  · have pv := hv i j hij (by omega)
    unfold PF at pv
    rw [I.vl] at pv
    rw [I.g1 i (by omega), I.g1 j (by omega), I.n1 (by omega : i < q), I.n1 c]
    exact ⟨pv.1, fun _ h => by omega, fun h _ => pv.2.2 h (by omega)⟩
  · have pv := hv i j hij hq
    unfold PF at pv
    rw [I.vl] at pv
    have di := hd i (by omega)
    rw [I.g1 i (by omega), I.g1 j (by omega), I.n1 hij, I.n2]
    refine ⟨fun h => ?_, fun _ h => by omega, fun h _ => ?_⟩
    · have e : nx v i = gp v j := by rw [nx_lt (by rw [I.vl]; omega), h]
      have p := pv.1 h
      rw [e] at p di ⊢
      exact fold_half hm hab di p
    · rcases Decidable.em (i = 0 ∧ j = n - 1) with c2 | c2
      · have e : nx v j = gp v i := by rw [nx_last (by rw [I.vl]; omega), c2.1]
        have p := pv.2.1 h c2
        rw [e] at p hab hm
        rw [← touches_swap]
        exact t_far2 hm hab di p
      · rw [← touches_swap]
        exact t_half hm hab hb (by rw [touches_swap]; exact pv.2.2 h c2)
  rcases Nat.lt_trichotomy j (q + 1) with c1 | rfl | c1
  · omega
  · rcases Nat.lt_trichotomy i q with d | rfl | d
    · have pv := hv i q d hq
      unfold PF at pv
      rw [I.vl] at pv
      have di := hd i (by omega)
      rw [I.g1 i (by omega), I.g2, I.n1 d, I.n3']
      refine ⟨fun h => by omega, fun h h2 => ?_, fun h h2 => ?_⟩
      · have e : nx v q = gp v i := by rw [nx_last (by rw [I.vl]; omega), h2.1]
        have p := pv.2.1 (by omega) (by omega)
        rw [e] at p hab hm ⊢
        rw [← fold_back]
        exact fold_half (mid_swap hm) (fun e => hab e.symm) (fun e => di e.symm) (by rw [fold_back]; exact p)
      · rcases Decidable.em (q = i + 1) with c2 | c2
        · have e : nx v i = gp v q := by rw [nx_lt (by rw [I.vl]; omega), c2]
          have p := pv.1 c2
          rw [e] at p di ⊢
          rw [← touches_swap]
          exact t_far hm hab di p
        · rw [← touches_swap]
          exact t_half2 hm hab ha (by rw [touches_swap]; exact pv.2.2 c2 (by omega))
    · rw [I.g1 i (by omega), I.g2, I.n2, I.n3']
      exact ⟨fun _ => fold_mid hm hab, fun h => by omega, fun h => by omega⟩
    · omega
  · rw [I.g3 j c1 (by omega), I.n4 c1 (by omega)]
    have dj := hd (j - 1) (by omega)
    rcases Nat.lt_trichotomy i q with d | rfl | d
    · have pv := hv i (j - 1) (by omega) (by omega)
      unfold PF at pv
      rw [I.vl] at pv
      rw [I.g1 i (by omega), I.n1 d]
      exact ⟨fun h => by omega, fun _ h => pv.2.1 (by omega) (by omega), fun _ h => pv.2.2 (by omega) (by omega)⟩
    · have pv := hv i (j - 1) (by omega) (by omega)
      unfold PF at pv
      rw [I.vl] at pv
      rw [I.g1 i (by omega), I.n2]
      refine ⟨fun h => by omega, fun _ h => ?_, fun h h2 => ?_⟩
      · have e : nx v (j - 1) = gp v i := by rw [nx_last (by rw [I.vl]; omega), h.1]
        have p := pv.2.1 (by omega) (by omega)
        rw [e] at p dj ⊢
        exact fold_half hm hab dj p
      · rcases Decidable.em (j - 1 = i + 1) with c2 | c2
        · have e : nx v i = gp v (j - 1) := by rw [nx_lt (by rw [I.vl]; omega), c2]
          have p := pv.1 c2
          rw [e] at p hab hm
          exact t_far2 hm hab dj p
        · exact t_half hm hab hb (pv.2.2 c2 (by omega))
    · rcases Nat.lt_trichotomy i (q + 1) with d1 | rfl | d1
      · omega
      · have pv := hv q (j - 1) (by omega) (by omega)
        unfold PF at pv
        rw [I.vl] at pv
        rw [I.g2, I.n3']
        refine ⟨fun h => ?_, fun _ h => by omega, fun h _ => ?_⟩
        · have e : nx v q = gp v (j - 1) := by rw [nx_lt (by rw [I.vl]; omega)]; congr 1; omega
          have p := pv.1 (by omega)
          rw [e] at p hab hm ⊢
          rw [← fold_back]
          exact fold_half (mid_swap hm) (fun e => hab e.symm) (fun e => dj e.symm) (by rw [fold_back]; exact p)
        · rcases Decidable.em (q = 0 ∧ j - 1 = n - 1) with c2 | c2
          · have e : nx v (j - 1) = gp v q := by rw [nx_last (by rw [I.vl]; omega), c2.1]
            have p := pv.2.1 (by omega) c2
            rw [e] at p dj ⊢
            exact t_far hm hab dj p
          · exact t_half2 hm hab ha (pv.2.2 (by omega) c2)
      · have pv := hv (i - 1) (j - 1) (by omega) (by omega)
        unfold PF at pv
        rw [I.vl] at pv
        rw [I.g3 i d1 (by omega), I.n4 d1 (by omega)]
        exact ⟨fun h => pv.1 (by omega), fun _ h => by omega, fun h _ => pv.2.2 (by omega) (by omega)⟩
end Ins
end

section
theorem tch_same {a b d : Pt} : Tch a b a d := by
  have h1 : cr (sb a a) (sb a d) = 0 := by rw [sb_self]; simp [cr]
  have h2 : cr (sb a a) (sb a b) = 0 := by rw [sb_self]; simp [cr]
  rcases Decidable.em (cr (sb a b) (sb a d) = 0) with h | h
  · refine Or.inr ⟨h, Or.inl ⟨?_, ?_⟩⟩
    · simp only [cr, sb]; grind
    · rw [sb_self]; simp [dt]
  · refine Or.inl ?_
    unfold In1
    rw [h1, h2]
    omega
theorem ring_apart {ps : List Pt} {i j : Nat} (h : ChkIs ps (0, i, j)) : ∀ k l, k < l → l < ps.length → ¬ gp ps k = gp ps l := by
  obtain ⟨h3, hin, hd, hf⟩ := chk_zero h
  intro k l hkl hl e
  have pf := pf_iff.1 (hf k l hkl hl (Or.inl (by omega)))
  unfold PF at pf
  rcases Decidable.em (l = k + 1) with h1 | h1
  · refine hd k (by omega) ?_
    show gp ps k = nx ps k
    rw [nx_lt (by omega), ← h1]
    exact e
  · rcases Decidable.em (k = 0 ∧ l = ps.length - 1) with h2 | h2
    · refine hd l hl ?_
      show gp ps l = nx ps l
      rw [nx_last (by omega), ← h2.1]
      exact e.symm
    · have t := pf.2.2 h1 h2
      rw [← e, Bool.eq_false_iff] at t
      refine t ((touches_iff ?_).2 tch_same)
      have a := hin k (by omega)
      have b : inP (nx ps k) = true := hin _ (Nat.mod_lt _ (by omega))
      have c : inP (nx ps l) = true := hin _ (Nat.mod_lt _ (by omega))
      unfold InAt at a
      rw [a, b, c]
      rfl
theorem bends_apart {ps : List Pt} (h : ∀ k l, k < l → l < ps.length → ¬ gp ps k = gp ps l) : ∀ n, n ≤ ps.length → (bendsTo ps n).Pairwise (fun a b => ¬ a = b) := by
  intro n hn
  unfold bendsTo
  rw [List.pairwise_map]
  refine List.Pairwise.imp_of_mem (fun {a b} ha hb hab => h a b hab ?_) (List.Pairwise.filter _ (List.pairwise_lt_range (n := n)))
  have := List.mem_range.1 (List.mem_filter.1 hb).1
  omega
theorem gp_apart {l : List Pt} (h : l.Pairwise (fun a b => ¬ a = b)) {i j : Nat} (hi : i < l.length) (hj : j < l.length) (e : gp l i = gp l j) : i = j := by
  have hg : ∀ k (hk : k < l.length), gp l k = l[k] := fun k hk => by unfold gp; rw [List.getElem?_eq_getElem hk]; rfl
  rw [hg i hi, hg j hj] at e
  rcases Nat.lt_trichotomy i j with c | c | c
  · exact absurd e (List.pairwise_iff_getElem.1 h i j hi hj c)
  · exact c
  · exact absurd e.symm (List.pairwise_iff_getElem.1 h j i hj hi c)
theorem less_iff {p q : Pt} : lessPt p q = true ↔ p.1 < q.1 ∨ (p.1 = q.1 ∧ p.2 < q.2) := by
  unfold lessPt ptCmp
  rw [decide_eq_true_eq]
  try unfold cmpI
  repeat' split
  all_goals omega
theorem first_least {l : List Pt} : ∀ k, ∀ i, i < k → lessPt (gp l i) (gp l (firstTo l k)) = false
  | 0, i, h => absurd h (Nat.not_lt_zero _)
  | k + 1, i, h => by
    have ih := first_least (l := l) k
    cases e : lessPt (gp l k) (gp l (firstTo l k)) with
    | true =>
      rw [first_yes e]
      rw [Bool.eq_false_iff]
      intro hc
      rcases Nat.lt_or_ge i k with c | c
      · have h1 := ih i c
        rw [Bool.eq_false_iff, Ne, less_iff] at h1
        rw [less_iff] at hc e
        omega
      · rw [show i = k by omega, less_iff] at hc
        omega
    | false =>
      rw [first_no e]
      rcases Nat.lt_or_ge i k with c | c
      · exact ih i c
      · rw [show i = k by omega]; exact e
theorem first_one {l : List Pt} (h : l.Pairwise (fun a b => ¬ a = b)) {f : Nat} (hf : f < l.length) (hm : ∀ i, i < l.length → lessPt (gp l i) (gp l f) = false) : firstTo l l.length = f := by
  have hl := first_lt (l := l) (k := l.length)
  refine gp_apart h (by omega) hf ?_
  have a := first_least (l := l) l.length f hf
  have b := hm (firstTo l l.length) (by omega)
  rw [Bool.eq_false_iff] at a b
  rw [Ne, less_iff] at a b
  exact Prod.ext (by omega) (by omega)
theorem first_rev {l : List Pt} (h : l.Pairwise (fun a b => ¬ a = b)) (h0 : 0 < l.length) : firstTo l.reverse l.reverse.length = l.length - 1 - firstTo l l.length := by
  have hl := first_lt (l := l) (k := l.length)
  refine first_one ?_ (by rw [List.length_reverse]; omega) fun i hi => ?_
  · rw [List.pairwise_reverse]
    exact h.imp fun hab e => hab e.symm
  · rw [List.length_reverse] at hi
    rw [gp_rev hi, gp_rev (by omega), show l.length - 1 - (l.length - 1 - firstTo l l.length) = firstTo l l.length by omega]
    exact first_least _ _ (by omega)
theorem rot_at {l : List Pt} {f i : Nat} (hf : f ≤ l.length) (hi : i < l.length) : gp (rotF l f) i = gp l ((f + i) % l.length) := by
  unfold rotF gp
  rcases Nat.lt_or_ge (f + i) l.length with c | c
  · rw [Nat.mod_eq_of_lt c, List.getElem?_append_left (by rw [List.length_drop]; omega), List.getElem?_drop]
  · rw [List.getElem?_append_right (by rw [List.length_drop]; omega), List.length_drop, List.getElem?_take]
    rw [show (f + i) % l.length = i - (l.length - f) by rw [Nat.mod_eq_sub_mod c, Nat.mod_eq_of_lt (by omega)]; omega, if_pos (by omega)]
/-- The document's way round. -/
def outAt (l : List Pt) (neg : Bool) (i : Nat) : Pt := gp l ((if neg then firstTo l l.length + l.length - i else firstTo l l.length + i) % l.length)
theorem norm_out {ps : List Pt} {i j : Nat} (h : ChkIs ps (0, i, j)) : normP ps = (List.range (bendsTo ps ps.length).length).map (outAt (bendsTo ps ps.length) (decide (areaP ps < 0))) := by
  have hd := bends_apart (ring_apart h) ps.length (Nat.le_refl _)
  obtain ⟨l, hl⟩ : ∃ l, bendsTo ps ps.length = l := ⟨_, rfl⟩
  have hln : (normP ps).length = l.length := by rw [normP_len, normL_len, hl]
  rw [hl] at hd ⊢
  refine gp_eq (by rw [hln]; simp) fun k hk => ?_
  rw [hln] at hk
  have hr : gp ((List.range l.length).map (outAt l (decide (areaP ps < 0)))) k = outAt l (decide (areaP ps < 0)) k := by
    unfold gp
    rw [List.getElem?_map, List.getElem?_range hk]
    rfl
  have hf := first_lt (l := l) (k := l.length)
  rw [hr]
  unfold normP normL outAt
  rw [hl]
  by_cases hn : areaP ps < 0
  · rw [if_pos hn, decide_eq_true hn, if_pos rfl, first_rev hd (by omega), rot_at (by rw [List.length_reverse]; omega) (by rw [List.length_reverse]; exact hk), List.length_reverse, gp_rev (Nat.mod_lt _ (by omega))]
    congr 1
    generalize firstTo l l.length = f at *
    generalize l.length = m at *
    rcases Nat.lt_or_ge f k with c | c
    · rw [show m - 1 - f + k = (k - f - 1) + m by omega, Nat.add_mod_right, Nat.mod_eq_of_lt (show k - f - 1 < m by omega), Nat.mod_eq_of_lt (show f + m - k < m by omega)]
      omega
    · rw [show f + m - k = (f - k) + m by omega, Nat.add_mod_right, Nat.mod_eq_of_lt (show f - k < m by omega), Nat.mod_eq_of_lt (show m - 1 - f + k < m by omega)]
      omega
  · rw [if_neg hn, decide_eq_false hn, if_neg Bool.false_ne_true, rot_at (by omega) hk]
end

section
open Go.RowKit Go.Shelf

theorem less06 (p q : Pt) (w : World) : Calls Try.prog 49 #[.agg #[.int .i32 p.1, .int .i32 p.2], .agg #[.int .i32 q.1, .int .i32 q.2]] w fun e w' => e = .returned (.bool (lessPt p q)) ∧ Below w.heap.size w w' := by
  have HL : Hid (lessPt p q = true ↔ p.1 < q.1 ∨ (p.1 = q.1 ∧ p.2 < q.2)) := Lib.hid less_iff
  obtain ⟨t, ht⟩ : ∃ t, lessPt p q = t := ⟨_, rfl⟩
  rw [ht] at HL ⊢
  clear ht
  obtain ⟨p1, p2⟩ := p
  obtain ⟨q1, q2⟩ := q
  dsimp only at HL ⊢
  rcases Decidable.em (p1 < q1) with h1 | h1
  · obtain rfl : t = true := HL.out.2 (Or.inl h1)
    clear HL
    go_enter Try.func49, Try.ntmps49
    go_wp2_with fail
    refine bodyPost_ret (by simp [results, Try.results49, go_sem, *]; try rfl) rfl ?_
    exact ⟨rfl, by go_grown⟩
  · rcases Decidable.em (p1 = q1) with h2 | h2
    · subst h2
      rcases Decidable.em (p2 < q2) with h3 | h3
      · obtain rfl : t = true := HL.out.2 (Or.inr ⟨rfl, h3⟩)
        clear HL
        go_enter Try.func49, Try.ntmps49
        go_wp2_with fail
        refine bodyPost_ret (by simp [results, Try.results49, go_sem, *]; try rfl) rfl ?_
        exact ⟨rfl, by go_grown⟩
      · obtain rfl : t = false := Bool.eq_false_iff.2 fun e => by have := HL.out.1 e; omega
        clear HL
        go_enter Try.func49, Try.ntmps49
        go_wp2_with fail
        refine bodyPost_ret (by simp [results, Try.results49, go_sem, *]; try rfl) rfl ?_
        exact ⟨rfl, by go_grown⟩
    · obtain rfl : t = false := Bool.eq_false_iff.2 fun e => by have := HL.out.1 e; omega
      have h4 : (p1 == q1) = false := beq_eq_false_iff_ne.2 h2
      clear HL
      go_enter Try.func49, Try.ntmps49
      go_wp2_with fail
      refine bodyPost_ret (by simp [results, Try.results49, go_sem, *]; try rfl) rfl ?_
      exact ⟨rfl, by go_grown⟩
end

section
open Go.RowKit Go.Shelf

theorem out_snoc (L : List Pt) (b : Bool) (k : Nat) : (List.range (k + 1)).map (outAt L b) = (List.range k).map (outAt L b) ++ [outAt L b k] := by simp [List.range_succ]
theorem out_len (L : List Pt) (b : Bool) (k : Nat) : ((List.range k).map (outAt L b)).length = k := by simp
theorem idx6 {k m f : Nat} (h : k < m) (hf : f < m) (hm : m ≤ 64) :
    IntKind.i64.wrap ((f : Int) + (m : Int)) = (f : Int) + (m : Int) ∧ IntKind.i64.wrap ((f : Int) + (m : Int) - (k : Int)) = (f : Int) + (m : Int) - (k : Int) ∧ IntKind.i64.wrap ((f : Int) + (k : Int)) = (f : Int) + (k : Int) ∧ (f : Int) + (m : Int) - (k : Int) = ((f + m - k : Nat) : Int) ∧ (f : Int) + (k : Int) = ((f + k : Nat) : Int) := by
  have w : ∀ z : Int, -9223372036854775808 ≤ z → z ≤ 9223372036854775807 → IntKind.i64.wrap z = z := fun z a b => by
    simp only [IntKind.wrap, IntKind.signed, IntKind.bits]
    simp
    omega
  exact ⟨w _ (by omega) (by omega), w _ (by omega) (by omega), w _ (by omega) (by omega), by omega, by omega⟩
set_option maxHeartbeats 4000000 in
set_option maxRecDepth 100000 in
theorem norm6_tail (ps : List Pt) (hps : ∀ p ∈ ps, IPt p) (n : Nat) (hn : ps.length = n) (h64 : n ≤ 64) (M c0 : Nat) (A0 : Option Addr) (w W : World) (hP : PtsAt M w (.slice A0 n c0) ps) (hM : M ≤ w.heap.size) (L : List Pt) (A : Option Addr) (m c : Nat) (hL : L.length = m) (hm : m ≤ 64) (HB : Hid (Below w.heap.size w W)) (hown : Hid (W.ownsRow w.heap.size 28 2 (.slice A m c) m (flat L)))
    (u1 u2 u3 u4 u5 u6 u7 u9 u10 u11 u12 u13 u14 u15 u16 u17 u18 u19 u20 u21 u22 u23 u24 u25 u26 u27 u28 u29 u30 u31 u32 u33 u34 u35 u36 u37 u38 u39 u40 u41 u42 u43 u44 u45 u46 u47 u48 u49 u50 u51 u52 u53 u54 u55 u56 u57 u58 u59 u60 u61 u62 u63 u64 u65 u66 u67 u68 u69 u70 u71 u72 u73 u74 u75 u76 u77 u78 u79 u80 u81 u82 u83 u84 u85 u86 u87 u88 u89 u90 u91 u92 u93 u94 u95 u96 u97 u98 u99 u100 u101 u102 u103 : Value) :
    (tailT Try.f23 6).wp Try.prog (fun e a' w' => e = .ret ∧ a'.defers = [] ∧ (∃ A' c', (results Try.f23 a'.tmps).run Try.prog w' = .ok (.tuple #[.slice A' m c', .int .i64 0]) w' ∧ w'.ownsRow w.heap.size 28 2 (.slice A' m c') m (flat ((List.range m).map (outAt L (decide (areaP ps < 0)))))) ∧ Below w.heap.size w w') { tmps := #[.slice A0 n c0, u1, u2, u3, u4, u5, u6, u7, .slice A m c, u9, u10, u11, u12, u13, u14, u15, u16, u17, u18, u19, u20, u21, u22, u23, u24, u25, u26, u27, u28, u29, u30, u31, u32, u33, u34, u35, u36, u37, u38, u39, u40, u41, u42, u43, u44, u45, u46, u47, u48, u49, u50, u51, u52, u53, u54, u55, u56, u57, u58, u59, u60, u61, u62, u63, u64, u65, u66, u67, u68, u69, u70, u71, u72, u73, u74, u75, u76, u77, u78, u79, u80, u81, u82, u83, u84, u85, u86, u87, u88, u89, u90, u91, u92, u93, u94, u95, u96, u97, u98, u99, u100, u101, u102, u103], defers := [] } W := by
  have AR := Lib.hid (fun W (h : Below w.heap.size w W) => area06 ps hps n hn (by omega) M c0 A0 W (hP.below (h.mono hM)) (Nat.le_trans hM h.size))
  have hneg := hi_neg (area_128 hps (by omega : ps.length ≤ 64))
  obtain ⟨s, hs⟩ : ∃ s, decide (areaP ps < 0) = s := ⟨_, rfl⟩
  obtain ⟨x, hx⟩ : ∃ x, hi64 (areaP ps) = x := ⟨_, rfl⟩
  obtain ⟨y, hy⟩ : ∃ y, lo64 (areaP ps) = y := ⟨_, rfl⟩
  rw [hx] at hneg AR
  rw [hy] at AR
  rw [hs]
  have hxs : decide (x < 0) = s := by rw [← hs]; exact decide_eq_decide.2 hneg
  have HL := Lib.hid hL
  have HX := Lib.hid hxs
  clear hs hx hy hneg hP hM hn h64 hps hL hxs
  show Code.wp _ (Code.seq (Code.region _ _ _) _) _ _ _
  go_wp2_with fail
  refine (AR.out W HB.out).mono ?_
  rintro e w1 ⟨rfl, hb1⟩
  have HB1 := Lib.hid (HB.out.trans (hb1.mono HB.out.size))
  have OW1 := Lib.hid (own_keepT hown.out hb1)
  clear hb1 AR HB hown
  go_wp2_with fail
  go_loopw [12, 13] (fun f i wr => ∃ k : Nat, 1 ≤ k ∧ (k ≤ m ∨ k = 1) ∧ f = .int .i64 (firstTo L k : Int) ∧ i = .int .i64 (k : Int) ∧ Below w1.heap.size w1 wr) (fun _ i _ => m - (intOf i).toNat)
  case atStart => exact ⟨1, Nat.le_refl _, .inr rfl, by have := @first_lt L 1; rw [show firstTo L 1 = 0 by omega]; rfl, rfl, Below.refl _ _⟩
  case round =>
    obtain ⟨k, hk1, hk, rfl, rfl, hbel⟩ := hrel
    have hownr := own_keepT OW1.out hbel
    have hf := @first_lt L k
    obtain ⟨f, hfe⟩ : ∃ f, firstTo L k = f := ⟨_, rfl⟩
    rw [hfe] at hf ⊢
    rcases Nat.lt_or_ge k m with hlt | hge
    · have hfm : f < m := by omega
      obtain ⟨g, rfl, hgb, hg, hfz, hc⟩ := own_cells (qs := L) hownr (by omega)
      have c1 := (hc k (by rw [HL.out]; exact hlt)).1
      have c2 := (hc k (by rw [HL.out]; exact hlt)).2
      have c3 := (hc f (by rw [HL.out]; exact hfm)).1
      have c4 := (hc f (by rw [HL.out]; exact hfm)).2
      obtain ⟨⟨x1, x2⟩, hx⟩ : ∃ x, gp L k = x := ⟨_, rfl⟩
      obtain ⟨⟨y1, y2⟩, hy⟩ : ∃ y, gp L f = y := ⟨_, rfl⟩
      have hst : Hid ((lessPt (x1, x2) (y1, y2) = true → firstTo L (k + 1) = k) ∧ (lessPt (x1, x2) (y1, y2) = false → firstTo L (k + 1) = f)) := Lib.hid ⟨fun h => first_yes (by rw [hx, hfe, hy]; exact h), fun h => (first_no (by rw [hx, hfe, hy]; exact h)).trans hfe⟩
      rw [hx] at c1 c2
      rw [hy] at c3 c4
      dsimp only at c1 c2 c3 c4
      have hkI : (k : Int) < (m : Int) := by omega
      have hfI : (f : Int) < (m : Int) := by omega
      clear hc hfz hx hy hfe hf hgb hk
      have LS := Lib.hid (fun W => less06 (x1, x2) (y1, y2) W)
      obtain ⟨b, hb⟩ : ∃ b, lessPt (x1, x2) (y1, y2) = b := ⟨_, rfl⟩
      dsimp only at LS
      rw [hb] at hst LS
      clear hb
      have HBL := Lib.hid hbel
      clear hbel
      go_upto_region 16 with fail
      have hq_wr := @wd_cell wr
      refine wp_region_wd (by kernel_rfl) (by kernel_rfl) ?_
      repeat (go_big_quiet_step ((first | (go_at_call 49; with_reducible exact quiet_wd (LS.out _)))))
      refine wpQuiet_nil ?_
      rintro w4 ⟨⟨wx, hb_w4⟩, hwx⟩
      obtain rfl : w4 = wx := hwx
      clear hq_wr
      have hz_w4 := hb_w4.size
      obtain ⟨hc_w4, hf_w4⟩ := bcell hb_w4
      have HB4 := Lib.hid (HBL.out.trans (hb_w4.mono HBL.out.size))
      clear HBL hb_w4
      cases b
      · go_wp2_with fail
        go_roundw
        case rel => exact ⟨k + 1, by omega, .inl (by omega), by rw [hst.out.2 rfl], by simp, HB4.out⟩
        case measure => simp [intOf]; omega
      · go_wp2_with fail
        go_roundw
        case rel => exact ⟨k + 1, by omega, .inl (by omega), by rw [hst.out.1 rfl], by simp, HB4.out⟩
        case measure => simp [intOf]; omega
    · have hfl : Hid (0 < m → f = firstTo L L.length ∧ f < m) := Lib.hid (fun h0 => by
        have e : k = m := by omega
        rw [HL.out, ← e, hfe]
        exact ⟨rfl, by omega⟩)
      have HBL := Lib.hid (HB1.out.trans (hbel.mono HB1.out.size))
      have OWR := Lib.hid hownr
      clear hbel hownr hfe hf hk HB1 OW1
      obtain ⟨wq, rfl⟩ : ∃ z, z = wr := ⟨_, rfl⟩
      have hdk : decide ((k : Int) < (m : Int)) = false := by simp; omega
      have hdn : decide (k < m) = false := by simp; omega
      go_wp2_with fail
      go_loopw [14, 15] (fun v i wr => ∃ (j : Nat) (A' : Option Addr) (c' : Nat), j ≤ m ∧ v = .slice A' j c' ∧ i = .int .i64 (j : Int) ∧ wr.ownsRow wq.heap.size 28 2 (.slice A' j c') j (flat ((List.range j).map (outAt L s))) ∧ Below wq.heap.size wq wr) (fun _ i _ => m - (intOf i).toNat)
      case atStart => exact ⟨0, none, 0, Nat.zero_le _, rfl, rfl, World.ownsRow_nil _ _ _ _, Below.refl _ _⟩
      case round =>
        obtain ⟨j, A', c', hj, rfl, rfl, hownj, hbel⟩ := hrel
        rcases Nat.lt_or_ge j m with hlt | hge2
        · obtain ⟨hfe, hfm⟩ := hfl.out (by omega)
          obtain ⟨i1, i2, i3, i4, i5⟩ := idx6 hlt hfm hm
          have hjI : (j : Int) < (m : Int) := by omega
          have HP := Lib.hid (ptsAt_of_own (own_keepT OWR.out hbel) HL.out)
          have HO := Lib.hid (out_snoc L s j)
          have hzr := hbel.size
          cases s
          · have AT := Lib.hid (at06 L m HL.out (by omega) (f + j) wr.heap.size c A wr HP.out (Nat.le_refl _))
            have HG : Hid (gp L ((f + j) % m) = outAt L false j) := Lib.hid (by unfold outAt; rw [← hfe, if_neg Bool.false_ne_true, HL.out])
            rw [HG.out, ← i5] at AT
            obtain ⟨⟨x1, x2⟩, hx⟩ : ∃ x, outAt L false j = x := ⟨_, rfl⟩
            rw [hx] at AT HO
            dsimp only at AT
            have hxs := HX.out
            have HJ := Lib.hid (And.intro hownj hbel)
            clear hfe i1 i2 i3 i4 i5 HG hx hownj hbel HP
            go_wp2_with fail
            refine AT.out.mono ?_
            rintro e w5 ⟨rfl, hb5⟩
            have hown5 := own_keepT HJ.out.1 hb5
            have hbel5 := HJ.out.2.trans (hb5.mono hzr)
            have hsz5 := hbel5.size
            clear HJ AT hb5
            go_wp2_with (at_builtin; refine wpList_push rfl (.tmp 95) (.tmp 101) 23 rfl eltP wq.heap.size A' j c' (flat ((List.range j).map (outAt L false))) rfl hown5 [_, _] rfl rfl (two_cells rfl rfl) (le_maxLen (by omega)) (by omega) (by omega) ?_; intro A6 c6 w6 hown6 hg6)
            go_roundw
            case rel => exact ⟨j + 1, A6, c6, by omega, rfl, by simp, by rw [HO.out, flat_snoc]; exact hown6, below_push hbel5 hown5 (Nat.le_refl _) hsz5 hg6⟩
            case measure => simp [intOf]; omega
          · have AT := Lib.hid (at06 L m HL.out (by omega) (f + m - j) wr.heap.size c A wr HP.out (Nat.le_refl _))
            have HG : Hid (gp L ((f + m - j) % m) = outAt L true j) := Lib.hid (by unfold outAt; rw [← hfe, if_pos rfl, HL.out])
            rw [HG.out] at AT
            rw [← i4] at AT
            obtain ⟨⟨x1, x2⟩, hx⟩ : ∃ x, outAt L true j = x := ⟨_, rfl⟩
            rw [hx] at AT HO
            dsimp only at AT
            have hxs := HX.out
            have HJ := Lib.hid (And.intro hownj hbel)
            clear hfe i1 i2 i3 i4 i5 HG hx hownj hbel HP
            go_wp2_with fail
            refine AT.out.mono ?_
            rintro e w5 ⟨rfl, hb5⟩
            have hown5 := own_keepT HJ.out.1 hb5
            have hbel5 := HJ.out.2.trans (hb5.mono hzr)
            have hsz5 := hbel5.size
            clear HJ AT hb5
            go_wp2_with (at_builtin; refine wpList_push rfl (.tmp 84) (.tmp 93) 23 rfl eltP wq.heap.size A' j c' (flat ((List.range j).map (outAt L true))) rfl hown5 [_, _] rfl rfl (two_cells rfl rfl) (le_maxLen (by omega)) (by omega) (by omega) ?_; intro A6 c6 w6 hown6 hg6)
            go_roundw
            case rel => exact ⟨j + 1, A6, c6, by omega, rfl, by simp, by rw [HO.out, flat_snoc]; exact hown6, below_push hbel5 hown5 (Nat.le_refl _) hsz5 hg6⟩
            case measure => simp [intOf]; omega
        · obtain rfl : j = m := by omega
          have H5 := Lib.hid (And.intro (own_baseT (b' := w.heap.size) hownj HBL.out.size) (HBL.out.trans (hbel.mono HBL.out.size)))
          clear hownj hbel
          go_wp2_with fail
          exact ⟨⟨A', c', by simp [results, Try.results23, go_sem], H5.out.1⟩, H5.out.2⟩
end

section
open Go.RowKit Go.Shelf

set_option maxHeartbeats 4000000 in
set_option maxRecDepth 100000 in
theorem norm06 (ps : List Pt) (hps : ∀ p ∈ ps, IPt p) (n : Nat) (hn : ps.length = n) (M c : Nat) (A : Option Addr) (w : World) (hP : PtsAt M w (.slice A n c) ps) (hM : M ≤ w.heap.size) :
    Calls Try.prog 23 #[.slice A n c] w fun e w' => (∃ r, ChkIs ps r ∧ ((r.1 ≠ 0 ∧ e = .returned (.tuple #[.slice none 0 0, .int .i64 r.1])) ∨ (r.1 = 0 ∧ ∃ A' c', e = .returned (.tuple #[.slice A' (normP ps).length c', .int .i64 0]) ∧ w'.ownsRow w.heap.size 28 2 (.slice A' (normP ps).length c') (normP ps).length (flat (normP ps))))) ∧ Below w.heap.size w w' := by
  have CK := Lib.hid (check06 ps n hn M c A w hP hM)
  go_enter Try.func23, Try.ntmps23
  show Code.wp _ (.seq _ (.seq _ (.seq _ (.seq _ (.seq _ (.seq _ (tailT Try.f23 6))))))) _ _ _
  generalize hTL : tailT Try.f23 6 = TL
  have HTL := Lib.hid hTL
  clear hTL
  go_wp2_with fail
  refine CK.out.mono ?_
  rintro e w1 ⟨⟨⟨r0, ri, rj⟩, hr, rfl⟩, hb1⟩
  dsimp only
  have HR := Lib.hid hr
  have HB1 := Lib.hid hb1
  clear hr hb1 CK
  by_cases h0 : r0 = 0
  · subst h0
    obtain ⟨⟨h3, h64⟩, hin, _⟩ := chk_zero HR.out
    rw [hn] at h3 h64
    obtain ⟨g, off, rfl, hg, hcs⟩ := pts_cells6 hP (by omega)
    have hgw : g < w.heap.size := by omega
    have HCS : Hid (∀ W', Below w.heap.size w W' → ∀ k, k < n → W'.cell? ⟨g, off + k * 2, none⟩ = some (.int .i32 (gp ps k).1) ∧ W'.cell? ⟨g, off + k * 2 + 1, none⟩ = some (.int .i32 (gp ps k).2)) := Lib.hid (fun W' hb k hk => ⟨(hb.cell (p := ⟨g, off + k * 2, none⟩) hgw).trans (hcs k (by omega)).1, (hb.cell (p := ⟨g, off + k * 2 + 1, none⟩) hgw).trans (hcs k (by omega)).2⟩)
    have AT := Lib.hid (fun i W (h : Below w.heap.size w W) => at06 ps n hn (by omega) i M c (some ⟨g, off, none⟩) W (hP.below (h.mono hM)) (Nat.le_trans hM h.size))
    have HIN := Lib.hid (fun k (hk : k < n) => lt6_of (hin k (by omega)))
    have HPS := Lib.hid (And.intro hn hps)
    have HPM := Lib.hid (And.intro hP hM)
    clear hin hcs hP hps hn
    go_wp2_with fail
    go_loopw [8, 9] (fun v i wr => ∃ (k m : Nat) (A' : Option Addr) (c' : Nat), k ≤ n ∧ (bendsTo ps k).length = m ∧ v = .slice A' m c' ∧ i = .int .i64 (k : Int) ∧ (m = 0 → A' = none ∧ c' = 0) ∧ wr.ownsRow w.heap.size 28 2 (.slice A' m c') m (flat (bendsTo ps k)) ∧ Below w.heap.size w wr) (fun _ i _ => n - (intOf i).toNat)
    case atStart => exact ⟨0, 0, none, 0, Nat.zero_le _, rfl, rfl, rfl, fun _ => ⟨rfl, rfl⟩, World.ownsRow_nil _ _ _ _, HB1.out⟩
    case round =>
      obtain ⟨k, m, A', c', hk, hm, rfl, rfl, hA, hown, hbel⟩ := hrel
      rcases Nat.lt_or_ge k n with hlt | hge
      · have hkI : (k : Int) < (n : Int) := by omega
        obtain ⟨q1, e1⟩ : ∃ q, (k + n - 1) % n = q := ⟨_, rfl⟩
        obtain ⟨q2, e2⟩ : ∃ q, (k + 1) % n = q := ⟨_, rfl⟩
        obtain ⟨w1', w2', w3', m1, m2, l1, l2, w4', w5'⟩ := norm_idx hlt h64 e1 e2
        have ck := HCS.out wr hbel k hlt
        have hwz := hbel.size
        have hgr : g < wr.heap.size := by omega
        have T1 := Lib.hid (fun (x : Wd wr) => AT.out (k + n - 1) x.w (hbel.trans (x.h.mono hwz)))
        have T2 := Lib.hid (fun (x : Wd wr) => AT.out (k + 1) x.w (hbel.trans (x.h.mono hwz)))
        rw [e1, show ((k + n - 1 : Nat) : Int) = (k : Int) + (n : Int) - 1 by omega] at T1
        rw [e2, show ((k + 1 : Nat) : Int) = (k : Int) + 1 by omega] at T2
        obtain ⟨t, ht⟩ : ∃ t, t6 (gp ps q1) (gp ps k) (gp ps q2) = t := ⟨_, rfl⟩
        have TN := Lib.hid (fun W => turn06 (gp ps q1) (gp ps k) (gp ps q2) (HIN.out q1 l1) (HIN.out k hlt) (HIN.out q2 l2) W)
        rw [ht] at TN
        have HBD : Hid (bendAt ps k = !(t == 0)) := Lib.hid (by unfold bendAt; rw [HPS.out.1, e1, e2, ht])
        obtain ⟨⟨x1, x2⟩, hx⟩ : ∃ x, gp ps k = x := ⟨_, rfl⟩
        obtain ⟨⟨y1, y2⟩, hy⟩ : ∃ y, gp ps q1 = y := ⟨_, rfl⟩
        obtain ⟨⟨z1, z2⟩, hz⟩ : ∃ z, gp ps q2 = z := ⟨_, rfl⟩
        rw [hx] at ck TN
        rw [hy] at TN T1
        rw [hz] at TN T2
        dsimp only at ck TN T1 T2
        obtain ⟨ck1, ck2⟩ := ck
        have HX := Lib.hid hx
        have HK := Lib.hid (And.intro hm (And.intro hA (And.intro hown hbel)))
        clear ht hx hy hz e1 e2 hm hA hown hbel
        go_upto_region 9 with fail
        have hq_wr := @wd_cell wr
        refine wp_region_wd (by kernel_rfl) (by kernel_rfl) ?_
        repeat (go_big_quiet_step ((first | (go_at_call 48; with_reducible exact quiet_wd (TN.out _)) | (go_at_call 43; with_reducible exact quiet_wd (T1.out _)) | (go_at_call 43; with_reducible exact quiet_wd (T2.out _)))))
        refine wpQuiet_nil ?_
        rintro w4 ⟨⟨wx, hb_w4⟩, hwx⟩
        obtain rfl : w4 = wx := hwx
        clear hq_wr
        have hz_w4 := hb_w4.size
        obtain ⟨hc_w4, hf_w4⟩ := bcell hb_w4
        have hs_w4_0 : g < w4.heap.size := Nat.lt_of_lt_of_le (by assumption) hb_w4.size
        have HB4 := Lib.hid hb_w4
        have g0 := (hc_w4 g (off + k * 2) hgr).trans ck1
        have g1 := (hc_w4 g (off + k * 2 + 1) hgr).trans ck2
        have hz5 : g < w4.heap.size := by omega
        clear hb_w4 hc_w4 hf_w4 ck1 ck2 T1 T2 TN
        obtain ⟨hm, hA, hown, hbel⟩ := HK.out
        by_cases ht0 : t = 0
        · have hq : (t != 0) = false := by rw [ht0]; rfl
          have hbd := bends_no (ps := ps) (k := k) (by rw [HBD.out, ht0]; rfl)
          have hown4 := own_keepT hown HB4.out
          have hbel4 := hbel.trans (HB4.out.mono hwz)
          have H4 := Lib.hid (And.intro hown4 hbel4)
          clear hown4 hbel4 hown hbel
          go_wp2_with fail
          go_roundw
          case rel => exact ⟨k + 1, m, A', c', by omega, by rw [hbd]; exact hm, rfl, by simp, hA, by rw [hbd]; exact H4.out.1, H4.out.2⟩
          case measure => simp [intOf]; omega
        · have hq : (t != 0) = true := by simp [ht0]
          have hbd := bends_yes (ps := ps) (k := k) (by rw [HBD.out]; simp [ht0])
          rw [HX.out] at hbd
          have hml := bends_len ps k
          have hown4 := own_keepT hown HB4.out
          have hbel4 := hbel.trans (HB4.out.mono hwz)
          have hsz4 := hbel4.size
          clear hown hbel
          go_wp2_with (at_builtin; refine wpList_push rfl (.tmp 48) (.tmp 53) 23 rfl eltP w.heap.size A' m c' (flat (bendsTo ps k)) rfl hown4 [_, _] rfl rfl (two_cells rfl rfl) (le_maxLen (by omega)) (by omega) (by omega) ?_; intro A5 c5 w5 hown5 hg5)
          go_roundw
          case rel => exact ⟨k + 1, m + 1, A5, c5, by omega, by rw [hbd, List.length_append, hm]; rfl, rfl, by simp, fun h => by omega, by rw [hbd, flat_snoc]; exact hown5, below_push hbel4 hown4 (Nat.le_refl _) hsz4 hg5⟩
          case measure => simp [intOf]; omega
      · obtain rfl : k = n := by omega
        have HK := Lib.hid (And.intro hm (And.intro hown hbel))
        have hml := bends_len ps k
        have hm64 : m ≤ 64 := by omega
        have HN := Lib.hid (norm_out HR.out)
        have HNL : Hid (bendsTo ps ps.length = bendsTo ps k) := Lib.hid (by rw [HPS.out.1])
        clear hm hA hown hbel hk hge AT HCS HIN
        go_wp2_with fail
        rw [← HTL.out]
        refine Code.wp_mono (fun e a' w' h => ?_) (norm6_tail ps HPS.out.2 k HPS.out.1 h64 M c (some ⟨g, off, none⟩) w wr HPM.out.1 HPM.out.2 (bendsTo ps k) A' m c' HK.out.1 hm64 (Lib.hid HK.out.2.2) (Lib.hid HK.out.2.1) _ _ _ _ _ _ _ _ _ _ _ _ _ _ _ _ _ _ _ _ _ _ _ _ _ _ _ _ _ _ _ _ _ _ _ _ _ _ _ _ _ _ _ _ _ _ _ _ _ _ _ _ _ _ _ _ _ _ _ _ _ _ _ _ _ _ _ _ _ _ _ _ _ _ _ _ _ _ _ _ _ _ _ _ _ _ _ _ _ _ _ _ _ _ _ _ _ _ _ _ _ _)
        obtain ⟨rfl, hd8, ⟨A8, c8, hres, hown8⟩, hb8⟩ := h
        have hNP : normP ps = (List.range m).map (outAt (bendsTo ps k) (decide (areaP ps < 0))) := by rw [HN.out, HNL.out, HK.out.1]
        have hNm : (normP ps).length = m := by rw [hNP, out_len]
        exact ⟨hd8, _, hres, ⟨(0, ri, rj), HR.out, .inr ⟨rfl, A8, c8, by rw [hNm], by rw [hNm, hNP]; exact hown8⟩⟩, hb8⟩
  · have hne : (r0 != 0) = true := by simp [h0]
    go_wp2_with fail
    refine bodyPost_ret (by simp [results, Try.results23, go_sem, *]; try rfl) rfl ?_
    exact ⟨⟨(r0, ri, rj), HR.out, .inl ⟨h0, rfl⟩⟩, HB1.out⟩
end

section
open Go.RowKit Go.Shelf

theorem gp_of_mem {l : List Pt} {p : Pt} (h : p ∈ l) : ∃ k, k < l.length ∧ gp l k = p := by
  obtain ⟨k, hk, e⟩ := List.mem_iff_getElem.1 h
  exact ⟨k, hk, by unfold gp; rw [List.getElem?_eq_getElem hk, e]; rfl⟩
theorem norm_mem {ps : List Pt} : ∀ p ∈ normP ps, ∃ k, k < ps.length ∧ gp ps k = p := by
  have hb : ∀ p ∈ bendsTo ps ps.length, ∃ k, k < ps.length ∧ gp ps k = p := fun p hp => by
    unfold bendsTo at hp
    obtain ⟨k, hk, rfl⟩ := List.mem_map.1 hp
    exact ⟨k, List.mem_range.1 (List.mem_filter.1 hk).1, rfl⟩
  have hl : ∀ p ∈ normL ps, ∃ k, k < ps.length ∧ gp ps k = p := fun p hp => by
    unfold normL at hp
    split at hp
    · exact hb p (List.mem_reverse.1 hp)
    · exact hb p hp
  intro p hp
  unfold normP rotF at hp
  rcases List.mem_append.1 hp with h | h
  · exact hl p (List.mem_of_mem_drop h)
  · exact hl p (List.mem_of_mem_take h)
theorem norm_lt6 {ps : List Pt} (h : ∀ m, m < ps.length → InAt ps m) {k : Nat} (hk : k < (normP ps).length) : Lt6 (gp (normP ps) k) := by
  have hm : gp (normP ps) k ∈ normP ps := by
    unfold gp
    rw [List.getElem?_eq_getElem hk]
    exact List.getElem_mem hk
  obtain ⟨j, hj, e⟩ := norm_mem _ hm
  rw [← e]
  exact lt6_of (h j hj)
theorem conv6_idx {k n q1 q2 : Nat} (h : k < n) (hn : n ≤ 64) (e1 : (k + 1) % n = q1) (e2 : (k + 2) % n = q2) : q1 < n ∧ q2 < n ∧ k % n = k :=
  ⟨by rw [← e1]; exact Nat.mod_lt _ (by omega), by rw [← e2]; exact Nat.mod_lt _ (by omega), Nat.mod_eq_of_lt h⟩

set_option maxHeartbeats 4000000 in
set_option maxRecDepth 100000 in
theorem convex06 (ps : List Pt) (hps : ∀ p ∈ ps, IPt p) (n : Nat) (hn : ps.length = n) (M c : Nat) (A : Option Addr) (w : World) (hP : PtsAt M w (.slice A n c) ps) (hM : M ≤ w.heap.size) :
    Calls Try.prog 22 #[.slice A n c] w fun e w' => (∃ r, ChkIs ps r ∧ e = .returned (.bool (if r.1 = 0 then convL (normP ps) else false))) ∧ Below w.heap.size w w' := by
  have NR := Lib.hid (norm06 ps hps n hn M c A w hP hM)
  have H64 : Hid (∀ {i j : Nat}, ChkIs ps (0, i, j) → (normP ps).length ≤ 64) := Lib.hid (fun h => norm_64 (chk_zero h).1.2)
  have HLT : Hid (∀ {i j : Nat}, ChkIs ps (0, i, j) → ∀ k, k < (normP ps).length → Lt6 (gp (normP ps) k)) := Lib.hid (fun h k hk => norm_lt6 (chk_zero h).2.1 hk)
  obtain ⟨L, hL⟩ : ∃ L, normP ps = L := ⟨_, rfl⟩
  rw [hL] at NR H64 HLT ⊢
  clear hL hP hps
  go_enter Try.func22, Try.ntmps22
  go_wp2_with fail
  refine NR.out.mono ?_
  rintro e w1 ⟨⟨⟨r0, ri, rj⟩, hr, hcase⟩, hb1⟩
  have HR := Lib.hid hr
  have HB1 := Lib.hid hb1
  clear hr hb1 NR
  rcases hcase with ⟨h0, rfl⟩ | ⟨h0, A', c', rfl, hown⟩
  · dsimp only at h0
    have hne : (r0 != 0) = true := by simp [h0]
    go_wp2_with fail
    refine bodyPost_ret (by simp [results, Try.results22, go_sem, *]; try rfl) rfl ?_
    exact ⟨⟨(r0, ri, rj), HR.out, by rw [if_neg h0]⟩, HB1.out⟩
  · dsimp only at h0
    subst h0
    have h64 := H64.out HR.out
    have HI := Lib.hid (HLT.out HR.out)
    obtain ⟨m, hm⟩ : ∃ m, L.length = m := ⟨_, rfl⟩
    rw [hm] at hown h64 HI ⊢
    have HO := Lib.hid (And.intro hm hown)
    clear hm hown H64 HLT
    have K0 : Hid (convL L = (List.range m).all (leftAt L)) := Lib.hid (by unfold convL; rw [HO.out.1])
    go_wp2_with fail
    go_loopw [5] (fun i wr => ∃ k : Nat, k ≤ m ∧ i = .int .i64 (k : Int) ∧ (∀ j, j < k → leftAt L j = true) ∧ Below w1.heap.size w1 wr) (fun i _ => m - (intOf i).toNat)
    case atStart => exact ⟨0, Nat.zero_le _, rfl, fun j hj => absurd hj (Nat.not_lt_zero _), Below.refl _ _⟩
    case round =>
      obtain ⟨k, hk, rfl, hall, hbel⟩ := hrel
      have HA := Lib.hid hall
      have hzr := hbel.size
      rcases Nat.lt_or_ge k m with hlt | hge
      · have hkI : (k : Int) < (m : Int) := by omega
        obtain ⟨q1, e1⟩ : ∃ q, (k + 1) % m = q := ⟨_, rfl⟩
        obtain ⟨q2, e2⟩ : ∃ q, (k + 2) % m = q := ⟨_, rfl⟩
        obtain ⟨l1, l2, e0⟩ := conv6_idx hlt h64 e1 e2
        have AT := Lib.hid (fun i W (h : Below w1.heap.size w1 W) => at06 L m HO.out.1 (by omega) i W.heap.size c' A' W (ptsAt_of_own (own_keepT HO.out.2 h) HO.out.1) (Nat.le_refl _))
        have A0 := Lib.hid (fun W (h : Below w1.heap.size w1 W) => AT.out k W h)
        have A1 := Lib.hid (fun W (h : Below w1.heap.size w1 W) => AT.out (k + 1) W h)
        have A2 := Lib.hid (fun W (h : Below w1.heap.size w1 W) => AT.out (k + 2) W h)
        rw [e0] at A0
        rw [e1, show ((k + 1 : Nat) : Int) = (k : Int) + 1 by omega] at A1
        rw [e2, show ((k + 2 : Nat) : Int) = (k : Int) + 2 by omega] at A2
        obtain ⟨t, ht⟩ : ∃ t, t6 (gp L k) (gp L q1) (gp L q2) = t := ⟨_, rfl⟩
        have TN := Lib.hid (fun W => turn06 (gp L k) (gp L q1) (gp L q2) (HI.out k hlt) (HI.out q1 l1) (HI.out q2 l2) W)
        rw [ht] at TN
        have HL : Hid (leftAt L k = decide (0 ≤ t)) := Lib.hid (by unfold leftAt; rw [HO.out.1, e1, e2, ht])
        have HBL := Lib.hid hbel
        clear hall hbel ht e0 e1 e2 AT
        obtain ⟨⟨x1, x2⟩, hx⟩ : ∃ x, gp L k = x := ⟨_, rfl⟩
        obtain ⟨⟨y1, y2⟩, hy⟩ : ∃ y, gp L q1 = y := ⟨_, rfl⟩
        obtain ⟨⟨z1, z2⟩, hz⟩ : ∃ z, gp L q2 = z := ⟨_, rfl⟩
        rw [hx] at A0 TN
        rw [hy] at A1 TN
        rw [hz] at A2 TN
        dsimp only at A0 A1 A2 TN
        clear hx hy hz
        go_wp2_with fail
        refine (A0.out wr HBL.out).mono ?_
        rintro e w2 ⟨rfl, hb2⟩
        have HB2 := Lib.hid (HBL.out.trans (hb2.mono HBL.out.size))
        clear hb2 A0 HBL
        go_wp2_with fail
        refine (A1.out w2 HB2.out).mono ?_
        rintro e w3 ⟨rfl, hb3⟩
        have HB3 := Lib.hid (HB2.out.trans (hb3.mono HB2.out.size))
        clear hb3 A1 HB2
        go_wp2_with fail
        refine (A2.out w3 HB3.out).mono ?_
        rintro e w4 ⟨rfl, hb4⟩
        have HB4 := Lib.hid (HB3.out.trans (hb4.mono HB3.out.size))
        clear hb4 A2 HB3
        go_wp2_with fail
        refine (TN.out w4).mono ?_
        rintro e w5 ⟨rfl, hb5⟩
        have HB5 := Lib.hid (HB4.out.trans (hb5.mono HB4.out.size))
        have HB0 := Lib.hid (HB1.out.trans (HB5.out.mono HB1.out.size))
        clear hb5 TN HB4
        by_cases ht0 : t < 0
        · have hd : decide (t < 0) = true := by simp [ht0]
          have hf : leftAt L k = false := by rw [HL.out]; simp; omega
          go_wp2_with fail
          refine bodyPost_ret (by simp [results, Try.results22, go_sem, *]; try rfl) rfl ?_
          exact ⟨⟨(0, ri, rj), HR.out, by rw [if_pos rfl, K0.out, all_not hlt hf]⟩, HB0.out⟩
        · have hd : decide (t < 0) = false := by simp; omega
          have hf : leftAt L k = true := by rw [HL.out]; simp; omega
          go_wp2_with fail
          go_roundw
          case rel => exact ⟨k + 1, by omega, by simp, fun j hj => by
            rcases Nat.lt_or_ge j k with h | h
            · exact HA.out j h
            · obtain rfl : j = k := by omega
              exact hf, HB5.out⟩
          case measure => simp [intOf]; omega
      · obtain rfl : k = m := by omega
        have HB0 := Lib.hid (HB1.out.trans (hbel.mono HB1.out.size))
        clear hall hbel
        go_wp2_with fail
        refine bodyPost_ret (by simp [results, Try.results22, go_sem, *]; try rfl) rfl ?_
        exact ⟨⟨(0, ri, rj), HR.out, by rw [if_pos rfl, K0.out, all_range HA.out]⟩, HB0.out⟩
end

end Go.Proofs.Ythbndilnobjjgaa
