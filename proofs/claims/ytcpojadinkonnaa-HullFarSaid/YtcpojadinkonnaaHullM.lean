/-
  Plain: convex hulls by chains: their edges have all points to the left.
  Plain: the hull by chains is the hull by going from each corner to the one that follows.
  Plain: points in order, each once.
-/
import Derived.Test.YtcpojadinkonnaaSortM
namespace Go.Proofs.Ytcpojadinkonnaa
open Go.RowKit

/-- The turn from o by a to b. -/
def tr (o a b : Pt) : Int := trn o.1 o.2 a.1 a.2 b.1 b.2
def cr (o a b : Pt) : Int := (a.1 - o.1) * (b.2 - o.2) - (a.2 - o.2) * (b.1 - o.1)
theorem tr_pos (o a b : Pt) : 0 < tr o a b ↔ 0 < cr o a b := by
  unfold tr cr
  rw [crs_pos]
  unfold crs
  exact Iff.rfl
theorem tr_neg (o a b : Pt) : tr o a b < 0 ↔ cr o a b < 0 := by
  unfold tr cr
  rw [crs_neg]
  unfold crs
  exact Iff.rfl
theorem tr_zero (o a b : Pt) : tr o a b = 0 ↔ cr o a b = 0 := by
  have h1 := tr_pos o a b
  have h2 := tr_neg o a b
  omega

/-- Ahead in the order. -/
def Lt (p q : Pt) : Prop := p.1 < q.1 ∨ (p.1 = q.1 ∧ p.2 < q.2)
theorem lt_pLt (p q : Pt) : Lt p q ↔ pLt p q = true := (pLt_iff p q).symm
theorem lt_irrefl (p : Pt) : ¬ Lt p p := by unfold Lt; omega
theorem lt_trans {p q r : Pt} (h : Lt p q) (k : Lt q r) : Lt p r := by unfold Lt at *; omega
theorem lt_asym {p q : Pt} (h : Lt p q) : ¬ Lt q p := by unfold Lt at *; omega
theorem lt_tri (p q : Pt) : Lt p q ∨ p = q ∨ Lt q p := by
  unfold Lt
  rcases Int.lt_trichotomy p.1 q.1 with h | h | h
  · omega
  · rcases Int.lt_trichotomy p.2 q.2 with k | k | k
    · omega
    · exact .inr (.inl (Prod.ext h k))
    · omega
  · omega

/-- A way that goes up in the order. -/
def up (u1 u2 : Int) : Prop := 0 < u1 ∨ (u1 = 0 ∧ 0 < u2)
def cx (u1 u2 v1 v2 : Int) : Int := u1 * v2 - u2 * v1
theorem pos_of {x v : Int} (h : 0 < x * v) (hv : 0 ≤ v) : 0 < x := by
  rcases Int.lt_or_le 0 x with h0 | h0
  · exact h0
  · have := Int.mul_le_mul_of_nonneg_right h0 hv
    omega
theorem nonneg_of {x v : Int} (h : 0 ≤ x * v) (hv : 0 < v) : 0 ≤ x := by
  rcases Int.lt_or_le x 0 with h0 | h0
  · have := Int.mul_lt_mul_of_pos_right h0 hv
    omega
  · exact h0
theorem cx_id1 (u1 u2 v1 v2 w1 w2 : Int) : cx u1 u2 w1 w2 * v1 = cx u1 u2 v1 v2 * w1 + cx v1 v2 w1 w2 * u1 := by unfold cx; grind
theorem cx_id2 (u1 u2 v1 v2 w1 w2 : Int) : cx u1 u2 w1 w2 * v2 = cx u1 u2 v1 v2 * w2 + cx v1 v2 w1 w2 * u2 := by unfold cx; grind
theorem cx_neg (u1 u2 v1 v2 : Int) : cx v1 v2 u1 u2 = -cx u1 u2 v1 v2 := by unfold cx; grind
theorem mul_neg_neg {a b : Int} (h : 0 < a) (k : 0 < b) : 0 < a * b := Int.mul_pos h k

theorem cx_weak {u1 u2 v1 v2 w1 w2 : Int} (hu : up u1 u2) (hv : up v1 v2) (hw : up w1 w2) (h1 : 0 ≤ cx u1 u2 v1 v2) (h2 : 0 ≤ cx v1 v2 w1 w2) : 0 ≤ cx u1 u2 w1 w2 := by
  have e1 := cx_id1 u1 u2 v1 v2 w1 w2
  have hu1 : 0 ≤ u1 := by unfold up at hu; omega
  have hw1 : 0 ≤ w1 := by unfold up at hw; omega
  rcases hv with hv | ⟨rfl, hv⟩
  · refine nonneg_of (v := v1) ?_ hv
    rw [e1]
    exact Int.add_nonneg (Int.mul_nonneg h1 hw1) (Int.mul_nonneg h2 hu1)
  · have hw0 : w1 = 0 := by
      rcases Int.lt_or_le 0 w1 with h | h
      · have := Int.mul_pos hv h
        unfold cx at h2
        rw [Int.zero_mul] at h2
        omega
      · omega
    subst hw0
    have hw2 : 0 < w2 := by unfold up at hw; omega
    unfold cx
    rw [Int.mul_zero, Int.sub_zero]
    exact Int.mul_nonneg hu1 (by omega)
theorem cx_left {u1 u2 v1 v2 w1 w2 : Int} (hu : up u1 u2) (hv : up v1 v2) (hw : up w1 w2) (h1 : 0 ≤ cx u1 u2 v1 v2) (h2 : 0 < cx v1 v2 w1 w2) : 0 < cx u1 u2 w1 w2 := by
  have e1 := cx_id1 u1 u2 v1 v2 w1 w2
  have hw1 : 0 ≤ w1 := by unfold up at hw; omega
  rcases hv with hv | ⟨rfl, hv⟩
  · have hu1 : 0 < u1 := by
      rcases hu with hu | ⟨rfl, hu⟩
      · exact hu
      · have := Int.mul_pos hu hv
        unfold cx at h1
        rw [Int.zero_mul] at h1
        omega
    refine pos_of (v := v1) ?_ (by omega)
    rw [e1]
    have a := Int.mul_nonneg h1 hw1
    have b := Int.mul_pos h2 hu1
    omega
  · have := Int.mul_nonneg (Int.le_of_lt hv) hw1
    unfold cx at h2
    rw [Int.zero_mul] at h2
    omega
theorem cx_right {u1 u2 v1 v2 w1 w2 : Int} (hu : up u1 u2) (hv : up v1 v2) (hw : up w1 w2) (h1 : 0 < cx u1 u2 v1 v2) (h2 : 0 ≤ cx v1 v2 w1 w2) : 0 < cx u1 u2 w1 w2 := by
  have e1 := cx_id1 u1 u2 v1 v2 w1 w2
  have hu1 : 0 ≤ u1 := by unfold up at hu; omega
  have hw1 : 0 ≤ w1 := by unfold up at hw; omega
  rcases hv with hv | ⟨rfl, hv⟩
  · have hu1 : 0 < u1 := by
      rcases hu with hu | ⟨rfl, hu⟩
      · exact hu
      · have := Int.mul_pos hu hv
        unfold cx at h1
        rw [Int.zero_mul] at h1
        omega
    refine pos_of (v := v1) ?_ (by omega)
    rw [e1]
    rcases hw with hw | ⟨rfl, hw⟩
    · have a := Int.mul_pos h1 hw
      have b := Int.mul_nonneg h2 (Int.le_of_lt hu1)
      omega
    · have a := Int.mul_pos (Int.mul_pos hv hw) hu1
      unfold cx
      rw [Int.mul_zero, Int.mul_zero, Int.sub_zero, Int.zero_add]
      exact a
  · have hw0 : w1 = 0 := by
      rcases Int.lt_or_le 0 w1 with h | h
      · have := Int.mul_pos hv h
        unfold cx at h2
        rw [Int.zero_mul] at h2
        omega
      · omega
    subst hw0
    have hw2 : 0 < w2 := by unfold up at hw; omega
    have hu1 : 0 < u1 := by
      unfold cx at h1
      rw [Int.mul_zero, Int.sub_zero] at h1
      exact pos_of h1 (by omega)
    unfold cx
    rw [Int.mul_zero, Int.sub_zero]
    exact Int.mul_pos hu1 hw2
theorem lt_up {p q : Pt} (h : Lt p q) : up (q.1 - p.1) (q.2 - p.2) := by unfold Lt at h; unfold up; omega

/-- All points of L lie to the left of the way from u to v, or between. -/
def Left (L : List Pt) (u v : Pt) : Prop := ∀ q ∈ L, 0 ≤ cr u v q ∧ (cr u v q = 0 → ¬ Lt q u ∧ ¬ Lt v q)
/-- The edges of a chain, the last one first. -/
def Chn (L : List Pt) : List Pt → Prop
  | v :: u :: s => Lt u v ∧ Left L u v ∧ Chn L (u :: s)
  | _ => True
def pop (p : Pt) : List Pt → List Pt
  | v :: u :: s => if tr u v p ≤ 0 then pop p (u :: s) else v :: u :: s
  | s => s
/-- A chain through points, the last one first. -/
def chainF (l : List Pt) : List Pt := l.foldl (fun s p => p :: pop p s) []
theorem chainF_snoc (l : List Pt) (p : Pt) : chainF (l ++ [p]) = p :: pop p (chainF l) := by unfold chainF; rw [List.foldl_append]; rfl

theorem cr_cx (o a b : Pt) : cr o a b = cx (a.1 - o.1) (a.2 - o.2) (b.1 - o.1) (b.2 - o.2) := rfl
theorem cr_from (t u v : Pt) : cr t u v = cx (u.1 - t.1) (u.2 - t.2) (v.1 - u.1) (v.2 - u.2) := by unfold cr cx; grind
theorem cr_last (u v : Pt) : cr u v v = 0 := by unfold cr; grind
theorem cr_first (u v : Pt) : cr u v u = 0 := by unfold cr; grind

theorem edges_p {L : List Pt} {p : Pt} (hp : ∀ q ∈ L, Lt q p) : ∀ (s : List Pt) (v u : Pt), Chn L (v :: u :: s) → (∀ x ∈ v :: u :: s, x ∈ L) → 0 < cr u v p → Chn (L ++ [p]) (v :: u :: s)
  | [], v, u, ⟨h1, h2, _⟩, _, h3 => ⟨h1, fun q hq => by
      rcases List.mem_append.1 hq with hq | hq
      · exact h2 q hq
      · rw [List.mem_singleton] at hq
        subst hq
        exact ⟨by omega, fun h => by omega⟩, trivial⟩
  | t :: s, v, u, ⟨h1, h2, h4⟩, hm, h3 => ⟨h1, fun q hq => by
      rcases List.mem_append.1 hq with hq | hq
      · exact h2 q hq
      · rw [List.mem_singleton] at hq
        subst hq
        exact ⟨by omega, fun h => by omega⟩, edges_p hp s u t h4 (fun x hx => hm x (List.mem_cons_of_mem _ hx)) (by
      have hv := h4.2.1 v (hm v (by simp))
      have hlt := h4.1
      have hpos : 0 < cr t u v := by
        rcases Int.lt_or_le 0 (cr t u v) with h | h
        · exact h
        · exact absurd h1 (hv.2 (by omega)).2
      rw [cr_from] at hpos ⊢
      rw [cr_cx] at h3
      exact cx_right (lt_up hlt) (lt_up h1) (lt_up (hp u (hm u (by simp)))) hpos (by omega))⟩

/-- The chain's state: its edges, its ends. -/
structure Inv (L s : List Pt) : Prop where
  chn : Chn L s
  mem : ∀ x ∈ s, x ∈ L
  top : ∀ q ∈ L, ∀ v, s.head? = some v → ¬ Lt v q
  bot : ∀ q ∈ L, ∀ v, s.getLast? = some v → ¬ Lt q v

/-- While points are taken off: all that lies behind the last one is to the left of the way to p. -/
theorem pop_inv {L : List Pt} {p : Pt} (hp : ∀ q ∈ L, Lt q p) : ∀ (s : List Pt) (v : Pt), Chn L (v :: s) → (∀ x ∈ v :: s, x ∈ L) → (∀ q ∈ L, ∀ z, (v :: s).getLast? = some z → ¬ Lt q z) → (∀ q ∈ L, Lt v q → 0 ≤ cr v p q) →
    ∃ v' s', pop p (v :: s) = v' :: s' ∧ Chn (L ++ [p]) (p :: v' :: s') ∧ (∀ x ∈ v' :: s', x ∈ L) ∧ (v' :: s').getLast? = (v :: s).getLast?
  | [], v, hc, hm, hb, hl => ⟨v, [], rfl, ⟨hp v (hm v (by simp)), fun q hq => by
      rcases List.mem_append.1 hq with hq | hq
      · have hn := hb q hq v rfl
        rcases lt_tri v q with h | h | h
        · exact ⟨hl q hq h, fun _ => ⟨hn, lt_asym (hp q hq)⟩⟩
        · subst h
          exact ⟨by rw [cr_first]; omega, fun _ => ⟨hn, lt_asym (hp v hq)⟩⟩
        · exact absurd h hn
      · rw [List.mem_singleton] at hq
        subst hq
        exact ⟨by rw [cr_last]; omega, fun _ => ⟨lt_asym (hp v (hm v (by simp))), lt_irrefl _⟩⟩, trivial⟩, hm, rfl⟩
  | u :: s, v, hc, hm, hb, hl => by
    have huv := hc.1
    have hvL := hm v (by simp)
    have huL := hm u (by simp)
    by_cases ht : tr u v p ≤ 0
    · have hcr : cr u v p ≤ 0 := by
        have := tr_pos u v p
        omega
      obtain ⟨v', s', e1, e2, e3, e4⟩ := pop_inv hp s u hc.2.2 (fun x hx => hm x (List.mem_cons_of_mem _ hx)) (fun q hq z hz => hb q hq z (by rw [List.getLast?_cons_cons]; exact hz)) (fun q hq hlt => by
        have h1 := (hc.2.1 q hq).1
        rw [cr_cx] at h1 hcr ⊢
        rw [cx_neg] at hcr
        exact cx_weak (lt_up (hp u huL)) (lt_up huv) (lt_up hlt) (by omega) h1)
      refine ⟨v', s', ?_, e2, e3, ?_⟩
      · rw [← e1]
        show (if tr u v p ≤ 0 then pop p (u :: s) else v :: u :: s) = _
        rw [if_pos ht]
      · rw [e4, List.getLast?_cons_cons]
    · have hcr : 0 < cr u v p := (tr_pos u v p).1 (by omega)
      refine ⟨v, u :: s, ?_, ⟨hp v hvL, fun q hq => ?_, edges_p hp s v u hc hm hcr⟩, hm, rfl⟩
      · show (if tr u v p ≤ 0 then pop p (u :: s) else v :: u :: s) = _
        rw [if_neg ht]
      · rcases List.mem_append.1 hq with hq | hq
        · rcases lt_tri v q with h | h | h
          · exact ⟨hl q hq h, fun _ => ⟨lt_asym h, lt_asym (hp q hq)⟩⟩
          · subst h
            exact ⟨by rw [cr_first]; omega, fun _ => ⟨lt_irrefl _, lt_asym (hp v hq)⟩⟩
          · have h1 := (hc.2.1 q hq).1
            have hca : 0 ≤ cx (v.1 - q.1) (v.2 - q.2) (v.1 - u.1) (v.2 - u.2) := by
              have : cx (v.1 - q.1) (v.2 - q.2) (v.1 - u.1) (v.2 - u.2) = cr u v q := by unfold cr cx; grind
              omega
            have hab : 0 < cx (v.1 - u.1) (v.2 - u.2) (p.1 - v.1) (p.2 - v.2) := by rw [← cr_from]; exact hcr
            have hcb := cx_left (lt_up h) (lt_up huv) (lt_up (hp v hvL)) hca hab
            have e : cr v p q = cx (v.1 - q.1) (v.2 - q.2) (p.1 - v.1) (p.2 - v.2) := by unfold cr cx; grind
            exact ⟨by omega, fun h0 => by omega⟩
        · rw [List.mem_singleton] at hq
          subst hq
          exact ⟨by rw [cr_last]; omega, fun _ => ⟨lt_asym (hp v hvL), lt_irrefl _⟩⟩

/-- Each ahead of the next ones. -/
def Asc (l : List Pt) : Prop := l.Pairwise Lt
theorem asc_snoc {l : List Pt} {p : Pt} (h : Asc (l ++ [p])) : Asc l ∧ ∀ q ∈ l, Lt q p := by
  unfold Asc at *
  rw [List.pairwise_append] at h
  exact ⟨h.1, fun q hq => h.2.2 q hq p (by simp)⟩

theorem snoc_ind {α : Type} {P : List α → Prop} (h0 : P []) (h1 : ∀ l p, P l → P (l ++ [p])) (l : List α) : P l := by
  have : ∀ k : List α, P k.reverse := fun k => by
    induction k with
    | nil => exact h0
    | cons a k ih => rw [List.reverse_cons]; exact h1 _ _ ih
  have := this l.reverse
  rwa [List.reverse_reverse] at this

theorem chain_inv : ∀ (l : List Pt), Asc l → l ≠ [] → ∃ s, chainF l = s ∧ Chn l s ∧ (∀ x ∈ s, x ∈ l) ∧ s.head? = l.getLast? ∧ s.getLast? = l.head? := by
  refine snoc_ind (fun _ h => absurd rfl h) fun l p ih => ?_
  · intro ha _
    obtain ⟨ha, hp⟩ := asc_snoc ha
    rw [chainF_snoc]
    rcases l.eq_nil_or_concat with rfl | ⟨l', z, rfl⟩
    · exact ⟨[p], rfl, trivial, fun x hx => hx, rfl, rfl⟩
    · rw [List.concat_eq_append] at *
      obtain ⟨s, hs, hc, hm, ht, hb⟩ := ih ha (by simp)
      rw [hs]
      rw [List.getLast?_concat] at ht
      cases s with
      | nil => cases ht
      | cons v s =>
        obtain rfl : v = z := by simpa using ht
        obtain ⟨hl', hz⟩ := asc_snoc ha
        obtain ⟨v', s', e1, e2, e3, e4⟩ := pop_inv hp s v hc hm (fun q hq y hy => by
          rw [hb] at hy
          cases l' with
          | nil =>
            simp at hy hq
            subst hy hq
            exact lt_irrefl _
          | cons f l'' =>
            simp at hy
            subst hy
            rcases List.mem_cons.1 hq with rfl | hq
            · exact lt_irrefl _
            · exact lt_asym ((List.pairwise_cons.1 ha).1 q hq)) (fun q hq hlt => by
          rcases List.mem_append.1 hq with hq | hq
          · exact absurd hlt (lt_asym (hz q hq))
          · rw [List.mem_singleton] at hq
            subst hq
            exact absurd hlt (lt_irrefl _))
        rw [e1]
        refine ⟨_, rfl, e2, fun x hx => ?_, by simp, ?_⟩
        · rcases List.mem_cons.1 hx with rfl | hx
          · simp
          · exact List.mem_append_left _ (e3 x hx)
        · rw [List.getLast?_cons_cons, e4, hb]
          cases l' <;> rfl

def onT (q a b : Pt) : Bool := onB q.1 q.2 a.1 a.2 b.1 b.2
/-- b is the corner behind a. -/
def fol (l : List Pt) (a b : Pt) : Bool := !(a == b) && l.all fun q => !(decide (tr a b q < 0) || (decide (tr a b q = 0) && !(q == a) && !onT q a b))
theorem fol_iff (l : List Pt) (a b : Pt) : fol l a b = true ↔ a ≠ b ∧ ∀ q ∈ l, ¬ tr a b q < 0 ∧ (tr a b q = 0 → q = a ∨ onT q a b = true) := by
  unfold fol
  rw [Bool.and_eq_true, List.all_eq_true]
  simp only [Bool.not_eq_true', beq_eq_false_iff_ne, Bool.or_eq_false_iff, decide_eq_false_iff_not, Bool.and_eq_false_iff, Bool.not_eq_false', beq_iff_eq]
  refine and_congr Iff.rfl ⟨fun h q hq => ⟨(h q hq).1, fun h0 => ?_⟩, fun h q hq => ⟨(h q hq).1, ?_⟩⟩
  · rcases (h q hq).2 with (h1 | h1) | h1
    · exact absurd h0 h1
    · exact .inl h1
    · exact .inr h1
  · by_cases h0 : tr a b q = 0
    · rcases (h q hq).2 h0 with h1 | h1
      · exact .inl (.inr h1)
      · exact .inr h1
    · exact .inl (.inl h0)

theorem onT_iff (q a b : Pt) : onT q a b = true ↔ ((a.1 ≤ q.1 ∧ q.1 ≤ b.1) ∨ (b.1 ≤ q.1 ∧ q.1 ≤ a.1)) ∧ ((a.2 ≤ q.2 ∧ q.2 ≤ b.2) ∨ (b.2 ≤ q.2 ∧ q.2 ≤ a.2)) ∧ tr a b q = 0 := by
  unfold onT onB hasB tr
  rw [Bool.and_eq_true, decide_eq_true_iff]
  simp only [decide_eq_true_iff]
  omega

/-- A point on the line of a and b, between them in the order, is on the segment. -/
theorem on_of {a b q : Pt} (_hab : Lt a b) (h0 : cr a b q = 0) (h1 : ¬ Lt q a) (h2 : ¬ Lt b q) : ((a.1 ≤ q.1 ∧ q.1 ≤ b.1) ∨ (b.1 ≤ q.1 ∧ q.1 ≤ a.1)) ∧ ((a.2 ≤ q.2 ∧ q.2 ≤ b.2) ∨ (b.2 ≤ q.2 ∧ q.2 ≤ a.2)) := by
  unfold Lt at _hab h1 h2
  have hx : a.1 ≤ q.1 ∧ q.1 ≤ b.1 := by omega
  refine ⟨.inl hx, ?_⟩
  rcases Int.lt_or_le a.1 b.1 with hd | hd
  · obtain ⟨d, hd'⟩ : ∃ d, b.1 - a.1 = d := ⟨_, rfl⟩
    obtain ⟨m, hm⟩ : ∃ m, q.1 - a.1 = m := ⟨_, rfl⟩
    obtain ⟨e, he⟩ : ∃ e, b.2 - a.2 = e := ⟨_, rfl⟩
    obtain ⟨f, hf⟩ : ∃ f, q.2 - a.2 = f := ⟨_, rfl⟩
    have hk : d * f = e * m := by
      unfold cr at h0
      rw [hd', hm, he, hf] at h0
      omega
    have d0 : 0 < d := by omega
    rcases Int.le_total 0 e with h | h
    · have a1 : 0 ≤ f := nonneg_of (x := f) (v := d) (by rw [Int.mul_comm, hk]; exact Int.mul_nonneg h (by omega)) d0
      have a2 : f ≤ e := by
        have : 0 ≤ e - f := nonneg_of (x := e - f) (v := d) (by
          rw [Int.sub_mul, Int.mul_comm f d, hk, ← Int.mul_sub]
          exact Int.mul_nonneg h (by omega)) d0
        omega
      omega
    · have a1 : 0 ≤ -f := nonneg_of (x := -f) (v := d) (by
        rw [Int.neg_mul, Int.mul_comm, hk, ← Int.neg_mul]; exact Int.mul_nonneg (by omega) (by omega)) d0
      have a2 : 0 ≤ f - e := nonneg_of (x := f - e) (v := d) (by
          rw [Int.sub_mul, Int.mul_comm f d, hk, ← Int.mul_sub, ← Int.neg_mul_neg]
          exact Int.mul_nonneg (by omega) (by omega)) d0
      omega
  · have : a.1 = b.1 := by omega
    omega

theorem fol_of {L : List Pt} {u v : Pt} (h : Lt u v) (hl : Left L u v) : fol L u v = true := by
  rw [fol_iff]
  refine ⟨fun e => lt_irrefl v (e ▸ h), fun q hq => ?_⟩
  obtain ⟨h1, h2⟩ := hl q hq
  refine ⟨fun h3 => by rw [tr_neg] at h3; omega, fun h3 => .inr ?_⟩
  have h4 := (tr_zero _ _ _).1 h3
  obtain ⟨h5, h6⟩ := on_of h h4 (h2 h4).1 (h2 h4).2
  exact (onT_iff _ _ _).2 ⟨h5, h6, h3⟩
theorem on_back {q a b : Pt} (h : onT q a b = true) : ((a.1 ≤ q.1 ∧ q.1 ≤ b.1) ∨ (b.1 ≤ q.1 ∧ q.1 ≤ a.1)) ∧ ((a.2 ≤ q.2 ∧ q.2 ≤ b.2) ∨ (b.2 ≤ q.2 ∧ q.2 ≤ a.2)) := ⟨((onT_iff _ _ _).1 h).1, ((onT_iff _ _ _).1 h).2.1⟩
/-- Only one corner follows. -/
theorem fol_one {l : List Pt} {a b c : Pt} (hb : b ∈ l) (hc : c ∈ l) (h : fol l a b = true) (k : fol l a c = true) : b = c := by
  rw [fol_iff] at h k
  obtain ⟨h1, h2⟩ := h
  obtain ⟨k1, k2⟩ := k
  have e : tr a c b = -tr a b c := trn_back _ _ _ _ _ _
  obtain ⟨h3, h4⟩ := h2 c hc
  obtain ⟨k3, k4⟩ := k2 b hb
  have h5 : c = a ∨ onT c a b = true := h4 (by omega)
  have k5 : b = a ∨ onT b a c = true := k4 (by omega)
  rcases h5 with h5 | h5
  · exact absurd h5.symm k1
  rcases k5 with k5 | k5
  · exact absurd k5.symm h1
  have h6 := on_back h5
  have k6 := on_back k5
  exact Prod.ext (by omega) (by omega)

/-! The reversed row: the points seen the other way about. -/
def ng (p : Pt) : Pt := (-p.1, -p.2)
theorem ng_ng (p : Pt) : ng (ng p) = p := by unfold ng; simp
theorem cr_ng (o a b : Pt) : cr (ng o) (ng a) (ng b) = cr o a b := by unfold cr ng; grind
theorem tr_ng (o a b : Pt) : tr (ng o) (ng a) (ng b) = tr o a b := by
  have h1 := tr_pos (ng o) (ng a) (ng b)
  have h2 := tr_neg (ng o) (ng a) (ng b)
  have k1 := tr_pos o a b
  have k2 := tr_neg o a b
  rw [cr_ng] at h1 h2
  have b1 := trn_bd (ng o).1 (ng o).2 (ng a).1 (ng a).2 (ng b).1 (ng b).2
  have b2 := trn_bd o.1 o.2 a.1 a.2 b.1 b.2
  unfold tr at *
  omega
theorem lt_ng {p q : Pt} : Lt (ng p) (ng q) ↔ Lt q p := by unfold Lt ng; constructor <;> (intro h; simp only at h ⊢; omega)
theorem pop_ng (p : Pt) : ∀ s : List Pt, pop (ng p) (s.map ng) = (pop p s).map ng
  | [] => rfl
  | [_] => rfl
  | v :: u :: s => by
    have ih := pop_ng p (u :: s)
    show (if tr (ng u) (ng v) (ng p) ≤ 0 then pop (ng p) ((u :: s).map ng) else _) = List.map ng (if tr u v p ≤ 0 then pop p (u :: s) else v :: u :: s)
    rw [tr_ng]
    split
    · exact ih
    · rfl
theorem chain_ng (l : List Pt) : chainF (l.map ng) = (chainF l).map ng := by
  refine snoc_ind (P := fun l => chainF (l.map ng) = (chainF l).map ng) rfl (fun l p ih => ?_) l
  rw [List.map_append, List.map_singleton, chainF_snoc, chainF_snoc, ih, pop_ng]; rfl

/-- A walk from corner to corner. -/
def Wk (R : Pt → Pt → Prop) : List Pt → Prop
  | a :: b :: s => R a b ∧ Wk R (b :: s)
  | _ => True
theorem wk_snoc {R : Pt → Pt → Prop} {a b : Pt} (h : R a b) : ∀ x : List Pt, Wk R (x ++ [a]) → Wk R (x ++ [a, b])
  | [], _ => ⟨h, trivial⟩
  | [_], k => ⟨k.1, h, trivial⟩
  | _ :: y :: x, k => ⟨k.1, wk_snoc h (y :: x) k.2⟩
theorem wk_rev {R : Pt → Pt → Prop} : ∀ s : List Pt, Wk (fun a b => R b a) s → Wk R s.reverse
  | [], _ => trivial
  | [_], _ => trivial
  | a :: b :: s, h => by
    have ih := wk_rev (b :: s) h.2
    rw [List.reverse_cons] at ih
    rw [List.reverse_cons, List.reverse_cons, List.append_assoc]
    exact wk_snoc h.1 _ ih
theorem wk_mono {R S : Pt → Pt → Prop} (h : ∀ a b, R a b → S a b) : ∀ s : List Pt, Wk R s → Wk S s
  | [], _ => trivial
  | [_], _ => trivial
  | _ :: b :: s, k => ⟨h _ _ k.1, wk_mono h (b :: s) k.2⟩
theorem wk_map {R : Pt → Pt → Prop} {f : Pt → Pt} : ∀ s : List Pt, Wk R (s.map f) → Wk (fun a b => R (f a) (f b)) s
  | [], _ => trivial
  | [_], _ => trivial
  | _ :: b :: s, k => ⟨k.1, wk_map (b :: s) k.2⟩
theorem wk_join {R : Pt → Pt → Prop} {m : Pt} : ∀ (x y : List Pt), Wk R (x ++ [m]) → Wk R (m :: y) → Wk R (x ++ m :: y)
  | [], _, _, k => k
  | [_], _, h, k => ⟨h.1, k⟩
  | _ :: b :: x, y, h, k => ⟨h.1, wk_join (b :: x) y h.2 k⟩
theorem wk_at {R : Pt → Pt → Prop} : ∀ (s : List Pt) (i : Nat), Wk R s → i + 1 < s.length → R (gp s i) (gp s (i + 1))
  | [], _, _, h => by simp at h
  | [_], _, _, h => by simp at h
  | _ :: _ :: _, 0, k, _ => k.1
  | _ :: b :: s, i + 1, k, h => wk_at (b :: s) i k.2 (by simpa using h)

theorem chn_wk (L : List Pt) : ∀ s : List Pt, Chn L s → Wk (fun v u => Lt u v ∧ Left L u v) s
  | [], _ => trivial
  | [_], _ => trivial
  | _ :: u :: s, h => ⟨⟨h.1, h.2.1⟩, chn_wk L (u :: s) h.2.2⟩

/-- The side of a hull through points in their order: a walk of followers, and ascending. -/
theorem low_side {l : List Pt} (ha : Asc l) (h0 : l ≠ []) : Wk (fun a b => Lt a b ∧ fol l a b = true) (chainF l).reverse ∧ (∀ x ∈ (chainF l).reverse, x ∈ l) ∧ (chainF l).reverse.head? = l.head? ∧ (chainF l).reverse.getLast? = l.getLast? := by
  obtain ⟨s, e, hc, hm, ht, hb⟩ := chain_inv l ha h0
  rw [e]
  refine ⟨wk_mono (fun a b h => ⟨h.1, fol_of h.1 h.2⟩) _ (wk_rev (R := fun a b => Lt a b ∧ Left l a b) s (chn_wk l s hc)), fun x hx => hm x (List.mem_reverse.1 hx), ?_, ?_⟩
  · rw [List.head?_reverse, hb]
  · rw [List.getLast?_reverse, ht]

theorem fol_ng {l : List Pt} {a b : Pt} (h : fol (l.map ng) (ng a) (ng b) = true) : fol l a b = true := by
  rw [fol_iff] at h ⊢
  refine ⟨fun e => h.1 (by rw [e]), fun q hq => ?_⟩
  obtain ⟨h1, h2⟩ := h.2 (ng q) (List.mem_map_of_mem hq)
  rw [tr_ng] at h1 h2
  refine ⟨h1, fun h3 => ?_⟩
  rcases h2 h3 with h4 | h4
  · have := congrArg ng h4
    rw [ng_ng, ng_ng] at this
    exact .inl this
  · rw [onT_iff] at h4 ⊢
    rw [tr_ng] at h4
    unfold ng at h4
    simp only at h4
    refine .inr ⟨by omega, by omega, h3⟩
theorem asc_ng {l : List Pt} (h : Asc l) : Asc (l.reverse.map ng) := by
  unfold Asc at *
  rw [List.pairwise_map, List.pairwise_reverse]
  exact h.imp fun k => lt_ng.2 k
theorem fol_perm {l k : List Pt} (h : ∀ x, x ∈ l ↔ x ∈ k) {a b : Pt} (hf : fol l a b = true) : fol k a b = true := by
  rw [fol_iff] at *
  exact ⟨hf.1, fun q hq => hf.2 q ((h q).2 hq)⟩
theorem opt_ng {x y : Option Pt} (h : x.map ng = y.map ng) : x = y := by
  cases x <;> cases y <;> simp at h
  · rfl
  · have := congrArg ng h
    rw [ng_ng, ng_ng] at this
    rw [this]
theorem high_side {l : List Pt} (ha : Asc l) (h0 : l ≠ []) : Wk (fun a b => Lt b a ∧ fol l a b = true) (chainF l.reverse).reverse ∧ (∀ x ∈ (chainF l.reverse).reverse, x ∈ l) ∧ (chainF l.reverse).reverse.head? = l.getLast? ∧ (chainF l.reverse).reverse.getLast? = l.head? := by
  obtain ⟨h1, h2, h3, h4⟩ := low_side (asc_ng ha) (by simpa using h0)
  rw [chain_ng] at h1 h2 h3 h4
  rw [← List.map_reverse] at h1 h2 h3 h4
  refine ⟨wk_mono (fun a b h => ⟨lt_ng.1 h.1, fol_perm (fun x => List.mem_reverse) (fol_ng h.2)⟩) _ (wk_map _ h1), fun x hx => ?_, ?_, ?_⟩
  · have := h2 (ng x) (List.mem_map_of_mem hx)
    obtain ⟨y, hy, e⟩ := List.mem_map.1 this
    have := congrArg ng e
    rw [ng_ng, ng_ng] at this
    subst this
    exact List.mem_reverse.1 hy
  · rw [List.head?_map, List.head?_map] at h3
    rw [← List.head?_reverse]
    exact opt_ng h3
  · rw [List.getLast?_map, List.getLast?_map] at h4
    rw [← List.getLast?_reverse]
    exact opt_ng h4

/-- The hull by chains. -/
def hullF (l : List Pt) : List Pt := if l.length < 3 then l else (chainF l).reverse.dropLast ++ (chainF l.reverse).reverse.dropLast

theorem wk_pair {R : Pt → Pt → Prop} (ht : ∀ a b c, R a b → R b c → R a c) : ∀ s : List Pt, Wk R s → s.Pairwise R
  | [], _ => List.Pairwise.nil
  | [_], _ => List.pairwise_singleton _ _
  | a :: b :: s, h => by
    have ih := wk_pair ht (b :: s) h.2
    refine List.pairwise_cons.2 ⟨fun x hx => ?_, ih⟩
    rcases List.mem_cons.1 hx with rfl | hx
    · exact h.1
    · exact ht _ _ _ h.1 ((List.pairwise_cons.1 ih).1 x hx)
theorem len_le : ∀ (H l : List Pt), H.Nodup → (∀ x ∈ H, x ∈ l) → H.length ≤ l.length
  | [], _, _, _ => Nat.zero_le _
  | a :: H, l, hn, hm => by
    have ha := hm a (by simp)
    rw [List.nodup_cons] at hn
    have := len_le H (l.erase a) hn.2 fun x hx => (List.mem_erase_of_ne (show x ≠ a from fun e => hn.1 (e ▸ hx))).2 (hm x (List.mem_cons_of_mem _ hx))
    rw [List.length_erase_of_mem ha] at this
    have h1 := List.length_pos_of_mem ha
    rw [List.length_cons]
    omega
theorem gp_app_lt {x y : List Pt} {i : Nat} (h : i < x.length) : gp (x ++ y) i = gp x i := by unfold gp; rw [List.getElem?_append_left h]
theorem gp_app_ge {x : List Pt} {a : Pt} : gp (x ++ [a]) x.length = a := by unfold gp; simp
theorem gp_mem {x : List Pt} {i : Nat} (h : i < x.length) : gp x i ∈ x := by unfold gp; rw [List.getElem?_eq_getElem h]; exact List.getElem_mem h

/-- The hull's corners: each is followed by the next one, the last one by the first. -/
structure HullIs (l H : List Pt) : Prop where
  walk : ∀ i, i < H.length → fol l (gp H i) (gp (H ++ [gp l 0]) (i + 1)) = true
  mem : ∀ x ∈ H, x ∈ l
  first : gp H 0 = gp l 0
  pos : 0 < H.length
  back : ∀ i, 1 ≤ i → i < H.length → gp H i ≠ gp l 0
  len : H.length ≤ l.length
  nodup : H.Nodup

theorem asc_ends {l : List Pt} (ha : Asc l) (h2 : 2 ≤ l.length) : ∃ z, l.head? = some (gp l 0) ∧ l.getLast? = some z ∧ gp l 0 ≠ z ∧ Lt (gp l 0) z ∧ ∀ q ∈ l, q = gp l 0 ∨ Lt (gp l 0) q := by
  cases l with
  | nil => simp at h2
  | cons a t =>
    have hp := (List.pairwise_cons.1 ha).1
    have hne : t ≠ [] := fun e => by rw [e] at h2; simp at h2
    have hz := hp (t.getLast hne) (List.getLast_mem hne)
    refine ⟨t.getLast hne, rfl, by rw [List.getLast?_cons, List.getLast?_eq_some_getLast hne]; rfl, fun e => lt_irrefl _ (e ▸ hz), hz, fun q hq => ?_⟩
    rcases List.mem_cons.1 hq with h | h
    · exact .inl h
    · exact .inr (hp q h)
theorem split_last {l : List Pt} {z : Pt} (h : l.getLast? = some z) : l = l.dropLast ++ [z] := by
  rcases l.eq_nil_or_concat with rfl | ⟨k, y, rfl⟩
  · cases h
  · rw [List.concat_eq_append] at *
    simp at h
    subst h
    rw [List.dropLast_concat]

theorem hull_is {l : List Pt} (ha : Asc l) (h2 : 2 ≤ l.length) : HullIs l ((chainF l).reverse.dropLast ++ (chainF l.reverse).reverse.dropLast) := by
  obtain ⟨z, e0, ez, hne, hlt, hmin⟩ := asc_ends ha h2
  have hnil : l ≠ [] := fun e => by rw [e] at h2; simp at h2
  obtain ⟨a1, a2, a3, a4⟩ := low_side ha hnil
  obtain ⟨b1, b2, b3, b4⟩ := high_side ha hnil
  obtain ⟨lo, hlo⟩ : ∃ x, (chainF l).reverse = x := ⟨_, rfl⟩
  obtain ⟨hi, hhi⟩ : ∃ x, (chainF l.reverse).reverse = x := ⟨_, rfl⟩
  rw [hlo] at a1 a2 a3 a4 ⊢
  rw [hhi] at b1 b2 b3 b4 ⊢
  rw [e0] at a3 b4
  rw [ez] at a4 b3
  have slo := split_last a4
  have shi := split_last b4
  have plo := wk_pair (R := Lt) (fun _ _ _ h k => lt_trans h k) lo (wk_mono (fun _ _ h => h.1) lo a1)
  have phi := wk_pair (R := fun a b => Lt b a) (fun _ _ _ h k => lt_trans k h) hi (wk_mono (fun _ _ h => h.1) hi b1)
  obtain ⟨x, hx⟩ : ∃ x, lo.dropLast = x := ⟨_, rfl⟩
  obtain ⟨y, hy⟩ : ∃ y, hi.dropLast = y := ⟨_, rfl⟩
  rw [hx] at slo ⊢
  rw [hy] at shi ⊢
  have hx0 : ∃ x', x = gp l 0 :: x' := by
    cases x with
    | nil => rw [slo] at a3; simp at a3; exact absurd a3.symm hne
    | cons c x' => rw [slo] at a3; simp at a3; exact ⟨x', by rw [a3]⟩
  obtain ⟨x', rfl⟩ := hx0
  have hi0 : ∃ t, hi = z :: t := by
    cases hi with
    | nil => cases b3
    | cons c t => simp at b3; exact ⟨t, by rw [b3]⟩
  obtain ⟨t, ht⟩ := hi0
  have hrest : ∀ q ∈ x' ++ y, q ≠ gp l 0 := fun q hq => by
    rcases List.mem_append.1 hq with hq | hq
    · rw [slo, List.cons_append] at plo
      have := (List.pairwise_cons.1 plo).1 q (List.mem_append_left _ hq)
      exact fun e => lt_irrefl _ (e ▸ this)
    · rw [shi, List.pairwise_append] at phi
      have := phi.2.2 q hq (gp l 0) (by simp)
      exact fun e => lt_irrefl _ (e ▸ this)
  have hW : Wk (fun a b => fol l a b = true) ((gp l 0 :: x' ++ y) ++ [gp l 0]) := by
    rw [List.append_assoc, ← shi, ht]
    refine wk_join _ _ ?_ ?_
    · rw [← slo]; exact wk_mono (fun _ _ h => h.2) lo a1
    · rw [← ht]; exact wk_mono (fun _ _ h => h.2) hi b1
  have hmem : ∀ q ∈ gp l 0 :: x' ++ y, q ∈ l := fun q hq => by
    rcases List.mem_append.1 hq with hq | hq
    · exact a2 q (by rw [slo]; exact List.mem_append_left _ hq)
    · exact b2 q (by rw [shi]; exact List.mem_append_left _ hq)
  obtain ⟨H, hH⟩ : ∃ H, gp l 0 :: x' ++ y = H := ⟨_, rfl⟩
  have hHc : H = gp l 0 :: (x' ++ y) := by rw [← hH, List.cons_append]
  rw [hH] at hW hmem ⊢
  have hlen : 0 < H.length := by rw [hHc]; simp
  have hfirst : gp H 0 = gp l 0 := by rw [hHc]; rfl
  have hback : ∀ i, 1 ≤ i → i < H.length → gp H i ≠ gp l 0 := fun i h1 h3 => by
    obtain ⟨j, rfl⟩ : ∃ j, i = j + 1 := ⟨i - 1, by omega⟩
    rw [hHc] at h3 ⊢
    exact hrest _ (gp_mem (x := x' ++ y) (by simpa using h3))
  have hwalk : ∀ i, i < H.length → fol l (gp H i) (gp (H ++ [gp l 0]) (i + 1)) = true := fun i h => by
    have := wk_at _ i hW (by simpa using h)
    rwa [gp_app_lt h] at this
  have hWm : ∀ i, i ≤ H.length → gp (H ++ [gp l 0]) i ∈ l := fun i h => by
    rcases Nat.lt_or_ge i H.length with h1 | h1
    · rw [gp_app_lt h1]; exact hmem _ (gp_mem h1)
    · obtain rfl : i = H.length := by omega
      rw [gp_app_ge, ← hfirst]; exact hmem _ (gp_mem hlen)
  have hnd : H.Nodup := by
    unfold List.Nodup
    rw [List.pairwise_iff_getElem]
    intro i j hi' hj hij e
    have e0 : gp (H ++ [gp l 0]) i = gp (H ++ [gp l 0]) j := by
      rw [gp_app_lt hi', gp_app_lt hj]
      unfold gp
      rw [List.getElem?_eq_getElem hi', List.getElem?_eq_getElem hj, e]
    have key : ∀ m, j + m ≤ H.length → gp (H ++ [gp l 0]) (i + m) = gp (H ++ [gp l 0]) (j + m) := by
      intro m
      induction m with
      | zero => exact fun _ => e0
      | succ m ih =>
        intro hm
        have ih := ih (by omega)
        have w1 := hwalk (i + m) (by omega)
        have w2 := hwalk (j + m) (by omega)
        rw [← gp_app_lt (y := [gp l 0]) (show i + m < H.length by omega), ih] at w1
        rw [← gp_app_lt (y := [gp l 0]) (show j + m < H.length by omega)] at w2
        exact fol_one (hWm _ (by omega)) (hWm _ (by omega)) w1 w2
    have hk := key (H.length - j) (by omega)
    rw [show j + (H.length - j) = H.length by omega, gp_app_ge, gp_app_lt (by omega)] at hk
    exact hback (i + (H.length - j)) (by omega) (by omega) hk
  exact ⟨hwalk, hmem, hfirst, hlen, hback, len_le H l hnd hmem, hnd⟩

theorem flat_cr {a z u v q : Pt} (h : Lt a z) (hu : cr a z u = 0) (hv : cr a z v = 0) (hq : cr a z q = 0) : cr u v q = 0 := by
  have k1 : cx (v.1 - u.1) (v.2 - u.2) (z.1 - a.1) (z.2 - a.2) = 0 := by
    have : cx (v.1 - u.1) (v.2 - u.2) (z.1 - a.1) (z.2 - a.2) = cr a z u - cr a z v := by unfold cx cr; grind
    omega
  have k2 : cx (z.1 - a.1) (z.2 - a.2) (q.1 - u.1) (q.2 - u.2) = 0 := by
    have : cx (z.1 - a.1) (z.2 - a.2) (q.1 - u.1) (q.2 - u.2) = cr a z q - cr a z u := by unfold cx cr; grind
    omega
  have i1 := cx_id1 (v.1 - u.1) (v.2 - u.2) (z.1 - a.1) (z.2 - a.2) (q.1 - u.1) (q.2 - u.2)
  have i2 := cx_id2 (v.1 - u.1) (v.2 - u.2) (z.1 - a.1) (z.2 - a.2) (q.1 - u.1) (q.2 - u.2)
  rw [k1, k2, Int.zero_mul, Int.zero_mul, Int.add_zero] at i1 i2
  rw [cr_cx]
  rcases Int.mul_eq_zero.1 i1 with h1 | h1
  · exact h1
  · rcases Int.mul_eq_zero.1 i2 with h2 | h2
    · exact h2
    · exact absurd (lt_up h) (by unfold up; omega)
theorem chain_flat {l : List Pt} (ha : Asc l) {a z : Pt} (e0 : l.head? = some a) (ez : l.getLast? = some z) (hlt : Lt a z) (hmin : ∀ q ∈ l, q = a ∨ Lt a q) (hf : ∀ q ∈ l, tr a z q = 0) : chainF l = [z, a] := by
  obtain ⟨s, e, hc, hm, ht, hb⟩ := chain_inv l ha (fun e => by rw [e] at e0; cases e0)
  rw [e]
  rw [ez] at ht
  rw [e0] at hb
  have haL : a ∈ l := List.mem_of_head? e0
  match s, hc, hm, ht, hb with
  | [v], _, _, ht, hb =>
    simp at ht hb
    rw [ht] at hb
    exact absurd hlt (by rw [hb]; exact lt_irrefl _)
  | v :: u :: s, hc, hm, ht, hb =>
    simp at ht
    subst ht
    have huL := hm u (by simp)
    have h0 : cr u v a = 0 := flat_cr hlt ((tr_zero _ _ _).1 (hf u huL)) ((tr_zero _ _ _).1 (hf v (hm v (by simp)))) ((tr_zero _ _ _).1 (hf a haL))
    have hua : u = a := by
      rcases hmin u huL with h | h
      · exact h
      · exact absurd h ((hc.2.1 a haL).2 h0).1
    subst hua
    cases s with
    | nil => rfl
    | cons t s =>
      have htu := hc.2.2.1
      have htL := hm t (by simp)
      rcases hmin t htL with h | h
      · rw [h] at htu; exact absurd htu (lt_irrefl _)
      · exact absurd htu (lt_asym h)
theorem hull_flat {l : List Pt} (ha : Asc l) (h2 : 2 ≤ l.length) {z : Pt} (ez : l.getLast? = some z) (hf : ∀ q ∈ l, tr (gp l 0) z q = 0) : (chainF l).reverse.dropLast ++ (chainF l.reverse).reverse.dropLast = [gp l 0, z] := by
  obtain ⟨z', e0, ez', hne, hlt, hmin⟩ := asc_ends ha h2
  obtain rfl : z' = z := by rw [ez] at ez'; cases ez'; rfl
  have h1 := chain_flat ha e0 ez hlt hmin hf
  have hzL : z' ∈ l := List.mem_of_getLast? ez
  have h3 : chainF (l.reverse.map ng) = [ng (gp l 0), ng z'] := by
    refine chain_flat (asc_ng ha) (by rw [List.head?_map, List.head?_reverse, ez]; rfl) (by rw [List.getLast?_map, List.getLast?_reverse, e0]; rfl) (lt_ng.2 hlt) (fun q hq => ?_) (fun q hq => ?_)
    · obtain ⟨y, hy, rfl⟩ := List.mem_map.1 hq
      rw [List.mem_reverse] at hy
      rw [split_last ez] at hy ha
      rcases List.mem_append.1 hy with hy | hy
      · exact .inr (lt_ng.2 ((asc_snoc ha).2 y hy))
      · rw [List.mem_singleton] at hy
        exact .inl (by rw [hy])
    · obtain ⟨y, hy, rfl⟩ := List.mem_map.1 hq
      rw [List.mem_reverse] at hy
      have := hf y hy
      rw [tr_ng, tr_zero]
      rw [tr_zero] at this
      have e : cr z' (gp l 0) y = -cr (gp l 0) z' y := by unfold cr; grind
      omega
  rw [chain_ng] at h3
  have h4 : chainF l.reverse = [gp l 0, z'] := by
    have := congrArg (List.map ng) h3
    simpa [List.map_map, Function.comp_def, ng_ng] using this
  rw [h1, h4]
  rfl

/-- Of neighbours that are one, the first. -/
def dd (l : List Pt) : List Pt := l.foldl (fun o x => if o.getLast? = some x then o else o ++ [x]) []
theorem dd_snoc (l : List Pt) (x : Pt) : dd (l ++ [x]) = if (dd l).getLast? = some x then dd l else dd l ++ [x] := by
  unfold dd
  rw [List.foldl_append]
  rfl
theorem dd_last (l : List Pt) : (dd l).getLast? = l.getLast? := by
  refine snoc_ind (P := fun l => (dd l).getLast? = l.getLast?) rfl (fun l x ih => ?_) l
  rw [dd_snoc, List.getLast?_concat]
  split
  · assumption
  · rw [List.getLast?_concat]
theorem dd_len (l : List Pt) : (dd l).length ≤ l.length := by
  refine snoc_ind (P := fun l => (dd l).length ≤ l.length) (Nat.le_refl _) (fun l x ih => ?_) l
  rw [dd_snoc]
  split
  · simp; omega
  · simp; omega
theorem dd_pos {l : List Pt} (h : 0 < l.length) : 0 < (dd l).length := by
  have := dd_last l
  cases hd : dd l with
  | nil =>
    rw [hd] at this
    cases l with
    | nil => simp at h
    | cons a t => rw [List.getLast?_cons] at this; cases this
  | cons a t => simp
theorem last_gp {l : List Pt} (h : 0 < l.length) : l.getLast? = some (gp l (l.length - 1)) := by
  unfold gp
  rw [List.getLast?_eq_getElem?, List.getElem?_eq_getElem (by omega)]
  rfl
theorem take_gp {l : List Pt} {k : Nat} (h : k < l.length) : l.take (k + 1) = l.take k ++ [gp l k] := by
  rw [List.take_add_one]
  unfold gp
  rw [List.getElem?_eq_getElem h]
  rfl
theorem take_last {l : List Pt} {k : Nat} (h0 : 0 < k) (h : k ≤ l.length) : (l.take k).getLast? = some (gp l (k - 1)) := by
  obtain ⟨j, rfl⟩ : ∃ j, k = j + 1 := ⟨k - 1, by omega⟩
  rw [take_gp (by omega), List.getLast?_concat]
  rfl
theorem dd_same {l : List Pt} {k : Nat} (h0 : 0 < k) (h : k < l.length) (he : gp l k = gp l (k - 1)) : dd (l.take (k + 1)) = dd (l.take k) := by
  rw [take_gp h, dd_snoc, dd_last, take_last h0 (by omega), he, if_pos rfl]
theorem dd_new {l : List Pt} {k : Nat} (h0 : 0 < k) (h : k < l.length) (he : gp l k ≠ gp l (k - 1)) : dd (l.take (k + 1)) = dd (l.take k) ++ [gp l k] := by
  rw [take_gp h, dd_snoc, dd_last, take_last h0 (by omega), if_neg (fun e => he (Option.some.inj e).symm)]
theorem dd_one {l : List Pt} (h : 0 < l.length) : dd (l.take 1) = [gp l 0] := by
  rw [take_gp h]
  rfl

theorem asc_dd {l : List Pt} (h : Ord l) : Asc (dd l) ∧ ∀ x, x ∈ dd l ↔ x ∈ l := by
  revert h
  refine snoc_ind (P := fun l => Ord l → Asc (dd l) ∧ ∀ x, x ∈ dd l ↔ x ∈ l) (fun _ => ⟨List.Pairwise.nil, fun _ => Iff.rfl⟩) (fun l p ih => ?_) l
  intro h
  unfold Ord at h
  rw [List.pairwise_append] at h
  obtain ⟨ha, hm⟩ := ih h.1
  have hp : ∀ y ∈ l, ¬ Lt p y := fun y hy h0 => by
    have := h.2.2 y hy p (by simp)
    rw [(lt_pLt p y).1 h0] at this
    cases this
  rw [dd_snoc]
  split
  · rename_i he
    refine ⟨ha, fun x => ?_⟩
    rw [hm, List.mem_append, List.mem_singleton]
    refine ⟨.inl, fun h => h.elim id fun e => ?_⟩
    rw [e, ← hm]
    exact List.mem_of_getLast? he
  · rename_i he
    refine ⟨?_, fun x => ?_⟩
    · unfold Asc
      rw [List.pairwise_append]
      refine ⟨ha, List.pairwise_singleton _ _, fun y hy q hq => ?_⟩
      rw [List.mem_singleton] at hq
      subst hq
      rcases lt_tri y q with h1 | h1 | h1
      · exact h1
      · subst h1
        exfalso
        rcases (dd l).eq_nil_or_concat with e | ⟨k, z, e⟩
        · rw [e] at hy; cases hy
        · rw [List.concat_eq_append] at e
          rw [e] at he hy ha
          rw [List.getLast?_concat] at he
          rcases List.mem_append.1 hy with hy | hy
          · have hz : Lt y z := (asc_snoc ha).2 y hy
            exact hp z ((hm z).1 (by rw [e]; simp)) hz
          · rw [List.mem_singleton] at hy
            exact he (by rw [hy])
      · exact absurd h1 (hp y ((hm y).1 hy))
    · rw [List.mem_append, List.mem_append, hm]

end Go.Proofs.Ytcpojadinkonnaa
