/-
  Plain: a point is in a hull just where the hull with it is no other.
-/
import Derived.Test.YtcpojadinkonnaaHullU
namespace Go.Proofs.Ytcpojadinkonnaa
open Go.RowKit

theorem asc_ext {l k : List Pt} (h : Asc l) (h' : Asc k) (hm : ∀ x, x ∈ l ↔ x ∈ k) : l = k := by
  have hp : l.Perm k := by
    refine List.perm_iff_count.2 fun a => ?_
    have c1 : ∀ {m : List Pt}, Asc m → m.count a = if a ∈ m then 1 else 0 := fun {m} hm => by
      by_cases ha : a ∈ m
      · rw [if_pos ha]
        exact Nat.le_antisymm (List.nodup_iff_count.1 (asc_nodup hm) a) (List.count_pos_iff.2 ha)
      · rw [if_neg ha, List.count_eq_zero.2 ha]
    rw [c1 h, c1 h']
    by_cases ha : a ∈ l
    · rw [if_pos ha, if_pos ((hm a).1 ha)]
    · rw [if_neg ha, if_neg (fun hk => ha ((hm a).2 hk))]
  exact ord_unique hp (asc_ord h) (asc_ord h')

/-- No edge of the ring has the point to its right. -/
def leftAll (H : List Pt) (p : Pt) : Bool := (List.range H.length).all fun i => !decide (tr (gp H i) (gp H ((i + 1) % H.length)) p < 0)
theorem leftAll_iff (H : List Pt) (p : Pt) : leftAll H p = true ↔ ∀ i, i < H.length → ¬ tr (gp H i) (gp H ((i + 1) % H.length)) p < 0 := by
  unfold leftAll
  rw [List.all_eq_true]
  simp only [List.mem_range, Bool.not_eq_true', decide_eq_false_iff_not]
/-- Has a hull a point? -/
def hasF (H : List Pt) (p : Pt) : Bool := if H.length = 0 then false else if H.length ≤ 2 then onT p (gp H 0) (gp H (H.length - 1)) else leftAll H p

theorem nxt {H : List Pt} {i : Nat} (h : i < H.length) : gp (H ++ [gp H 0]) (i + 1) = gp H ((i + 1) % H.length) := by
  rcases Nat.lt_or_ge (i + 1) H.length with h1 | h1
  · rw [gp_app_lt h1, Nat.mod_eq_of_lt h1]
  · have e : i + 1 = H.length := by omega
    rw [e, gp_app_ge, Nat.mod_self]
theorem walk_at {l H : List Pt} (h : HullIs l H) {i : Nat} (hi : i < H.length) : fol l (gp H i) (gp H ((i + 1) % H.length)) = true := by
  have := h.walk i hi
  rwa [← h.first, nxt hi] at this
theorem gp_inj {H : List Pt} (h : H.Nodup) {i j : Nat} (hi : i < H.length) (hj : j < H.length) (e : gp H i = gp H j) : i = j := by
  unfold gp at e
  rw [List.getElem?_eq_getElem hi, List.getElem?_eq_getElem hj] at e
  unfold List.Nodup at h
  rw [List.pairwise_iff_getElem] at h
  rcases Nat.lt_trichotomy i j with h1 | h1 | h1
  · exact absurd e (h i j hi hj h1)
  · exact h1
  · exact absurd e.symm (h j i hj hi h1)
theorem tr_turn (a b p : Pt) : tr b a p = -tr a b p := by
  have h1 := tr_pos b a p
  have h2 := tr_neg b a p
  have k1 := tr_pos a b p
  have k2 := tr_neg a b p
  have e : cr b a p = -cr a b p := by unfold cr; grind
  have b1 := trn_bd b.1 b.2 a.1 a.2 p.1 p.2
  have b2 := trn_bd a.1 a.2 b.1 b.2 p.1 p.2
  unfold tr at *
  omega
/-- Neighbouring corners turn left. -/
theorem corner_left {l H : List Pt} (h : HullIs l H) (h3 : 3 ≤ H.length) {i : Nat} (hi : i < H.length) : 0 < tr (gp H i) (gp H ((i + 1) % H.length)) (gp H ((i + 2) % H.length)) := by
  obtain ⟨j, hj⟩ : ∃ j, (i + 1) % H.length = j := ⟨_, rfl⟩
  have hjl : j < H.length := by rw [← hj]; exact Nat.mod_lt _ (by omega)
  have hk : (i + 2) % H.length = (j + 1) % H.length := by rw [← hj, Nat.mod_add_mod]
  have hkl : (j + 1) % H.length < H.length := Nat.mod_lt _ (by omega)
  have f1 := walk_at h hi
  have f2 := walk_at h hjl
  rw [hk]
  rw [hj] at f1 ⊢
  obtain ⟨z, hz⟩ : ∃ z, gp H i = z := ⟨_, rfl⟩
  obtain ⟨a, ha⟩ : ∃ z, gp H j = z := ⟨_, rfl⟩
  obtain ⟨b, hb⟩ : ∃ z, gp H ((j + 1) % H.length) = z := ⟨_, rfl⟩
  have hzb : z ≠ b := fun e => by
    have := gp_inj h.nodup hi hkl (by rw [hz, hb, e])
    rw [← hk] at this
    rcases Nat.lt_or_ge (i + 2) H.length with h1 | h1
    · rw [Nat.mod_eq_of_lt h1] at this; omega
    · rw [Nat.mod_eq_sub_mod h1, Nat.mod_eq_of_lt (by omega)] at this; omega
  have mz : z ∈ l := by rw [← hz]; exact h.mem _ (gp_mem hi)
  have mb : b ∈ l := by rw [← hb]; exact h.mem _ (gp_mem hkl)
  rw [hz, ha] at f1
  rw [ha, hb] at f2
  rw [hz, ha, hb]
  rw [fol_iff] at f1 f2
  obtain ⟨n1, k1⟩ := f1.2 b mb
  rcases Int.lt_or_le 0 (tr z a b) with h0 | h0
  · exact h0
  · exfalso
    have t0 : tr z a b = 0 := by omega
    rcases k1 t0 with k1 | k1
    · exact hzb k1.symm
    · have t1 : tr a b z = 0 := by
        have : tr a b z = tr z a b := by unfold tr; exact trn_round _ _ _ _ _ _
        omega
      rcases (f2.2 z mz).2 t1 with k2 | k2
      · exact f1.1 k2
      · have h1 := on_back k1
        have h2 := on_back k2
        exact hzb (Prod.ext (by omega) (by omega))

/-- A point to the left of the edges beside an edge, on its line, is on it. -/
theorem on_edge {z a b c p : Pt} (h1 : 0 < cr z a b) (h2 : 0 < cr a b c) (k1 : 0 ≤ cr z a p) (k2 : 0 ≤ cr b c p) (h0 : cr a b p = 0) : ((a.1 ≤ p.1 ∧ p.1 ≤ b.1) ∨ (b.1 ≤ p.1 ∧ p.1 ≤ a.1)) ∧ ((a.2 ≤ p.2 ∧ p.2 ≤ b.2) ∨ (b.2 ≤ p.2 ∧ p.2 ≤ a.2)) := by
  have e1 : cr z a b = cx (a.1 - z.1) (a.2 - z.2) (b.1 - a.1) (b.2 - a.2) := cr_from z a b
  have e2 : cr z a p = cx (a.1 - z.1) (a.2 - z.2) (p.1 - a.1) (p.2 - a.2) := cr_from z a p
  have e3 : cr a b c = cx (b.1 - a.1) (b.2 - a.2) (c.1 - b.1) (c.2 - b.2) := cr_from a b c
  have e4 : cr b c p = -cx (p.1 - b.1) (p.2 - b.2) (c.1 - b.1) (c.2 - b.2) := by unfold cr cx; grind
  have i1 := cx_id1 (a.1 - z.1) (a.2 - z.2) (b.1 - a.1) (b.2 - a.2) (p.1 - a.1) (p.2 - a.2)
  have i2 := cx_id2 (a.1 - z.1) (a.2 - z.2) (b.1 - a.1) (b.2 - a.2) (p.1 - a.1) (p.2 - a.2)
  have j1 := cx_id1 (p.1 - b.1) (p.2 - b.2) (b.1 - a.1) (b.2 - a.2) (c.1 - b.1) (c.2 - b.2)
  have j2 := cx_id2 (p.1 - b.1) (p.2 - b.2) (b.1 - a.1) (b.2 - a.2) (c.1 - b.1) (c.2 - b.2)
  have v0 : cx (b.1 - a.1) (b.2 - a.2) (p.1 - a.1) (p.2 - a.2) = 0 := by rw [← cr_cx]; exact h0
  have v1 : cx (p.1 - b.1) (p.2 - b.2) (b.1 - a.1) (b.2 - a.2) = 0 := by
    have : cx (p.1 - b.1) (p.2 - b.2) (b.1 - a.1) (b.2 - a.2) = -cr a b p := by unfold cr cx; grind
    omega
  rw [v0, Int.zero_mul, Int.add_zero] at i1 i2
  rw [v1, Int.zero_mul, Int.zero_add] at j1 j2
  rw [e1] at h1
  rw [e2] at k1
  rw [e3] at h2
  rw [e4] at k2
  obtain ⟨A, hA⟩ : ∃ x, cx (a.1 - z.1) (a.2 - z.2) (b.1 - a.1) (b.2 - a.2) = x := ⟨_, rfl⟩
  obtain ⟨B, hB⟩ : ∃ x, cx (a.1 - z.1) (a.2 - z.2) (p.1 - a.1) (p.2 - a.2) = x := ⟨_, rfl⟩
  obtain ⟨C, hC⟩ : ∃ x, cx (b.1 - a.1) (b.2 - a.2) (c.1 - b.1) (c.2 - b.2) = x := ⟨_, rfl⟩
  obtain ⟨D, hD⟩ : ∃ x, cx (p.1 - b.1) (p.2 - b.2) (c.1 - b.1) (c.2 - b.2) = x := ⟨_, rfl⟩
  rw [hA] at h1 i1 i2
  rw [hB] at k1 i1 i2
  rw [hC] at h2 j1 j2
  rw [hD] at k2 j1 j2
  have one : ∀ x y u : Int, B * (y - x) = A * (u - x) → D * (y - x) = (u - y) * C → (x ≤ u ∧ u ≤ y) ∨ (y ≤ u ∧ u ≤ x) := fun x y u f1 f2 => by
    rcases Int.le_total x y with h | h
    · refine .inl ⟨?_, ?_⟩
      · have : 0 ≤ u - x := nonneg_of (v := A) (by rw [Int.mul_comm, ← f1]; exact Int.mul_nonneg k1 (by omega)) h1
        omega
      · have : 0 ≤ y - u := nonneg_of (v := C) (by
          have : (y - u) * C = -D * (y - x) := by rw [Int.neg_mul, f2]; grind
          rw [this]
          exact Int.mul_nonneg (by omega) (by omega)) h2
        omega
    · refine .inr ⟨?_, ?_⟩
      · have : 0 ≤ u - y := nonneg_of (v := C) (by
          rw [← f2]
          have : D * (y - x) = -D * (x - y) := by grind
          rw [this]
          exact Int.mul_nonneg (by omega) (by omega)) h2
        omega
      · have : 0 ≤ x - u := nonneg_of (v := A) (by
          have : (x - u) * A = B * (x - y) := by
            have : (x - u) * A = -(A * (u - x)) := by grind
            rw [this, ← f1]; grind
          rw [this]
          exact Int.mul_nonneg k1 (by omega)) h1
        omega
  exact ⟨one _ _ _ i1 (by rw [j1]; exact Int.mul_comm _ _), one _ _ _ i2 (by rw [j2]; exact Int.mul_comm _ _)⟩

theorem cr_ge {a b p : Pt} (h : ¬ tr a b p < 0) : 0 ≤ cr a b p := by rw [tr_neg] at h; omega

/-- With points that no edge has to its right the hull is no other. -/
theorem hull_more {l l' H : List Pt} (h : HullIs l H) (hasc : Asc l) (hn : 2 ≤ l.length) (h3 : 3 ≤ H.length) (ha' : Asc l') (h1 : ∀ x ∈ H, x ∈ l') (h2 : ∀ x ∈ l', leftAll H x = true) : hullF l' = H := by
  obtain ⟨_, _, _, _, _, hmin⟩ := asc_ends hasc hn
  have hlen : H.length ≤ l'.length := len_le H l' h.nodup h1
  obtain ⟨_, _, _, _, _, hmin'⟩ := asc_ends ha' (by omega)
  obtain ⟨n, hnn⟩ : ∃ n, H.length = n := ⟨_, rfl⟩
  have left : ∀ x ∈ l', ∀ i, i < n → 0 ≤ cr (gp H i) (gp H ((i + 1) % n)) x := fun x hx i hi => by
    have := (leftAll_iff H x).1 (h2 x hx) i (by omega)
    rw [hnn] at this
    exact cr_ge this
  have strict : ∀ i, i < n → 0 < cr (gp H i) (gp H ((i + 1) % n)) (gp H ((i + 2) % n)) := fun i hi => by
    have := corner_left h h3 (i := i) (by omega)
    rw [hnn] at this
    exact (tr_pos _ _ _).1 this
  have hs : gp l' 0 = gp l 0 := by
    have m1 : gp l' 0 ∈ l' := gp_mem (by omega)
    have m2 : gp l 0 ∈ l' := h1 _ (by rw [← h.first]; exact gp_mem h.pos)
    rcases hmin' _ m2 with k | k
    · exact k.symm
    · exfalso
      -- the corners beside the first one
      have hb := left _ m1 0 (by omega)
      have hz := left _ m1 (n - 1) (by omega)
      have hst := strict (n - 1) (by omega)
      rw [show n - 1 + 1 = n by omega, Nat.mod_self, h.first] at hz hst
      rw [show n - 1 + 2 = n + 1 by omega, Nat.add_mod_left, Nat.mod_eq_of_lt (show 1 < n by omega)] at hst
      rw [h.first, Nat.zero_add, Nat.mod_eq_of_lt (show 1 < n by omega)] at hb
      have lb : Lt (gp l 0) (gp H 1) := by
        rcases hmin _ (h.mem _ (gp_mem (i := 1) (by omega))) with e | e
        · exact absurd e (h.back 1 (Nat.le_refl _) (by omega))
        · exact e
      have lz : Lt (gp l 0) (gp H (n - 1)) := by
        rcases hmin _ (h.mem _ (gp_mem (i := n - 1) (by omega))) with e | e
        · exact absurd e (h.back (n - 1) (by omega) (by omega))
        · exact e
      obtain ⟨s, hse⟩ : ∃ s, gp l 0 = s := ⟨_, rfl⟩
      obtain ⟨p, hpe⟩ : ∃ p, gp l' 0 = p := ⟨_, rfl⟩
      obtain ⟨b, hbe⟩ : ∃ p, gp H 1 = p := ⟨_, rfl⟩
      obtain ⟨z, hze⟩ : ∃ p, gp H (n - 1) = p := ⟨_, rfl⟩
      rw [hse, hpe] at k hb hz
      rw [hbe] at hb
      rw [hze] at hz
      rw [hse, hbe] at lb
      rw [hse, hze] at lz
      rw [hse, hbe, hze] at hst
      have c1 : cx (s.1 - p.1) (s.2 - p.2) (b.1 - s.1) (b.2 - s.2) = cr s b p := by unfold cx cr; grind
      have c2 : cx (z.1 - s.1) (z.2 - s.2) (s.1 - p.1) (s.2 - p.2) = cr z s p := by unfold cx cr; grind
      have c3 : cx (z.1 - s.1) (z.2 - s.2) (b.1 - s.1) (b.2 - s.2) = -cr z s b := by unfold cx cr; grind
      have := cx_weak (lt_up lz) (lt_up k) (lt_up lb) (by omega) (by omega)
      omega
  have hH : HullIs l' H := by
    refine ⟨fun i hi => ?_, h1, by rw [hs]; exact h.first, h.pos, fun i k1 k2 => by rw [hs]; exact h.back i k1 k2, hlen, h.nodup⟩
    rw [hs, ← h.first, nxt hi, fol_iff]
    refine ⟨((fol_iff _ _ _).1 (walk_at h hi)).1, fun q hq => ?_⟩
    have hq1 := (leftAll_iff H q).1 (h2 q hq) i hi
    refine ⟨hq1, fun h0 => .inr ?_⟩
    rw [hnn] at hi
    rw [hnn] at h0 ⊢
    obtain ⟨j, hj⟩ : ∃ j, (i + 1) % n = j := ⟨_, rfl⟩
    have hjn : j < n := by rw [← hj]; exact Nat.mod_lt _ (by omega)
    obtain ⟨g, hg⟩ : ∃ g, (i + (n - 1)) % n = g := ⟨_, rfl⟩
    have hgn : g < n := by rw [← hg]; exact Nat.mod_lt _ (by omega)
    have hgi : (g + 1) % n = i := by
      rw [← hg, Nat.mod_add_mod, show i + (n - 1) + 1 = i + n by omega, Nat.add_mod_right, Nat.mod_eq_of_lt hi]
    have hgj : (g + 2) % n = j := by
      have : (g + 2) % n = ((g + 1) % n + 1) % n := by rw [Nat.mod_add_mod]
      rw [this, hgi, hj]
    have hij : (i + 2) % n = (j + 1) % n := by rw [← hj, Nat.mod_add_mod]
    have s1 := strict g hgn
    have s2 := strict i hi
    have l1 := left q hq g hgn
    have l2 := left q hq j hjn
    rw [hgi, hgj] at s1
    rw [hj, hij] at s2
    rw [hgi] at l1
    rw [hj] at h0 ⊢
    obtain ⟨r1, r2⟩ := on_edge s1 s2 l1 l2 ((tr_zero _ _ _).1 h0)
    exact (onT_iff _ _ _).2 ⟨r1, r2, h0⟩
  have hF : hullF l' = (chainF l').reverse.dropLast ++ (chainF l'.reverse).reverse.dropLast := if_neg (by omega)
  rw [hF]
  exact walk_unique (hull_is ha' (by omega)) hH (gp_mem (by omega))

theorem onT_self (p b : Pt) : onT p p b = true := by
  rw [onT_iff]
  refine ⟨by omega, by omega, ?_⟩
  rw [tr_zero, cr_first]
theorem onT_end (p a : Pt) : onT p a p = true := by
  rw [onT_iff]
  refine ⟨by omega, by omega, ?_⟩
  rw [tr_zero, cr_last]
theorem hullL_small {ps : List Pt} (h : (dd (srt ps)).length < 3) : hullL ps = dd (srt ps) := if_pos h
theorem mem_snoc {H : List Pt} {p x : Pt} : x ∈ H ++ [p] ↔ x ∈ H ∨ x = p := by rw [List.mem_append, List.mem_singleton]
/-- On the segment of a and b, and neither: between them in the order. -/
theorem on_between {a b p : Pt} (hab : Lt a b) (h : onT p a b = true) (ha : p ≠ a) (hb : p ≠ b) : Lt a p ∧ Lt p b := by
  obtain ⟨h1, h2, h3⟩ := (onT_iff _ _ _).1 h
  rw [tr_zero] at h3
  unfold cr at h3
  unfold Lt at hab ⊢
  have na : ¬ (p.1 = a.1 ∧ p.2 = a.2) := fun e => ha (Prod.ext e.1 e.2)
  have nb : ¬ (p.1 = b.1 ∧ p.2 = b.2) := fun e => hb (Prod.ext e.1 e.2)
  rcases hab with hab | ⟨hab, hab2⟩
  · have x1 : p.1 ≠ a.1 := fun e => by
      rw [e, Int.sub_self, Int.mul_zero, Int.sub_zero] at h3
      rcases Int.mul_eq_zero.1 h3 with k | k
      · omega
      · exact na ⟨e, by omega⟩
    have x2 : p.1 ≠ b.1 := fun e => by
      have : (b.1 - a.1) * (p.2 - b.2) = 0 := by rw [e] at h3; grind
      rcases Int.mul_eq_zero.1 this with k | k
      · omega
      · exact nb ⟨e, by omega⟩
    omega
  · omega

theorem has_iff {H : List Pt} (hc : hullL H = H) (p : Pt) (h0 : 0 < H.length) : (hullL (H ++ [p]) = H ↔ hasF H p = true) := by
  obtain ⟨ha, hm⟩ := dd_srt H
  obtain ⟨ha', hm'⟩ := dd_srt (H ++ [p])
  have hlenK := dd_srt_len H
  have hlenK' := dd_srt_len (H ++ [p])
  rw [List.length_append, List.length_singleton] at hlenK'
  obtain ⟨K, hK⟩ : ∃ K, dd (srt H) = K := ⟨_, rfl⟩
  obtain ⟨l', hl'⟩ : ∃ K, dd (srt (H ++ [p])) = K := ⟨_, rfl⟩
  have eK : hullF K = H := by rw [← hK]; exact hc
  have eL : hullL (H ++ [p]) = hullF l' := by rw [← hl']; rfl
  rw [hK] at ha hm hlenK
  rw [hl'] at ha' hm' hlenK'
  rw [eL]
  rcases Nat.lt_or_ge K.length 3 with k3 | k3
  · have hKH : K = H := by rw [← eK]; exact (if_pos k3).symm
    subst hKH
    unfold hasF
    rw [if_neg (by omega), if_pos (by omega)]
    match K, ha, hm, h0, k3, hm', hlenK' with
    | [a], ha, hm, _, _, hm', hlenK' =>
      show hullF l' = [a] ↔ onT p a a = true
      have hF : hullF l' = l' := if_pos (by simp at hlenK'; omega)
      rw [hF]
      constructor
      · intro e
        have : p ∈ l' := (hm' p).2 (by simp)
        rw [e, List.mem_singleton] at this
        rw [this]
        exact onT_self a a
      · intro h
        have h1 := on_back h
        have hpa : p = a := Prod.ext (by omega) (by omega)
        exact asc_ext ha' ha (fun x => by rw [hm', mem_snoc, hpa]; simp)
    | [a, b], ha, hm, _, _, hm', hlenK' =>
      show hullF l' = [a, b] ↔ onT p a b = true
      have hab : Lt a b := (List.pairwise_cons.1 ha).1 b (by simp)
      constructor
      · intro e
        rcases Nat.lt_or_ge l'.length 3 with q3 | q3
        · have hF : hullF l' = l' := if_pos q3
          have : p ∈ l' := (hm' p).2 (by simp)
          rw [← hF, e] at this
          simp only [List.mem_cons, List.not_mem_nil, or_false] at this
          rcases this with rfl | rfl
          · exact onT_self p b
          · exact onT_end p a
        · have hF : hullF l' = (chainF l').reverse.dropLast ++ (chainF l'.reverse).reverse.dropLast := if_neg (by omega)
          have HI := hull_is ha' (show 2 ≤ l'.length by omega)
          rw [← hF, e] at HI
          have f1 := walk_at HI (i := 0) (by simp)
          have f2 := walk_at HI (i := 1) (by simp)
          have f1' : fol l' a b = true := f1
          have f2' : fol l' b a = true := by
            have e2 : (1 + 1) % ([a, b] : List Pt).length = 0 := by simp
            rw [e2] at f2
            exact f2
          rw [fol_iff] at f1' f2'
          have hp : p ∈ l' := (hm' p).2 (by simp)
          obtain ⟨n1, n2⟩ := f1'.2 p hp
          obtain ⟨n3, _⟩ := f2'.2 p hp
          rw [tr_turn] at n3
          rcases n2 (by omega) with n4 | n4
          · rw [n4]; exact onT_self a b
          · exact n4
      · intro h
        by_cases hpa : p = a
        · have e : l' = [a, b] := asc_ext ha' ha (fun x => by rw [hm', mem_snoc, hpa]; simp; exact fun e => .inl e)
          rw [e]; rfl
        · by_cases hpb : p = b
          · have e : l' = [a, b] := asc_ext ha' ha (fun x => by rw [hm', mem_snoc, hpb]; simp)
            rw [e]; rfl
          · obtain ⟨b1, b2⟩ := on_between hab h hpa hpb
            have asc3 : Asc [a, p, b] := by
              unfold Asc
              refine List.pairwise_cons.2 ⟨fun x hx => ?_, List.pairwise_cons.2 ⟨fun x hx => ?_, List.pairwise_singleton _ _⟩⟩
              · simp only [List.mem_cons, List.not_mem_nil, or_false] at hx
                rcases hx with rfl | rfl
                · exact b1
                · exact hab
              · rw [List.mem_singleton] at hx
                rw [hx]; exact b2
            have e : l' = [a, p, b] := asc_ext ha' asc3 (fun x => by rw [hm', mem_snoc]; simp; grind)
            subst e
            have hF : hullF [a, p, b] = (chainF [a, p, b]).reverse.dropLast ++ (chainF [a, p, b].reverse).reverse.dropLast := if_neg (by simp)
            rw [hF]
            have ht := ((onT_iff _ _ _).1 h).2.2
            refine hull_flat asc3 (by simp) (z := b) rfl (fun q hq => ?_)
            simp only [List.mem_cons, List.not_mem_nil, or_false] at hq
            show tr a b q = 0
            rcases hq with rfl | rfl | rfl
            · rw [tr_zero, cr_first]
            · exact ht
            · rw [tr_zero, cr_last]
  · have hFK : hullF K = (chainF K).reverse.dropLast ++ (chainF K.reverse).reverse.dropLast := if_neg (by omega)
    have HI := hull_is ha (show 2 ≤ K.length by omega)
    rw [← hFK, eK] at HI
    have h3 : 3 ≤ H.length := by omega
    have hsub : K.length ≤ l'.length := len_le K l' (asc_nodup ha) fun x hx => (hm' x).2 (mem_snoc.2 (.inl ((hm x).1 hx)))
    have hF : hullF l' = (chainF l').reverse.dropLast ++ (chainF l'.reverse).reverse.dropLast := if_neg (by omega)
    unfold hasF
    rw [if_neg (by omega), if_neg (by omega)]
    constructor
    · intro e
      have HI' := hull_is ha' (show 2 ≤ l'.length by omega)
      rw [← hF, e] at HI'
      rw [leftAll_iff]
      exact fun i hi => (((fol_iff _ _ _).1 (walk_at HI' hi)).2 p ((hm' p).2 (by simp))).1
    · intro h
      refine hull_more HI ha (by omega) h3 ha' (fun x hx => (hm' x).2 (mem_snoc.2 (.inl hx))) fun x hx => ?_
      rcases mem_snoc.1 ((hm' x).1 hx) with k | k
      · rw [leftAll_iff]
        exact fun i hi => (((fol_iff _ _ _).1 (walk_at HI hi)).2 x ((hm x).2 k)).1
      · rw [k]; exact h

end Go.Proofs.Ytcpojadinkonnaa
