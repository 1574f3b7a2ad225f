/-
  Plain: with a midpoint put in: check, bends, area, the one form.
-/
import Derived.Test.YthbndilnobjjgaaMoreM
import Derived.Test.YthbndilnobjjgaaNormP
namespace Go.Proofs.Ythbndilnobjjgaa

theorem chk_pf {ps : List Pt} (h : FineAt ps ps.length 0) {i j : Nat} (hij : i < j) (hj : j < ps.length) : PF ps i j := pf_iff.1 (h i j hij hj (Or.inl (by omega)))
namespace Ins
variable {v w : List Pt} {n q : Nat} {m : Pt}
theorem whole (I : Ins v w n q m) (hn : n < 64) {i j : Nat} (h : ChkIs v (0, i, j)) : ChkIs w (0, 0, 0) := by
  obtain ⟨_, hin, hd, hf⟩ := chk_zero h
  have hq := I.qn
  have h3 := I.n3
  have vl := I.vl
  have hin' : ∀ k, k < n → inP (gp v k) = true := fun k hk => hin k (by omega)
  have hd' : ∀ k, k < n → ¬ gp v k = nx v k := fun k hk => hd k (by omega)
  have ha := hin' q hq
  have hb : inP (nx v q) = true := hin' _ (by rw [vl]; exact Nat.mod_lt _ (by omega))
  have hp := I.pairs hin' hd' (fun i j hij hj => chk_pf hf hij (by omega))
  refine Or.inr ⟨⟨by rw [I.wl]; omega, by rw [I.wl]; omega⟩, Or.inr ⟨fun k hk => ?_, Or.inr ⟨fun k hk => ?_, Or.inr ⟨?_, rfl⟩⟩⟩⟩
  · rw [I.wl] at hk
    show inP (gp w k) = true
    rcases Nat.lt_trichotomy k (q + 1) with c | rfl | c
    · rw [I.g1 k (by omega)]; exact hin' k (by omega)
    · rw [I.g2]; exact mid_in I.mid ha hb
    · rw [I.g3 k c (by omega)]; exact hin' _ (by omega)
  · rw [I.wl] at hk
    show ¬ gp w k = nx w k
    rcases Nat.lt_trichotomy k q with c | rfl | c
    · rw [I.g1 k (by omega), I.n1 c]; exact hd' k (by omega)
    · rw [I.g1 k (by omega), I.n2]; exact mid_ne I.mid (hd' k hq)
    · rcases Nat.lt_trichotomy k (q + 1) with c1 | rfl | c1
      · omega
      · rw [I.g2, I.n3']; exact fun e => mid_ne (mid_swap I.mid) (fun e => hd' q hq e.symm) e.symm
      · rw [I.g3 k c1 (by omega), I.n4 c1 (by omega)]; exact hd' _ (by omega)
  · intro i j hij hj _
    exact pf_iff.2 (hp i j hij (by rw [I.wl] at hj; exact hj))

/-- The point before. -/
theorem t6_beq (p a b : Pt) : (t6 p a b == 0) = decide (cr (sb p a) (sb p b) = 0) := by
  rw [Bool.eq_iff_iff, beq_iff_eq, decide_eq_true_eq]
  exact t6_zero
theorem bend_next {p a b m : Pt} (h : Mid a b m) : (t6 p a m == 0) = (t6 p a b == 0) := by
  rw [t6_beq, t6_beq, decide_eq_decide]
  have e : cr (sb p a) (sb p b) = 2 * cr (sb p a) (sb p m) := by
    obtain ⟨e1, e2⟩ := mid_e h
    simp only [cr, sb]; grind
  omega
theorem bend_prev {a b m c : Pt} (h : Mid a b m) : (t6 m b c == 0) = (t6 a b c == 0) := by
  rw [t6_beq, t6_beq, decide_eq_decide]
  have e : cr (sb a b) (sb a c) = 2 * cr (sb m b) (sb m c) := by
    obtain ⟨e1, e2⟩ := mid_e h
    simp only [cr, sb]; grind
  omega
def pv (ps : List Pt) (k : Nat) : Pt := gp ps ((k + ps.length - 1) % ps.length)
theorem pv_pos {ps : List Pt} {k : Nat} (h : 0 < k) (hk : k < ps.length) : pv ps k = gp ps (k - 1) := by
  unfold pv
  rw [show k + ps.length - 1 = k - 1 + ps.length by omega, Nat.add_mod_right, Nat.mod_eq_of_lt (by omega)]
theorem pv_zero {ps : List Pt} (h : 0 < ps.length) : pv ps 0 = gp ps (ps.length - 1) := by
  unfold pv
  rw [show 0 + ps.length - 1 = ps.length - 1 by omega, Nat.mod_eq_of_lt (by omega)]
theorem bend_def (ps : List Pt) (k : Nat) : bendAt ps k = !(t6 (pv ps k) (gp ps k) (nx ps k) == 0) := rfl
theorem bend_lo (I : Ins v w n q m) {k : Nat} (hk : k ≤ q) : bendAt w k = bendAt v k := by
  have hq := I.qn
  have h3 := I.n3
  rw [bend_def, bend_def, I.g1 k hk]
  congr 1
  rcases Decidable.em (k = 0) with rfl | h0
  · rw [pv_zero (by rw [I.wl]; omega), pv_zero (by rw [I.vl]; omega), I.wl, I.vl, show n + 1 - 1 = n by omega]
    rcases Decidable.em (n = q + 1) with h1 | h1
    · have hb : nx v q = gp v 0 := nx_last (by rw [I.vl]; omega)
      have hm := I.mid
      rw [hb] at hm
      rw [h1, I.g2, I.n1 (show 0 < q by omega), show q + 1 - 1 = q by omega]
      exact bend_prev hm
    · rw [I.g3 n (by omega) (by omega)]
      rcases Decidable.em (q = 0) with rfl | h2
      · rw [I.n2]; exact bend_next I.mid
      · rw [I.n1 (by omega)]
  · rw [pv_pos (by omega) (by rw [I.wl]; omega), pv_pos (by omega) (by rw [I.vl]; omega), I.g1 (k - 1) (by omega)]
    rcases Nat.lt_or_ge k q with h1 | h1
    · rw [I.n1 h1]
    · obtain rfl : k = q := by omega
      rw [I.n2]; exact bend_next I.mid
theorem bend_mid (I : Ins v w n q m) : bendAt w (q + 1) = false := by
  have hq := I.qn
  have e : (t6 (pv w (q + 1)) (gp w (q + 1)) (nx w (q + 1)) == 0) = true := by
    rw [pv_pos (by omega) (by rw [I.wl]; omega), I.g2, I.n3', show q + 1 - 1 = q by omega, I.g1 q (Nat.le_refl _), t6_beq, decide_eq_true_eq]
    obtain ⟨e1, e2⟩ := mid_e I.mid
    simp only [cr, sb]; grind
  rw [bend_def, e]
  rfl
theorem bend_hi (I : Ins v w n q m) {k : Nat} (h : q + 1 < k) (hk : k ≤ n) : bendAt w k = bendAt v (k - 1) := by
  rw [bend_def, bend_def, I.g3 k h hk, I.n4 h hk, pv_pos (by omega) (by rw [I.wl]; omega), pv_pos (by omega) (by rw [I.vl]; omega)]
  congr 1
  rcases Decidable.em (k = q + 2) with rfl | h1
  · have hb : nx v q = gp v (q + 2 - 1) := nx_lt (by rw [I.vl]; omega)
    have hm := I.mid
    rw [hb] at hm
    rw [show q + 2 - 1 - 1 = q by omega, show q + 2 - 1 = q + 1 by omega, I.g2]
    exact bend_prev hm
  · rw [I.g3 (k - 1) (by omega) (by omega)]
theorem bends_lo (I : Ins v w n q m) : ∀ k, k ≤ q + 1 → bendsTo w k = bendsTo v k
  | 0, _ => rfl
  | k + 1, h => by
    have ih := I.bends_lo k (by omega)
    have hb := I.bend_lo (k := k) (by omega)
    cases e : bendAt v k with
    | true => rw [bends_yes (hb.trans e), bends_yes e, ih, I.g1 k (by omega)]
    | false => rw [bends_no (hb.trans e), bends_no e, ih]
theorem bends_hi (I : Ins v w n q m) : ∀ d, q + 1 + d ≤ n → bendsTo w (q + 1 + d + 1) = bendsTo v (q + 1 + d)
  | 0, _ => by rw [bends_no I.bend_mid, I.bends_lo _ (Nat.le_refl _)]
  | d + 1, h => by
    have ih := I.bends_hi d (by omega)
    have hb : bendAt w (q + 1 + d + 1) = bendAt v (q + 1 + d) := I.bend_hi (k := q + 1 + d + 1) (by omega) (by omega)
    show bendsTo w (q + 1 + d + 1 + 1) = bendsTo v (q + 1 + d + 1)
    cases e : bendAt v (q + 1 + d) with
    | true => rw [bends_yes (hb.trans e), bends_yes e, ih, I.g3 _ (by omega) (by omega)]; rfl
    | false => rw [bends_no (hb.trans e), bends_no e, ih]
theorem bends (I : Ins v w n q m) : bendsTo w w.length = bendsTo v v.length := by
  have hq := I.qn
  have h := I.bends_hi (n - (q + 1)) (by omega)
  rw [I.wl, I.vl]
  rw [show q + 1 + (n - (q + 1)) = n by omega] at h
  exact h
def arTo (ps : List Pt) (k : Nat) : Int := tot arS ((List.range k).map (sid ps))
theorem ar_succ (ps : List Pt) (k : Nat) : arTo ps (k + 1) = arTo ps k + arS (gp ps k, nx ps k) := by
  unfold arTo
  rw [List.range_succ, List.map_append]
  exact tot_snoc arS _ _
theorem ar_lo (I : Ins v w n q m) : ∀ k, k ≤ q → arTo w k = arTo v k
  | 0, _ => rfl
  | k + 1, h => by rw [ar_succ, ar_succ, I.ar_lo k (by omega), I.g1 k (by omega), I.n1 (by omega)]
theorem ar_hi (I : Ins v w n q m) : ∀ d, q + 1 + d ≤ n → arTo w (q + 1 + d + 1) = arTo v (q + 1 + d)
  | 0, _ => by
    show arTo w (q + 1 + 1) = arTo v (q + 1)
    rw [ar_succ, ar_succ, ar_succ, I.ar_lo q (Nat.le_refl _), I.g1 q (Nat.le_refl _), I.n2, I.g2, I.n3']
    obtain ⟨e1, e2⟩ := mid_e I.mid
    unfold arS
    dsimp only
    rw [e1, e2]
    grind
  | d + 1, h => by
    show arTo w (q + 1 + d + 1 + 1) = arTo v (q + 1 + d + 1)
    rw [ar_succ w (q + 1 + d + 1), ar_succ v (q + 1 + d), I.ar_hi d (by omega), I.g3 _ (by omega) (by omega), I.n4 (by omega) (by omega)]
    rfl
theorem area (I : Ins v w n q m) : areaP w = areaP v := by
  have hq := I.qn
  have h := I.ar_hi (n - (q + 1)) (by omega)
  rw [show q + 1 + (n - (q + 1)) = n by omega] at h
  show arTo w w.length = arTo v v.length
  rw [I.wl, I.vl]
  exact h
theorem norm (I : Ins v w n q m) : normP w = normP v := by
  have e : normL w = normL v := by unfold normL; rw [I.area, I.bends]
  unfold normP
  rw [e]
end Ins
end Go.Proofs.Ythbndilnobjjgaa
