/-
  Plain: the document's foot and nearness, by fractions; they are the program's.
  The document's foot of a point on a segment. Printed by wip/tools/gen_near.py.
  The document's At: the point at a place along a segment. Printed by wip/tools/gen_near.py.
  The document's Near: whether a point is near a segment. Printed by wip/tools/gen_near.py.
  The document's Foot and NearSeg. Printed by wip/tools/gen_near.py.
-/
import Derived.Test.YtpjgghakeaajbaaRatM
import Derived.Test.YtpjgghakeaajbaaAnyQ
import Derived.Test.YtpjgghakeaajbaaMeetRf
namespace Go.Proofs.Ytpjgghakeaajbaa
open Go.RowKit

def qdot (u v : Pt) : Q := qadd (qmul (qw u.1) (qw v.1)) (qmul (qw u.2) (qw v.2))
theorem qdot_is (u v : Pt) : qdot u v = (dt u v, 1) := by
  unfold qdot qadd qmul qw dt
  simp only [Int.mul_one]
/-- Where along a segment the nearest point is. -/
def footR (p a b : Pt) : Q :=
  if a = b then qw 0
  else if (qquo (qdot (sb a b) (sb a p)) (qdot (sb a b) (sb a b))).1 < 0 then qw 0
  else if 0 < qcmp (qquo (qdot (sb a b) (sb a p)) (qdot (sb a b) (sb a b))) (qw 1) then qw 1
  else qquo (qdot (sb a b) (sb a p)) (qdot (sb a b) (sb a b))
theorem dt_comm (u v : Pt) : dt u v = dt v u := by simp only [dt]; grind
theorem foot_t {p a b : Pt} (hab : ¬ a = b) : qquo (qdot (sb a b) (sb a p)) (qdot (sb a b) (sb a b)) = (dt (sb a p) (sb a b), dt (sb a b) (sb a b)) := by
  have := sb_pos hab
  rw [qdot_is, qdot_is, qquo_c, if_neg (by omega), dt_comm]
/-- Foot, as the document has it. -/
def footD (p a b : Pt) : Int × Int := if inP p && inP a && inP b then fr (footR p a b).1 (footR p a b).2 else (0, 1)
theorem fr_one (n : Int) (h : n = 0 ∨ n = 1) : fr n 1 = (n, 1) := by rcases h with rfl | rfl <;> rfl
theorem footR_eqv {p a b : Pt} (hab : ¬ a = b) : Eqv (dt (sb a b) (sb a b)) (footR p a b) (min (max (dt (sb a p) (sb a b)) 0) (dt (sb a b) (sb a b))) := by
  have hL := sb_pos hab
  unfold footR
  rw [if_neg hab, foot_t hab, cmp_one]
  have h := @cmpI_gt (dt (sb a p) (sb a b)) (dt (sb a b) (sb a b))
  dsimp only
  split
  · rw [show min (max (dt (sb a p) (sb a b)) 0) (dt (sb a b) (sb a b)) = 0 by omega]
    exact eqv_0
  · split
    · rw [show min (max (dt (sb a p) (sb a b)) 0) (dt (sb a b) (sb a b)) = dt (sb a b) (sb a b) by omega]
      exact eqv_1
    · rw [show min (max (dt (sb a p) (sb a b)) 0) (dt (sb a b) (sb a b)) = dt (sb a p) (sb a b) by omega]
      exact ⟨hL, rfl⟩
theorem footD_is (p a b : Pt) : footD p a b = foot p a b := by
  unfold footD foot
  split
  · split
    · rename_i h
      unfold footR
      rw [if_pos h]
      rfl
    · rename_i hab
      exact fr_eqv (sb_pos hab) (footR_eqv hab) (by have := sb_pos hab; omega)
  · rfl
/-- The square of the way from p to the point at t. -/
def qd2 (p a b : Pt) (t : Q) : Q :=
  qadd (qmul (qsub (qw p.1) (qadd (qw a.1) (qmul t (qw (b.1 - a.1))))) (qsub (qw p.1) (qadd (qw a.1) (qmul t (qw (b.1 - a.1))))))
    (qmul (qsub (qw p.2) (qadd (qw a.2) (qmul t (qw (b.2 - a.2))))) (qsub (qw p.2) (qadd (qw a.2) (qmul t (qw (b.2 - a.2))))))
def nearQ (p a b : Pt) (r : Int) (t : Q) : Bool := decide (qcmp (qd2 p a b t) (qmul (qw r) (qw r)) ≤ 0)
/-- Near, as the document has it. -/
def nearD (p a b : Pt) (r : Int) : Bool := if r < 0 then false else if inP p && inP a && inP b then nearQ p a b r (footR p a b) else false
theorem cmpI_le {a b : Int} : cmpI a b ≤ 0 ↔ a ≤ b := by unfold cmpI; (repeat' split) <;> omega
theorem nearQ_is (p a b : Pt) (r n d : Int) (hd : 0 < d) : nearQ p a b r (n, d) = decide ((d * (p.1 - a.1) - n * (b.1 - a.1)) * (d * (p.1 - a.1) - n * (b.1 - a.1)) + (d * (p.2 - a.2) - n * (b.2 - a.2)) * (d * (p.2 - a.2) - n * (b.2 - a.2)) ≤ r * r * (d * d)) := by
  unfold nearQ qcmp
  rw [decide_eq_decide, cmpI_le]
  have hd2 : 0 < d * d := Int.mul_pos hd hd
  have e1 : (qd2 p a b (n, d)).1 * (qmul (qw r) (qw r)).2 = ((d * (p.1 - a.1) - n * (b.1 - a.1)) * (d * (p.1 - a.1) - n * (b.1 - a.1)) + (d * (p.2 - a.2) - n * (b.2 - a.2)) * (d * (p.2 - a.2) - n * (b.2 - a.2))) * (d * d) := by
    simp only [qd2, qadd, qsub, qneg, qmul, qw]
    grind
  have e2 : (qmul (qw r) (qw r)).1 * (qd2 p a b (n, d)).2 = r * r * (d * d) * (d * d) := by
    simp only [qd2, qadd, qsub, qneg, qmul, qw]
    grind
  rw [e1, e2]
  exact ⟨fun h => Int.le_of_mul_le_mul_right h hd2, fun h => Int.mul_le_mul_of_nonneg_right h (Int.le_of_lt hd2)⟩
theorem near_mid {x y s r L m : Int} (hL : L = x * x + y * y) (hm : m = s * x + r * y) : (L * s - m * x) * (L * s - m * x) + (L * r - m * y) * (L * r - m * y) = L * ((x * r - y * s) * (x * r - y * s)) := by
  have e1 : (L * s - m * x) * (L * s - m * x) + (L * r - m * y) * (L * r - m * y) = L * (L * (s * s + r * r)) - 2 * (L * (m * (s * x + r * y))) + m * (m * (x * x + y * y)) := by grind
  have e2 : L * (s * s + r * r) = m * m + (x * r - y * s) * (x * r - y * s) := by subst hL hm; grind
  rw [e1, e2, ← hL, ← hm]
  grind
theorem nearQ_R {p a b : Pt} {r : Int} : nearQ p a b r (footR p a b) = nearR p a b r := by
  unfold footR nearR
  by_cases hab : a = b
  · subst hab
    rw [if_pos rfl, show qw 0 = (0, 1) from rfl, nearQ_is _ _ _ _ _ _ (by decide)]
    have e : dt (sb a p) (sb a a) = 0 := by rw [sb_self]; simp [dt]
    rw [e, if_neg (by omega), if_neg (by omega), decide_eq_decide]
    simp only [dt, sb]
    simp
  · have hL := sb_pos hab
    rw [if_neg hab, foot_t hab, cmp_one]
    have h := @cmpI_gt (dt (sb a p) (sb a b)) (dt (sb a b) (sb a b))
    dsimp only
    by_cases h0 : dt (sb a p) (sb a b) < 0
    · rw [if_pos h0, if_neg (by omega), if_neg (by omega), show qw 0 = (0, 1) from rfl, nearQ_is _ _ _ _ _ _ (by decide), decide_eq_decide]
      simp only [dt, sb]
      simp
    · rw [if_neg h0]
      by_cases h1 : dt (sb a b) (sb a b) < dt (sb a p) (sb a b)
      · rw [if_pos (h.2 h1), if_neg (by omega), if_pos (by omega), show qw 1 = (1, 1) from rfl, nearQ_is _ _ _ _ _ _ (by decide), decide_eq_decide]
        have e : (1 * (p.1 - a.1) - 1 * (b.1 - a.1)) * (1 * (p.1 - a.1) - 1 * (b.1 - a.1)) + (1 * (p.2 - a.2) - 1 * (b.2 - a.2)) * (1 * (p.2 - a.2) - 1 * (b.2 - a.2)) = dt (sb b p) (sb b p) := by
          simp only [dt, sb]
          grind
        rw [e]
        simp
      · rw [if_neg (fun h' => h1 (h.1 h')), nearQ_is _ _ _ _ _ _ hL]
        obtain ⟨L, hLe⟩ : ∃ L, dt (sb a b) (sb a b) = L := ⟨_, rfl⟩
        obtain ⟨m, hme⟩ : ∃ m, dt (sb a p) (sb a b) = m := ⟨_, rfl⟩
        rw [hLe] at hL h1
        rw [hme] at h0 h1
        rw [hLe, hme]
        clear h
        have eM : (L * (p.1 - a.1) - m * (b.1 - a.1)) * (L * (p.1 - a.1) - m * (b.1 - a.1)) + (L * (p.2 - a.2) - m * (b.2 - a.2)) * (L * (p.2 - a.2) - m * (b.2 - a.2)) = L * (cr (sb a b) (sb a p) * cr (sb a b) (sb a p)) := by
          simp only [dt, sb] at hLe hme
          simp only [cr, sb]
          exact near_mid hLe.symm hme.symm
        by_cases h2 : 0 < m ∧ m < L
        · rw [if_pos h2, decide_eq_decide, eM, show r * r * (L * L) = L * (r * r * L) by grind]
          exact ⟨fun h => Int.le_of_mul_le_mul_left h hL, fun h => Int.mul_le_mul_of_nonneg_left h (Int.le_of_lt hL)⟩
        · rw [if_neg h2]
          by_cases h3 : 0 < m
          · obtain rfl : m = L := by omega
            rw [if_pos h3, decide_eq_decide, show (m * (p.1 - a.1) - m * (b.1 - a.1)) * (m * (p.1 - a.1) - m * (b.1 - a.1)) + (m * (p.2 - a.2) - m * (b.2 - a.2)) * (m * (p.2 - a.2) - m * (b.2 - a.2)) = dt (sb b p) (sb b p) * (m * m) by simp only [dt, sb]; grind]
            exact ⟨fun h => Int.le_of_mul_le_mul_right h (Int.mul_pos hL hL), fun h => Int.mul_le_mul_of_nonneg_right h (Int.le_of_lt (Int.mul_pos hL hL))⟩
          · obtain rfl : m = 0 := by omega
            rw [if_neg h3, decide_eq_decide, show (L * (p.1 - a.1) - 0 * (b.1 - a.1)) * (L * (p.1 - a.1) - 0 * (b.1 - a.1)) + (L * (p.2 - a.2) - 0 * (b.2 - a.2)) * (L * (p.2 - a.2) - 0 * (b.2 - a.2)) = dt (sb a p) (sb a p) * (L * L) by simp only [dt, sb]; grind]
            exact ⟨fun h => Int.le_of_mul_le_mul_right h (Int.mul_pos hL hL), fun h => Int.mul_le_mul_of_nonneg_right h (Int.le_of_lt (Int.mul_pos hL hL))⟩

theorem sq_lat {z : Int} (h : -2147483646 ≤ z ∧ z ≤ 2147483646) : z * z ≤ 4611686009837453316 := by
  have h1 : z.natAbs ≤ 2147483646 := by omega
  have h2 := Nat.mul_le_mul h1 h1
  rw [show 2147483646 * 2147483646 = 4611686009837453316 from rfl] at h2
  rw [← Int.natAbs_mul_self' z]
  omega
theorem r_far {r : Int} (h : 3037000498 ≤ r) : 9223372024852248004 ≤ r * r :=
  Int.le_trans (show (9223372024852248004 : Int) ≤ 3037000498 * 3037000498 by decide) (Int.mul_le_mul h h (by decide) (by omega))
theorem inP_bd {p : Pt} (h : inP p = true) : (-1073741823 ≤ p.1 ∧ p.1 ≤ 1073741823) ∧ (-1073741823 ≤ p.2 ∧ p.2 ≤ 1073741823) := of_decide_eq_true h
theorem dt_lat {p a : Pt} (hp : inP p = true) (ha : inP a = true) : dt (sb a p) (sb a p) ≤ 9223372019674906632 := by
  have h1 := inP_bd hp
  have h2 := inP_bd ha
  have h3 := sq_lat (z := p.1 - a.1) (by omega)
  have h4 := sq_lat (z := p.2 - a.2) (by omega)
  unfold dt sb
  dsimp only
  omega
theorem nearR_far {p a b : Pt} {r : Int} (hr : 3037000498 ≤ r) (hp : inP p = true) (ha : inP a = true) (hb : inP b = true) : nearR p a b r = true := by
  have h1 := dt_lat hp ha
  have h2 := dt_lat hp hb
  have h3 := r_far hr
  unfold nearR
  split
  · rw [decide_eq_true_eq]
    have hL := dt_nn (sb a b)
    have e : cr (sb a b) (sb a p) * cr (sb a b) (sb a p) = dt (sb a p) (sb a p) * dt (sb a b) (sb a b) - dt (sb a p) (sb a b) * dt (sb a p) (sb a b) := by
      simp only [cr, dt, sb]
      grind
    have h4 := sq_nn (dt (sb a p) (sb a b))
    have h5 : dt (sb a p) (sb a p) * dt (sb a b) (sb a b) ≤ r * r * dt (sb a b) (sb a b) := Int.mul_le_mul_of_nonneg_right (by omega) hL
    omega
  · split
    · rw [decide_eq_true_eq]; omega
    · rw [decide_eq_true_eq]; omega
theorem nearD_is (p a b : Pt) (r : Int) : nearD p a b r = near p a b r := by
  unfold nearD near
  split
  · rfl
  · split
    · rename_i h
      rw [nearQ_R]
      simp only [Bool.and_eq_true] at h
      split
      · rename_i hr
        exact nearR_far hr h.1.1 h.1.2 h.2
      · rfl
    · rfl
/-- NearSeg, as the document has it. -/
def nearSegD (a b c d : Pt) (r : Int) : Bool := if r < 0 then false else if inP a && inP b && inP c && inP d then touches a b c d || (nearD a c d r || nearD b c d r || nearD c a b r || nearD d a b r) else false
theorem nearSegD_is (a b c d : Pt) (r : Int) : nearSegD a b c d r = nearSeg a b c d r := by
  unfold nearSegD nearSeg
  simp only [nearD_is]
  split
  · rfl
  · split
    · rw [Bool.or_comm]
    · rfl

/-- The foot, of the place where the line's nearest point is. -/
def footX (x : Q) : Q := if x.1 < 0 then qw 0 else if 0 < qcmp x (qw 1) then qw 1 else x
theorem footR_X {p a b : Pt} (h : ¬ a = b) : footR p a b = footX (qquo (qdot (sb a b) (sb a p)) (qdot (sb a b) (sb a b))) := by
  unfold footR footX
  rw [if_neg h]

set_option maxHeartbeats 8000000 in
set_option maxRecDepth 100000 in
theorem foot_end (w W : World) (R T : Nat) (p1 p2 : Bool) (pA pB : Option Addr) (pm pc pn pd : Nat) (x : Q)
    (HB : Hid (Below w.heap.size w W)) (hwR : w.heap.size ≤ R) (vR : Hid (Var W R 53 #[.bool false, .slice none 0 0, .bool false, .slice none 0 0])) (vT : Hid (Var W T 53 #[.bool p1, .slice pA pm pc, .bool p2, .slice pB pn pd])) (rT : Hid (RatAt W (.agg #[.bool p1, .slice pA pm pc, .bool p2, .slice pB pn pd]) x)) (Kx : Hid (QS 18 x)) (nTR : ¬ T = R)
    (u0 u1 u2 u3 u4 u5 u7 u8 u9 u10 u12 u13 u14 u15 u16 u17 u18 u19 u20 u21 u22 u23 u24 u25 u26 u27 u28 u29 u30 u31 u32 u33 u34 u35 u36 u37 u38 u39 u40 u41 u42 u43 u44 u45 u46 u47 u48 u49 u50 u51 u52 u53 u54 u55 u56 u57 u58 u59 u60 u61 u62 u63 u64 u65 u66 u67 u68 u69 u70 u71 u72 : Value) :
    (tailO Try.f39 7).wp Try.prog (fun e a' w' => e = .ret ∧ a'.defers = [] ∧ ∃ z, (results Try.f39 a'.tmps).run Try.prog w' = .ok z w' ∧ RatAt w' z (footX x) ∧ Below w.heap.size w w') { tmps := #[u0, u1, u2, u3, u4, u5, .pointer (some ⟨R, 0, none⟩), u7, u8, u9, u10, .pointer (some ⟨T, 0, none⟩), u12, u13, u14, u15, u16, u17, u18, u19, u20, u21, u22, u23, u24, u25, u26, u27, u28, u29, u30, u31, u32, u33, u34, u35, u36, u37, u38, u39, u40, u41, u42, u43, u44, u45, u46, u47, u48, u49, u50, u51, u52, u53, u54, u55, u56, u57, u58, u59, u60, u61, u62, u63, u64, u65, u66, u67, u68, u69, u70, u71, u72], defers := [] } W := by
  have nRT : ¬ R = T := fun h => nTR h.symm
  have SG := Lib.hid (fun W' h => sign_q rT.out Kx.out (by omega) W' h)
  have W0c := Lib.hid (fun W => whole_q 0 zero_64 W)
  have W1c := Lib.hid (fun W => whole_q 1 one_64 W)
  have HX := Lib.hid (show footX x = if cmpI x.1 0 < 0 then qw 0 else if 0 < qcmp x (qw 1) then qw 1 else x by unfold footX; simp only [cmpI_lt0])
  obtain ⟨F, hF⟩ : ∃ F, footX x = F := ⟨_, rfl⟩
  rw [hF] at HX ⊢
  clear hF
  obtain ⟨st, hst⟩ : ∃ z, cmpI x.1 0 = z := ⟨_, rfl⟩
  rw [hst] at SG HX
  clear hst
  have kt0 : W.cell? ⟨T, 0, none⟩ = some (.bool p1) := vT.out.cell 0
  have kt1 : W.cell? ⟨T, 1, none⟩ = some (.slice pA pm pc) := vT.out.cell 1
  have kt2 : W.cell? ⟨T, 2, none⟩ = some (.bool p2) := vT.out.cell 2
  have kt3 : W.cell? ⟨T, 3, none⟩ = some (.slice pB pn pd) := vT.out.cell 3
  have zt := vT.out.lt
  by_cases h0 : st < 0
  · have hd : decide (st < 0) = true := by simp [h0]
    rw [if_pos h0] at HX
    obtain rfl := HX.out
    clear h0 HX W1c
    show Code.wp _ (Code.seq (Code.seq (Code.region _ _ _) (Code.cond _ _ _)) _) _ _ _
    go_wp2_with fail
    refine (SG.out _ (Below.refl _ _)).mono ?_
    rintro e w1 ⟨rfl, hb⟩
    have HB := Lib.hid (HB.out.trans (hb.mono HB.out.size))
    have vR := Lib.hid (vR.out.keep hb)
    have vT := Lib.hid (vT.out.keep hb)
    have rT := Lib.hid (rT.out.below hb)
    clear hb kt0 kt1 kt2 kt3 zt SG
    go_wp2_with fail
    refine (open_q (W0c.out _)).mono ?_
    rintro e wz ⟨q1, qA, qm, qc, q2, qB, qn, qd, rfl, hn1, hn2, hb⟩
    have HB := Lib.hid (HB.out.trans (hb.mono HB.out.size))
    have vR := Lib.hid (vR.out.keep hb)
    have vT := Lib.hid (vT.out.keep hb)
    have rT := Lib.hid (rT.out.below hb)
    clear hb W0c
    have zR := vR.out.lt
    have kr0 : wz.cell? ⟨R, 0, none⟩ = some (.bool false) := vR.out.cell 0
    have kr1 : wz.cell? ⟨R, 1, none⟩ = some (.slice none 0 0) := vR.out.cell 1
    have kr2 : wz.cell? ⟨R, 2, none⟩ = some (.bool false) := vR.out.cell 2
    have kr3 : wz.cell? ⟨R, 3, none⟩ = some (.slice none 0 0) := vR.out.cell 3
    have gr0 := vR.out.free 0
    have gr1 := vR.out.free 1
    have gr2 := vR.out.free 2
    have gr3 := vR.out.free 3
    go_wp2_with fail
    refine ⟨_, by simp [results, Try.results39, go_sem, *]; done, rat_mk (x := qw 0) (hn1.out.four vR.out (by decide) _ _ _ _) (hn2.out.four vR.out (by decide) _ _ _ _), below_four HB.out hwR _ _ _ _⟩
  · have hd : decide (st < 0) = false := by simp; omega
    rw [if_neg h0] at HX
    clear h0 W0c
    show Code.wp _ (Code.seq (Code.seq (Code.region _ _ _) (Code.cond _ _ _)) _) _ _ _
    go_wp2_with fail
    refine (SG.out _ (Below.refl _ _)).mono ?_
    rintro e w1 ⟨rfl, hb⟩
    have HB := Lib.hid (HB.out.trans (hb.mono HB.out.size))
    have vR := Lib.hid (vR.out.keep hb)
    have vT := Lib.hid (vT.out.keep hb)
    have rT := Lib.hid (rT.out.below hb)
    clear hb kt0 kt1 kt2 kt3 zt SG
    have kt0 : w1.cell? ⟨T, 0, none⟩ = some (.bool p1) := vT.out.cell 0
    have kt1 : w1.cell? ⟨T, 1, none⟩ = some (.slice pA pm pc) := vT.out.cell 1
    have kt2 : w1.cell? ⟨T, 2, none⟩ = some (.bool p2) := vT.out.cell 2
    have kt3 : w1.cell? ⟨T, 3, none⟩ = some (.slice pB pn pd) := vT.out.cell 3
    have zt := vT.out.lt
    go_upto_region 10 with fail
    refine wp_thenO (foot_reg10 _ T x p1 p2 pA pB pm pc pn pd rT Kx kt0 kt1 kt2 kt3 zt _ _ _ _ _ _ _ _ _ _ _ _ _ _ _ _ _ _ _ _ _ _ _ _ _ _ _ _ _ _ _ _ _ _ _ _ _ _ _ _ _ _ _ _ _ _ _ _ _ _ _ _ _ _ _ _ _ _ _ _ _ _ _ _ _ _ _ _ _ _ _ _) ?_
    rintro a' w2 ⟨v67, v68, v69, rfl, hb⟩
    have HB := Lib.hid (HB.out.trans (hb.mono HB.out.size))
    have vR := Lib.hid (vR.out.keep hb)
    have vT := Lib.hid (vT.out.keep hb)
    have rT := Lib.hid (rT.out.below hb)
    clear hb kt0 kt1 kt2 kt3 zt
    by_cases h1 : 0 < qcmp x (qw 1)
    · have hd1 : decide (0 < qcmp x (qw 1)) = true := by simp [h1]
      rw [if_pos h1] at HX
      obtain rfl := HX.out
      rw [hd1]
      have HD1 := Lib.hid hd1
      clear h1 HX hd1
      go_wp2_with fail
      refine (open_q (W1c.out _)).mono ?_
      rintro e wz ⟨q1, qA, qm, qc, q2, qB, qn, qd, rfl, hn1, hn2, hb⟩
      have HB := Lib.hid (HB.out.trans (hb.mono HB.out.size))
      have vR := Lib.hid (vR.out.keep hb)
      have vT := Lib.hid (vT.out.keep hb)
      have rT := Lib.hid (rT.out.below hb)
      clear hb W1c
      have zR := vR.out.lt
      have kr0 : wz.cell? ⟨R, 0, none⟩ = some (.bool false) := vR.out.cell 0
      have kr1 : wz.cell? ⟨R, 1, none⟩ = some (.slice none 0 0) := vR.out.cell 1
      have kr2 : wz.cell? ⟨R, 2, none⟩ = some (.bool false) := vR.out.cell 2
      have kr3 : wz.cell? ⟨R, 3, none⟩ = some (.slice none 0 0) := vR.out.cell 3
      have gr0 := vR.out.free 0
      have gr1 := vR.out.free 1
      have gr2 := vR.out.free 2
      have gr3 := vR.out.free 3
      go_wp2_with fail
      refine ⟨_, by simp [results, Try.results39, go_sem, *]; done, rat_mk (x := qw 1) (hn1.out.four vR.out (by decide) _ _ _ _) (hn2.out.four vR.out (by decide) _ _ _ _), below_four HB.out hwR _ _ _ _⟩
    · have hd1 : decide (0 < qcmp x (qw 1)) = false := by simp; omega
      rw [if_neg h1] at HX
      obtain rfl := HX.out
      rw [hd1]
      have HD1 := Lib.hid hd1
      clear h1 HX hd1 W1c
      have kt0 : w2.cell? ⟨T, 0, none⟩ = some (.bool p1) := vT.out.cell 0
      have kt1 : w2.cell? ⟨T, 1, none⟩ = some (.slice pA pm pc) := vT.out.cell 1
      have kt2 : w2.cell? ⟨T, 2, none⟩ = some (.bool p2) := vT.out.cell 2
      have kt3 : w2.cell? ⟨T, 3, none⟩ = some (.slice pB pn pd) := vT.out.cell 3
      have zt := vT.out.lt
      have zR := vR.out.lt
      have kr0 : w2.cell? ⟨R, 0, none⟩ = some (.bool false) := vR.out.cell 0
      have kr1 : w2.cell? ⟨R, 1, none⟩ = some (.slice none 0 0) := vR.out.cell 1
      have kr2 : w2.cell? ⟨R, 2, none⟩ = some (.bool false) := vR.out.cell 2
      have kr3 : w2.cell? ⟨R, 3, none⟩ = some (.slice none 0 0) := vR.out.cell 3
      have gr0 := vR.out.free 0
      have gr1 := vR.out.free 1
      have gr2 := vR.out.free 2
      have gr3 := vR.out.free 3
      go_wp2_with fail
      refine ⟨_, by simp [results, Try.results39, go_sem, *]; done, rT.out.four vR.out (by decide) _ _ _ _, below_four HB.out hwR _ _ _ _⟩
    
set_option maxHeartbeats 8000000 in
set_option maxRecDepth 100000 in
theorem foot_tail (w W : World) (P A B R : Nat) (o1 o2 a1 a2 b1 b2 : Int) (hp : I32 o1 ∧ I32 o2) (ha : I32 a1 ∧ I32 a2) (hb : I32 b1 ∧ I32 b2)
    (HB : Hid (Below w.heap.size w W)) (hwR : w.heap.size ≤ R) (vP : Hid (Var W P 23 #[.int .i32 o1, .int .i32 o2])) (vA : Hid (Var W A 23 #[.int .i32 a1, .int .i32 a2])) (vB : Hid (Var W B 23 #[.int .i32 b1, .int .i32 b2])) (vR : Hid (Var W R 53 #[.bool false, .slice none 0 0, .bool false, .slice none 0 0]))
    (u0 u1 u2 u7 u8 u9 u10 u11 u12 u13 u14 u15 u16 u17 u18 u19 u20 u21 u22 u23 u24 u25 u26 u27 u28 u29 u30 u31 u32 u33 u34 u35 u36 u37 u38 u39 u40 u41 u42 u43 u44 u45 u46 u47 u48 u49 u50 u51 u52 u53 u54 u55 u56 u57 u58 u59 u60 u61 u62 u63 u64 u65 u66 u67 u68 u69 u70 u71 u72 : Value) :
    (tailO Try.f39 2).wp Try.prog (fun e a' w' => e = .ret ∧ a'.defers = [] ∧ ∃ z, (results Try.f39 a'.tmps).run Try.prog w' = .ok z w' ∧ RatAt w' z (footX (qquo (qdot (sb (a1, a2) (b1, b2)) (sb (a1, a2) (o1, o2))) (qdot (sb (a1, a2) (b1, b2)) (sb (a1, a2) (b1, b2))))) ∧ Below w.heap.size w w') { tmps := #[u0, u1, u2, .pointer (some ⟨P, 0, none⟩), .pointer (some ⟨A, 0, none⟩), .pointer (some ⟨B, 0, none⟩), .pointer (some ⟨R, 0, none⟩), u7, u8, u9, u10, u11, u12, u13, u14, u15, u16, u17, u18, u19, u20, u21, u22, u23, u24, u25, u26, u27, u28, u29, u30, u31, u32, u33, u34, u35, u36, u37, u38, u39, u40, u41, u42, u43, u44, u45, u46, u47, u48, u49, u50, u51, u52, u53, u54, u55, u56, u57, u58, u59, u60, u61, u62, u63, u64, u65, u66, u67, u68, u69, u70, u71, u72], defers := [] } W := by
  have s1 := sb_64 (a := (a1, a2)) (b := (b1, b2)) ha hb
  have s2 := sb_64 (a := (a1, a2)) (b := (o1, o2)) ha hp
  unfold sb at s1 s2
  dsimp only at s1 s2
  have K1 := Lib.hid (fun W => whole_q (b1 - a1) s1.1 W)
  have K2 := Lib.hid (fun W => whole_q (b2 - a2) s1.2 W)
  have K3 := Lib.hid (fun W => whole_q (o1 - a1) s2.1 W)
  have K4 := Lib.hid (fun W => whole_q (o2 - a2) s2.2 W)
  have Q1 := Lib.hid (qs_w s1.1)
  have Q2 := Lib.hid (qs_w s1.2)
  have Q3 := Lib.hid (qs_w s2.1)
  have Q4 := Lib.hid (qs_w s2.2)
  have HX := Lib.hid (show qquo (qdot (sb (a1, a2) (b1, b2)) (sb (a1, a2) (o1, o2))) (qdot (sb (a1, a2) (b1, b2)) (sb (a1, a2) (b1, b2))) = qquo (qadd (qmul (qw (b1 - a1)) (qw (o1 - a1))) (qmul (qw (b2 - a2)) (qw (o2 - a2)))) (qadd (qmul (qw (b1 - a1)) (qw (b1 - a1))) (qmul (qw (b2 - a2)) (qw (b2 - a2)))) from rfl)
  obtain ⟨ha1, ha2⟩ := ha
  obtain ⟨hb1, hb2⟩ := hb
  obtain ⟨hp1, hp2⟩ := hp
  unfold I32 at ha1 ha2 hb1 hb2 hp1 hp2
  clear s1 s2
  obtain ⟨X, hX⟩ : ∃ X, qquo (qdot (sb (a1, a2) (b1, b2)) (sb (a1, a2) (o1, o2))) (qdot (sb (a1, a2) (b1, b2)) (sb (a1, a2) (b1, b2))) = X := ⟨_, rfl⟩
  rw [hX] at HX ⊢
  clear hX
  show Code.wp _ (.seq _ (.seq _ (.seq _ (.seq _ (.seq _ (tailO Try.f39 7)))))) _ _ _
  generalize hTL : tailO Try.f39 7 = TL
  have HTL := Lib.hid hTL
  clear hTL
  have kp0 : W.cell? ⟨P, 0, none⟩ = some (.int .i32 o1) := vP.out.cell 0
  have kp1 : W.cell? ⟨P, 1, none⟩ = some (.int .i32 o2) := vP.out.cell 1
  have zp := vP.out.lt
  have ka0 : W.cell? ⟨A, 0, none⟩ = some (.int .i32 a1) := vA.out.cell 0
  have ka1 : W.cell? ⟨A, 1, none⟩ = some (.int .i32 a2) := vA.out.cell 1
  have za := vA.out.lt
  have kb0 : W.cell? ⟨B, 0, none⟩ = some (.int .i32 b1) := vB.out.cell 0
  have kb1 : W.cell? ⟨B, 1, none⟩ = some (.int .i32 b2) := vB.out.cell 1
  have zb := vB.out.lt
  go_wp2_with fail
  refine (open_q (K1.out _)).mono ?_
  rintro e wc0 ⟨q1, qA, qm, qc, q2, qB, qn, qd, rfl, hn1, hn2, hb⟩
  have HB := Lib.hid (HB.out.trans (hb.mono HB.out.size))
  have vP := Lib.hid (vP.out.keep hb)
  have vA := Lib.hid (vA.out.keep hb)
  have vB := Lib.hid (vB.out.keep hb)
  have vR := Lib.hid (vR.out.keep hb)
  clear hb kp0 kp1 zp ka0 ka1 za kb0 kb1 zb K1
  have hAl : Below wc0.heap.size wc0 (wc0.alloc (.cells #[.bool q1, .slice qA qm qc, .bool q2, .slice qB qn qd] 53)) := (Below.refl _ _).alloc (Nat.le_refl _) _
  go_upto_region 4 with fail
  refine wp_gen (fun W0 hW => ?_)
  have hb : Below wc0.heap.size wc0 W0 := by rw [hW]; exact hAl
  obtain ⟨U1, hN⟩ : ∃ N, wc0.heap.size = N := ⟨_, rfl⟩
  have vU1 : Hid (Var W0 U1 53 #[.bool q1, .slice qA qm qc, .bool q2, .slice qB qn qd]) := Lib.hid (by rw [hW, ← hN]; exact Var.new _ _ _)
  have rU1 : Hid (RatAt W0 (.agg #[.bool q1, .slice qA qm qc, .bool q2, .slice qB qn qd]) (qw (b1 - a1))) := Lib.hid ((rat_mk (x := qw (b1 - a1)) hn1.out hn2.out).below hb)
  have HB := Lib.hid (HB.out.trans (hb.mono HB.out.size))
  have vP := Lib.hid (vP.out.keep hb)
  have vA := Lib.hid (vA.out.keep hb)
  have vB := Lib.hid (vB.out.keep hb)
  have vR := Lib.hid (vR.out.keep hb)
  rw [hN]
  clear hN hW hb hAl hn1 hn2
  have kp0 : W0.cell? ⟨P, 0, none⟩ = some (.int .i32 o1) := vP.out.cell 0
  have kp1 : W0.cell? ⟨P, 1, none⟩ = some (.int .i32 o2) := vP.out.cell 1
  have zp := vP.out.lt
  have ka0 : W0.cell? ⟨A, 0, none⟩ = some (.int .i32 a1) := vA.out.cell 0
  have ka1 : W0.cell? ⟨A, 1, none⟩ = some (.int .i32 a2) := vA.out.cell 1
  have za := vA.out.lt
  have kb0 : W0.cell? ⟨B, 0, none⟩ = some (.int .i32 b1) := vB.out.cell 0
  have kb1 : W0.cell? ⟨B, 1, none⟩ = some (.int .i32 b2) := vB.out.cell 1
  have zb := vB.out.lt
  go_wp2_with fail
  refine (open_q (K2.out _)).mono ?_
  rintro e wc1 ⟨r1, rA, rm, rc, r2, rB, rn, rd, rfl, hn1, hn2, hb⟩
  have HB := Lib.hid (HB.out.trans (hb.mono HB.out.size))
  have vP := Lib.hid (vP.out.keep hb)
  have vA := Lib.hid (vA.out.keep hb)
  have vB := Lib.hid (vB.out.keep hb)
  have vR := Lib.hid (vR.out.keep hb)
  have vU1 := Lib.hid (vU1.out.keep hb)
  have rU1 := Lib.hid (rU1.out.below hb)
  clear hb kp0 kp1 zp ka0 ka1 za kb0 kb1 zb K2
  have hAl : Below wc1.heap.size wc1 (wc1.alloc (.cells #[.bool r1, .slice rA rm rc, .bool r2, .slice rB rn rd] 53)) := (Below.refl _ _).alloc (Nat.le_refl _) _
  go_upto_region 5 with fail
  refine wp_gen (fun W1 hW => ?_)
  have hb : Below wc1.heap.size wc1 W1 := by rw [hW]; exact hAl
  obtain ⟨U2, hN⟩ : ∃ N, wc1.heap.size = N := ⟨_, rfl⟩
  have vU2 : Hid (Var W1 U2 53 #[.bool r1, .slice rA rm rc, .bool r2, .slice rB rn rd]) := Lib.hid (by rw [hW, ← hN]; exact Var.new _ _ _)
  have rU2 : Hid (RatAt W1 (.agg #[.bool r1, .slice rA rm rc, .bool r2, .slice rB rn rd]) (qw (b2 - a2))) := Lib.hid ((rat_mk (x := qw (b2 - a2)) hn1.out hn2.out).below hb)
  have HB := Lib.hid (HB.out.trans (hb.mono HB.out.size))
  have vP := Lib.hid (vP.out.keep hb)
  have vA := Lib.hid (vA.out.keep hb)
  have vB := Lib.hid (vB.out.keep hb)
  have vR := Lib.hid (vR.out.keep hb)
  have vU1 := Lib.hid (vU1.out.keep hb)
  have rU1 := Lib.hid (rU1.out.below hb)
  rw [hN]
  clear hN hW hb hAl hn1 hn2
  have kp0 : W1.cell? ⟨P, 0, none⟩ = some (.int .i32 o1) := vP.out.cell 0
  have kp1 : W1.cell? ⟨P, 1, none⟩ = some (.int .i32 o2) := vP.out.cell 1
  have zp := vP.out.lt
  have ka0 : W1.cell? ⟨A, 0, none⟩ = some (.int .i32 a1) := vA.out.cell 0
  have ka1 : W1.cell? ⟨A, 1, none⟩ = some (.int .i32 a2) := vA.out.cell 1
  have za := vA.out.lt
  have kb0 : W1.cell? ⟨B, 0, none⟩ = some (.int .i32 b1) := vB.out.cell 0
  have kb1 : W1.cell? ⟨B, 1, none⟩ = some (.int .i32 b2) := vB.out.cell 1
  have zb := vB.out.lt
  go_wp2_with fail
  refine (open_q (K3.out _)).mono ?_
  rintro e wc2 ⟨s1, sA, sm, sc, s2, sB, sn, sd, rfl, hn1, hn2, hb⟩
  have HB := Lib.hid (HB.out.trans (hb.mono HB.out.size))
  have vP := Lib.hid (vP.out.keep hb)
  have vA := Lib.hid (vA.out.keep hb)
  have vB := Lib.hid (vB.out.keep hb)
  have vR := Lib.hid (vR.out.keep hb)
  have vU1 := Lib.hid (vU1.out.keep hb)
  have rU1 := Lib.hid (rU1.out.below hb)
  have vU2 := Lib.hid (vU2.out.keep hb)
  have rU2 := Lib.hid (rU2.out.below hb)
  clear hb kp0 kp1 zp ka0 ka1 za kb0 kb1 zb K3
  have hAl : Below wc2.heap.size wc2 (wc2.alloc (.cells #[.bool s1, .slice sA sm sc, .bool s2, .slice sB sn sd] 53)) := (Below.refl _ _).alloc (Nat.le_refl _) _
  go_upto_region 6 with fail
  refine wp_gen (fun W2 hW => ?_)
  have hb : Below wc2.heap.size wc2 W2 := by rw [hW]; exact hAl
  obtain ⟨O1, hN⟩ : ∃ N, wc2.heap.size = N := ⟨_, rfl⟩
  have vO1 : Hid (Var W2 O1 53 #[.bool s1, .slice sA sm sc, .bool s2, .slice sB sn sd]) := Lib.hid (by rw [hW, ← hN]; exact Var.new _ _ _)
  have rO1 : Hid (RatAt W2 (.agg #[.bool s1, .slice sA sm sc, .bool s2, .slice sB sn sd]) (qw (o1 - a1))) := Lib.hid ((rat_mk (x := qw (o1 - a1)) hn1.out hn2.out).below hb)
  have HB := Lib.hid (HB.out.trans (hb.mono HB.out.size))
  have vP := Lib.hid (vP.out.keep hb)
  have vA := Lib.hid (vA.out.keep hb)
  have vB := Lib.hid (vB.out.keep hb)
  have vR := Lib.hid (vR.out.keep hb)
  have vU1 := Lib.hid (vU1.out.keep hb)
  have rU1 := Lib.hid (rU1.out.below hb)
  have vU2 := Lib.hid (vU2.out.keep hb)
  have rU2 := Lib.hid (rU2.out.below hb)
  rw [hN]
  clear hN hW hb hAl hn1 hn2
  have kp0 : W2.cell? ⟨P, 0, none⟩ = some (.int .i32 o1) := vP.out.cell 0
  have kp1 : W2.cell? ⟨P, 1, none⟩ = some (.int .i32 o2) := vP.out.cell 1
  have zp := vP.out.lt
  have ka0 : W2.cell? ⟨A, 0, none⟩ = some (.int .i32 a1) := vA.out.cell 0
  have ka1 : W2.cell? ⟨A, 1, none⟩ = some (.int .i32 a2) := vA.out.cell 1
  have za := vA.out.lt
  have kb0 : W2.cell? ⟨B, 0, none⟩ = some (.int .i32 b1) := vB.out.cell 0
  have kb1 : W2.cell? ⟨B, 1, none⟩ = some (.int .i32 b2) := vB.out.cell 1
  have zb := vB.out.lt
  go_wp2_with fail
  refine (open_q (K4.out _)).mono ?_
  rintro e wc3 ⟨t1, tA, tm, tc, t2, tB, tn, td, rfl, hn1, hn2, hb⟩
  have HB := Lib.hid (HB.out.trans (hb.mono HB.out.size))
  have vP := Lib.hid (vP.out.keep hb)
  have vA := Lib.hid (vA.out.keep hb)
  have vB := Lib.hid (vB.out.keep hb)
  have vR := Lib.hid (vR.out.keep hb)
  have vU1 := Lib.hid (vU1.out.keep hb)
  have rU1 := Lib.hid (rU1.out.below hb)
  have vU2 := Lib.hid (vU2.out.keep hb)
  have rU2 := Lib.hid (rU2.out.below hb)
  have vO1 := Lib.hid (vO1.out.keep hb)
  have rO1 := Lib.hid (rO1.out.below hb)
  clear hb kp0 kp1 zp ka0 ka1 za kb0 kb1 zb K4
  have hAl : Below wc3.heap.size wc3 (wc3.alloc (.cells #[.bool t1, .slice tA tm tc, .bool t2, .slice tB tn td] 53)) := (Below.refl _ _).alloc (Nat.le_refl _) _
  go_upto_region 7 with fail
  refine wp_gen (fun W3 hW => ?_)
  have hb : Below wc3.heap.size wc3 W3 := by rw [hW]; exact hAl
  obtain ⟨O2, hN⟩ : ∃ N, wc3.heap.size = N := ⟨_, rfl⟩
  have vO2 : Hid (Var W3 O2 53 #[.bool t1, .slice tA tm tc, .bool t2, .slice tB tn td]) := Lib.hid (by rw [hW, ← hN]; exact Var.new _ _ _)
  have rO2 : Hid (RatAt W3 (.agg #[.bool t1, .slice tA tm tc, .bool t2, .slice tB tn td]) (qw (o2 - a2))) := Lib.hid ((rat_mk (x := qw (o2 - a2)) hn1.out hn2.out).below hb)
  have HB := Lib.hid (HB.out.trans (hb.mono HB.out.size))
  have vP := Lib.hid (vP.out.keep hb)
  have vA := Lib.hid (vA.out.keep hb)
  have vB := Lib.hid (vB.out.keep hb)
  have vR := Lib.hid (vR.out.keep hb)
  have vU1 := Lib.hid (vU1.out.keep hb)
  have rU1 := Lib.hid (rU1.out.below hb)
  have vU2 := Lib.hid (vU2.out.keep hb)
  have rU2 := Lib.hid (rU2.out.below hb)
  have vO1 := Lib.hid (vO1.out.keep hb)
  have rO1 := Lib.hid (rO1.out.below hb)
  rw [hN]
  clear hN hW hb hAl hn1 hn2
  clear ha1 ha2 hb1 hb2 hp1 hp2
  have kU10 : W3.cell? ⟨U1, 0, none⟩ = some (.bool q1) := vU1.out.cell 0
  have kU11 : W3.cell? ⟨U1, 1, none⟩ = some (.slice qA qm qc) := vU1.out.cell 1
  have kU12 : W3.cell? ⟨U1, 2, none⟩ = some (.bool q2) := vU1.out.cell 2
  have kU13 : W3.cell? ⟨U1, 3, none⟩ = some (.slice qB qn qd) := vU1.out.cell 3
  have zU1 := vU1.out.lt
  have kU20 : W3.cell? ⟨U2, 0, none⟩ = some (.bool r1) := vU2.out.cell 0
  have kU21 : W3.cell? ⟨U2, 1, none⟩ = some (.slice rA rm rc) := vU2.out.cell 1
  have kU22 : W3.cell? ⟨U2, 2, none⟩ = some (.bool r2) := vU2.out.cell 2
  have kU23 : W3.cell? ⟨U2, 3, none⟩ = some (.slice rB rn rd) := vU2.out.cell 3
  have zU2 := vU2.out.lt
  have kO10 : W3.cell? ⟨O1, 0, none⟩ = some (.bool s1) := vO1.out.cell 0
  have kO11 : W3.cell? ⟨O1, 1, none⟩ = some (.slice sA sm sc) := vO1.out.cell 1
  have kO12 : W3.cell? ⟨O1, 2, none⟩ = some (.bool s2) := vO1.out.cell 2
  have kO13 : W3.cell? ⟨O1, 3, none⟩ = some (.slice sB sn sd) := vO1.out.cell 3
  have zO1 := vO1.out.lt
  have kO20 : W3.cell? ⟨O2, 0, none⟩ = some (.bool t1) := vO2.out.cell 0
  have kO21 : W3.cell? ⟨O2, 1, none⟩ = some (.slice tA tm tc) := vO2.out.cell 1
  have kO22 : W3.cell? ⟨O2, 2, none⟩ = some (.bool t2) := vO2.out.cell 2
  have kO23 : W3.cell? ⟨O2, 3, none⟩ = some (.slice tB tn td) := vO2.out.cell 3
  have zO2 := vO2.out.lt
  refine wp_thenO (foot_reg7 W3 U1 U2 O1 O2 _ _ _ _ _ _ _ _ _ _ _ _ _ _ _ _ _ _ _ _ _ _ _ _ _ _ _ _ _ _ _ _ _ _ _ _ rU1 Q1 rU2 Q2 rO1 Q3 rO2 Q4 kU10 kU11 kU12 kU13 zU1 kU20 kU21 kU22 kU23 zU2 kO10 kO11 kO12 kO13 zO1 kO20 kO21 kO22 kO23 zO2 _ _ _ _ _ _ _ _ _ _ _ _ _ _ _ _ _ _ _ _ _ _ _ _ _ _ _ _ _ _ _ _ _ _ _ _ _ _ _ _ _ _ _ _ _ _ _ _ _ _ _ _ _ _ _ _ _ _ _ _ _ _ _ _ _ _ _ _ _) ?_
  rintro a' W5 ⟨T, t1', tA', tm', tc', t2', tB', tn', td', v48, v49, v50, v51, v52, v53, v54, v55, v56, v57, v58, v59, v60, v61, v62, rfl, vT, rT, hT, hb⟩
  have vT := Lib.hid vT
  have rT := Lib.hid rT
  have zR := vR.out.lt
  have nTR : ¬ T = R := by omega
  have HB := Lib.hid (HB.out.trans (hb.mono HB.out.size))
  have vP := Lib.hid (vP.out.keep hb)
  have vA := Lib.hid (vA.out.keep hb)
  have vB := Lib.hid (vB.out.keep hb)
  have vR := Lib.hid (vR.out.keep hb)
  clear hb hT zR
  go_wp2_with fail
  rw [← HTL.out]
  refine foot_end w W5 R T _ _ _ _ _ _ _ _ X HB hwR vR vT (Lib.hid (by rw [HX.out]; exact rT.out)) (Lib.hid (by rw [HX.out]; exact QS.mono (qs_quo (k := 9) (QS.mono (qs_add (k := 4) (QS.mono (qs_mul (k := 2) Q1.out Q3.out) (show 2 + 2 ≤ 4 by decide)) (QS.mono (qs_mul (k := 2) Q2.out Q4.out) (show 2 + 2 ≤ 4 by decide))) (show 4 + 4 + 1 ≤ 9 by decide)) (QS.mono (qs_add (k := 4) (QS.mono (qs_mul (k := 2) Q1.out Q1.out) (show 2 + 2 ≤ 4 by decide)) (QS.mono (qs_mul (k := 2) Q2.out Q2.out) (show 2 + 2 ≤ 4 by decide))) (show 4 + 4 + 1 ≤ 9 by decide))) (show 9 + 9 ≤ 18 by decide))) nTR _ _ _ _ _ _ _ _ _ _ _ _ _ _ _ _ _ _ _ _ _ _ _ _ _ _ _ _ _ _ _ _ _ _ _ _ _ _ _ _ _ _ _ _ _ _ _ _ _ _ _ _ _ _ _ _ _ _ _ _ _ _ _ _ _ _ _ _ _ _ _

set_option maxHeartbeats 8000000 in
set_option maxRecDepth 100000 in
theorem foot_q (p a b : Pt) (hp : I32 p.1 ∧ I32 p.2) (ha : I32 a.1 ∧ I32 a.2) (hb : I32 b.1 ∧ I32 b.2) (w : World) :
    Calls Try.prog 39 #[.agg #[.int .i32 p.1, .int .i32 p.2], .agg #[.int .i32 a.1, .int .i32 a.2], .agg #[.int .i32 b.1, .int .i32 b.2]] w fun e w' => ∃ z, e = .returned z ∧ RatAt w' z (footR p a b) ∧ Below w.heap.size w w' := by
  obtain ⟨o1, o2⟩ := p
  obtain ⟨a1, a2⟩ := a
  obtain ⟨b1, b2⟩ := b
  dsimp only at hp ha hb ⊢
  by_cases hab : a1 = b1 ∧ a2 = b2
  · obtain ⟨rfl, rfl⟩ := hab
    have W0c := Lib.hid (fun W => whole_q 0 zero_64 W)
    rw [show footR (o1, o2) (a1, a2) (a1, a2) = qw 0 by unfold footR; rw [if_pos rfl]]
    clear hp ha hb
    go_enter Try.func39, Try.ntmps39
    go_upto_region 1 with fail
    refine wp_gen (fun W0 hW => ?_)
    have vP : Hid (Var W0 w.heap.size 23 #[.int .i32 o1, .int .i32 o2]) := Lib.hid (by rw [hW]; exact (((Var.new _ _ _).alloc _).alloc _).alloc _)
    have vA : Hid (Var W0 (w.heap.size + 1) 23 #[.int .i32 a1, .int .i32 a2]) := Lib.hid (by rw [hW]; exact ((Var.new' _ _ _ (by simp)).alloc _).alloc _)
    have vB : Hid (Var W0 (w.heap.size + 1 + 1) 23 #[.int .i32 a1, .int .i32 a2]) := Lib.hid (by rw [hW]; exact (Var.new' _ _ _ (by simp)).alloc _)
    have vR : Hid (Var W0 (w.heap.size + 1 + 1 + 1) 53 #[.bool false, .slice none 0 0, .bool false, .slice none 0 0]) := Lib.hid (by rw [hW]; exact Var.new' _ _ _ (by simp))
    have HB : Hid (Below w.heap.size w W0) := Lib.hid (by rw [hW]; go_grown)
    clear hW
    have kp0 : W0.cell? ⟨w.heap.size, 0, none⟩ = some (.int .i32 o1) := vP.out.cell 0
    have kp1 : W0.cell? ⟨w.heap.size, 1, none⟩ = some (.int .i32 o2) := vP.out.cell 1
    have zp := vP.out.lt
    have ka0 : W0.cell? ⟨w.heap.size + 1, 0, none⟩ = some (.int .i32 a1) := vA.out.cell 0
    have ka1 : W0.cell? ⟨w.heap.size + 1, 1, none⟩ = some (.int .i32 a2) := vA.out.cell 1
    have za := vA.out.lt
    have kb0 : W0.cell? ⟨w.heap.size + 1 + 1, 0, none⟩ = some (.int .i32 a1) := vB.out.cell 0
    have kb1 : W0.cell? ⟨w.heap.size + 1 + 1, 1, none⟩ = some (.int .i32 a2) := vB.out.cell 1
    have zb := vB.out.lt
    go_wp2_with fail
    refine (open_q (W0c.out _)).mono ?_
    rintro e wz ⟨q1, qA, qm, qc, q2, qB, qn, qd, rfl, hn1, hn2, hb⟩
    have HB := Lib.hid (HB.out.trans (hb.mono HB.out.size))
    have vR := Lib.hid (vR.out.keep hb)
    clear hb W0c vP vA vB kp0 kp1 zp ka0 ka1 za kb0 kb1 zb
    have zR := vR.out.lt
    have kr0 : wz.cell? ⟨w.heap.size + 1 + 1 + 1, 0, none⟩ = some (.bool false) := vR.out.cell 0
    have kr1 : wz.cell? ⟨w.heap.size + 1 + 1 + 1, 1, none⟩ = some (.slice none 0 0) := vR.out.cell 1
    have kr2 : wz.cell? ⟨w.heap.size + 1 + 1 + 1, 2, none⟩ = some (.bool false) := vR.out.cell 2
    have kr3 : wz.cell? ⟨w.heap.size + 1 + 1 + 1, 3, none⟩ = some (.slice none 0 0) := vR.out.cell 3
    have gr0 := vR.out.free 0
    have gr1 := vR.out.free 1
    have gr2 := vR.out.free 2
    have gr3 := vR.out.free 3
    go_wp2_with fail
    refine bodyPost_ret (by simp [results, Try.results39, go_sem, *]; try rfl) rfl ?_
    exact ⟨_, rfl, rat_mk (x := qw 0) (hn1.out.four vR.out (by decide) _ _ _ _) (hn2.out.four vR.out (by decide) _ _ _ _), below_four HB.out (by omega) _ _ _ _⟩
  · rw [footR_X (fun h => hab ⟨congrArg Prod.fst h, congrArg Prod.snd h⟩)]
    have HI := Lib.hid (And.intro hp (And.intro ha hb))
    clear hp ha hb
    by_cases hx : a1 = b1
    · have hy : (a2 == b2) = false := beq_eq_false_iff_ne.2 (fun h => hab ⟨hx, h⟩)
      clear hab
      subst hx
      go_enter Try.func39, Try.ntmps39
      show Code.wp _ (.seq _ (.seq _ (tailO Try.f39 2))) _ _ _
      generalize hTL : tailO Try.f39 2 = TL
      have HTL := Lib.hid hTL
      clear hTL
      go_upto_region 1 with fail
      refine wp_gen (fun W0 hW => ?_)
      have vP : Hid (Var W0 w.heap.size 23 #[.int .i32 o1, .int .i32 o2]) := Lib.hid (by rw [hW]; exact (((Var.new _ _ _).alloc _).alloc _).alloc _)
      have vA : Hid (Var W0 (w.heap.size + 1) 23 #[.int .i32 a1, .int .i32 a2]) := Lib.hid (by rw [hW]; exact ((Var.new' _ _ _ (by simp)).alloc _).alloc _)
      have vB : Hid (Var W0 (w.heap.size + 1 + 1) 23 #[.int .i32 a1, .int .i32 b2]) := Lib.hid (by rw [hW]; exact (Var.new' _ _ _ (by simp)).alloc _)
      have vR : Hid (Var W0 (w.heap.size + 1 + 1 + 1) 53 #[.bool false, .slice none 0 0, .bool false, .slice none 0 0]) := Lib.hid (by rw [hW]; exact Var.new' _ _ _ (by simp))
      have HB : Hid (Below w.heap.size w W0) := Lib.hid (by rw [hW]; go_grown)
      clear hW
      have kp0 : W0.cell? ⟨w.heap.size, 0, none⟩ = some (.int .i32 o1) := vP.out.cell 0
      have kp1 : W0.cell? ⟨w.heap.size, 1, none⟩ = some (.int .i32 o2) := vP.out.cell 1
      have zp := vP.out.lt
      have ka0 : W0.cell? ⟨w.heap.size + 1, 0, none⟩ = some (.int .i32 a1) := vA.out.cell 0
      have ka1 : W0.cell? ⟨w.heap.size + 1, 1, none⟩ = some (.int .i32 a2) := vA.out.cell 1
      have za := vA.out.lt
      have kb0 : W0.cell? ⟨w.heap.size + 1 + 1, 0, none⟩ = some (.int .i32 a1) := vB.out.cell 0
      have kb1 : W0.cell? ⟨w.heap.size + 1 + 1, 1, none⟩ = some (.int .i32 b2) := vB.out.cell 1
      have zb := vB.out.lt
      go_wp2_with fail
      rw [← HTL.out]
      refine Code.wp_mono (fun e a' w' h => ?_) (foot_tail w _ _ _ _ _ o1 o2 a1 a2 a1 b2 HI.out.1 HI.out.2.1 HI.out.2.2 HB (by omega) vP vA vB vR _ _ _ _ _ _ _ _ _ _ _ _ _ _ _ _ _ _ _ _ _ _ _ _ _ _ _ _ _ _ _ _ _ _ _ _ _ _ _ _ _ _ _ _ _ _ _ _ _ _ _ _ _ _ _ _ _ _ _ _ _ _ _ _ _ _ _ _ _)
      obtain ⟨rfl, hd, z, hr, hz, hb⟩ := h
      exact ⟨hd, z, hr, z, rfl, hz, hb⟩
    · have hx' : (a1 == b1) = false := beq_eq_false_iff_ne.2 hx
      clear hab hx
      go_enter Try.func39, Try.ntmps39
      show Code.wp _ (.seq _ (.seq _ (tailO Try.f39 2))) _ _ _
      generalize hTL : tailO Try.f39 2 = TL
      have HTL := Lib.hid hTL
      clear hTL
      go_upto_region 1 with fail
      refine wp_gen (fun W0 hW => ?_)
      have vP : Hid (Var W0 w.heap.size 23 #[.int .i32 o1, .int .i32 o2]) := Lib.hid (by rw [hW]; exact (((Var.new _ _ _).alloc _).alloc _).alloc _)
      have vA : Hid (Var W0 (w.heap.size + 1) 23 #[.int .i32 a1, .int .i32 a2]) := Lib.hid (by rw [hW]; exact ((Var.new' _ _ _ (by simp)).alloc _).alloc _)
      have vB : Hid (Var W0 (w.heap.size + 1 + 1) 23 #[.int .i32 b1, .int .i32 b2]) := Lib.hid (by rw [hW]; exact (Var.new' _ _ _ (by simp)).alloc _)
      have vR : Hid (Var W0 (w.heap.size + 1 + 1 + 1) 53 #[.bool false, .slice none 0 0, .bool false, .slice none 0 0]) := Lib.hid (by rw [hW]; exact Var.new' _ _ _ (by simp))
      have HB : Hid (Below w.heap.size w W0) := Lib.hid (by rw [hW]; go_grown)
      clear hW
      have kp0 : W0.cell? ⟨w.heap.size, 0, none⟩ = some (.int .i32 o1) := vP.out.cell 0
      have kp1 : W0.cell? ⟨w.heap.size, 1, none⟩ = some (.int .i32 o2) := vP.out.cell 1
      have zp := vP.out.lt
      have ka0 : W0.cell? ⟨w.heap.size + 1, 0, none⟩ = some (.int .i32 a1) := vA.out.cell 0
      have ka1 : W0.cell? ⟨w.heap.size + 1, 1, none⟩ = some (.int .i32 a2) := vA.out.cell 1
      have za := vA.out.lt
      have kb0 : W0.cell? ⟨w.heap.size + 1 + 1, 0, none⟩ = some (.int .i32 b1) := vB.out.cell 0
      have kb1 : W0.cell? ⟨w.heap.size + 1 + 1, 1, none⟩ = some (.int .i32 b2) := vB.out.cell 1
      have zb := vB.out.lt
      go_wp2_with fail
      rw [← HTL.out]
      refine Code.wp_mono (fun e a' w' h => ?_) (foot_tail w _ _ _ _ _ o1 o2 a1 a2 b1 b2 HI.out.1 HI.out.2.1 HI.out.2.2 HB (by omega) vP vA vB vR _ _ _ _ _ _ _ _ _ _ _ _ _ _ _ _ _ _ _ _ _ _ _ _ _ _ _ _ _ _ _ _ _ _ _ _ _ _ _ _ _ _ _ _ _ _ _ _ _ _ _ _ _ _ _ _ _ _ _ _ _ _ _ _ _ _ _ _ _)
      obtain ⟨rfl, hd, z, hr, hz, hb⟩ := h
      exact ⟨hd, z, hr, z, rfl, hz, hb⟩

set_option maxHeartbeats 8000000 in
set_option maxRecDepth 100000 in
theorem at_q {w0 : World} {v : Value} {x : Q} (a b : Pt) (ha : I32 a.1 ∧ I32 a.2) (hb : I32 b.1 ∧ I32 b.2) (h : RatAt w0 v x) (hk : QS 18 x) (w : World) (hw : Below w0.heap.size w0 w) :
    Calls Try.prog 40 #[.agg #[.int .i32 a.1, .int .i32 a.2], .agg #[.int .i32 b.1, .int .i32 b.2], v] w fun e w' => ∃ z1 z2, e = .returned (.tuple #[z1, z2]) ∧ RatAt w' z1 (qadd (qw a.1) (qmul x (qw (b.1 - a.1)))) ∧ RatAt w' z2 (qadd (qw a.2) (qmul x (qw (b.2 - a.2)))) ∧ Below w.heap.size w w' := by
  obtain ⟨a1, a2⟩ := a
  obtain ⟨b1, b2⟩ := b
  dsimp only at ha hb ⊢
  have e1 := sub_wraps ha.1 hb.1 hb.1
  have e2 := sub_wraps ha.2 hb.2 hb.2
  have s1 := sb_64 (a := (a1, a2)) (b := (b1, b2)) ha hb
  unfold sb at s1
  dsimp only at s1
  have n1 : I64 a1 := by have := ha.1; unfold I32 at this; unfold I64; omega
  have n2 : I64 a2 := by have := ha.2; unfold I32 at this; unfold I64; omega
  have HW := Lib.hid (And.intro (And.intro e1 e2) (And.intro s1 (And.intro n1 n2)))
  clear e1 e2 s1 n1 n2 ha hb
  obtain ⟨p1, pA, pm, pc, p2, pB, pn, pd, rfl, hx1, hx2⟩ := rat_open (h.below hw)
  have rT0 : Hid (RatAt w (.agg #[.bool p1, .slice pA pm pc, .bool p2, .slice pB pn pd]) x) := Lib.hid (rat_mk hx1.out hx2.out)
  have K := Lib.hid hk
  clear h hw hk hx1 hx2
  go_enter Try.func40, Try.ntmps40
  go_upto_region 1 with fail
  refine wp_gen (fun W0 hW => ?_)
  have vA : Hid (Var W0 w.heap.size 23 #[.int .i32 a1, .int .i32 a2]) := Lib.hid (by rw [hW]; exact ((((Var.new _ _ _).alloc _).alloc _).alloc _).alloc _)
  have vB : Hid (Var W0 (w.heap.size + 1) 23 #[.int .i32 b1, .int .i32 b2]) := Lib.hid (by rw [hW]; exact (((Var.new' _ _ _ (by simp)).alloc _).alloc _).alloc _)
  have vT : Hid (Var W0 (w.heap.size + 1 + 1) 53 #[.bool p1, .slice pA pm pc, .bool p2, .slice pB pn pd]) := Lib.hid (by rw [hW]; exact ((Var.new' _ _ _ (by simp)).alloc _).alloc _)
  have vR : Hid (Var W0 (w.heap.size + 1 + 1 + 1) 53 #[.bool false, .slice none 0 0, .bool false, .slice none 0 0]) := Lib.hid (by rw [hW]; exact (Var.new' _ _ _ (by simp)).alloc _)
  have vS : Hid (Var W0 (w.heap.size + 1 + 1 + 1 + 1) 53 #[.bool false, .slice none 0 0, .bool false, .slice none 0 0]) := Lib.hid (by rw [hW]; exact Var.new' _ _ _ (by simp))
  have HB : Hid (Below w.heap.size w W0) := Lib.hid (by rw [hW]; go_grown)
  have rT : Hid (RatAt W0 (.agg #[.bool p1, .slice pA pm pc, .bool p2, .slice pB pn pd]) x) := Lib.hid (rT0.out.below HB.out)
  clear hW rT0
  obtain ⟨A, hA⟩ : ∃ A, w.heap.size = A := ⟨_, rfl⟩
  have hA' := Lib.hid hA
  rw [hA] at vA vB vT vR vS ⊢
  obtain ⟨B, hB⟩ : ∃ B, A + 1 = B := ⟨_, rfl⟩
  rw [hB] at vB vT vR vS ⊢
  obtain ⟨T, hT⟩ : ∃ T, B + 1 = T := ⟨_, rfl⟩
  rw [hT] at vT vR vS ⊢
  obtain ⟨R, hR⟩ : ∃ R, T + 1 = R := ⟨_, rfl⟩
  rw [hR] at vR vS ⊢
  obtain ⟨S, hS⟩ : ∃ S, R + 1 = S := ⟨_, rfl⟩
  rw [hS] at vS ⊢
  have hwR : w.heap.size ≤ R := by omega
  have hwS : w.heap.size ≤ S := by omega
  have nRS : ¬ R = S := by omega
  have nSR : ¬ S = R := by omega
  clear hA hB hT hR hS
  have kA0 : W0.cell? ⟨A, 0, none⟩ = some (.int .i32 a1) := vA.out.cell 0
  have kA1 : W0.cell? ⟨A, 1, none⟩ = some (.int .i32 a2) := vA.out.cell 1
  have zA := vA.out.lt
  have kB0 : W0.cell? ⟨B, 0, none⟩ = some (.int .i32 b1) := vB.out.cell 0
  have kB1 : W0.cell? ⟨B, 1, none⟩ = some (.int .i32 b2) := vB.out.cell 1
  have zB := vB.out.lt
  have kT0 : W0.cell? ⟨T, 0, none⟩ = some (.bool p1) := vT.out.cell 0
  have kT1 : W0.cell? ⟨T, 1, none⟩ = some (.slice pA pm pc) := vT.out.cell 1
  have kT2 : W0.cell? ⟨T, 2, none⟩ = some (.bool p2) := vT.out.cell 2
  have kT3 : W0.cell? ⟨T, 3, none⟩ = some (.slice pB pn pd) := vT.out.cell 3
  have zT := vT.out.lt
  refine wp_thenO (at_reg1 _ A B T a1 a2 b1 b2 x p1 p2 pA pB pm pc pn pd rT K HW.out.1.1.1 HW.out.1.1.2.1 HW.out.1.1.2.2.2.1 HW.out.2.2.1 HW.out.2.1.1 kA0 kA1 zA kB0 kB1 zB kT0 kT1 kT2 kT3 zT _ _ _ _ _ _ _ _ _ _ _ _ _ _ _ _ _ _ _ _ _ _ _ _ _ _ _ _ _ _ _ _ _ _ _ _ _ _ _) ?_
  rintro a' W1 ⟨X, q1, qA, qm, qc, q2, qB, qn, qd, v10, v11, v12, v13, v14, v15, v16, v17, v18, v19, v20, v21, v22, v23, v24, rfl, vX, rX, hX, hb⟩
  have vX := Lib.hid vX
  have rX := Lib.hid rX
  have hXs := vR.out.lt
  have hXs' := vS.out.lt
  have nXR : ¬ X = R := by omega
  have nXS : ¬ X = S := by omega
  have HB := Lib.hid (HB.out.trans (hb.mono HB.out.size))
  have vA := Lib.hid (vA.out.keep hb)
  have vB := Lib.hid (vB.out.keep hb)
  have vT := Lib.hid (vT.out.keep hb)
  have vR := Lib.hid (vR.out.keep hb)
  have vS := Lib.hid (vS.out.keep hb)
  have rT := Lib.hid (rT.out.below hb)
  clear hb hX hXs hXs' kA0 kA1 zA kB0 kB1 zB kT0 kT1 kT2 kT3 zT
  have kA0 : W1.cell? ⟨A, 0, none⟩ = some (.int .i32 a1) := vA.out.cell 0
  have kA1 : W1.cell? ⟨A, 1, none⟩ = some (.int .i32 a2) := vA.out.cell 1
  have zA := vA.out.lt
  have kB0 : W1.cell? ⟨B, 0, none⟩ = some (.int .i32 b1) := vB.out.cell 0
  have kB1 : W1.cell? ⟨B, 1, none⟩ = some (.int .i32 b2) := vB.out.cell 1
  have zB := vB.out.lt
  have kT0 : W1.cell? ⟨T, 0, none⟩ = some (.bool p1) := vT.out.cell 0
  have kT1 : W1.cell? ⟨T, 1, none⟩ = some (.slice pA pm pc) := vT.out.cell 1
  have kT2 : W1.cell? ⟨T, 2, none⟩ = some (.bool p2) := vT.out.cell 2
  have kT3 : W1.cell? ⟨T, 3, none⟩ = some (.slice pB pn pd) := vT.out.cell 3
  have zT := vT.out.lt
  go_upto_region 2 with fail
  refine wp_thenO (at_reg2 _ A B T a1 a2 b1 b2 x p1 p2 pA pB pm pc pn pd rT K HW.out.1.2.1 HW.out.1.2.2.1 HW.out.1.2.2.2.2.1 HW.out.2.2.2 HW.out.2.1.2 kA0 kA1 zA kB0 kB1 zB kT0 kT1 kT2 kT3 zT _ _ _ _ _ _ _ _ _ _ _ _ _ _ _ _ _ _ _ _ _ _ _ _ _ _ _ _ _ _ _ _ _ _ _ _ _ _ _) ?_
  rintro a' W2 ⟨Y, r1, rA, rm, rc, r2, rB, rn, rd, v25, v26, v27, v28, v29, v30, v31, v32, v33, v34, v35, v36, v37, v38, v39, rfl, vY, rY, hY, hb⟩
  have vY := Lib.hid vY
  have rY := Lib.hid rY
  have hXs := vR.out.lt
  have hXs' := vS.out.lt
  have hX2 := vX.out.lt
  have nYR : ¬ Y = R := by omega
  have nYS : ¬ Y = S := by omega
  have HB := Lib.hid (HB.out.trans (hb.mono HB.out.size))
  have vA := Lib.hid (vA.out.keep hb)
  have vB := Lib.hid (vB.out.keep hb)
  have vT := Lib.hid (vT.out.keep hb)
  have vR := Lib.hid (vR.out.keep hb)
  have vS := Lib.hid (vS.out.keep hb)
  have rT := Lib.hid (rT.out.below hb)
  have vX := Lib.hid (vX.out.keep hb)
  have rX := Lib.hid (rX.out.below hb)
  clear hb hY hXs hXs' hX2 kA0 kA1 zA kB0 kB1 zB kT0 kT1 kT2 kT3 zT rT vT vA vB HW K
  have nRX : ¬ R = X := fun h => nXR h.symm
  have nSX : ¬ S = X := fun h => nXS h.symm
  have nRY : ¬ R = Y := fun h => nYR h.symm
  have nSY : ¬ S = Y := fun h => nYS h.symm
  have kX0 : W2.cell? ⟨X, 0, none⟩ = some (.bool q1) := vX.out.cell 0
  have kX1 : W2.cell? ⟨X, 1, none⟩ = some (.slice qA qm qc) := vX.out.cell 1
  have kX2 : W2.cell? ⟨X, 2, none⟩ = some (.bool q2) := vX.out.cell 2
  have kX3 : W2.cell? ⟨X, 3, none⟩ = some (.slice qB qn qd) := vX.out.cell 3
  have zX := vX.out.lt
  have kY0 : W2.cell? ⟨Y, 0, none⟩ = some (.bool r1) := vY.out.cell 0
  have kY1 : W2.cell? ⟨Y, 1, none⟩ = some (.slice rA rm rc) := vY.out.cell 1
  have kY2 : W2.cell? ⟨Y, 2, none⟩ = some (.bool r2) := vY.out.cell 2
  have kY3 : W2.cell? ⟨Y, 3, none⟩ = some (.slice rB rn rd) := vY.out.cell 3
  have zY := vY.out.lt
  have kR0 : W2.cell? ⟨R, 0, none⟩ = some (.bool false) := vR.out.cell 0
  have kR1 : W2.cell? ⟨R, 1, none⟩ = some (.slice none 0 0) := vR.out.cell 1
  have kR2 : W2.cell? ⟨R, 2, none⟩ = some (.bool false) := vR.out.cell 2
  have kR3 : W2.cell? ⟨R, 3, none⟩ = some (.slice none 0 0) := vR.out.cell 3
  have kS0 : W2.cell? ⟨S, 0, none⟩ = some (.bool false) := vS.out.cell 0
  have kS1 : W2.cell? ⟨S, 1, none⟩ = some (.slice none 0 0) := vS.out.cell 1
  have kS2 : W2.cell? ⟨S, 2, none⟩ = some (.bool false) := vS.out.cell 2
  have kS3 : W2.cell? ⟨S, 3, none⟩ = some (.slice none 0 0) := vS.out.cell 3
  have gR0 := vR.out.free 0
  have gR1 := vR.out.free 1
  have gR2 := vR.out.free 2
  have gR3 := vR.out.free 3
  have gS0 := vS.out.free 0
  have gS1 := vS.out.free 1
  have gS2 := vS.out.free 2
  have gS3 := vS.out.free 3
  have zR := vR.out.lt
  have zS := vS.out.lt
  go_upto_region 3 with fail
  go_region
  go_wp2_with fail
  refine bodyPost_ret (by simp [results, Try.results40, go_sem, *]; try rfl) rfl ?_
  have vS' := var_far4 vS.out nSR (.bool q1) (.slice qA qm qc) (.bool q2) (.slice qB qn qd)
  exact ⟨_, _, rfl, ((rX.out.four vR.out (by decide) _ _ _ _).four vS' (by decide) _ _ _ _).below (Below.refl _ _).drew, ((rY.out.four vR.out (by decide) _ _ _ _).four vS' (by decide) _ _ _ _).below (Below.refl _ _).drew, (below_four (below_four HB.out hwR _ _ _ _) hwS _ _ _ _).drew⟩

theorem qs_foot {p a b : Pt} (hp : I32 p.1 ∧ I32 p.2) (ha : I32 a.1 ∧ I32 a.2) (hb : I32 b.1 ∧ I32 b.2) : QS 18 (footR p a b) := by
  by_cases hab : a = b
  · unfold footR
    rw [if_pos hab]
    exact qs4_0.mono (by decide)
  · rw [footR_X hab]
    have s1 := sb_64 ha hb
    have s2 := sb_64 ha hp
    have k : QS 18 (qquo (qdot (sb a b) (sb a p)) (qdot (sb a b) (sb a b))) := QS.mono (qs_quo (k := 9) (QS.mono (qs_add (k := 4) (QS.mono (qs_mul (k := 2) (qs_w s1.1) (qs_w s2.1)) (show 2 + 2 ≤ 4 by decide)) (QS.mono (qs_mul (k := 2) (qs_w s1.2) (qs_w s2.2)) (show 2 + 2 ≤ 4 by decide))) (show 4 + 4 + 1 ≤ 9 by decide)) (QS.mono (qs_add (k := 4) (QS.mono (qs_mul (k := 2) (qs_w s1.1) (qs_w s1.1)) (show 2 + 2 ≤ 4 by decide)) (QS.mono (qs_mul (k := 2) (qs_w s1.2) (qs_w s1.2)) (show 2 + 2 ≤ 4 by decide))) (show 4 + 4 + 1 ≤ 9 by decide))) (show 9 + 9 ≤ 18 by decide)
    unfold footX
    split
    · exact qs4_0.mono (by decide)
    · split
      · exact qs4_1.mono (by decide)
      · exact k

set_option maxHeartbeats 8000000 in
set_option maxRecDepth 100000 in
theorem near_tail (w W : World) (P A B : Nat) (o1 o2 a1 a2 b1 b2 r : Int) (hr : I64 r) (hp : I32 o1 ∧ I32 o2) (ha : I32 a1 ∧ I32 a2) (hb : I32 b1 ∧ I32 b2)
    (HB : Hid (Below w.heap.size w W)) (vP : Hid (Var W P 23 #[.int .i32 o1, .int .i32 o2])) (vA : Hid (Var W A 23 #[.int .i32 a1, .int .i32 a2])) (vB : Hid (Var W B 23 #[.int .i32 b1, .int .i32 b2]))
    (u0 u1 u2 u7 u9 u10 u11 u12 u13 u14 u15 u16 u17 u18 u19 u20 u21 u22 u23 u24 u25 u26 u27 u28 u29 u30 u31 u32 u33 u34 u35 u36 u37 u38 u39 u40 u41 u42 u43 u44 u45 u46 u47 u48 u49 u50 u51 u52 u53 u54 u55 u56 u57 u58 u59 u60 u61 u62 u63 u64 u65 u66 u67 : Value) :
    (tailO Try.f17 2).wp Try.prog (fun e a' w' => e = .ret ∧ a'.defers = [] ∧ (results Try.f17 a'.tmps).run Try.prog w' = .ok (.bool (nearQ (o1, o2) (a1, a2) (b1, b2) r (footR (o1, o2) (a1, a2) (b1, b2)))) w' ∧ Below w.heap.size w w') { tmps := #[u0, u1, u2, .int .i64 r, .pointer (some ⟨P, 0, none⟩), .pointer (some ⟨A, 0, none⟩), .pointer (some ⟨B, 0, none⟩), u7, .bool false, u9, u10, u11, u12, u13, u14, u15, u16, u17, u18, u19, u20, u21, u22, u23, u24, u25, u26, u27, u28, u29, u30, u31, u32, u33, u34, u35, u36, u37, u38, u39, u40, u41, u42, u43, u44, u45, u46, u47, u48, u49, u50, u51, u52, u53, u54, u55, u56, u57, u58, u59, u60, u61, u62, u63, u64, u65, u66, u67], defers := [] } W := by
  have Kt := Lib.hid (qs_foot (p := (o1, o2)) (a := (a1, a2)) (b := (b1, b2)) hp ha hb)
  have HF := Lib.hid (fun W' => foot_q (o1, o2) (a1, a2) (b1, b2) hp ha hb W')
  have s1 := sb_64 (a := (a1, a2)) (b := (b1, b2)) ha hb
  unfold sb at s1
  dsimp only at s1
  obtain ⟨t, ht⟩ : ∃ t, footR (o1, o2) (a1, a2) (b1, b2) = t := ⟨_, rfl⟩
  rw [ht] at Kt HF ⊢
  clear ht
  have HA := Lib.hid (fun W' v (hv : RatAt W' v t) => at_q (a1, a2) (b1, b2) ha hb hv Kt.out W' (Below.refl _ _))
  have n1 : I64 o1 := by have := hp.1; unfold I32 at this; unfold I64; omega
  have n2 : I64 o2 := by have := hp.2; unfold I32 at this; unfold I64; omega
  have m1 : I64 a1 := by have := ha.1; unfold I32 at this; unfold I64; omega
  have m2 : I64 a2 := by have := ha.2; unfold I32 at this; unfold I64; omega
  have e1 := (sub_wraps hp.1 hp.1 hp.1).1
  have e2 := (sub_wraps hp.2 hp.2 hp.2).1
  have KX : Hid (QS 73 (qadd (qw a1) (qmul t (qw (b1 - a1))))) := Lib.hid (QS.mono (qs_add (k := 36) ((qs_w m1).mono (show 2 ≤ 36 by decide)) (qs_mul (k := 18) Kt.out ((qs_w s1.1).mono (show 2 ≤ 18 by decide)))) (show 36 + 36 + 1 ≤ 73 by decide))
  have KY : Hid (QS 73 (qadd (qw a2) (qmul t (qw (b2 - a2))))) := Lib.hid (QS.mono (qs_add (k := 36) ((qs_w m2).mono (show 2 ≤ 36 by decide)) (qs_mul (k := 18) Kt.out ((qs_w s1.2).mono (show 2 ≤ 18 by decide)))) (show 36 + 36 + 1 ≤ 73 by decide))
  have KDX : Hid (QS 147 (qsub (qw o1) (qadd (qw a1) (qmul t (qw (b1 - a1)))))) := Lib.hid (QS.mono (qs_sub (k := 73) ((qs_w n1).mono (show 2 ≤ 73 by decide)) KX.out) (show 73 + 73 + 1 ≤ 147 by decide))
  have KDY : Hid (QS 147 (qsub (qw o2) (qadd (qw a2) (qmul t (qw (b2 - a2)))))) := Lib.hid (QS.mono (qs_sub (k := 73) ((qs_w n2).mono (show 2 ≤ 73 by decide)) KY.out) (show 73 + 73 + 1 ≤ 147 by decide))
  have KD : Hid (QS 589 (qd2 (o1, o2) (a1, a2) (b1, b2) t)) := Lib.hid (QS.mono (qs_add (k := 294) (QS.mono (qs_mul (k := 147) KDX.out KDX.out) (show 147 + 147 ≤ 294 by decide)) (QS.mono (qs_mul (k := 147) KDY.out KDY.out) (show 147 + 147 ≤ 294 by decide))) (show 294 + 294 + 1 ≤ 589 by decide))
  have HN := Lib.hid (And.intro (And.intro n1 n2) (And.intro (And.intro e1 e2) hr))
  have HQ : Hid (nearQ (o1, o2) (a1, a2) (b1, b2) r t = decide (qcmp (qd2 (o1, o2) (a1, a2) (b1, b2) t) (qmul (qw r) (qw r)) ≤ 0)) := Lib.hid rfl
  obtain ⟨D, hD⟩ : ∃ D, qd2 (o1, o2) (a1, a2) (b1, b2) t = D := ⟨_, rfl⟩
  rw [hD] at KD HQ
  rw [HQ.out]
  have HD : Hid (qadd (qmul (qsub (qw o1) (qadd (qw a1) (qmul t (qw (b1 - a1))))) (qsub (qw o1) (qadd (qw a1) (qmul t (qw (b1 - a1)))))) (qmul (qsub (qw o2) (qadd (qw a2) (qmul t (qw (b2 - a2))))) (qsub (qw o2) (qadd (qw a2) (qmul t (qw (b2 - a2)))))) = D) := Lib.hid hD
  obtain ⟨X, hX⟩ : ∃ X, qadd (qw a1) (qmul t (qw (b1 - a1))) = X := ⟨_, rfl⟩
  obtain ⟨Y, hY⟩ : ∃ Y, qadd (qw a2) (qmul t (qw (b2 - a2))) = Y := ⟨_, rfl⟩
  dsimp only at HA
  rw [hX] at KX KDX HD
  rw [hY] at KY KDY HD
  simp only [hX, hY] at HA
  clear hX hY hD HQ n1 n2 m1 m2 e1 e2 s1 hp ha hb hr
  show Code.wp _ (Code.seq (Code.region _ _ _) _) _ _ _
  have kP0 : W.cell? ⟨P, 0, none⟩ = some (.int .i32 o1) := vP.out.cell 0
  have kP1 : W.cell? ⟨P, 1, none⟩ = some (.int .i32 o2) := vP.out.cell 1
  have zP := vP.out.lt
  have kA0 : W.cell? ⟨A, 0, none⟩ = some (.int .i32 a1) := vA.out.cell 0
  have kA1 : W.cell? ⟨A, 1, none⟩ = some (.int .i32 a2) := vA.out.cell 1
  have zA := vA.out.lt
  have kB0 : W.cell? ⟨B, 0, none⟩ = some (.int .i32 b1) := vB.out.cell 0
  have kB1 : W.cell? ⟨B, 1, none⟩ = some (.int .i32 b2) := vB.out.cell 1
  have zB := vB.out.lt
  go_upto_region 3 with fail
  refine wp_thenO (near_reg3 _ P A B o1 o2 a1 a2 b1 b2 t X Y HF HA kP0 kP1 zP kA0 kA1 zA kB0 kB1 zB _ _ _ _ _ _ _ _ _ _ _ _ _ _ _ _ _ _ _ _ _ _ _ _ _ _ _ _ _ _ _ _ _ _ _ _ _ _ _ _ _ _ _ _ _ _ _ _ _ _ _ _ _ _ _ _ _ _ _ _ _ _ _ _ _) ?_
  rintro a' W1 ⟨U, p1, pA, pm, pc, p2, pB, pn, pd, V, q1, qA, qm, qc, q2, qB, qn, qd, v31, v32, v33, v34, v35, v36, v37, v38, v39, v40, rfl, vU, rU, hU, vV, rV, hV, hUV, hb⟩
  have vU := Lib.hid vU
  have rU := Lib.hid rU
  have vV := Lib.hid vV
  have rV := Lib.hid rV
  have HB := Lib.hid (HB.out.trans (hb.mono HB.out.size))
  have vP := Lib.hid (vP.out.keep hb)
  have vA := Lib.hid (vA.out.keep hb)
  have vB := Lib.hid (vB.out.keep hb)
  clear hb hU hV hUV HF HA kP0 kP1 zP kA0 kA1 zA kB0 kB1 zB
  have kP0 : W1.cell? ⟨P, 0, none⟩ = some (.int .i32 o1) := vP.out.cell 0
  have kP1 : W1.cell? ⟨P, 1, none⟩ = some (.int .i32 o2) := vP.out.cell 1
  have zP := vP.out.lt
  have kU0 : W1.cell? ⟨U, 0, none⟩ = some (.bool p1) := vU.out.cell 0
  have kU1 : W1.cell? ⟨U, 1, none⟩ = some (.slice pA pm pc) := vU.out.cell 1
  have kU2 : W1.cell? ⟨U, 2, none⟩ = some (.bool p2) := vU.out.cell 2
  have kU3 : W1.cell? ⟨U, 3, none⟩ = some (.slice pB pn pd) := vU.out.cell 3
  have zU := vU.out.lt
  go_upto_region 4 with fail
  refine wp_thenO (near_reg4 _ P U o1 o2 X p1 p2 pA pB pm pc pn pd rU KX HN.out.2.1.1 HN.out.1.1 kP0 kP1 zP kU0 kU1 kU2 kU3 zU _ _ _ _ _ _ _ _ _ _ _ _ _ _ _ _ _ _ _ _ _ _ _ _ _ _ _ _ _ _ _ _ _ _ _ _ _ _ _ _ _ _ _ _ _ _ _ _ _ _ _ _ _ _ _ _ _ _ _ _ _ _ _ _ _ _) ?_
  rintro a' W2 ⟨S, s1, sA, sm, sc, s2, sB, sn, sd, v41, v42, v43, v44, v45, v46, rfl, vS, rS, hS, hb⟩
  have vS := Lib.hid vS
  have rS := Lib.hid rS
  have HB := Lib.hid (HB.out.trans (hb.mono HB.out.size))
  have vP := Lib.hid (vP.out.keep hb)
  have vA := Lib.hid (vA.out.keep hb)
  have vB := Lib.hid (vB.out.keep hb)
  have vV := Lib.hid (vV.out.keep hb)
  have rV := Lib.hid (rV.out.below hb)
  clear hb hS kP0 kP1 zP kU0 kU1 kU2 kU3 zU vU rU
  have kP0 : W2.cell? ⟨P, 0, none⟩ = some (.int .i32 o1) := vP.out.cell 0
  have kP1 : W2.cell? ⟨P, 1, none⟩ = some (.int .i32 o2) := vP.out.cell 1
  have zP := vP.out.lt
  have kV0 : W2.cell? ⟨V, 0, none⟩ = some (.bool q1) := vV.out.cell 0
  have kV1 : W2.cell? ⟨V, 1, none⟩ = some (.slice qA qm qc) := vV.out.cell 1
  have kV2 : W2.cell? ⟨V, 2, none⟩ = some (.bool q2) := vV.out.cell 2
  have kV3 : W2.cell? ⟨V, 3, none⟩ = some (.slice qB qn qd) := vV.out.cell 3
  have zV := vV.out.lt
  go_upto_region 5 with fail
  refine wp_thenO (near_reg5 _ P V o1 o2 Y q1 q2 qA qB qm qc qn qd rV KY HN.out.2.1.2 HN.out.1.2 kP0 kP1 zP kV0 kV1 kV2 kV3 zV _ _ _ _ _ _ _ _ _ _ _ _ _ _ _ _ _ _ _ _ _ _ _ _ _ _ _ _ _ _ _ _ _ _ _ _ _ _ _ _ _ _ _ _ _ _ _ _ _ _ _ _ _ _ _ _ _ _ _ _ _ _ _ _ _ _) ?_
  rintro a' W3 ⟨T, t1, tA, tm, tc, t2, tB, tn, td, v47, v48, v49, v50, v51, v52, rfl, vT, rT, hT, hb⟩
  have vT := Lib.hid vT
  have rT := Lib.hid rT
  have HB := Lib.hid (HB.out.trans (hb.mono HB.out.size))
  have vP := Lib.hid (vP.out.keep hb)
  have vA := Lib.hid (vA.out.keep hb)
  have vB := Lib.hid (vB.out.keep hb)
  have vS := Lib.hid (vS.out.keep hb)
  have rS := Lib.hid (rS.out.below hb)
  clear hb hT kP0 kP1 zP kV0 kV1 kV2 kV3 zV vV rV vP vA vB
  have kS0 : W3.cell? ⟨S, 0, none⟩ = some (.bool s1) := vS.out.cell 0
  have kS1 : W3.cell? ⟨S, 1, none⟩ = some (.slice sA sm sc) := vS.out.cell 1
  have kS2 : W3.cell? ⟨S, 2, none⟩ = some (.bool s2) := vS.out.cell 2
  have kS3 : W3.cell? ⟨S, 3, none⟩ = some (.slice sB sn sd) := vS.out.cell 3
  have zS := vS.out.lt
  have kT0 : W3.cell? ⟨T, 0, none⟩ = some (.bool t1) := vT.out.cell 0
  have kT1 : W3.cell? ⟨T, 1, none⟩ = some (.slice tA tm tc) := vT.out.cell 1
  have kT2 : W3.cell? ⟨T, 2, none⟩ = some (.bool t2) := vT.out.cell 2
  have kT3 : W3.cell? ⟨T, 3, none⟩ = some (.slice tB tn td) := vT.out.cell 3
  have zT := vT.out.lt
  go_upto_region 6 with fail
  refine wp_thenO (near_reg6 _ S T _ _ s1 s2 sA sB sm sc sn sd t1 t2 tA tB tm tc tn td rS KDX rT KDY kS0 kS1 kS2 kS3 zS kT0 kT1 kT2 kT3 zT _ _ _ _ _ _ _ _ _ _ _ _ _ _ _ _ _ _ _ _ _ _ _ _ _ _ _ _ _ _ _ _ _ _ _ _ _ _ _ _ _ _ _ _ _ _ _ _ _ _ _ _ _ _ _ _ _ _ _ _ _ _ _ _ _ _) ?_
  rintro a' W4 ⟨E, f1, fA, fm, fc, f2, fB, fn, fd, v53, v54, v55, v56, v57, v58, v59, rfl, vE, rE, hE, hb⟩
  have vE := Lib.hid vE
  have rE := Lib.hid rE
  rw [HD.out] at rE
  have HB := Lib.hid (HB.out.trans (hb.mono HB.out.size))
  clear hb hE kS0 kS1 kS2 kS3 zS kT0 kT1 kT2 kT3 zT vS rS vT rT
  have kE0 : W4.cell? ⟨E, 0, none⟩ = some (.bool f1) := vE.out.cell 0
  have kE1 : W4.cell? ⟨E, 1, none⟩ = some (.slice fA fm fc) := vE.out.cell 1
  have kE2 : W4.cell? ⟨E, 2, none⟩ = some (.bool f2) := vE.out.cell 2
  have kE3 : W4.cell? ⟨E, 3, none⟩ = some (.slice fB fn fd) := vE.out.cell 3
  have zE := vE.out.lt
  go_upto_region 7 with fail
  refine wp_thenO (near_reg7 _ E r D f1 f2 fA fB fm fc fn fd rE KD HN.out.2.2 kE0 kE1 kE2 kE3 zE _ _ _ _ _ _ _ _ _ _ _ _ _ _ _ _ _ _ _ _ _ _ _ _ _ _ _ _ _ _ _ _ _ _ _ _ _ _ _ _ _ _ _ _ _ _ _ _ _ _ _ _ _ _ _ _ _ _ _ _ _ _ _ _ _) ?_
  rintro a' W5 ⟨v60, v61, v62, v63, v64, v65, v66, v67, rfl, hb⟩
  have HB := Lib.hid (HB.out.trans (hb.mono HB.out.size))
  clear hb
  go_wp2_with fail
  refine ⟨by simp [results, Try.results17, go_sem, *]; done, HB.out⟩
  
set_option maxHeartbeats 8000000 in
set_option maxRecDepth 100000 in
theorem near_r (p a b : Pt) (r : Int) (hr : I64 r) (hp : I32 p.1 ∧ I32 p.2) (ha : I32 a.1 ∧ I32 a.2) (hb : I32 b.1 ∧ I32 b.2) (w : World) :
    Calls Try.prog 17 #[.agg #[.int .i32 p.1, .int .i32 p.2], .agg #[.int .i32 a.1, .int .i32 a.2], .agg #[.int .i32 b.1, .int .i32 b.2], .int .i64 r] w fun e w' => e = .returned (.bool (nearD p a b r)) ∧ Below w.heap.size w w' := by
  have Ip := Lib.hid (fun W => rin_any p W)
  have Ia := Lib.hid (fun W => rin_any a W)
  have Ib := Lib.hid (fun W => rin_any b W)
  have HND : Hid (nearD p a b r = if r < 0 then false else if inP p && inP a && inP b then nearQ p a b r (footR p a b) else false) := Lib.hid rfl
  obtain ⟨N, hN⟩ : ∃ N, nearD p a b r = N := ⟨_, rfl⟩
  rw [hN] at HND ⊢
  clear hN
  by_cases h0 : r < 0
  · rw [if_pos h0] at HND
    obtain rfl := HND.out
    have hd : decide (r < 0) = true := by simp [h0]
    clear h0 HND hp ha hb
    obtain ⟨o1, o2⟩ := p
    obtain ⟨a1, a2⟩ := a
    obtain ⟨b1, b2⟩ := b
    dsimp only at *
    go_enter Try.func17, Try.ntmps17
    go_upto_region 1 with fail
    refine wp_gen (fun W0 hW => ?_)
    have vP : Hid (Var W0 w.heap.size 23 #[.int .i32 o1, .int .i32 o2]) := Lib.hid (by rw [hW]; exact ((Var.new _ _ _).alloc _).alloc _)
    have vA : Hid (Var W0 (w.heap.size + 1) 23 #[.int .i32 a1, .int .i32 a2]) := Lib.hid (by rw [hW]; exact (Var.new' _ _ _ (by simp)).alloc _)
    have vB : Hid (Var W0 (w.heap.size + 1 + 1) 23 #[.int .i32 b1, .int .i32 b2]) := Lib.hid (by rw [hW]; exact Var.new' _ _ _ (by simp))
    have HB : Hid (Below w.heap.size w W0) := Lib.hid (by rw [hW]; go_grown)
    clear hW
    obtain ⟨P, hP⟩ : ∃ P, w.heap.size = P := ⟨_, rfl⟩
    obtain ⟨A, hA⟩ : ∃ A, w.heap.size + 1 = A := ⟨_, rfl⟩
    obtain ⟨B, hB⟩ : ∃ B, w.heap.size + 1 + 1 = B := ⟨_, rfl⟩
    rw [hB] at vB ⊢
    rw [hA] at vA ⊢
    have HP := Lib.hid hP
    rw [hP] at vP ⊢
    clear hP hA hB
    have kP0 : W0.cell? ⟨P, 0, none⟩ = some (.int .i32 o1) := vP.out.cell 0
    have kP1 : W0.cell? ⟨P, 1, none⟩ = some (.int .i32 o2) := vP.out.cell 1
    have zP := vP.out.lt
    have kA0 : W0.cell? ⟨A, 0, none⟩ = some (.int .i32 a1) := vA.out.cell 0
    have kA1 : W0.cell? ⟨A, 1, none⟩ = some (.int .i32 a2) := vA.out.cell 1
    have zA := vA.out.lt
    have kB0 : W0.cell? ⟨B, 0, none⟩ = some (.int .i32 b1) := vB.out.cell 0
    have kB1 : W0.cell? ⟨B, 1, none⟩ = some (.int .i32 b2) := vB.out.cell 1
    have zB := vB.out.lt
    go_wp2_with fail
    refine bodyPost_ret (by simp [results, Try.results17, go_sem, *]; try rfl) rfl ?_
    exact ⟨rfl, HB.out⟩
  · rw [if_neg h0] at HND
    have hd : decide (r < 0) = false := by simp; omega
    clear h0
    cases ep : inP p
    · rw [ep] at Ip HND
      simp only [Bool.false_and, Bool.and_false, Bool.true_and, Bool.false_eq_true, if_false] at HND
      obtain rfl := HND.out
      clear HND hp ha hb ep
      obtain ⟨o1, o2⟩ := p
      obtain ⟨a1, a2⟩ := a
      obtain ⟨b1, b2⟩ := b
      dsimp only at *
      go_enter Try.func17, Try.ntmps17
      go_upto_region 1 with fail
      refine wp_gen (fun W0 hW => ?_)
      have vP : Hid (Var W0 w.heap.size 23 #[.int .i32 o1, .int .i32 o2]) := Lib.hid (by rw [hW]; exact ((Var.new _ _ _).alloc _).alloc _)
      have vA : Hid (Var W0 (w.heap.size + 1) 23 #[.int .i32 a1, .int .i32 a2]) := Lib.hid (by rw [hW]; exact (Var.new' _ _ _ (by simp)).alloc _)
      have vB : Hid (Var W0 (w.heap.size + 1 + 1) 23 #[.int .i32 b1, .int .i32 b2]) := Lib.hid (by rw [hW]; exact Var.new' _ _ _ (by simp))
      have HB : Hid (Below w.heap.size w W0) := Lib.hid (by rw [hW]; go_grown)
      clear hW
      obtain ⟨P, hP⟩ : ∃ P, w.heap.size = P := ⟨_, rfl⟩
      obtain ⟨A, hA⟩ : ∃ A, w.heap.size + 1 = A := ⟨_, rfl⟩
      obtain ⟨B, hB⟩ : ∃ B, w.heap.size + 1 + 1 = B := ⟨_, rfl⟩
      rw [hB] at vB ⊢
      rw [hA] at vA ⊢
      have HP := Lib.hid hP
      rw [hP] at vP ⊢
      clear hP hA hB
      have kP0 : W0.cell? ⟨P, 0, none⟩ = some (.int .i32 o1) := vP.out.cell 0
      have kP1 : W0.cell? ⟨P, 1, none⟩ = some (.int .i32 o2) := vP.out.cell 1
      have zP := vP.out.lt
      have kA0 : W0.cell? ⟨A, 0, none⟩ = some (.int .i32 a1) := vA.out.cell 0
      have kA1 : W0.cell? ⟨A, 1, none⟩ = some (.int .i32 a2) := vA.out.cell 1
      have zA := vA.out.lt
      have kB0 : W0.cell? ⟨B, 0, none⟩ = some (.int .i32 b1) := vB.out.cell 0
      have kB1 : W0.cell? ⟨B, 1, none⟩ = some (.int .i32 b2) := vB.out.cell 1
      have zB := vB.out.lt
      go_wp2_with fail
      refine (Ip.out _).mono ?_
      rintro e w1 ⟨rfl, hb⟩
      have HB := Lib.hid (HB.out.trans (hb.mono HB.out.size))
      have vP := Lib.hid (vP.out.keep hb)
      have vA := Lib.hid (vA.out.keep hb)
      have vB := Lib.hid (vB.out.keep hb)
      clear hb kP0 kP1 zP kA0 kA1 zA kB0 kB1 zB
      have kP0 : w1.cell? ⟨P, 0, none⟩ = some (.int .i32 o1) := vP.out.cell 0
      have kP1 : w1.cell? ⟨P, 1, none⟩ = some (.int .i32 o2) := vP.out.cell 1
      have zP := vP.out.lt
      have kA0 : w1.cell? ⟨A, 0, none⟩ = some (.int .i32 a1) := vA.out.cell 0
      have kA1 : w1.cell? ⟨A, 1, none⟩ = some (.int .i32 a2) := vA.out.cell 1
      have zA := vA.out.lt
      have kB0 : w1.cell? ⟨B, 0, none⟩ = some (.int .i32 b1) := vB.out.cell 0
      have kB1 : w1.cell? ⟨B, 1, none⟩ = some (.int .i32 b2) := vB.out.cell 1
      have zB := vB.out.lt
      go_wp2_with fail
      refine bodyPost_ret (by simp [results, Try.results17, go_sem, *]; try rfl) rfl ?_
      exact ⟨rfl, HB.out⟩
    · rw [ep] at Ip HND
      cases ea : inP a
      · rw [ea] at Ia HND
        simp only [Bool.false_and, Bool.and_false, Bool.true_and, Bool.false_eq_true, if_false] at HND
        obtain rfl := HND.out
        clear HND hp ha hb ep ea
        obtain ⟨o1, o2⟩ := p
        obtain ⟨a1, a2⟩ := a
        obtain ⟨b1, b2⟩ := b
        dsimp only at *
        go_enter Try.func17, Try.ntmps17
        go_upto_region 1 with fail
        refine wp_gen (fun W0 hW => ?_)
        have vP : Hid (Var W0 w.heap.size 23 #[.int .i32 o1, .int .i32 o2]) := Lib.hid (by rw [hW]; exact ((Var.new _ _ _).alloc _).alloc _)
        have vA : Hid (Var W0 (w.heap.size + 1) 23 #[.int .i32 a1, .int .i32 a2]) := Lib.hid (by rw [hW]; exact (Var.new' _ _ _ (by simp)).alloc _)
        have vB : Hid (Var W0 (w.heap.size + 1 + 1) 23 #[.int .i32 b1, .int .i32 b2]) := Lib.hid (by rw [hW]; exact Var.new' _ _ _ (by simp))
        have HB : Hid (Below w.heap.size w W0) := Lib.hid (by rw [hW]; go_grown)
        clear hW
        obtain ⟨P, hP⟩ : ∃ P, w.heap.size = P := ⟨_, rfl⟩
        obtain ⟨A, hA⟩ : ∃ A, w.heap.size + 1 = A := ⟨_, rfl⟩
        obtain ⟨B, hB⟩ : ∃ B, w.heap.size + 1 + 1 = B := ⟨_, rfl⟩
        rw [hB] at vB ⊢
        rw [hA] at vA ⊢
        have HP := Lib.hid hP
        rw [hP] at vP ⊢
        clear hP hA hB
        have kP0 : W0.cell? ⟨P, 0, none⟩ = some (.int .i32 o1) := vP.out.cell 0
        have kP1 : W0.cell? ⟨P, 1, none⟩ = some (.int .i32 o2) := vP.out.cell 1
        have zP := vP.out.lt
        have kA0 : W0.cell? ⟨A, 0, none⟩ = some (.int .i32 a1) := vA.out.cell 0
        have kA1 : W0.cell? ⟨A, 1, none⟩ = some (.int .i32 a2) := vA.out.cell 1
        have zA := vA.out.lt
        have kB0 : W0.cell? ⟨B, 0, none⟩ = some (.int .i32 b1) := vB.out.cell 0
        have kB1 : W0.cell? ⟨B, 1, none⟩ = some (.int .i32 b2) := vB.out.cell 1
        have zB := vB.out.lt
        go_wp2_with fail
        refine (Ip.out _).mono ?_
        rintro e w1 ⟨rfl, hb⟩
        have HB := Lib.hid (HB.out.trans (hb.mono HB.out.size))
        have vP := Lib.hid (vP.out.keep hb)
        have vA := Lib.hid (vA.out.keep hb)
        have vB := Lib.hid (vB.out.keep hb)
        clear hb kP0 kP1 zP kA0 kA1 zA kB0 kB1 zB
        have kP0 : w1.cell? ⟨P, 0, none⟩ = some (.int .i32 o1) := vP.out.cell 0
        have kP1 : w1.cell? ⟨P, 1, none⟩ = some (.int .i32 o2) := vP.out.cell 1
        have zP := vP.out.lt
        have kA0 : w1.cell? ⟨A, 0, none⟩ = some (.int .i32 a1) := vA.out.cell 0
        have kA1 : w1.cell? ⟨A, 1, none⟩ = some (.int .i32 a2) := vA.out.cell 1
        have zA := vA.out.lt
        have kB0 : w1.cell? ⟨B, 0, none⟩ = some (.int .i32 b1) := vB.out.cell 0
        have kB1 : w1.cell? ⟨B, 1, none⟩ = some (.int .i32 b2) := vB.out.cell 1
        have zB := vB.out.lt
        go_wp2_with fail
        refine (Ia.out _).mono ?_
        rintro e w2 ⟨rfl, hb⟩
        have HB := Lib.hid (HB.out.trans (hb.mono HB.out.size))
        have vP := Lib.hid (vP.out.keep hb)
        have vA := Lib.hid (vA.out.keep hb)
        have vB := Lib.hid (vB.out.keep hb)
        clear hb kP0 kP1 zP kA0 kA1 zA kB0 kB1 zB
        have kP0 : w2.cell? ⟨P, 0, none⟩ = some (.int .i32 o1) := vP.out.cell 0
        have kP1 : w2.cell? ⟨P, 1, none⟩ = some (.int .i32 o2) := vP.out.cell 1
        have zP := vP.out.lt
        have kA0 : w2.cell? ⟨A, 0, none⟩ = some (.int .i32 a1) := vA.out.cell 0
        have kA1 : w2.cell? ⟨A, 1, none⟩ = some (.int .i32 a2) := vA.out.cell 1
        have zA := vA.out.lt
        have kB0 : w2.cell? ⟨B, 0, none⟩ = some (.int .i32 b1) := vB.out.cell 0
        have kB1 : w2.cell? ⟨B, 1, none⟩ = some (.int .i32 b2) := vB.out.cell 1
        have zB := vB.out.lt
        go_wp2_with fail
        refine bodyPost_ret (by simp [results, Try.results17, go_sem, *]; try rfl) rfl ?_
        exact ⟨rfl, HB.out⟩
      · rw [ea] at Ia HND
        cases eb : inP b
        · rw [eb] at Ib HND
          simp only [Bool.false_and, Bool.and_false, Bool.true_and, Bool.false_eq_true, if_false] at HND
          obtain rfl := HND.out
          clear HND hp ha hb ep ea eb
          obtain ⟨o1, o2⟩ := p
          obtain ⟨a1, a2⟩ := a
          obtain ⟨b1, b2⟩ := b
          dsimp only at *
          go_enter Try.func17, Try.ntmps17
          go_upto_region 1 with fail
          refine wp_gen (fun W0 hW => ?_)
          have vP : Hid (Var W0 w.heap.size 23 #[.int .i32 o1, .int .i32 o2]) := Lib.hid (by rw [hW]; exact ((Var.new _ _ _).alloc _).alloc _)
          have vA : Hid (Var W0 (w.heap.size + 1) 23 #[.int .i32 a1, .int .i32 a2]) := Lib.hid (by rw [hW]; exact (Var.new' _ _ _ (by simp)).alloc _)
          have vB : Hid (Var W0 (w.heap.size + 1 + 1) 23 #[.int .i32 b1, .int .i32 b2]) := Lib.hid (by rw [hW]; exact Var.new' _ _ _ (by simp))
          have HB : Hid (Below w.heap.size w W0) := Lib.hid (by rw [hW]; go_grown)
          clear hW
          obtain ⟨P, hP⟩ : ∃ P, w.heap.size = P := ⟨_, rfl⟩
          obtain ⟨A, hA⟩ : ∃ A, w.heap.size + 1 = A := ⟨_, rfl⟩
          obtain ⟨B, hB⟩ : ∃ B, w.heap.size + 1 + 1 = B := ⟨_, rfl⟩
          rw [hB] at vB ⊢
          rw [hA] at vA ⊢
          have HP := Lib.hid hP
          rw [hP] at vP ⊢
          clear hP hA hB
          have kP0 : W0.cell? ⟨P, 0, none⟩ = some (.int .i32 o1) := vP.out.cell 0
          have kP1 : W0.cell? ⟨P, 1, none⟩ = some (.int .i32 o2) := vP.out.cell 1
          have zP := vP.out.lt
          have kA0 : W0.cell? ⟨A, 0, none⟩ = some (.int .i32 a1) := vA.out.cell 0
          have kA1 : W0.cell? ⟨A, 1, none⟩ = some (.int .i32 a2) := vA.out.cell 1
          have zA := vA.out.lt
          have kB0 : W0.cell? ⟨B, 0, none⟩ = some (.int .i32 b1) := vB.out.cell 0
          have kB1 : W0.cell? ⟨B, 1, none⟩ = some (.int .i32 b2) := vB.out.cell 1
          have zB := vB.out.lt
          go_wp2_with fail
          refine (Ip.out _).mono ?_
          rintro e w1 ⟨rfl, hb⟩
          have HB := Lib.hid (HB.out.trans (hb.mono HB.out.size))
          have vP := Lib.hid (vP.out.keep hb)
          have vA := Lib.hid (vA.out.keep hb)
          have vB := Lib.hid (vB.out.keep hb)
          clear hb kP0 kP1 zP kA0 kA1 zA kB0 kB1 zB
          have kP0 : w1.cell? ⟨P, 0, none⟩ = some (.int .i32 o1) := vP.out.cell 0
          have kP1 : w1.cell? ⟨P, 1, none⟩ = some (.int .i32 o2) := vP.out.cell 1
          have zP := vP.out.lt
          have kA0 : w1.cell? ⟨A, 0, none⟩ = some (.int .i32 a1) := vA.out.cell 0
          have kA1 : w1.cell? ⟨A, 1, none⟩ = some (.int .i32 a2) := vA.out.cell 1
          have zA := vA.out.lt
          have kB0 : w1.cell? ⟨B, 0, none⟩ = some (.int .i32 b1) := vB.out.cell 0
          have kB1 : w1.cell? ⟨B, 1, none⟩ = some (.int .i32 b2) := vB.out.cell 1
          have zB := vB.out.lt
          go_wp2_with fail
          refine (Ia.out _).mono ?_
          rintro e w2 ⟨rfl, hb⟩
          have HB := Lib.hid (HB.out.trans (hb.mono HB.out.size))
          have vP := Lib.hid (vP.out.keep hb)
          have vA := Lib.hid (vA.out.keep hb)
          have vB := Lib.hid (vB.out.keep hb)
          clear hb kP0 kP1 zP kA0 kA1 zA kB0 kB1 zB
          have kP0 : w2.cell? ⟨P, 0, none⟩ = some (.int .i32 o1) := vP.out.cell 0
          have kP1 : w2.cell? ⟨P, 1, none⟩ = some (.int .i32 o2) := vP.out.cell 1
          have zP := vP.out.lt
          have kA0 : w2.cell? ⟨A, 0, none⟩ = some (.int .i32 a1) := vA.out.cell 0
          have kA1 : w2.cell? ⟨A, 1, none⟩ = some (.int .i32 a2) := vA.out.cell 1
          have zA := vA.out.lt
          have kB0 : w2.cell? ⟨B, 0, none⟩ = some (.int .i32 b1) := vB.out.cell 0
          have kB1 : w2.cell? ⟨B, 1, none⟩ = some (.int .i32 b2) := vB.out.cell 1
          have zB := vB.out.lt
          go_wp2_with fail
          refine (Ib.out _).mono ?_
          rintro e w3 ⟨rfl, hb⟩
          have HB := Lib.hid (HB.out.trans (hb.mono HB.out.size))
          have vP := Lib.hid (vP.out.keep hb)
          have vA := Lib.hid (vA.out.keep hb)
          have vB := Lib.hid (vB.out.keep hb)
          clear hb kP0 kP1 zP kA0 kA1 zA kB0 kB1 zB
          have kP0 : w3.cell? ⟨P, 0, none⟩ = some (.int .i32 o1) := vP.out.cell 0
          have kP1 : w3.cell? ⟨P, 1, none⟩ = some (.int .i32 o2) := vP.out.cell 1
          have zP := vP.out.lt
          have kA0 : w3.cell? ⟨A, 0, none⟩ = some (.int .i32 a1) := vA.out.cell 0
          have kA1 : w3.cell? ⟨A, 1, none⟩ = some (.int .i32 a2) := vA.out.cell 1
          have zA := vA.out.lt
          have kB0 : w3.cell? ⟨B, 0, none⟩ = some (.int .i32 b1) := vB.out.cell 0
          have kB1 : w3.cell? ⟨B, 1, none⟩ = some (.int .i32 b2) := vB.out.cell 1
          have zB := vB.out.lt
          go_wp2_with fail
          refine bodyPost_ret (by simp [results, Try.results17, go_sem, *]; try rfl) rfl ?_
          exact ⟨rfl, HB.out⟩
        · rw [eb] at Ib HND
          simp only [Bool.and_self, if_true] at HND
          obtain rfl := HND.out
          have HI := Lib.hid (And.intro hr (And.intro hp (And.intro ha hb)))
          clear HND hr hp ha hb ep ea eb
          obtain ⟨o1, o2⟩ := p
          obtain ⟨a1, a2⟩ := a
          obtain ⟨b1, b2⟩ := b
          dsimp only at *
          go_enter Try.func17, Try.ntmps17
          show Code.wp _ (.seq _ (.seq _ (tailO Try.f17 2))) _ _ _
          generalize hTL : tailO Try.f17 2 = TL
          have HTL := Lib.hid hTL
          clear hTL
          go_upto_region 1 with fail
          refine wp_gen (fun W0 hW => ?_)
          have vP : Hid (Var W0 w.heap.size 23 #[.int .i32 o1, .int .i32 o2]) := Lib.hid (by rw [hW]; exact ((Var.new _ _ _).alloc _).alloc _)
          have vA : Hid (Var W0 (w.heap.size + 1) 23 #[.int .i32 a1, .int .i32 a2]) := Lib.hid (by rw [hW]; exact (Var.new' _ _ _ (by simp)).alloc _)
          have vB : Hid (Var W0 (w.heap.size + 1 + 1) 23 #[.int .i32 b1, .int .i32 b2]) := Lib.hid (by rw [hW]; exact Var.new' _ _ _ (by simp))
          have HB : Hid (Below w.heap.size w W0) := Lib.hid (by rw [hW]; go_grown)
          clear hW
          obtain ⟨P, hP⟩ : ∃ P, w.heap.size = P := ⟨_, rfl⟩
          obtain ⟨A, hA⟩ : ∃ A, w.heap.size + 1 = A := ⟨_, rfl⟩
          obtain ⟨B, hB⟩ : ∃ B, w.heap.size + 1 + 1 = B := ⟨_, rfl⟩
          rw [hB] at vB ⊢
          rw [hA] at vA ⊢
          have HP := Lib.hid hP
          rw [hP] at vP ⊢
          clear hP hA hB
          have kP0 : W0.cell? ⟨P, 0, none⟩ = some (.int .i32 o1) := vP.out.cell 0
          have kP1 : W0.cell? ⟨P, 1, none⟩ = some (.int .i32 o2) := vP.out.cell 1
          have zP := vP.out.lt
          have kA0 : W0.cell? ⟨A, 0, none⟩ = some (.int .i32 a1) := vA.out.cell 0
          have kA1 : W0.cell? ⟨A, 1, none⟩ = some (.int .i32 a2) := vA.out.cell 1
          have zA := vA.out.lt
          have kB0 : W0.cell? ⟨B, 0, none⟩ = some (.int .i32 b1) := vB.out.cell 0
          have kB1 : W0.cell? ⟨B, 1, none⟩ = some (.int .i32 b2) := vB.out.cell 1
          have zB := vB.out.lt
          go_wp2_with fail
          refine (Ip.out _).mono ?_
          rintro e w1 ⟨rfl, hb⟩
          have HB := Lib.hid (HB.out.trans (hb.mono HB.out.size))
          have vP := Lib.hid (vP.out.keep hb)
          have vA := Lib.hid (vA.out.keep hb)
          have vB := Lib.hid (vB.out.keep hb)
          clear hb kP0 kP1 zP kA0 kA1 zA kB0 kB1 zB
          have kP0 : w1.cell? ⟨P, 0, none⟩ = some (.int .i32 o1) := vP.out.cell 0
          have kP1 : w1.cell? ⟨P, 1, none⟩ = some (.int .i32 o2) := vP.out.cell 1
          have zP := vP.out.lt
          have kA0 : w1.cell? ⟨A, 0, none⟩ = some (.int .i32 a1) := vA.out.cell 0
          have kA1 : w1.cell? ⟨A, 1, none⟩ = some (.int .i32 a2) := vA.out.cell 1
          have zA := vA.out.lt
          have kB0 : w1.cell? ⟨B, 0, none⟩ = some (.int .i32 b1) := vB.out.cell 0
          have kB1 : w1.cell? ⟨B, 1, none⟩ = some (.int .i32 b2) := vB.out.cell 1
          have zB := vB.out.lt
          go_wp2_with fail
          refine (Ia.out _).mono ?_
          rintro e w2 ⟨rfl, hb⟩
          have HB := Lib.hid (HB.out.trans (hb.mono HB.out.size))
          have vP := Lib.hid (vP.out.keep hb)
          have vA := Lib.hid (vA.out.keep hb)
          have vB := Lib.hid (vB.out.keep hb)
          clear hb kP0 kP1 zP kA0 kA1 zA kB0 kB1 zB
          have kP0 : w2.cell? ⟨P, 0, none⟩ = some (.int .i32 o1) := vP.out.cell 0
          have kP1 : w2.cell? ⟨P, 1, none⟩ = some (.int .i32 o2) := vP.out.cell 1
          have zP := vP.out.lt
          have kA0 : w2.cell? ⟨A, 0, none⟩ = some (.int .i32 a1) := vA.out.cell 0
          have kA1 : w2.cell? ⟨A, 1, none⟩ = some (.int .i32 a2) := vA.out.cell 1
          have zA := vA.out.lt
          have kB0 : w2.cell? ⟨B, 0, none⟩ = some (.int .i32 b1) := vB.out.cell 0
          have kB1 : w2.cell? ⟨B, 1, none⟩ = some (.int .i32 b2) := vB.out.cell 1
          have zB := vB.out.lt
          go_wp2_with fail
          refine (Ib.out _).mono ?_
          rintro e w3 ⟨rfl, hb⟩
          have HB := Lib.hid (HB.out.trans (hb.mono HB.out.size))
          have vP := Lib.hid (vP.out.keep hb)
          have vA := Lib.hid (vA.out.keep hb)
          have vB := Lib.hid (vB.out.keep hb)
          clear hb kP0 kP1 zP kA0 kA1 zA kB0 kB1 zB
          have kP0 : w3.cell? ⟨P, 0, none⟩ = some (.int .i32 o1) := vP.out.cell 0
          have kP1 : w3.cell? ⟨P, 1, none⟩ = some (.int .i32 o2) := vP.out.cell 1
          have zP := vP.out.lt
          have kA0 : w3.cell? ⟨A, 0, none⟩ = some (.int .i32 a1) := vA.out.cell 0
          have kA1 : w3.cell? ⟨A, 1, none⟩ = some (.int .i32 a2) := vA.out.cell 1
          have zA := vA.out.lt
          have kB0 : w3.cell? ⟨B, 0, none⟩ = some (.int .i32 b1) := vB.out.cell 0
          have kB1 : w3.cell? ⟨B, 1, none⟩ = some (.int .i32 b2) := vB.out.cell 1
          have zB := vB.out.lt
          go_wp2_with fail
          rw [← HTL.out]
          refine Code.wp_mono (fun e a' w' h => ?_) (near_tail w _ P A B o1 o2 a1 a2 b1 b2 r HI.out.1 HI.out.2.1 HI.out.2.2.1 HI.out.2.2.2 HB vP vA vB _ _ _ _ _ _ _ _ _ _ _ _ _ _ _ _ _ _ _ _ _ _ _ _ _ _ _ _ _ _ _ _ _ _ _ _ _ _ _ _ _ _ _ _ _ _ _ _ _ _ _ _ _ _ _ _ _ _ _ _ _ _ _)
          obtain ⟨rfl, hd, hr, hb⟩ := h
          exact ⟨hd, _, hr, rfl, hb⟩

theorem foot_fits {p a b : Pt} (hp : inP p = true) (ha : inP a = true) (hb : inP b = true) : (0 ≤ (footR p a b).1 ∧ (footR p a b).1 ≤ 9223372036854775807) ∧ (0 < (footR p a b).2 ∧ (footR p a b).2 ≤ 9223372036854775807) := by
  unfold footR
  split
  · exact ⟨by decide, by decide⟩
  · rename_i hab
    have h1 := sb_pos hab
    have h2 := dt_lat hb ha
    have h3 := @cmpI_gt (dt (sb a p) (sb a b)) (dt (sb a b) (sb a b))
    rw [foot_t hab, cmp_one]
    dsimp only
    split
    · exact ⟨by decide, by decide⟩
    · split
      · exact ⟨by decide, by decide⟩
      · omega
theorem foot_d {p a b : Pt} (hp : inP p = true) (ha : inP a = true) (hb : inP b = true) : footD p a b = fr (footR p a b).1 (footR p a b).2 := by
  unfold footD
  rw [hp, ha, hb]
  rfl

set_option maxHeartbeats 8000000 in
set_option maxRecDepth 100000 in
theorem rfoot_any (p a b : Pt) (hp : I32 p.1 ∧ I32 p.2) (ha : I32 a.1 ∧ I32 a.2) (hb : I32 b.1 ∧ I32 b.2) (w : World) :
    Calls Try.prog 16 #[.agg #[.int .i32 p.1, .int .i32 p.2], .agg #[.int .i32 a.1, .int .i32 a.2], .agg #[.int .i32 b.1, .int .i32 b.2]] w fun e w' => e = .returned (.agg #[.int .i64 (foot p a b).1, .int .i64 (foot p a b).2]) ∧ Below w.heap.size w w' := by
  rw [← footD_is]
  have Ip := Lib.hid (fun W => rin_any p W)
  have Ia := Lib.hid (fun W => rin_any a W)
  have Ib := Lib.hid (fun W => rin_any b W)
  have HND : Hid (footD p a b = if inP p && inP a && inP b then fr (footR p a b).1 (footR p a b).2 else (0, 1)) := Lib.hid rfl
  obtain ⟨N, hN⟩ : ∃ N, footD p a b = N := ⟨_, rfl⟩
  rw [hN] at HND ⊢
  clear hN
  cases ep : inP p
  · rw [ep] at Ip HND
    simp only [Bool.false_and, Bool.and_false, Bool.true_and, Bool.false_eq_true, if_false] at HND
    obtain rfl := HND.out
    clear HND hp ha hb ep
    obtain ⟨o1, o2⟩ := p
    obtain ⟨a1, a2⟩ := a
    obtain ⟨b1, b2⟩ := b
    dsimp only at *
    go_enter Try.func16, Try.ntmps16
    go_upto_region 1 with fail
    refine wp_gen (fun W0 hW => ?_)
    have vP : Hid (Var W0 w.heap.size 23 #[.int .i32 o1, .int .i32 o2]) := Lib.hid (by rw [hW]; exact (((Var.new _ _ _).alloc _).alloc _).alloc _)
    have vA : Hid (Var W0 (w.heap.size + 1) 23 #[.int .i32 a1, .int .i32 a2]) := Lib.hid (by rw [hW]; exact ((Var.new' _ _ _ (by simp)).alloc _).alloc _)
    have vB : Hid (Var W0 (w.heap.size + 1 + 1) 23 #[.int .i32 b1, .int .i32 b2]) := Lib.hid (by rw [hW]; exact (Var.new' _ _ _ (by simp)).alloc _)
    have vR : Hid (Var W0 (w.heap.size + 1 + 1 + 1) 28 #[.int .i64 0, .int .i64 0]) := Lib.hid (by rw [hW]; exact Var.new' _ _ _ (by simp))
    have HB : Hid (Below w.heap.size w W0) := Lib.hid (by rw [hW]; go_grown)
    clear hW
    obtain ⟨P, hP⟩ : ∃ P, w.heap.size = P := ⟨_, rfl⟩
    obtain ⟨A, hA⟩ : ∃ A, w.heap.size + 1 = A := ⟨_, rfl⟩
    obtain ⟨B, hB⟩ : ∃ B, w.heap.size + 1 + 1 = B := ⟨_, rfl⟩
    obtain ⟨R, hR⟩ : ∃ R, w.heap.size + 1 + 1 + 1 = R := ⟨_, rfl⟩
    have hwR : w.heap.size ≤ R := by omega
    rw [hR] at vR ⊢
    rw [hB] at vB ⊢
    rw [hA] at vA ⊢
    have HP := Lib.hid hP
    rw [hP] at vP ⊢
    clear hP hA hB hR
    have kP0 : W0.cell? ⟨P, 0, none⟩ = some (.int .i32 o1) := vP.out.cell 0
    have kP1 : W0.cell? ⟨P, 1, none⟩ = some (.int .i32 o2) := vP.out.cell 1
    have zP := vP.out.lt
    have kA0 : W0.cell? ⟨A, 0, none⟩ = some (.int .i32 a1) := vA.out.cell 0
    have kA1 : W0.cell? ⟨A, 1, none⟩ = some (.int .i32 a2) := vA.out.cell 1
    have zA := vA.out.lt
    have kB0 : W0.cell? ⟨B, 0, none⟩ = some (.int .i32 b1) := vB.out.cell 0
    have kB1 : W0.cell? ⟨B, 1, none⟩ = some (.int .i32 b2) := vB.out.cell 1
    have zB := vB.out.lt
    go_wp2_with fail
    refine (Ip.out _).mono ?_
    rintro e w1 ⟨rfl, hb⟩
    have HB := Lib.hid (HB.out.trans (hb.mono HB.out.size))
    have vP := Lib.hid (vP.out.keep hb)
    have vA := Lib.hid (vA.out.keep hb)
    have vB := Lib.hid (vB.out.keep hb)
    have vR := Lib.hid (vR.out.keep hb)
    clear hb kP0 kP1 zP kA0 kA1 zA kB0 kB1 zB
    have kP0 : w1.cell? ⟨P, 0, none⟩ = some (.int .i32 o1) := vP.out.cell 0
    have kP1 : w1.cell? ⟨P, 1, none⟩ = some (.int .i32 o2) := vP.out.cell 1
    have zP := vP.out.lt
    have kA0 : w1.cell? ⟨A, 0, none⟩ = some (.int .i32 a1) := vA.out.cell 0
    have kA1 : w1.cell? ⟨A, 1, none⟩ = some (.int .i32 a2) := vA.out.cell 1
    have zA := vA.out.lt
    have kB0 : w1.cell? ⟨B, 0, none⟩ = some (.int .i32 b1) := vB.out.cell 0
    have kB1 : w1.cell? ⟨B, 1, none⟩ = some (.int .i32 b2) := vB.out.cell 1
    have zB := vB.out.lt
    have zR := vR.out.lt
    have kr0 : w1.cell? ⟨R, 0, none⟩ = some (.int .i64 0) := vR.out.cell 0
    have kr1 : w1.cell? ⟨R, 1, none⟩ = some (.int .i64 0) := vR.out.cell 1
    have gr0 := vR.out.free 0
    have gr1 := vR.out.free 1
    go_wp2_with fail
    refine bodyPost_ret (by simp [results, Try.results16, go_sem, *]; try rfl) rfl ?_
    exact ⟨rfl, (HB.out.setCell (p := ⟨R, 0, none⟩) hwR _).setCell (p := ⟨R, 1, none⟩) hwR _⟩
  · rw [ep] at Ip HND
    cases ea : inP a
    · rw [ea] at Ia HND
      simp only [Bool.false_and, Bool.and_false, Bool.true_and, Bool.false_eq_true, if_false] at HND
      obtain rfl := HND.out
      clear HND hp ha hb ep ea
      obtain ⟨o1, o2⟩ := p
      obtain ⟨a1, a2⟩ := a
      obtain ⟨b1, b2⟩ := b
      dsimp only at *
      go_enter Try.func16, Try.ntmps16
      go_upto_region 1 with fail
      refine wp_gen (fun W0 hW => ?_)
      have vP : Hid (Var W0 w.heap.size 23 #[.int .i32 o1, .int .i32 o2]) := Lib.hid (by rw [hW]; exact (((Var.new _ _ _).alloc _).alloc _).alloc _)
      have vA : Hid (Var W0 (w.heap.size + 1) 23 #[.int .i32 a1, .int .i32 a2]) := Lib.hid (by rw [hW]; exact ((Var.new' _ _ _ (by simp)).alloc _).alloc _)
      have vB : Hid (Var W0 (w.heap.size + 1 + 1) 23 #[.int .i32 b1, .int .i32 b2]) := Lib.hid (by rw [hW]; exact (Var.new' _ _ _ (by simp)).alloc _)
      have vR : Hid (Var W0 (w.heap.size + 1 + 1 + 1) 28 #[.int .i64 0, .int .i64 0]) := Lib.hid (by rw [hW]; exact Var.new' _ _ _ (by simp))
      have HB : Hid (Below w.heap.size w W0) := Lib.hid (by rw [hW]; go_grown)
      clear hW
      obtain ⟨P, hP⟩ : ∃ P, w.heap.size = P := ⟨_, rfl⟩
      obtain ⟨A, hA⟩ : ∃ A, w.heap.size + 1 = A := ⟨_, rfl⟩
      obtain ⟨B, hB⟩ : ∃ B, w.heap.size + 1 + 1 = B := ⟨_, rfl⟩
      obtain ⟨R, hR⟩ : ∃ R, w.heap.size + 1 + 1 + 1 = R := ⟨_, rfl⟩
      have hwR : w.heap.size ≤ R := by omega
      rw [hR] at vR ⊢
      rw [hB] at vB ⊢
      rw [hA] at vA ⊢
      have HP := Lib.hid hP
      rw [hP] at vP ⊢
      clear hP hA hB hR
      have kP0 : W0.cell? ⟨P, 0, none⟩ = some (.int .i32 o1) := vP.out.cell 0
      have kP1 : W0.cell? ⟨P, 1, none⟩ = some (.int .i32 o2) := vP.out.cell 1
      have zP := vP.out.lt
      have kA0 : W0.cell? ⟨A, 0, none⟩ = some (.int .i32 a1) := vA.out.cell 0
      have kA1 : W0.cell? ⟨A, 1, none⟩ = some (.int .i32 a2) := vA.out.cell 1
      have zA := vA.out.lt
      have kB0 : W0.cell? ⟨B, 0, none⟩ = some (.int .i32 b1) := vB.out.cell 0
      have kB1 : W0.cell? ⟨B, 1, none⟩ = some (.int .i32 b2) := vB.out.cell 1
      have zB := vB.out.lt
      go_wp2_with fail
      refine (Ip.out _).mono ?_
      rintro e w1 ⟨rfl, hb⟩
      have HB := Lib.hid (HB.out.trans (hb.mono HB.out.size))
      have vP := Lib.hid (vP.out.keep hb)
      have vA := Lib.hid (vA.out.keep hb)
      have vB := Lib.hid (vB.out.keep hb)
      have vR := Lib.hid (vR.out.keep hb)
      clear hb kP0 kP1 zP kA0 kA1 zA kB0 kB1 zB
      have kP0 : w1.cell? ⟨P, 0, none⟩ = some (.int .i32 o1) := vP.out.cell 0
      have kP1 : w1.cell? ⟨P, 1, none⟩ = some (.int .i32 o2) := vP.out.cell 1
      have zP := vP.out.lt
      have kA0 : w1.cell? ⟨A, 0, none⟩ = some (.int .i32 a1) := vA.out.cell 0
      have kA1 : w1.cell? ⟨A, 1, none⟩ = some (.int .i32 a2) := vA.out.cell 1
      have zA := vA.out.lt
      have kB0 : w1.cell? ⟨B, 0, none⟩ = some (.int .i32 b1) := vB.out.cell 0
      have kB1 : w1.cell? ⟨B, 1, none⟩ = some (.int .i32 b2) := vB.out.cell 1
      have zB := vB.out.lt
      go_wp2_with fail
      refine (Ia.out _).mono ?_
      rintro e w2 ⟨rfl, hb⟩
      have HB := Lib.hid (HB.out.trans (hb.mono HB.out.size))
      have vP := Lib.hid (vP.out.keep hb)
      have vA := Lib.hid (vA.out.keep hb)
      have vB := Lib.hid (vB.out.keep hb)
      have vR := Lib.hid (vR.out.keep hb)
      clear hb kP0 kP1 zP kA0 kA1 zA kB0 kB1 zB
      have kP0 : w2.cell? ⟨P, 0, none⟩ = some (.int .i32 o1) := vP.out.cell 0
      have kP1 : w2.cell? ⟨P, 1, none⟩ = some (.int .i32 o2) := vP.out.cell 1
      have zP := vP.out.lt
      have kA0 : w2.cell? ⟨A, 0, none⟩ = some (.int .i32 a1) := vA.out.cell 0
      have kA1 : w2.cell? ⟨A, 1, none⟩ = some (.int .i32 a2) := vA.out.cell 1
      have zA := vA.out.lt
      have kB0 : w2.cell? ⟨B, 0, none⟩ = some (.int .i32 b1) := vB.out.cell 0
      have kB1 : w2.cell? ⟨B, 1, none⟩ = some (.int .i32 b2) := vB.out.cell 1
      have zB := vB.out.lt
      have zR := vR.out.lt
      have kr0 : w2.cell? ⟨R, 0, none⟩ = some (.int .i64 0) := vR.out.cell 0
      have kr1 : w2.cell? ⟨R, 1, none⟩ = some (.int .i64 0) := vR.out.cell 1
      have gr0 := vR.out.free 0
      have gr1 := vR.out.free 1
      go_wp2_with fail
      refine bodyPost_ret (by simp [results, Try.results16, go_sem, *]; try rfl) rfl ?_
      exact ⟨rfl, (HB.out.setCell (p := ⟨R, 0, none⟩) hwR _).setCell (p := ⟨R, 1, none⟩) hwR _⟩
    · rw [ea] at Ia HND
      cases eb : inP b
      · rw [eb] at Ib HND
        simp only [Bool.false_and, Bool.and_false, Bool.true_and, Bool.false_eq_true, if_false] at HND
        obtain rfl := HND.out
        clear HND hp ha hb ep ea eb
        obtain ⟨o1, o2⟩ := p
        obtain ⟨a1, a2⟩ := a
        obtain ⟨b1, b2⟩ := b
        dsimp only at *
        go_enter Try.func16, Try.ntmps16
        go_upto_region 1 with fail
        refine wp_gen (fun W0 hW => ?_)
        have vP : Hid (Var W0 w.heap.size 23 #[.int .i32 o1, .int .i32 o2]) := Lib.hid (by rw [hW]; exact (((Var.new _ _ _).alloc _).alloc _).alloc _)
        have vA : Hid (Var W0 (w.heap.size + 1) 23 #[.int .i32 a1, .int .i32 a2]) := Lib.hid (by rw [hW]; exact ((Var.new' _ _ _ (by simp)).alloc _).alloc _)
        have vB : Hid (Var W0 (w.heap.size + 1 + 1) 23 #[.int .i32 b1, .int .i32 b2]) := Lib.hid (by rw [hW]; exact (Var.new' _ _ _ (by simp)).alloc _)
        have vR : Hid (Var W0 (w.heap.size + 1 + 1 + 1) 28 #[.int .i64 0, .int .i64 0]) := Lib.hid (by rw [hW]; exact Var.new' _ _ _ (by simp))
        have HB : Hid (Below w.heap.size w W0) := Lib.hid (by rw [hW]; go_grown)
        clear hW
        obtain ⟨P, hP⟩ : ∃ P, w.heap.size = P := ⟨_, rfl⟩
        obtain ⟨A, hA⟩ : ∃ A, w.heap.size + 1 = A := ⟨_, rfl⟩
        obtain ⟨B, hB⟩ : ∃ B, w.heap.size + 1 + 1 = B := ⟨_, rfl⟩
        obtain ⟨R, hR⟩ : ∃ R, w.heap.size + 1 + 1 + 1 = R := ⟨_, rfl⟩
        have hwR : w.heap.size ≤ R := by omega
        rw [hR] at vR ⊢
        rw [hB] at vB ⊢
        rw [hA] at vA ⊢
        have HP := Lib.hid hP
        rw [hP] at vP ⊢
        clear hP hA hB hR
        have kP0 : W0.cell? ⟨P, 0, none⟩ = some (.int .i32 o1) := vP.out.cell 0
        have kP1 : W0.cell? ⟨P, 1, none⟩ = some (.int .i32 o2) := vP.out.cell 1
        have zP := vP.out.lt
        have kA0 : W0.cell? ⟨A, 0, none⟩ = some (.int .i32 a1) := vA.out.cell 0
        have kA1 : W0.cell? ⟨A, 1, none⟩ = some (.int .i32 a2) := vA.out.cell 1
        have zA := vA.out.lt
        have kB0 : W0.cell? ⟨B, 0, none⟩ = some (.int .i32 b1) := vB.out.cell 0
        have kB1 : W0.cell? ⟨B, 1, none⟩ = some (.int .i32 b2) := vB.out.cell 1
        have zB := vB.out.lt
        go_wp2_with fail
        refine (Ip.out _).mono ?_
        rintro e w1 ⟨rfl, hb⟩
        have HB := Lib.hid (HB.out.trans (hb.mono HB.out.size))
        have vP := Lib.hid (vP.out.keep hb)
        have vA := Lib.hid (vA.out.keep hb)
        have vB := Lib.hid (vB.out.keep hb)
        have vR := Lib.hid (vR.out.keep hb)
        clear hb kP0 kP1 zP kA0 kA1 zA kB0 kB1 zB
        have kP0 : w1.cell? ⟨P, 0, none⟩ = some (.int .i32 o1) := vP.out.cell 0
        have kP1 : w1.cell? ⟨P, 1, none⟩ = some (.int .i32 o2) := vP.out.cell 1
        have zP := vP.out.lt
        have kA0 : w1.cell? ⟨A, 0, none⟩ = some (.int .i32 a1) := vA.out.cell 0
        have kA1 : w1.cell? ⟨A, 1, none⟩ = some (.int .i32 a2) := vA.out.cell 1
        have zA := vA.out.lt
        have kB0 : w1.cell? ⟨B, 0, none⟩ = some (.int .i32 b1) := vB.out.cell 0
        have kB1 : w1.cell? ⟨B, 1, none⟩ = some (.int .i32 b2) := vB.out.cell 1
        have zB := vB.out.lt
        go_wp2_with fail
        refine (Ia.out _).mono ?_
        rintro e w2 ⟨rfl, hb⟩
        have HB := Lib.hid (HB.out.trans (hb.mono HB.out.size))
        have vP := Lib.hid (vP.out.keep hb)
        have vA := Lib.hid (vA.out.keep hb)
        have vB := Lib.hid (vB.out.keep hb)
        have vR := Lib.hid (vR.out.keep hb)
        clear hb kP0 kP1 zP kA0 kA1 zA kB0 kB1 zB
        have kP0 : w2.cell? ⟨P, 0, none⟩ = some (.int .i32 o1) := vP.out.cell 0
        have kP1 : w2.cell? ⟨P, 1, none⟩ = some (.int .i32 o2) := vP.out.cell 1
        have zP := vP.out.lt
        have kA0 : w2.cell? ⟨A, 0, none⟩ = some (.int .i32 a1) := vA.out.cell 0
        have kA1 : w2.cell? ⟨A, 1, none⟩ = some (.int .i32 a2) := vA.out.cell 1
        have zA := vA.out.lt
        have kB0 : w2.cell? ⟨B, 0, none⟩ = some (.int .i32 b1) := vB.out.cell 0
        have kB1 : w2.cell? ⟨B, 1, none⟩ = some (.int .i32 b2) := vB.out.cell 1
        have zB := vB.out.lt
        go_wp2_with fail
        refine (Ib.out _).mono ?_
        rintro e w3 ⟨rfl, hb⟩
        have HB := Lib.hid (HB.out.trans (hb.mono HB.out.size))
        have vP := Lib.hid (vP.out.keep hb)
        have vA := Lib.hid (vA.out.keep hb)
        have vB := Lib.hid (vB.out.keep hb)
        have vR := Lib.hid (vR.out.keep hb)
        clear hb kP0 kP1 zP kA0 kA1 zA kB0 kB1 zB
        have kP0 : w3.cell? ⟨P, 0, none⟩ = some (.int .i32 o1) := vP.out.cell 0
        have kP1 : w3.cell? ⟨P, 1, none⟩ = some (.int .i32 o2) := vP.out.cell 1
        have zP := vP.out.lt
        have kA0 : w3.cell? ⟨A, 0, none⟩ = some (.int .i32 a1) := vA.out.cell 0
        have kA1 : w3.cell? ⟨A, 1, none⟩ = some (.int .i32 a2) := vA.out.cell 1
        have zA := vA.out.lt
        have kB0 : w3.cell? ⟨B, 0, none⟩ = some (.int .i32 b1) := vB.out.cell 0
        have kB1 : w3.cell? ⟨B, 1, none⟩ = some (.int .i32 b2) := vB.out.cell 1
        have zB := vB.out.lt
        have zR := vR.out.lt
        have kr0 : w3.cell? ⟨R, 0, none⟩ = some (.int .i64 0) := vR.out.cell 0
        have kr1 : w3.cell? ⟨R, 1, none⟩ = some (.int .i64 0) := vR.out.cell 1
        have gr0 := vR.out.free 0
        have gr1 := vR.out.free 1
        go_wp2_with fail
        refine bodyPost_ret (by simp [results, Try.results16, go_sem, *]; try rfl) rfl ?_
        exact ⟨rfl, (HB.out.setCell (p := ⟨R, 0, none⟩) hwR _).setCell (p := ⟨R, 1, none⟩) hwR _⟩
      · rw [eb] at Ib HND
        simp only [Bool.and_self, if_true] at HND
        have hf := foot_fits ep ea eb
        have FQ := Lib.hid (fun W => foot_q p a b hp ha hb W)
        have KF := Lib.hid (qs_foot hp ha hb)
        obtain ⟨t, ht⟩ : ∃ t, footR p a b = t := ⟨_, rfl⟩
        rw [ht] at HND hf FQ KF
        have FR := Lib.hid (fun W v (hv : RatAt W v t) => frac_q hv KF.out (by omega) hf.1 hf.2 W (Below.refl _ _))
        rw [← HND.out] at FR
        obtain ⟨f1, f2⟩ := N
        clear HND ht hf KF hp ha hb ep ea eb
        obtain ⟨o1, o2⟩ := p
        obtain ⟨a1, a2⟩ := a
        obtain ⟨b1, b2⟩ := b
        dsimp only at *
        go_enter Try.func16, Try.ntmps16
        go_upto_region 1 with fail
        refine wp_gen (fun W0 hW => ?_)
        have vP : Hid (Var W0 w.heap.size 23 #[.int .i32 o1, .int .i32 o2]) := Lib.hid (by rw [hW]; exact (((Var.new _ _ _).alloc _).alloc _).alloc _)
        have vA : Hid (Var W0 (w.heap.size + 1) 23 #[.int .i32 a1, .int .i32 a2]) := Lib.hid (by rw [hW]; exact ((Var.new' _ _ _ (by simp)).alloc _).alloc _)
        have vB : Hid (Var W0 (w.heap.size + 1 + 1) 23 #[.int .i32 b1, .int .i32 b2]) := Lib.hid (by rw [hW]; exact (Var.new' _ _ _ (by simp)).alloc _)
        have vR : Hid (Var W0 (w.heap.size + 1 + 1 + 1) 28 #[.int .i64 0, .int .i64 0]) := Lib.hid (by rw [hW]; exact Var.new' _ _ _ (by simp))
        have HB : Hid (Below w.heap.size w W0) := Lib.hid (by rw [hW]; go_grown)
        clear hW
        obtain ⟨P, hP⟩ : ∃ P, w.heap.size = P := ⟨_, rfl⟩
        obtain ⟨A, hA⟩ : ∃ A, w.heap.size + 1 = A := ⟨_, rfl⟩
        obtain ⟨B, hB⟩ : ∃ B, w.heap.size + 1 + 1 = B := ⟨_, rfl⟩
        obtain ⟨R, hR⟩ : ∃ R, w.heap.size + 1 + 1 + 1 = R := ⟨_, rfl⟩
        have hwR : w.heap.size ≤ R := by omega
        rw [hR] at vR ⊢
        rw [hB] at vB ⊢
        rw [hA] at vA ⊢
        have HP := Lib.hid hP
        rw [hP] at vP ⊢
        clear hP hA hB hR
        have kP0 : W0.cell? ⟨P, 0, none⟩ = some (.int .i32 o1) := vP.out.cell 0
        have kP1 : W0.cell? ⟨P, 1, none⟩ = some (.int .i32 o2) := vP.out.cell 1
        have zP := vP.out.lt
        have kA0 : W0.cell? ⟨A, 0, none⟩ = some (.int .i32 a1) := vA.out.cell 0
        have kA1 : W0.cell? ⟨A, 1, none⟩ = some (.int .i32 a2) := vA.out.cell 1
        have zA := vA.out.lt
        have kB0 : W0.cell? ⟨B, 0, none⟩ = some (.int .i32 b1) := vB.out.cell 0
        have kB1 : W0.cell? ⟨B, 1, none⟩ = some (.int .i32 b2) := vB.out.cell 1
        have zB := vB.out.lt
        go_wp2_with fail
        refine (Ip.out _).mono ?_
        rintro e w1 ⟨rfl, hb⟩
        have HB := Lib.hid (HB.out.trans (hb.mono HB.out.size))
        have vP := Lib.hid (vP.out.keep hb)
        have vA := Lib.hid (vA.out.keep hb)
        have vB := Lib.hid (vB.out.keep hb)
        have vR := Lib.hid (vR.out.keep hb)
        clear hb kP0 kP1 zP kA0 kA1 zA kB0 kB1 zB
        have kP0 : w1.cell? ⟨P, 0, none⟩ = some (.int .i32 o1) := vP.out.cell 0
        have kP1 : w1.cell? ⟨P, 1, none⟩ = some (.int .i32 o2) := vP.out.cell 1
        have zP := vP.out.lt
        have kA0 : w1.cell? ⟨A, 0, none⟩ = some (.int .i32 a1) := vA.out.cell 0
        have kA1 : w1.cell? ⟨A, 1, none⟩ = some (.int .i32 a2) := vA.out.cell 1
        have zA := vA.out.lt
        have kB0 : w1.cell? ⟨B, 0, none⟩ = some (.int .i32 b1) := vB.out.cell 0
        have kB1 : w1.cell? ⟨B, 1, none⟩ = some (.int .i32 b2) := vB.out.cell 1
        have zB := vB.out.lt
        go_wp2_with fail
        refine (Ia.out _).mono ?_
        rintro e w2 ⟨rfl, hb⟩
        have HB := Lib.hid (HB.out.trans (hb.mono HB.out.size))
        have vP := Lib.hid (vP.out.keep hb)
        have vA := Lib.hid (vA.out.keep hb)
        have vB := Lib.hid (vB.out.keep hb)
        have vR := Lib.hid (vR.out.keep hb)
        clear hb kP0 kP1 zP kA0 kA1 zA kB0 kB1 zB
        have kP0 : w2.cell? ⟨P, 0, none⟩ = some (.int .i32 o1) := vP.out.cell 0
        have kP1 : w2.cell? ⟨P, 1, none⟩ = some (.int .i32 o2) := vP.out.cell 1
        have zP := vP.out.lt
        have kA0 : w2.cell? ⟨A, 0, none⟩ = some (.int .i32 a1) := vA.out.cell 0
        have kA1 : w2.cell? ⟨A, 1, none⟩ = some (.int .i32 a2) := vA.out.cell 1
        have zA := vA.out.lt
        have kB0 : w2.cell? ⟨B, 0, none⟩ = some (.int .i32 b1) := vB.out.cell 0
        have kB1 : w2.cell? ⟨B, 1, none⟩ = some (.int .i32 b2) := vB.out.cell 1
        have zB := vB.out.lt
        go_wp2_with fail
        refine (Ib.out _).mono ?_
        rintro e w3 ⟨rfl, hb⟩
        have HB := Lib.hid (HB.out.trans (hb.mono HB.out.size))
        have vP := Lib.hid (vP.out.keep hb)
        have vA := Lib.hid (vA.out.keep hb)
        have vB := Lib.hid (vB.out.keep hb)
        have vR := Lib.hid (vR.out.keep hb)
        clear hb kP0 kP1 zP kA0 kA1 zA kB0 kB1 zB
        have kP0 : w3.cell? ⟨P, 0, none⟩ = some (.int .i32 o1) := vP.out.cell 0
        have kP1 : w3.cell? ⟨P, 1, none⟩ = some (.int .i32 o2) := vP.out.cell 1
        have zP := vP.out.lt
        have kA0 : w3.cell? ⟨A, 0, none⟩ = some (.int .i32 a1) := vA.out.cell 0
        have kA1 : w3.cell? ⟨A, 1, none⟩ = some (.int .i32 a2) := vA.out.cell 1
        have zA := vA.out.lt
        have kB0 : w3.cell? ⟨B, 0, none⟩ = some (.int .i32 b1) := vB.out.cell 0
        have kB1 : w3.cell? ⟨B, 1, none⟩ = some (.int .i32 b2) := vB.out.cell 1
        have zB := vB.out.lt
        go_wp2_with fail
        refine (rat_at (FQ.out _)).mono ?_
        rintro e w4 ⟨z, rfl, hz, hb⟩
        have HB := Lib.hid (HB.out.trans (hb.mono HB.out.size))
        have vP := Lib.hid (vP.out.keep hb)
        have vA := Lib.hid (vA.out.keep hb)
        have vB := Lib.hid (vB.out.keep hb)
        have vR := Lib.hid (vR.out.keep hb)
        clear hb kP0 kP1 zP kA0 kA1 zA kB0 kB1 zB FQ
        go_wp2_with fail
        refine (FR.out _ _ hz.out).mono ?_
        rintro e w5 ⟨rfl, hb⟩
        have HB := Lib.hid (HB.out.trans (hb.mono HB.out.size))
        have vP := Lib.hid (vP.out.keep hb)
        have vA := Lib.hid (vA.out.keep hb)
        have vB := Lib.hid (vB.out.keep hb)
        have vR := Lib.hid (vR.out.keep hb)
        clear hb FR hz
        have zR := vR.out.lt
        have kr0 : w5.cell? ⟨R, 0, none⟩ = some (.int .i64 0) := vR.out.cell 0
        have kr1 : w5.cell? ⟨R, 1, none⟩ = some (.int .i64 0) := vR.out.cell 1
        have gr0 := vR.out.free 0
        have gr1 := vR.out.free 1
        go_wp2_with fail
        refine bodyPost_ret (by simp [results, Try.results16, go_sem, *]; try rfl) rfl ?_
        exact ⟨rfl, (HB.out.setCell (p := ⟨R, 0, none⟩) hwR _).setCell (p := ⟨R, 1, none⟩) hwR _⟩

set_option maxHeartbeats 8000000 in
set_option maxRecDepth 100000 in
theorem rnearSeg_any (a b c d : Pt) (r : Int) (hr : I64 r) (ha : I32 a.1 ∧ I32 a.2) (hb : I32 b.1 ∧ I32 b.2) (hc : I32 c.1 ∧ I32 c.2) (hd : I32 d.1 ∧ I32 d.2) (w : World) :
    Calls Try.prog 18 #[.agg #[.int .i32 a.1, .int .i32 a.2], .agg #[.int .i32 b.1, .int .i32 b.2], .agg #[.int .i32 c.1, .int .i32 c.2], .agg #[.int .i32 d.1, .int .i32 d.2], .int .i64 r] w fun e w' => e = .returned (.bool (nearSeg a b c d r)) ∧ Below w.heap.size w w' := by
  rw [← nearSegD_is]
  have Ia := Lib.hid (fun W => rin_any a W)
  have Ib := Lib.hid (fun W => rin_any b W)
  have Ic := Lib.hid (fun W => rin_any c W)
  have Id := Lib.hid (fun W => rin_any d W)
  have m1 := fun W => by have z := meet_r a b c d W; rw [meetR_is] at z; unfold MtV at z; exact z
  have ht : touches a b c d = !((meet a b c d).k == 0) := by
    unfold touches
    rw [Bool.eq_iff_iff]
    simp
  have N1 := Lib.hid (fun W => near_r a c d r hr ha hc hd W)
  have N2 := Lib.hid (fun W => near_r b c d r hr hb hc hd W)
  have N3 := Lib.hid (fun W => near_r c a b r hr hc ha hb W)
  have N4 := Lib.hid (fun W => near_r d a b r hr hd ha hb W)
  have HND : Hid (nearSegD a b c d r = if r < 0 then false else if inP a && inP b && inP c && inP d then touches a b c d || (nearD a c d r || nearD b c d r || nearD c a b r || nearD d a b r) else false) := Lib.hid rfl
  rw [ht] at HND
  obtain ⟨⟨mk, mi, ⟨f1, f2⟩, ⟨t1, t2⟩⟩, hm⟩ : ∃ z, meet a b c d = z := ⟨_, rfl⟩
  rw [hm] at m1 HND
  dsimp only at m1 HND
  have M1 := Lib.hid m1
  obtain ⟨N, hN⟩ : ∃ N, nearSegD a b c d r = N := ⟨_, rfl⟩
  rw [hN] at HND ⊢
  obtain ⟨x1, hx1⟩ : ∃ z, nearD a c d r = z := ⟨_, rfl⟩
  obtain ⟨x2, hx2⟩ : ∃ z, nearD b c d r = z := ⟨_, rfl⟩
  obtain ⟨x3, hx3⟩ : ∃ z, nearD c a b r = z := ⟨_, rfl⟩
  obtain ⟨x4, hx4⟩ : ∃ z, nearD d a b r = z := ⟨_, rfl⟩
  rw [hx1] at HND N1
  rw [hx2] at HND N2
  rw [hx3] at HND N3
  rw [hx4] at HND N4
  clear hN hm m1 ht hx1 hx2 hx3 hx4 hr ha hb hc hd
  by_cases h0 : r < 0
  · rw [if_pos h0] at HND
    obtain rfl := HND.out
    have hd : decide (r < 0) = true := by simp [h0]
    clear h0 HND
    obtain ⟨a1, a2⟩ := a
    obtain ⟨b1, b2⟩ := b
    obtain ⟨c1, c2⟩ := c
    obtain ⟨d1, d2⟩ := d
    dsimp only at *
    go_enter Try.func18, Try.ntmps18
    go_upto_region 1 with fail
    refine wp_gen (fun W0 hW => ?_)
    have vA : Hid (Var W0 w.heap.size 23 #[.int .i32 a1, .int .i32 a2]) := Lib.hid (by rw [hW]; exact (((Var.new _ _ _).alloc _).alloc _).alloc _)
    have vB : Hid (Var W0 (w.heap.size + 1) 23 #[.int .i32 b1, .int .i32 b2]) := Lib.hid (by rw [hW]; exact ((Var.new' _ _ _ (by simp)).alloc _).alloc _)
    have vC : Hid (Var W0 (w.heap.size + 1 + 1) 23 #[.int .i32 c1, .int .i32 c2]) := Lib.hid (by rw [hW]; exact (Var.new' _ _ _ (by simp)).alloc _)
    have vD : Hid (Var W0 (w.heap.size + 1 + 1 + 1) 23 #[.int .i32 d1, .int .i32 d2]) := Lib.hid (by rw [hW]; exact Var.new' _ _ _ (by simp))
    have HB : Hid (Below w.heap.size w W0) := Lib.hid (by rw [hW]; go_grown)
    clear hW
    obtain ⟨A, hA⟩ : ∃ A, w.heap.size = A := ⟨_, rfl⟩
    obtain ⟨B, hB⟩ : ∃ B, w.heap.size + 1 = B := ⟨_, rfl⟩
    obtain ⟨C, hC⟩ : ∃ C, w.heap.size + 1 + 1 = C := ⟨_, rfl⟩
    obtain ⟨D, hD⟩ : ∃ D, w.heap.size + 1 + 1 + 1 = D := ⟨_, rfl⟩
    rw [hD] at vD ⊢
    rw [hC] at vC ⊢
    rw [hB] at vB ⊢
    have HA := Lib.hid hA
    rw [hA] at vA ⊢
    clear hA hB hC hD
    have kA0 : W0.cell? ⟨A, 0, none⟩ = some (.int .i32 a1) := vA.out.cell 0
    have kA1 : W0.cell? ⟨A, 1, none⟩ = some (.int .i32 a2) := vA.out.cell 1
    have zA := vA.out.lt
    have kB0 : W0.cell? ⟨B, 0, none⟩ = some (.int .i32 b1) := vB.out.cell 0
    have kB1 : W0.cell? ⟨B, 1, none⟩ = some (.int .i32 b2) := vB.out.cell 1
    have zB := vB.out.lt
    have kC0 : W0.cell? ⟨C, 0, none⟩ = some (.int .i32 c1) := vC.out.cell 0
    have kC1 : W0.cell? ⟨C, 1, none⟩ = some (.int .i32 c2) := vC.out.cell 1
    have zC := vC.out.lt
    have kD0 : W0.cell? ⟨D, 0, none⟩ = some (.int .i32 d1) := vD.out.cell 0
    have kD1 : W0.cell? ⟨D, 1, none⟩ = some (.int .i32 d2) := vD.out.cell 1
    have zD := vD.out.lt
    go_wp2_with fail
    refine bodyPost_ret (by simp [results, Try.results18, go_sem, *]; try rfl) rfl ?_
    exact ⟨rfl, HB.out⟩
  · rw [if_neg h0] at HND
    have hd : decide (r < 0) = false := by simp; omega
    clear h0
    cases ea : inP a
    · rw [ea] at Ia HND
      simp only [Bool.false_and, Bool.and_false, Bool.true_and, Bool.false_eq_true, if_false] at HND
      obtain rfl := HND.out
      clear HND ea
      obtain ⟨a1, a2⟩ := a
      obtain ⟨b1, b2⟩ := b
      obtain ⟨c1, c2⟩ := c
      obtain ⟨d1, d2⟩ := d
      dsimp only at *
      go_enter Try.func18, Try.ntmps18
      go_upto_region 1 with fail
      refine wp_gen (fun W0 hW => ?_)
      have vA : Hid (Var W0 w.heap.size 23 #[.int .i32 a1, .int .i32 a2]) := Lib.hid (by rw [hW]; exact (((Var.new _ _ _).alloc _).alloc _).alloc _)
      have vB : Hid (Var W0 (w.heap.size + 1) 23 #[.int .i32 b1, .int .i32 b2]) := Lib.hid (by rw [hW]; exact ((Var.new' _ _ _ (by simp)).alloc _).alloc _)
      have vC : Hid (Var W0 (w.heap.size + 1 + 1) 23 #[.int .i32 c1, .int .i32 c2]) := Lib.hid (by rw [hW]; exact (Var.new' _ _ _ (by simp)).alloc _)
      have vD : Hid (Var W0 (w.heap.size + 1 + 1 + 1) 23 #[.int .i32 d1, .int .i32 d2]) := Lib.hid (by rw [hW]; exact Var.new' _ _ _ (by simp))
      have HB : Hid (Below w.heap.size w W0) := Lib.hid (by rw [hW]; go_grown)
      clear hW
      obtain ⟨A, hA⟩ : ∃ A, w.heap.size = A := ⟨_, rfl⟩
      obtain ⟨B, hB⟩ : ∃ B, w.heap.size + 1 = B := ⟨_, rfl⟩
      obtain ⟨C, hC⟩ : ∃ C, w.heap.size + 1 + 1 = C := ⟨_, rfl⟩
      obtain ⟨D, hD⟩ : ∃ D, w.heap.size + 1 + 1 + 1 = D := ⟨_, rfl⟩
      rw [hD] at vD ⊢
      rw [hC] at vC ⊢
      rw [hB] at vB ⊢
      have HA := Lib.hid hA
      rw [hA] at vA ⊢
      clear hA hB hC hD
      have kA0 : W0.cell? ⟨A, 0, none⟩ = some (.int .i32 a1) := vA.out.cell 0
      have kA1 : W0.cell? ⟨A, 1, none⟩ = some (.int .i32 a2) := vA.out.cell 1
      have zA := vA.out.lt
      have kB0 : W0.cell? ⟨B, 0, none⟩ = some (.int .i32 b1) := vB.out.cell 0
      have kB1 : W0.cell? ⟨B, 1, none⟩ = some (.int .i32 b2) := vB.out.cell 1
      have zB := vB.out.lt
      have kC0 : W0.cell? ⟨C, 0, none⟩ = some (.int .i32 c1) := vC.out.cell 0
      have kC1 : W0.cell? ⟨C, 1, none⟩ = some (.int .i32 c2) := vC.out.cell 1
      have zC := vC.out.lt
      have kD0 : W0.cell? ⟨D, 0, none⟩ = some (.int .i32 d1) := vD.out.cell 0
      have kD1 : W0.cell? ⟨D, 1, none⟩ = some (.int .i32 d2) := vD.out.cell 1
      have zD := vD.out.lt
      go_wp2_with fail
      refine (Ia.out _).mono ?_
      rintro e w1 ⟨rfl, hb⟩
      have HB := Lib.hid (HB.out.trans (hb.mono HB.out.size))
      have vA := Lib.hid (vA.out.keep hb)
      have vB := Lib.hid (vB.out.keep hb)
      have vC := Lib.hid (vC.out.keep hb)
      have vD := Lib.hid (vD.out.keep hb)
      clear hb kA0 kA1 zA kB0 kB1 zB kC0 kC1 zC kD0 kD1 zD
      have kA0 : w1.cell? ⟨A, 0, none⟩ = some (.int .i32 a1) := vA.out.cell 0
      have kA1 : w1.cell? ⟨A, 1, none⟩ = some (.int .i32 a2) := vA.out.cell 1
      have zA := vA.out.lt
      have kB0 : w1.cell? ⟨B, 0, none⟩ = some (.int .i32 b1) := vB.out.cell 0
      have kB1 : w1.cell? ⟨B, 1, none⟩ = some (.int .i32 b2) := vB.out.cell 1
      have zB := vB.out.lt
      have kC0 : w1.cell? ⟨C, 0, none⟩ = some (.int .i32 c1) := vC.out.cell 0
      have kC1 : w1.cell? ⟨C, 1, none⟩ = some (.int .i32 c2) := vC.out.cell 1
      have zC := vC.out.lt
      have kD0 : w1.cell? ⟨D, 0, none⟩ = some (.int .i32 d1) := vD.out.cell 0
      have kD1 : w1.cell? ⟨D, 1, none⟩ = some (.int .i32 d2) := vD.out.cell 1
      have zD := vD.out.lt
      go_wp2_with fail
      refine bodyPost_ret (by simp [results, Try.results18, go_sem, *]; try rfl) rfl ?_
      exact ⟨rfl, HB.out⟩
    · rw [ea] at Ia HND
      cases eb : inP b
      · rw [eb] at Ib HND
        simp only [Bool.false_and, Bool.and_false, Bool.true_and, Bool.false_eq_true, if_false] at HND
        obtain rfl := HND.out
        clear HND ea eb
        obtain ⟨a1, a2⟩ := a
        obtain ⟨b1, b2⟩ := b
        obtain ⟨c1, c2⟩ := c
        obtain ⟨d1, d2⟩ := d
        dsimp only at *
        go_enter Try.func18, Try.ntmps18
        go_upto_region 1 with fail
        refine wp_gen (fun W0 hW => ?_)
        have vA : Hid (Var W0 w.heap.size 23 #[.int .i32 a1, .int .i32 a2]) := Lib.hid (by rw [hW]; exact (((Var.new _ _ _).alloc _).alloc _).alloc _)
        have vB : Hid (Var W0 (w.heap.size + 1) 23 #[.int .i32 b1, .int .i32 b2]) := Lib.hid (by rw [hW]; exact ((Var.new' _ _ _ (by simp)).alloc _).alloc _)
        have vC : Hid (Var W0 (w.heap.size + 1 + 1) 23 #[.int .i32 c1, .int .i32 c2]) := Lib.hid (by rw [hW]; exact (Var.new' _ _ _ (by simp)).alloc _)
        have vD : Hid (Var W0 (w.heap.size + 1 + 1 + 1) 23 #[.int .i32 d1, .int .i32 d2]) := Lib.hid (by rw [hW]; exact Var.new' _ _ _ (by simp))
        have HB : Hid (Below w.heap.size w W0) := Lib.hid (by rw [hW]; go_grown)
        clear hW
        obtain ⟨A, hA⟩ : ∃ A, w.heap.size = A := ⟨_, rfl⟩
        obtain ⟨B, hB⟩ : ∃ B, w.heap.size + 1 = B := ⟨_, rfl⟩
        obtain ⟨C, hC⟩ : ∃ C, w.heap.size + 1 + 1 = C := ⟨_, rfl⟩
        obtain ⟨D, hD⟩ : ∃ D, w.heap.size + 1 + 1 + 1 = D := ⟨_, rfl⟩
        rw [hD] at vD ⊢
        rw [hC] at vC ⊢
        rw [hB] at vB ⊢
        have HA := Lib.hid hA
        rw [hA] at vA ⊢
        clear hA hB hC hD
        have kA0 : W0.cell? ⟨A, 0, none⟩ = some (.int .i32 a1) := vA.out.cell 0
        have kA1 : W0.cell? ⟨A, 1, none⟩ = some (.int .i32 a2) := vA.out.cell 1
        have zA := vA.out.lt
        have kB0 : W0.cell? ⟨B, 0, none⟩ = some (.int .i32 b1) := vB.out.cell 0
        have kB1 : W0.cell? ⟨B, 1, none⟩ = some (.int .i32 b2) := vB.out.cell 1
        have zB := vB.out.lt
        have kC0 : W0.cell? ⟨C, 0, none⟩ = some (.int .i32 c1) := vC.out.cell 0
        have kC1 : W0.cell? ⟨C, 1, none⟩ = some (.int .i32 c2) := vC.out.cell 1
        have zC := vC.out.lt
        have kD0 : W0.cell? ⟨D, 0, none⟩ = some (.int .i32 d1) := vD.out.cell 0
        have kD1 : W0.cell? ⟨D, 1, none⟩ = some (.int .i32 d2) := vD.out.cell 1
        have zD := vD.out.lt
        go_wp2_with fail
        refine (Ia.out _).mono ?_
        rintro e w1 ⟨rfl, hb⟩
        have HB := Lib.hid (HB.out.trans (hb.mono HB.out.size))
        have vA := Lib.hid (vA.out.keep hb)
        have vB := Lib.hid (vB.out.keep hb)
        have vC := Lib.hid (vC.out.keep hb)
        have vD := Lib.hid (vD.out.keep hb)
        clear hb kA0 kA1 zA kB0 kB1 zB kC0 kC1 zC kD0 kD1 zD
        have kA0 : w1.cell? ⟨A, 0, none⟩ = some (.int .i32 a1) := vA.out.cell 0
        have kA1 : w1.cell? ⟨A, 1, none⟩ = some (.int .i32 a2) := vA.out.cell 1
        have zA := vA.out.lt
        have kB0 : w1.cell? ⟨B, 0, none⟩ = some (.int .i32 b1) := vB.out.cell 0
        have kB1 : w1.cell? ⟨B, 1, none⟩ = some (.int .i32 b2) := vB.out.cell 1
        have zB := vB.out.lt
        have kC0 : w1.cell? ⟨C, 0, none⟩ = some (.int .i32 c1) := vC.out.cell 0
        have kC1 : w1.cell? ⟨C, 1, none⟩ = some (.int .i32 c2) := vC.out.cell 1
        have zC := vC.out.lt
        have kD0 : w1.cell? ⟨D, 0, none⟩ = some (.int .i32 d1) := vD.out.cell 0
        have kD1 : w1.cell? ⟨D, 1, none⟩ = some (.int .i32 d2) := vD.out.cell 1
        have zD := vD.out.lt
        go_wp2_with fail
        refine (Ib.out _).mono ?_
        rintro e w2 ⟨rfl, hb⟩
        have HB := Lib.hid (HB.out.trans (hb.mono HB.out.size))
        have vA := Lib.hid (vA.out.keep hb)
        have vB := Lib.hid (vB.out.keep hb)
        have vC := Lib.hid (vC.out.keep hb)
        have vD := Lib.hid (vD.out.keep hb)
        clear hb kA0 kA1 zA kB0 kB1 zB kC0 kC1 zC kD0 kD1 zD
        have kA0 : w2.cell? ⟨A, 0, none⟩ = some (.int .i32 a1) := vA.out.cell 0
        have kA1 : w2.cell? ⟨A, 1, none⟩ = some (.int .i32 a2) := vA.out.cell 1
        have zA := vA.out.lt
        have kB0 : w2.cell? ⟨B, 0, none⟩ = some (.int .i32 b1) := vB.out.cell 0
        have kB1 : w2.cell? ⟨B, 1, none⟩ = some (.int .i32 b2) := vB.out.cell 1
        have zB := vB.out.lt
        have kC0 : w2.cell? ⟨C, 0, none⟩ = some (.int .i32 c1) := vC.out.cell 0
        have kC1 : w2.cell? ⟨C, 1, none⟩ = some (.int .i32 c2) := vC.out.cell 1
        have zC := vC.out.lt
        have kD0 : w2.cell? ⟨D, 0, none⟩ = some (.int .i32 d1) := vD.out.cell 0
        have kD1 : w2.cell? ⟨D, 1, none⟩ = some (.int .i32 d2) := vD.out.cell 1
        have zD := vD.out.lt
        go_wp2_with fail
        refine bodyPost_ret (by simp [results, Try.results18, go_sem, *]; try rfl) rfl ?_
        exact ⟨rfl, HB.out⟩
      · rw [eb] at Ib HND
        cases ec : inP c
        · rw [ec] at Ic HND
          simp only [Bool.false_and, Bool.and_false, Bool.true_and, Bool.false_eq_true, if_false] at HND
          obtain rfl := HND.out
          clear HND ea eb ec
          obtain ⟨a1, a2⟩ := a
          obtain ⟨b1, b2⟩ := b
          obtain ⟨c1, c2⟩ := c
          obtain ⟨d1, d2⟩ := d
          dsimp only at *
          go_enter Try.func18, Try.ntmps18
          go_upto_region 1 with fail
          refine wp_gen (fun W0 hW => ?_)
          have vA : Hid (Var W0 w.heap.size 23 #[.int .i32 a1, .int .i32 a2]) := Lib.hid (by rw [hW]; exact (((Var.new _ _ _).alloc _).alloc _).alloc _)
          have vB : Hid (Var W0 (w.heap.size + 1) 23 #[.int .i32 b1, .int .i32 b2]) := Lib.hid (by rw [hW]; exact ((Var.new' _ _ _ (by simp)).alloc _).alloc _)
          have vC : Hid (Var W0 (w.heap.size + 1 + 1) 23 #[.int .i32 c1, .int .i32 c2]) := Lib.hid (by rw [hW]; exact (Var.new' _ _ _ (by simp)).alloc _)
          have vD : Hid (Var W0 (w.heap.size + 1 + 1 + 1) 23 #[.int .i32 d1, .int .i32 d2]) := Lib.hid (by rw [hW]; exact Var.new' _ _ _ (by simp))
          have HB : Hid (Below w.heap.size w W0) := Lib.hid (by rw [hW]; go_grown)
          clear hW
          obtain ⟨A, hA⟩ : ∃ A, w.heap.size = A := ⟨_, rfl⟩
          obtain ⟨B, hB⟩ : ∃ B, w.heap.size + 1 = B := ⟨_, rfl⟩
          obtain ⟨C, hC⟩ : ∃ C, w.heap.size + 1 + 1 = C := ⟨_, rfl⟩
          obtain ⟨D, hD⟩ : ∃ D, w.heap.size + 1 + 1 + 1 = D := ⟨_, rfl⟩
          rw [hD] at vD ⊢
          rw [hC] at vC ⊢
          rw [hB] at vB ⊢
          have HA := Lib.hid hA
          rw [hA] at vA ⊢
          clear hA hB hC hD
          have kA0 : W0.cell? ⟨A, 0, none⟩ = some (.int .i32 a1) := vA.out.cell 0
          have kA1 : W0.cell? ⟨A, 1, none⟩ = some (.int .i32 a2) := vA.out.cell 1
          have zA := vA.out.lt
          have kB0 : W0.cell? ⟨B, 0, none⟩ = some (.int .i32 b1) := vB.out.cell 0
          have kB1 : W0.cell? ⟨B, 1, none⟩ = some (.int .i32 b2) := vB.out.cell 1
          have zB := vB.out.lt
          have kC0 : W0.cell? ⟨C, 0, none⟩ = some (.int .i32 c1) := vC.out.cell 0
          have kC1 : W0.cell? ⟨C, 1, none⟩ = some (.int .i32 c2) := vC.out.cell 1
          have zC := vC.out.lt
          have kD0 : W0.cell? ⟨D, 0, none⟩ = some (.int .i32 d1) := vD.out.cell 0
          have kD1 : W0.cell? ⟨D, 1, none⟩ = some (.int .i32 d2) := vD.out.cell 1
          have zD := vD.out.lt
          go_wp2_with fail
          refine (Ia.out _).mono ?_
          rintro e w1 ⟨rfl, hb⟩
          have HB := Lib.hid (HB.out.trans (hb.mono HB.out.size))
          have vA := Lib.hid (vA.out.keep hb)
          have vB := Lib.hid (vB.out.keep hb)
          have vC := Lib.hid (vC.out.keep hb)
          have vD := Lib.hid (vD.out.keep hb)
          clear hb kA0 kA1 zA kB0 kB1 zB kC0 kC1 zC kD0 kD1 zD
          have kA0 : w1.cell? ⟨A, 0, none⟩ = some (.int .i32 a1) := vA.out.cell 0
          have kA1 : w1.cell? ⟨A, 1, none⟩ = some (.int .i32 a2) := vA.out.cell 1
          have zA := vA.out.lt
          have kB0 : w1.cell? ⟨B, 0, none⟩ = some (.int .i32 b1) := vB.out.cell 0
          have kB1 : w1.cell? ⟨B, 1, none⟩ = some (.int .i32 b2) := vB.out.cell 1
          have zB := vB.out.lt
          have kC0 : w1.cell? ⟨C, 0, none⟩ = some (.int .i32 c1) := vC.out.cell 0
          have kC1 : w1.cell? ⟨C, 1, none⟩ = some (.int .i32 c2) := vC.out.cell 1
          have zC := vC.out.lt
          have kD0 : w1.cell? ⟨D, 0, none⟩ = some (.int .i32 d1) := vD.out.cell 0
          have kD1 : w1.cell? ⟨D, 1, none⟩ = some (.int .i32 d2) := vD.out.cell 1
          have zD := vD.out.lt
          go_wp2_with fail
          refine (Ib.out _).mono ?_
          rintro e w2 ⟨rfl, hb⟩
          have HB := Lib.hid (HB.out.trans (hb.mono HB.out.size))
          have vA := Lib.hid (vA.out.keep hb)
          have vB := Lib.hid (vB.out.keep hb)
          have vC := Lib.hid (vC.out.keep hb)
          have vD := Lib.hid (vD.out.keep hb)
          clear hb kA0 kA1 zA kB0 kB1 zB kC0 kC1 zC kD0 kD1 zD
          have kA0 : w2.cell? ⟨A, 0, none⟩ = some (.int .i32 a1) := vA.out.cell 0
          have kA1 : w2.cell? ⟨A, 1, none⟩ = some (.int .i32 a2) := vA.out.cell 1
          have zA := vA.out.lt
          have kB0 : w2.cell? ⟨B, 0, none⟩ = some (.int .i32 b1) := vB.out.cell 0
          have kB1 : w2.cell? ⟨B, 1, none⟩ = some (.int .i32 b2) := vB.out.cell 1
          have zB := vB.out.lt
          have kC0 : w2.cell? ⟨C, 0, none⟩ = some (.int .i32 c1) := vC.out.cell 0
          have kC1 : w2.cell? ⟨C, 1, none⟩ = some (.int .i32 c2) := vC.out.cell 1
          have zC := vC.out.lt
          have kD0 : w2.cell? ⟨D, 0, none⟩ = some (.int .i32 d1) := vD.out.cell 0
          have kD1 : w2.cell? ⟨D, 1, none⟩ = some (.int .i32 d2) := vD.out.cell 1
          have zD := vD.out.lt
          go_wp2_with fail
          refine (Ic.out _).mono ?_
          rintro e w3 ⟨rfl, hb⟩
          have HB := Lib.hid (HB.out.trans (hb.mono HB.out.size))
          have vA := Lib.hid (vA.out.keep hb)
          have vB := Lib.hid (vB.out.keep hb)
          have vC := Lib.hid (vC.out.keep hb)
          have vD := Lib.hid (vD.out.keep hb)
          clear hb kA0 kA1 zA kB0 kB1 zB kC0 kC1 zC kD0 kD1 zD
          have kA0 : w3.cell? ⟨A, 0, none⟩ = some (.int .i32 a1) := vA.out.cell 0
          have kA1 : w3.cell? ⟨A, 1, none⟩ = some (.int .i32 a2) := vA.out.cell 1
          have zA := vA.out.lt
          have kB0 : w3.cell? ⟨B, 0, none⟩ = some (.int .i32 b1) := vB.out.cell 0
          have kB1 : w3.cell? ⟨B, 1, none⟩ = some (.int .i32 b2) := vB.out.cell 1
          have zB := vB.out.lt
          have kC0 : w3.cell? ⟨C, 0, none⟩ = some (.int .i32 c1) := vC.out.cell 0
          have kC1 : w3.cell? ⟨C, 1, none⟩ = some (.int .i32 c2) := vC.out.cell 1
          have zC := vC.out.lt
          have kD0 : w3.cell? ⟨D, 0, none⟩ = some (.int .i32 d1) := vD.out.cell 0
          have kD1 : w3.cell? ⟨D, 1, none⟩ = some (.int .i32 d2) := vD.out.cell 1
          have zD := vD.out.lt
          go_wp2_with fail
          refine bodyPost_ret (by simp [results, Try.results18, go_sem, *]; try rfl) rfl ?_
          exact ⟨rfl, HB.out⟩
        · rw [ec] at Ic HND
          cases ed : inP d
          · rw [ed] at Id HND
            simp only [Bool.false_and, Bool.and_false, Bool.true_and, Bool.false_eq_true, if_false] at HND
            obtain rfl := HND.out
            clear HND ea eb ec ed
            obtain ⟨a1, a2⟩ := a
            obtain ⟨b1, b2⟩ := b
            obtain ⟨c1, c2⟩ := c
            obtain ⟨d1, d2⟩ := d
            dsimp only at *
            go_enter Try.func18, Try.ntmps18
            go_upto_region 1 with fail
            refine wp_gen (fun W0 hW => ?_)
            have vA : Hid (Var W0 w.heap.size 23 #[.int .i32 a1, .int .i32 a2]) := Lib.hid (by rw [hW]; exact (((Var.new _ _ _).alloc _).alloc _).alloc _)
            have vB : Hid (Var W0 (w.heap.size + 1) 23 #[.int .i32 b1, .int .i32 b2]) := Lib.hid (by rw [hW]; exact ((Var.new' _ _ _ (by simp)).alloc _).alloc _)
            have vC : Hid (Var W0 (w.heap.size + 1 + 1) 23 #[.int .i32 c1, .int .i32 c2]) := Lib.hid (by rw [hW]; exact (Var.new' _ _ _ (by simp)).alloc _)
            have vD : Hid (Var W0 (w.heap.size + 1 + 1 + 1) 23 #[.int .i32 d1, .int .i32 d2]) := Lib.hid (by rw [hW]; exact Var.new' _ _ _ (by simp))
            have HB : Hid (Below w.heap.size w W0) := Lib.hid (by rw [hW]; go_grown)
            clear hW
            obtain ⟨A, hA⟩ : ∃ A, w.heap.size = A := ⟨_, rfl⟩
            obtain ⟨B, hB⟩ : ∃ B, w.heap.size + 1 = B := ⟨_, rfl⟩
            obtain ⟨C, hC⟩ : ∃ C, w.heap.size + 1 + 1 = C := ⟨_, rfl⟩
            obtain ⟨D, hD⟩ : ∃ D, w.heap.size + 1 + 1 + 1 = D := ⟨_, rfl⟩
            rw [hD] at vD ⊢
            rw [hC] at vC ⊢
            rw [hB] at vB ⊢
            have HA := Lib.hid hA
            rw [hA] at vA ⊢
            clear hA hB hC hD
            have kA0 : W0.cell? ⟨A, 0, none⟩ = some (.int .i32 a1) := vA.out.cell 0
            have kA1 : W0.cell? ⟨A, 1, none⟩ = some (.int .i32 a2) := vA.out.cell 1
            have zA := vA.out.lt
            have kB0 : W0.cell? ⟨B, 0, none⟩ = some (.int .i32 b1) := vB.out.cell 0
            have kB1 : W0.cell? ⟨B, 1, none⟩ = some (.int .i32 b2) := vB.out.cell 1
            have zB := vB.out.lt
            have kC0 : W0.cell? ⟨C, 0, none⟩ = some (.int .i32 c1) := vC.out.cell 0
            have kC1 : W0.cell? ⟨C, 1, none⟩ = some (.int .i32 c2) := vC.out.cell 1
            have zC := vC.out.lt
            have kD0 : W0.cell? ⟨D, 0, none⟩ = some (.int .i32 d1) := vD.out.cell 0
            have kD1 : W0.cell? ⟨D, 1, none⟩ = some (.int .i32 d2) := vD.out.cell 1
            have zD := vD.out.lt
            go_wp2_with fail
            refine (Ia.out _).mono ?_
            rintro e w1 ⟨rfl, hb⟩
            have HB := Lib.hid (HB.out.trans (hb.mono HB.out.size))
            have vA := Lib.hid (vA.out.keep hb)
            have vB := Lib.hid (vB.out.keep hb)
            have vC := Lib.hid (vC.out.keep hb)
            have vD := Lib.hid (vD.out.keep hb)
            clear hb kA0 kA1 zA kB0 kB1 zB kC0 kC1 zC kD0 kD1 zD
            have kA0 : w1.cell? ⟨A, 0, none⟩ = some (.int .i32 a1) := vA.out.cell 0
            have kA1 : w1.cell? ⟨A, 1, none⟩ = some (.int .i32 a2) := vA.out.cell 1
            have zA := vA.out.lt
            have kB0 : w1.cell? ⟨B, 0, none⟩ = some (.int .i32 b1) := vB.out.cell 0
            have kB1 : w1.cell? ⟨B, 1, none⟩ = some (.int .i32 b2) := vB.out.cell 1
            have zB := vB.out.lt
            have kC0 : w1.cell? ⟨C, 0, none⟩ = some (.int .i32 c1) := vC.out.cell 0
            have kC1 : w1.cell? ⟨C, 1, none⟩ = some (.int .i32 c2) := vC.out.cell 1
            have zC := vC.out.lt
            have kD0 : w1.cell? ⟨D, 0, none⟩ = some (.int .i32 d1) := vD.out.cell 0
            have kD1 : w1.cell? ⟨D, 1, none⟩ = some (.int .i32 d2) := vD.out.cell 1
            have zD := vD.out.lt
            go_wp2_with fail
            refine (Ib.out _).mono ?_
            rintro e w2 ⟨rfl, hb⟩
            have HB := Lib.hid (HB.out.trans (hb.mono HB.out.size))
            have vA := Lib.hid (vA.out.keep hb)
            have vB := Lib.hid (vB.out.keep hb)
            have vC := Lib.hid (vC.out.keep hb)
            have vD := Lib.hid (vD.out.keep hb)
            clear hb kA0 kA1 zA kB0 kB1 zB kC0 kC1 zC kD0 kD1 zD
            have kA0 : w2.cell? ⟨A, 0, none⟩ = some (.int .i32 a1) := vA.out.cell 0
            have kA1 : w2.cell? ⟨A, 1, none⟩ = some (.int .i32 a2) := vA.out.cell 1
            have zA := vA.out.lt
            have kB0 : w2.cell? ⟨B, 0, none⟩ = some (.int .i32 b1) := vB.out.cell 0
            have kB1 : w2.cell? ⟨B, 1, none⟩ = some (.int .i32 b2) := vB.out.cell 1
            have zB := vB.out.lt
            have kC0 : w2.cell? ⟨C, 0, none⟩ = some (.int .i32 c1) := vC.out.cell 0
            have kC1 : w2.cell? ⟨C, 1, none⟩ = some (.int .i32 c2) := vC.out.cell 1
            have zC := vC.out.lt
            have kD0 : w2.cell? ⟨D, 0, none⟩ = some (.int .i32 d1) := vD.out.cell 0
            have kD1 : w2.cell? ⟨D, 1, none⟩ = some (.int .i32 d2) := vD.out.cell 1
            have zD := vD.out.lt
            go_wp2_with fail
            refine (Ic.out _).mono ?_
            rintro e w3 ⟨rfl, hb⟩
            have HB := Lib.hid (HB.out.trans (hb.mono HB.out.size))
            have vA := Lib.hid (vA.out.keep hb)
            have vB := Lib.hid (vB.out.keep hb)
            have vC := Lib.hid (vC.out.keep hb)
            have vD := Lib.hid (vD.out.keep hb)
            clear hb kA0 kA1 zA kB0 kB1 zB kC0 kC1 zC kD0 kD1 zD
            have kA0 : w3.cell? ⟨A, 0, none⟩ = some (.int .i32 a1) := vA.out.cell 0
            have kA1 : w3.cell? ⟨A, 1, none⟩ = some (.int .i32 a2) := vA.out.cell 1
            have zA := vA.out.lt
            have kB0 : w3.cell? ⟨B, 0, none⟩ = some (.int .i32 b1) := vB.out.cell 0
            have kB1 : w3.cell? ⟨B, 1, none⟩ = some (.int .i32 b2) := vB.out.cell 1
            have zB := vB.out.lt
            have kC0 : w3.cell? ⟨C, 0, none⟩ = some (.int .i32 c1) := vC.out.cell 0
            have kC1 : w3.cell? ⟨C, 1, none⟩ = some (.int .i32 c2) := vC.out.cell 1
            have zC := vC.out.lt
            have kD0 : w3.cell? ⟨D, 0, none⟩ = some (.int .i32 d1) := vD.out.cell 0
            have kD1 : w3.cell? ⟨D, 1, none⟩ = some (.int .i32 d2) := vD.out.cell 1
            have zD := vD.out.lt
            go_wp2_with fail
            refine (Id.out _).mono ?_
            rintro e w4 ⟨rfl, hb⟩
            have HB := Lib.hid (HB.out.trans (hb.mono HB.out.size))
            have vA := Lib.hid (vA.out.keep hb)
            have vB := Lib.hid (vB.out.keep hb)
            have vC := Lib.hid (vC.out.keep hb)
            have vD := Lib.hid (vD.out.keep hb)
            clear hb kA0 kA1 zA kB0 kB1 zB kC0 kC1 zC kD0 kD1 zD
            have kA0 : w4.cell? ⟨A, 0, none⟩ = some (.int .i32 a1) := vA.out.cell 0
            have kA1 : w4.cell? ⟨A, 1, none⟩ = some (.int .i32 a2) := vA.out.cell 1
            have zA := vA.out.lt
            have kB0 : w4.cell? ⟨B, 0, none⟩ = some (.int .i32 b1) := vB.out.cell 0
            have kB1 : w4.cell? ⟨B, 1, none⟩ = some (.int .i32 b2) := vB.out.cell 1
            have zB := vB.out.lt
            have kC0 : w4.cell? ⟨C, 0, none⟩ = some (.int .i32 c1) := vC.out.cell 0
            have kC1 : w4.cell? ⟨C, 1, none⟩ = some (.int .i32 c2) := vC.out.cell 1
            have zC := vC.out.lt
            have kD0 : w4.cell? ⟨D, 0, none⟩ = some (.int .i32 d1) := vD.out.cell 0
            have kD1 : w4.cell? ⟨D, 1, none⟩ = some (.int .i32 d2) := vD.out.cell 1
            have zD := vD.out.lt
            go_wp2_with fail
            refine bodyPost_ret (by simp [results, Try.results18, go_sem, *]; try rfl) rfl ?_
            exact ⟨rfl, HB.out⟩
          · rw [ed] at Id HND
            simp only [Bool.and_self, if_true] at HND
            clear ea eb ec ed
            obtain ⟨a1, a2⟩ := a
            obtain ⟨b1, b2⟩ := b
            obtain ⟨c1, c2⟩ := c
            obtain ⟨d1, d2⟩ := d
            dsimp only at *
            go_enter Try.func18, Try.ntmps18
            go_upto_region 1 with fail
            refine wp_gen (fun W0 hW => ?_)
            have vA : Hid (Var W0 w.heap.size 23 #[.int .i32 a1, .int .i32 a2]) := Lib.hid (by rw [hW]; exact (((Var.new _ _ _).alloc _).alloc _).alloc _)
            have vB : Hid (Var W0 (w.heap.size + 1) 23 #[.int .i32 b1, .int .i32 b2]) := Lib.hid (by rw [hW]; exact ((Var.new' _ _ _ (by simp)).alloc _).alloc _)
            have vC : Hid (Var W0 (w.heap.size + 1 + 1) 23 #[.int .i32 c1, .int .i32 c2]) := Lib.hid (by rw [hW]; exact (Var.new' _ _ _ (by simp)).alloc _)
            have vD : Hid (Var W0 (w.heap.size + 1 + 1 + 1) 23 #[.int .i32 d1, .int .i32 d2]) := Lib.hid (by rw [hW]; exact Var.new' _ _ _ (by simp))
            have HB : Hid (Below w.heap.size w W0) := Lib.hid (by rw [hW]; go_grown)
            clear hW
            obtain ⟨A, hA⟩ : ∃ A, w.heap.size = A := ⟨_, rfl⟩
            obtain ⟨B, hB⟩ : ∃ B, w.heap.size + 1 = B := ⟨_, rfl⟩
            obtain ⟨C, hC⟩ : ∃ C, w.heap.size + 1 + 1 = C := ⟨_, rfl⟩
            obtain ⟨D, hD⟩ : ∃ D, w.heap.size + 1 + 1 + 1 = D := ⟨_, rfl⟩
            rw [hD] at vD ⊢
            rw [hC] at vC ⊢
            rw [hB] at vB ⊢
            have HA := Lib.hid hA
            rw [hA] at vA ⊢
            clear hA hB hC hD
            have kA0 : W0.cell? ⟨A, 0, none⟩ = some (.int .i32 a1) := vA.out.cell 0
            have kA1 : W0.cell? ⟨A, 1, none⟩ = some (.int .i32 a2) := vA.out.cell 1
            have zA := vA.out.lt
            have kB0 : W0.cell? ⟨B, 0, none⟩ = some (.int .i32 b1) := vB.out.cell 0
            have kB1 : W0.cell? ⟨B, 1, none⟩ = some (.int .i32 b2) := vB.out.cell 1
            have zB := vB.out.lt
            have kC0 : W0.cell? ⟨C, 0, none⟩ = some (.int .i32 c1) := vC.out.cell 0
            have kC1 : W0.cell? ⟨C, 1, none⟩ = some (.int .i32 c2) := vC.out.cell 1
            have zC := vC.out.lt
            have kD0 : W0.cell? ⟨D, 0, none⟩ = some (.int .i32 d1) := vD.out.cell 0
            have kD1 : W0.cell? ⟨D, 1, none⟩ = some (.int .i32 d2) := vD.out.cell 1
            have zD := vD.out.lt
            go_wp2_with fail
            refine (Ia.out _).mono ?_
            rintro e w1 ⟨rfl, hb⟩
            have HB := Lib.hid (HB.out.trans (hb.mono HB.out.size))
            have vA := Lib.hid (vA.out.keep hb)
            have vB := Lib.hid (vB.out.keep hb)
            have vC := Lib.hid (vC.out.keep hb)
            have vD := Lib.hid (vD.out.keep hb)
            clear hb kA0 kA1 zA kB0 kB1 zB kC0 kC1 zC kD0 kD1 zD
            have kA0 : w1.cell? ⟨A, 0, none⟩ = some (.int .i32 a1) := vA.out.cell 0
            have kA1 : w1.cell? ⟨A, 1, none⟩ = some (.int .i32 a2) := vA.out.cell 1
            have zA := vA.out.lt
            have kB0 : w1.cell? ⟨B, 0, none⟩ = some (.int .i32 b1) := vB.out.cell 0
            have kB1 : w1.cell? ⟨B, 1, none⟩ = some (.int .i32 b2) := vB.out.cell 1
            have zB := vB.out.lt
            have kC0 : w1.cell? ⟨C, 0, none⟩ = some (.int .i32 c1) := vC.out.cell 0
            have kC1 : w1.cell? ⟨C, 1, none⟩ = some (.int .i32 c2) := vC.out.cell 1
            have zC := vC.out.lt
            have kD0 : w1.cell? ⟨D, 0, none⟩ = some (.int .i32 d1) := vD.out.cell 0
            have kD1 : w1.cell? ⟨D, 1, none⟩ = some (.int .i32 d2) := vD.out.cell 1
            have zD := vD.out.lt
            go_wp2_with fail
            refine (Ib.out _).mono ?_
            rintro e w2 ⟨rfl, hb⟩
            have HB := Lib.hid (HB.out.trans (hb.mono HB.out.size))
            have vA := Lib.hid (vA.out.keep hb)
            have vB := Lib.hid (vB.out.keep hb)
            have vC := Lib.hid (vC.out.keep hb)
            have vD := Lib.hid (vD.out.keep hb)
            clear hb kA0 kA1 zA kB0 kB1 zB kC0 kC1 zC kD0 kD1 zD
            have kA0 : w2.cell? ⟨A, 0, none⟩ = some (.int .i32 a1) := vA.out.cell 0
            have kA1 : w2.cell? ⟨A, 1, none⟩ = some (.int .i32 a2) := vA.out.cell 1
            have zA := vA.out.lt
            have kB0 : w2.cell? ⟨B, 0, none⟩ = some (.int .i32 b1) := vB.out.cell 0
            have kB1 : w2.cell? ⟨B, 1, none⟩ = some (.int .i32 b2) := vB.out.cell 1
            have zB := vB.out.lt
            have kC0 : w2.cell? ⟨C, 0, none⟩ = some (.int .i32 c1) := vC.out.cell 0
            have kC1 : w2.cell? ⟨C, 1, none⟩ = some (.int .i32 c2) := vC.out.cell 1
            have zC := vC.out.lt
            have kD0 : w2.cell? ⟨D, 0, none⟩ = some (.int .i32 d1) := vD.out.cell 0
            have kD1 : w2.cell? ⟨D, 1, none⟩ = some (.int .i32 d2) := vD.out.cell 1
            have zD := vD.out.lt
            go_wp2_with fail
            refine (Ic.out _).mono ?_
            rintro e w3 ⟨rfl, hb⟩
            have HB := Lib.hid (HB.out.trans (hb.mono HB.out.size))
            have vA := Lib.hid (vA.out.keep hb)
            have vB := Lib.hid (vB.out.keep hb)
            have vC := Lib.hid (vC.out.keep hb)
            have vD := Lib.hid (vD.out.keep hb)
            clear hb kA0 kA1 zA kB0 kB1 zB kC0 kC1 zC kD0 kD1 zD
            have kA0 : w3.cell? ⟨A, 0, none⟩ = some (.int .i32 a1) := vA.out.cell 0
            have kA1 : w3.cell? ⟨A, 1, none⟩ = some (.int .i32 a2) := vA.out.cell 1
            have zA := vA.out.lt
            have kB0 : w3.cell? ⟨B, 0, none⟩ = some (.int .i32 b1) := vB.out.cell 0
            have kB1 : w3.cell? ⟨B, 1, none⟩ = some (.int .i32 b2) := vB.out.cell 1
            have zB := vB.out.lt
            have kC0 : w3.cell? ⟨C, 0, none⟩ = some (.int .i32 c1) := vC.out.cell 0
            have kC1 : w3.cell? ⟨C, 1, none⟩ = some (.int .i32 c2) := vC.out.cell 1
            have zC := vC.out.lt
            have kD0 : w3.cell? ⟨D, 0, none⟩ = some (.int .i32 d1) := vD.out.cell 0
            have kD1 : w3.cell? ⟨D, 1, none⟩ = some (.int .i32 d2) := vD.out.cell 1
            have zD := vD.out.lt
            go_wp2_with fail
            refine (Id.out _).mono ?_
            rintro e w4 ⟨rfl, hb⟩
            have HB := Lib.hid (HB.out.trans (hb.mono HB.out.size))
            have vA := Lib.hid (vA.out.keep hb)
            have vB := Lib.hid (vB.out.keep hb)
            have vC := Lib.hid (vC.out.keep hb)
            have vD := Lib.hid (vD.out.keep hb)
            clear hb kA0 kA1 zA kB0 kB1 zB kC0 kC1 zC kD0 kD1 zD
            have kA0 : w4.cell? ⟨A, 0, none⟩ = some (.int .i32 a1) := vA.out.cell 0
            have kA1 : w4.cell? ⟨A, 1, none⟩ = some (.int .i32 a2) := vA.out.cell 1
            have zA := vA.out.lt
            have kB0 : w4.cell? ⟨B, 0, none⟩ = some (.int .i32 b1) := vB.out.cell 0
            have kB1 : w4.cell? ⟨B, 1, none⟩ = some (.int .i32 b2) := vB.out.cell 1
            have zB := vB.out.lt
            have kC0 : w4.cell? ⟨C, 0, none⟩ = some (.int .i32 c1) := vC.out.cell 0
            have kC1 : w4.cell? ⟨C, 1, none⟩ = some (.int .i32 c2) := vC.out.cell 1
            have zC := vC.out.lt
            have kD0 : w4.cell? ⟨D, 0, none⟩ = some (.int .i32 d1) := vD.out.cell 0
            have kD1 : w4.cell? ⟨D, 1, none⟩ = some (.int .i32 d2) := vD.out.cell 1
            have zD := vD.out.lt
            go_wp2_with fail
            refine (M1.out _).mono ?_
            rintro e w5 ⟨rfl, hb⟩
            have HB := Lib.hid (HB.out.trans (hb.mono HB.out.size))
            have vA := Lib.hid (vA.out.keep hb)
            have vB := Lib.hid (vB.out.keep hb)
            have vC := Lib.hid (vC.out.keep hb)
            have vD := Lib.hid (vD.out.keep hb)
            clear hb kA0 kA1 zA kB0 kB1 zB kC0 kC1 zC kD0 kD1 zD
            have kA0 : w5.cell? ⟨A, 0, none⟩ = some (.int .i32 a1) := vA.out.cell 0
            have kA1 : w5.cell? ⟨A, 1, none⟩ = some (.int .i32 a2) := vA.out.cell 1
            have zA := vA.out.lt
            have kB0 : w5.cell? ⟨B, 0, none⟩ = some (.int .i32 b1) := vB.out.cell 0
            have kB1 : w5.cell? ⟨B, 1, none⟩ = some (.int .i32 b2) := vB.out.cell 1
            have zB := vB.out.lt
            have kC0 : w5.cell? ⟨C, 0, none⟩ = some (.int .i32 c1) := vC.out.cell 0
            have kC1 : w5.cell? ⟨C, 1, none⟩ = some (.int .i32 c2) := vC.out.cell 1
            have zC := vC.out.lt
            have kD0 : w5.cell? ⟨D, 0, none⟩ = some (.int .i32 d1) := vD.out.cell 0
            have kD1 : w5.cell? ⟨D, 1, none⟩ = some (.int .i32 d2) := vD.out.cell 1
            have zD := vD.out.lt
            obtain ⟨q, hq⟩ : ∃ q, (mk == 0) = q := ⟨_, rfl⟩
            rw [hq] at HND
            cases q
            · have hq2 : (mk != 0) = true := by rw [bne, hq]; rfl
              simp only [Bool.not_false, Bool.true_or] at HND
              obtain rfl := HND.out
              clear HND
              go_wp2_with fail
              refine bodyPost_ret (by simp [results, Try.results18, go_sem, *]; try rfl) rfl ?_
              exact ⟨rfl, HB.out.alloc HB.out.size _⟩
            · have hq2 : (mk != 0) = false := by rw [bne, hq]; rfl
              simp only [Bool.not_true, Bool.false_or] at HND
              go_upto_region 6 with fail
              refine wp_gen (fun W1 hW => ?_)
              have hb : Below w5.heap.size w5 W1 := by rw [hW]; exact (Below.refl _ _).alloc (Nat.le_refl _) _
              have HB := Lib.hid (HB.out.trans (hb.mono HB.out.size))
              have vA := Lib.hid (vA.out.keep hb)
              have vB := Lib.hid (vB.out.keep hb)
              have vC := Lib.hid (vC.out.keep hb)
              have vD := Lib.hid (vD.out.keep hb)
              clear hW hb kA0 kA1 zA kB0 kB1 zB kC0 kC1 zC kD0 kD1 zD
              have kA0 : W1.cell? ⟨A, 0, none⟩ = some (.int .i32 a1) := vA.out.cell 0
              have kA1 : W1.cell? ⟨A, 1, none⟩ = some (.int .i32 a2) := vA.out.cell 1
              have zA := vA.out.lt
              have kB0 : W1.cell? ⟨B, 0, none⟩ = some (.int .i32 b1) := vB.out.cell 0
              have kB1 : W1.cell? ⟨B, 1, none⟩ = some (.int .i32 b2) := vB.out.cell 1
              have zB := vB.out.lt
              have kC0 : W1.cell? ⟨C, 0, none⟩ = some (.int .i32 c1) := vC.out.cell 0
              have kC1 : W1.cell? ⟨C, 1, none⟩ = some (.int .i32 c2) := vC.out.cell 1
              have zC := vC.out.lt
              have kD0 : W1.cell? ⟨D, 0, none⟩ = some (.int .i32 d1) := vD.out.cell 0
              have kD1 : W1.cell? ⟨D, 1, none⟩ = some (.int .i32 d2) := vD.out.cell 1
              have zD := vD.out.lt
              cases x1
              · skip
                go_wp2_with fail
                refine (N1.out _).mono ?_
                rintro e y1 ⟨rfl, hb⟩
                have HB := Lib.hid (HB.out.trans (hb.mono HB.out.size))
                have vA := Lib.hid (vA.out.keep hb)
                have vB := Lib.hid (vB.out.keep hb)
                have vC := Lib.hid (vC.out.keep hb)
                have vD := Lib.hid (vD.out.keep hb)
                clear hb kA0 kA1 zA kB0 kB1 zB kC0 kC1 zC kD0 kD1 zD
                have kA0 : y1.cell? ⟨A, 0, none⟩ = some (.int .i32 a1) := vA.out.cell 0
                have kA1 : y1.cell? ⟨A, 1, none⟩ = some (.int .i32 a2) := vA.out.cell 1
                have zA := vA.out.lt
                have kB0 : y1.cell? ⟨B, 0, none⟩ = some (.int .i32 b1) := vB.out.cell 0
                have kB1 : y1.cell? ⟨B, 1, none⟩ = some (.int .i32 b2) := vB.out.cell 1
                have zB := vB.out.lt
                have kC0 : y1.cell? ⟨C, 0, none⟩ = some (.int .i32 c1) := vC.out.cell 0
                have kC1 : y1.cell? ⟨C, 1, none⟩ = some (.int .i32 c2) := vC.out.cell 1
                have zC := vC.out.lt
                have kD0 : y1.cell? ⟨D, 0, none⟩ = some (.int .i32 d1) := vD.out.cell 0
                have kD1 : y1.cell? ⟨D, 1, none⟩ = some (.int .i32 d2) := vD.out.cell 1
                have zD := vD.out.lt
                cases x2
                · skip
                  go_wp2_with fail
                  refine (N2.out _).mono ?_
                  rintro e y2 ⟨rfl, hb⟩
                  have HB := Lib.hid (HB.out.trans (hb.mono HB.out.size))
                  have vA := Lib.hid (vA.out.keep hb)
                  have vB := Lib.hid (vB.out.keep hb)
                  have vC := Lib.hid (vC.out.keep hb)
                  have vD := Lib.hid (vD.out.keep hb)
                  clear hb kA0 kA1 zA kB0 kB1 zB kC0 kC1 zC kD0 kD1 zD
                  have kA0 : y2.cell? ⟨A, 0, none⟩ = some (.int .i32 a1) := vA.out.cell 0
                  have kA1 : y2.cell? ⟨A, 1, none⟩ = some (.int .i32 a2) := vA.out.cell 1
                  have zA := vA.out.lt
                  have kB0 : y2.cell? ⟨B, 0, none⟩ = some (.int .i32 b1) := vB.out.cell 0
                  have kB1 : y2.cell? ⟨B, 1, none⟩ = some (.int .i32 b2) := vB.out.cell 1
                  have zB := vB.out.lt
                  have kC0 : y2.cell? ⟨C, 0, none⟩ = some (.int .i32 c1) := vC.out.cell 0
                  have kC1 : y2.cell? ⟨C, 1, none⟩ = some (.int .i32 c2) := vC.out.cell 1
                  have zC := vC.out.lt
                  have kD0 : y2.cell? ⟨D, 0, none⟩ = some (.int .i32 d1) := vD.out.cell 0
                  have kD1 : y2.cell? ⟨D, 1, none⟩ = some (.int .i32 d2) := vD.out.cell 1
                  have zD := vD.out.lt
                  cases x3
                  · skip
                    go_wp2_with fail
                    refine (N3.out _).mono ?_
                    rintro e y3 ⟨rfl, hb⟩
                    have HB := Lib.hid (HB.out.trans (hb.mono HB.out.size))
                    have vA := Lib.hid (vA.out.keep hb)
                    have vB := Lib.hid (vB.out.keep hb)
                    have vC := Lib.hid (vC.out.keep hb)
                    have vD := Lib.hid (vD.out.keep hb)
                    clear hb kA0 kA1 zA kB0 kB1 zB kC0 kC1 zC kD0 kD1 zD
                    have kA0 : y3.cell? ⟨A, 0, none⟩ = some (.int .i32 a1) := vA.out.cell 0
                    have kA1 : y3.cell? ⟨A, 1, none⟩ = some (.int .i32 a2) := vA.out.cell 1
                    have zA := vA.out.lt
                    have kB0 : y3.cell? ⟨B, 0, none⟩ = some (.int .i32 b1) := vB.out.cell 0
                    have kB1 : y3.cell? ⟨B, 1, none⟩ = some (.int .i32 b2) := vB.out.cell 1
                    have zB := vB.out.lt
                    have kC0 : y3.cell? ⟨C, 0, none⟩ = some (.int .i32 c1) := vC.out.cell 0
                    have kC1 : y3.cell? ⟨C, 1, none⟩ = some (.int .i32 c2) := vC.out.cell 1
                    have zC := vC.out.lt
                    have kD0 : y3.cell? ⟨D, 0, none⟩ = some (.int .i32 d1) := vD.out.cell 0
                    have kD1 : y3.cell? ⟨D, 1, none⟩ = some (.int .i32 d2) := vD.out.cell 1
                    have zD := vD.out.lt
                    cases x4
                    · skip
                      have hN : N = false := by have := HND.out; simpa using this
                      subst hN
                      clear HND
                      go_wp2_with fail
                      refine (N4.out _).mono ?_
                      rintro e y4 ⟨rfl, hb⟩
                      have HB := Lib.hid (HB.out.trans (hb.mono HB.out.size))
                      have vA := Lib.hid (vA.out.keep hb)
                      have vB := Lib.hid (vB.out.keep hb)
                      have vC := Lib.hid (vC.out.keep hb)
                      have vD := Lib.hid (vD.out.keep hb)
                      clear hb kA0 kA1 zA kB0 kB1 zB kC0 kC1 zC kD0 kD1 zD
                      have kA0 : y4.cell? ⟨A, 0, none⟩ = some (.int .i32 a1) := vA.out.cell 0
                      have kA1 : y4.cell? ⟨A, 1, none⟩ = some (.int .i32 a2) := vA.out.cell 1
                      have zA := vA.out.lt
                      have kB0 : y4.cell? ⟨B, 0, none⟩ = some (.int .i32 b1) := vB.out.cell 0
                      have kB1 : y4.cell? ⟨B, 1, none⟩ = some (.int .i32 b2) := vB.out.cell 1
                      have zB := vB.out.lt
                      have kC0 : y4.cell? ⟨C, 0, none⟩ = some (.int .i32 c1) := vC.out.cell 0
                      have kC1 : y4.cell? ⟨C, 1, none⟩ = some (.int .i32 c2) := vC.out.cell 1
                      have zC := vC.out.lt
                      have kD0 : y4.cell? ⟨D, 0, none⟩ = some (.int .i32 d1) := vD.out.cell 0
                      have kD1 : y4.cell? ⟨D, 1, none⟩ = some (.int .i32 d2) := vD.out.cell 1
                      have zD := vD.out.lt
                      go_wp2_with fail
                      refine bodyPost_ret (by simp [results, Try.results18, go_sem, *]; try rfl) rfl ?_
                      exact ⟨rfl, HB.out⟩
                    · skip
                      have hN : N = true := by have := HND.out; simpa using this
                      subst hN
                      clear HND
                      go_wp2_with fail
                      refine (N4.out _).mono ?_
                      rintro e y4 ⟨rfl, hb⟩
                      have HB := Lib.hid (HB.out.trans (hb.mono HB.out.size))
                      have vA := Lib.hid (vA.out.keep hb)
                      have vB := Lib.hid (vB.out.keep hb)
                      have vC := Lib.hid (vC.out.keep hb)
                      have vD := Lib.hid (vD.out.keep hb)
                      clear hb kA0 kA1 zA kB0 kB1 zB kC0 kC1 zC kD0 kD1 zD
                      have kA0 : y4.cell? ⟨A, 0, none⟩ = some (.int .i32 a1) := vA.out.cell 0
                      have kA1 : y4.cell? ⟨A, 1, none⟩ = some (.int .i32 a2) := vA.out.cell 1
                      have zA := vA.out.lt
                      have kB0 : y4.cell? ⟨B, 0, none⟩ = some (.int .i32 b1) := vB.out.cell 0
                      have kB1 : y4.cell? ⟨B, 1, none⟩ = some (.int .i32 b2) := vB.out.cell 1
                      have zB := vB.out.lt
                      have kC0 : y4.cell? ⟨C, 0, none⟩ = some (.int .i32 c1) := vC.out.cell 0
                      have kC1 : y4.cell? ⟨C, 1, none⟩ = some (.int .i32 c2) := vC.out.cell 1
                      have zC := vC.out.lt
                      have kD0 : y4.cell? ⟨D, 0, none⟩ = some (.int .i32 d1) := vD.out.cell 0
                      have kD1 : y4.cell? ⟨D, 1, none⟩ = some (.int .i32 d2) := vD.out.cell 1
                      have zD := vD.out.lt
                      go_wp2_with fail
                      refine bodyPost_ret (by simp [results, Try.results18, go_sem, *]; try rfl) rfl ?_
                      exact ⟨rfl, HB.out⟩
                  · skip
                    have hN : N = true := by have := HND.out; simpa using this
                    subst hN
                    clear HND
                    go_wp2_with fail
                    refine (N3.out _).mono ?_
                    rintro e y3 ⟨rfl, hb⟩
                    have HB := Lib.hid (HB.out.trans (hb.mono HB.out.size))
                    have vA := Lib.hid (vA.out.keep hb)
                    have vB := Lib.hid (vB.out.keep hb)
                    have vC := Lib.hid (vC.out.keep hb)
                    have vD := Lib.hid (vD.out.keep hb)
                    clear hb kA0 kA1 zA kB0 kB1 zB kC0 kC1 zC kD0 kD1 zD
                    have kA0 : y3.cell? ⟨A, 0, none⟩ = some (.int .i32 a1) := vA.out.cell 0
                    have kA1 : y3.cell? ⟨A, 1, none⟩ = some (.int .i32 a2) := vA.out.cell 1
                    have zA := vA.out.lt
                    have kB0 : y3.cell? ⟨B, 0, none⟩ = some (.int .i32 b1) := vB.out.cell 0
                    have kB1 : y3.cell? ⟨B, 1, none⟩ = some (.int .i32 b2) := vB.out.cell 1
                    have zB := vB.out.lt
                    have kC0 : y3.cell? ⟨C, 0, none⟩ = some (.int .i32 c1) := vC.out.cell 0
                    have kC1 : y3.cell? ⟨C, 1, none⟩ = some (.int .i32 c2) := vC.out.cell 1
                    have zC := vC.out.lt
                    have kD0 : y3.cell? ⟨D, 0, none⟩ = some (.int .i32 d1) := vD.out.cell 0
                    have kD1 : y3.cell? ⟨D, 1, none⟩ = some (.int .i32 d2) := vD.out.cell 1
                    have zD := vD.out.lt
                    go_wp2_with fail
                    refine bodyPost_ret (by simp [results, Try.results18, go_sem, *]; try rfl) rfl ?_
                    exact ⟨rfl, HB.out⟩
                · skip
                  have hN : N = true := by have := HND.out; simpa using this
                  subst hN
                  clear HND
                  go_wp2_with fail
                  refine (N2.out _).mono ?_
                  rintro e y2 ⟨rfl, hb⟩
                  have HB := Lib.hid (HB.out.trans (hb.mono HB.out.size))
                  have vA := Lib.hid (vA.out.keep hb)
                  have vB := Lib.hid (vB.out.keep hb)
                  have vC := Lib.hid (vC.out.keep hb)
                  have vD := Lib.hid (vD.out.keep hb)
                  clear hb kA0 kA1 zA kB0 kB1 zB kC0 kC1 zC kD0 kD1 zD
                  have kA0 : y2.cell? ⟨A, 0, none⟩ = some (.int .i32 a1) := vA.out.cell 0
                  have kA1 : y2.cell? ⟨A, 1, none⟩ = some (.int .i32 a2) := vA.out.cell 1
                  have zA := vA.out.lt
                  have kB0 : y2.cell? ⟨B, 0, none⟩ = some (.int .i32 b1) := vB.out.cell 0
                  have kB1 : y2.cell? ⟨B, 1, none⟩ = some (.int .i32 b2) := vB.out.cell 1
                  have zB := vB.out.lt
                  have kC0 : y2.cell? ⟨C, 0, none⟩ = some (.int .i32 c1) := vC.out.cell 0
                  have kC1 : y2.cell? ⟨C, 1, none⟩ = some (.int .i32 c2) := vC.out.cell 1
                  have zC := vC.out.lt
                  have kD0 : y2.cell? ⟨D, 0, none⟩ = some (.int .i32 d1) := vD.out.cell 0
                  have kD1 : y2.cell? ⟨D, 1, none⟩ = some (.int .i32 d2) := vD.out.cell 1
                  have zD := vD.out.lt
                  go_wp2_with fail
                  refine bodyPost_ret (by simp [results, Try.results18, go_sem, *]; try rfl) rfl ?_
                  exact ⟨rfl, HB.out⟩
              · skip
                have hN : N = true := by have := HND.out; simpa using this
                subst hN
                clear HND
                go_wp2_with fail
                refine (N1.out _).mono ?_
                rintro e y1 ⟨rfl, hb⟩
                have HB := Lib.hid (HB.out.trans (hb.mono HB.out.size))
                have vA := Lib.hid (vA.out.keep hb)
                have vB := Lib.hid (vB.out.keep hb)
                have vC := Lib.hid (vC.out.keep hb)
                have vD := Lib.hid (vD.out.keep hb)
                clear hb kA0 kA1 zA kB0 kB1 zB kC0 kC1 zC kD0 kD1 zD
                have kA0 : y1.cell? ⟨A, 0, none⟩ = some (.int .i32 a1) := vA.out.cell 0
                have kA1 : y1.cell? ⟨A, 1, none⟩ = some (.int .i32 a2) := vA.out.cell 1
                have zA := vA.out.lt
                have kB0 : y1.cell? ⟨B, 0, none⟩ = some (.int .i32 b1) := vB.out.cell 0
                have kB1 : y1.cell? ⟨B, 1, none⟩ = some (.int .i32 b2) := vB.out.cell 1
                have zB := vB.out.lt
                have kC0 : y1.cell? ⟨C, 0, none⟩ = some (.int .i32 c1) := vC.out.cell 0
                have kC1 : y1.cell? ⟨C, 1, none⟩ = some (.int .i32 c2) := vC.out.cell 1
                have zC := vC.out.lt
                have kD0 : y1.cell? ⟨D, 0, none⟩ = some (.int .i32 d1) := vD.out.cell 0
                have kD1 : y1.cell? ⟨D, 1, none⟩ = some (.int .i32 d2) := vD.out.cell 1
                have zD := vD.out.lt
                go_wp2_with fail
                refine bodyPost_ret (by simp [results, Try.results18, go_sem, *]; try rfl) rfl ?_
                exact ⟨rfl, HB.out⟩

end Go.Proofs.Ytpjgghakeaajbaa
