/-
  The document's meeting of two segments of one line. Printed by wip/tools/gen_oner.py.
-/
import Derived.Test.YtpjgghakeaajbaaOneQ
import Derived.Deep.Cut
namespace Go.Proofs.Ytpjgghakeaajbaa
open Go.RowKit

/-- Both parts fit in 64 bits; the lower one is above 0. -/
def FB (x : Q) : Prop := (-9223372036854775807 ≤ x.1 ∧ x.1 ≤ 9223372036854775807) ∧ 0 < x.2 ∧ x.2 ≤ 9223372036854775807
theorem fb_0 : FB (qw 0) := ⟨by decide, by decide, by decide⟩
theorem fb_1 : FB (qw 1) := ⟨by decide, by decide, by decide⟩
theorem fb_quo {n d : Int} (hn : -9223372036854775807 ≤ n ∧ n ≤ 9223372036854775807) (hd : -9223372036854775807 ≤ d ∧ d ≤ 9223372036854775807) (h0 : d ≠ 0) : FB (qquo (qw n) (qw d)) := by
  rw [qquo_w]
  split
  · refine ⟨?_, ?_⟩ <;> dsimp only <;> omega
  · refine ⟨?_, ?_⟩ <;> dsimp only <;> omega
theorem sb_63 {a b : Pt} (ha : I32 a.1 ∧ I32 a.2) (hb : I32 b.1 ∧ I32 b.2) : (-9223372036854775807 ≤ b.1 - a.1 ∧ b.1 - a.1 ≤ 9223372036854775807) ∧ (-9223372036854775807 ≤ b.2 - a.2 ∧ b.2 - a.2 ≤ 9223372036854775807) := by
  obtain ⟨h1, h2⟩ := ha
  obtain ⟨h3, h4⟩ := hb
  unfold I32 at h1 h2 h3 h4
  omega
theorem fb_along {a b p : Pt} (hab : ¬ a = b) (ha : I32 a.1 ∧ I32 a.2) (hb : I32 b.1 ∧ I32 b.2) (hp : I32 p.1 ∧ I32 p.2) : FB (qalong a b p) := by
  obtain ⟨h1, h2⟩ := sb_63 ha hp
  obtain ⟨h3, h4⟩ := sb_63 ha hb
  unfold qalong
  split
  · rename_i h
    exact fb_quo h1 h3 (by omega)
  · rename_i h
    exact fb_quo h2 h4 (fun h0 => hab (Prod.ext (by omega) (by omega)))
/-- What is not less than a fraction that is not below 0 is not below 0. -/
theorem fb_nn {x y : Q} (hx : FB x) (hy : FB y) (h0 : 0 ≤ x.1) (h : ¬ 0 < qcmp x y) : 0 ≤ y.1 := by
  have h1 : ¬ y.1 * x.2 < x.1 * y.2 := fun h' => h (cmpI_gt.2 h')
  have h2 := Int.mul_nonneg h0 (Int.le_of_lt hy.2.1)
  rcases Int.lt_or_le y.1 0 with h3 | h3
  · have := Int.mul_neg_of_neg_of_pos h3 hx.2.1
    omega
  · exact h3
theorem frac_fb {x : Q} (hk : QS 4 x) (hx : FB x) (h0 : 0 ≤ x.1) : Hid (∀ (W : World) (v : Value), RatAt W v x → Calls Try.prog 28 #[v] W fun e w' => e = .returned (.agg #[.int .i64 (fr x.1 x.2).1, .int .i64 (fr x.1 x.2).2]) ∧ Below W.heap.size W w') :=
  Lib.hid (fun W v h => frac_q h hk (by omega) ⟨h0, hx.1.2⟩ ⟨hx.2.1, hx.2.2⟩ W (Below.refl _ _))
theorem cmp_two_q {x y : Q} {c : Int} (hk : QS 4 x) (hk' : QS 4 y) (hc : qcmp x y = c) : Hid (∀ (W : World) (v v' : Value), RatAt W v x → RatAt W v' y → Calls Try.prog 27 #[v, v'] W fun e w' => e = .returned (.int .i64 c) ∧ Below W.heap.size W w') := Lib.hid (fun W v v' h h' => by
  subst hc
  exact cmp_q h h' hk hk' (by omega) W (Below.refl _ _))
set_option maxRecDepth 100000 in
theorem qs4_0 : QS 4 (qw 0) := (qs_w zero_64).mono (by decide)
set_option maxRecDepth 100000 in
theorem qs4_1 : QS 4 (qw 1) := (qs_w one_64).mono (by decide)
/-- The boxes of two fractions, and the one of the answer. -/
structure OneSt (w : World) (R F T : Nat) (W : World) (v v' : Value) (x y : Q) (cf ct : Array Value) : Prop where
  bel : Below w.heap.size w W
  vr : Var W R 30 #[.int .u8 0, .bool false, .int .i64 0, .int .i64 0, .int .i64 0, .int .i64 0]
  vf : Var W F 53 cf
  vt : Var W T 53 ct
  ef : v = .agg cf
  et : v' = .agg ct
  rf : RatAt W v x
  rt : RatAt W v' y
theorem OneSt.keep {w : World} {R F T : Nat} {W W' : World} {v v' : Value} {x y : Q} {cf ct : Array Value} (h : OneSt w R F T W v v' x y cf ct) (hb : Below W.heap.size W W') : OneSt w R F T W' v v' x y cf ct :=
  ⟨h.bel.trans (hb.mono h.bel.size), h.vr.keep hb, h.vf.keep hb, h.vt.keep hb, h.ef, h.et, h.rf.below hb, h.rt.below hb⟩
theorem RatAt.four {w : World} {v : Value} {x : Q} (h : RatAt w v x) {R : Nat} {T : TypeId} {cs : Array Value} (hV : Var w R T cs) (ht : T ≠ 91) (x0 x1 x2 x3 : Value) :
    RatAt ((((w.setCell ⟨R, 0, none⟩ x0).setCell ⟨R, 1, none⟩ x1).setCell ⟨R, 2, none⟩ x2).setCell ⟨R, 3, none⟩ x3) v x := by
  obtain ⟨b1, A1, n1, c1, b2, A2, n2, c2, e, h1, h2⟩ := h
  exact ⟨b1, A1, n1, c1, b2, A2, n2, c2, e, h1.four hV ht _ _ _ _, h2.four hV ht _ _ _ _⟩
theorem var_four {w : World} {g : Nat} {t : TypeId} {a0 a1 a2 a3 : Value} (h : Var w g t #[a0, a1, a2, a3]) (x0 x1 x2 x3 : Value) :
    Var ((((w.setCell ⟨g, 0, none⟩ x0).setCell ⟨g, 1, none⟩ x1).setCell ⟨g, 2, none⟩ x2).setCell ⟨g, 3, none⟩ x3) g t #[x0, x1, x2, x3] := (((h.store 0 x0).store 1 x1).store 2 x2).store 3 x3
theorem var_far4 {w : World} {g g' : Nat} {t : TypeId} {cs : Array Value} (h : Var w g t cs) (hg : g ≠ g') (x0 x1 x2 x3 : Value) :
    Var ((((w.setCell ⟨g', 0, none⟩ x0).setCell ⟨g', 1, none⟩ x1).setCell ⟨g', 2, none⟩ x2).setCell ⟨g', 3, none⟩ x3) g t cs := (((h.far (p := ⟨g', 0, none⟩) hg x0).far (p := ⟨g', 1, none⟩) hg x1).far (p := ⟨g', 2, none⟩) hg x2).far (p := ⟨g', 3, none⟩) hg x3
theorem below_four {n : Nat} {a w : World} {g : Nat} (h : Below n a w) (hg : n ≤ g) (x0 x1 x2 x3 : Value) : Below n a ((((w.setCell ⟨g, 0, none⟩ x0).setCell ⟨g, 1, none⟩ x1).setCell ⟨g, 2, none⟩ x2).setCell ⟨g, 3, none⟩ x3) :=
  (((h.setCell (p := ⟨g, 0, none⟩) hg x0).setCell (p := ⟨g, 1, none⟩) hg x1).setCell (p := ⟨g, 2, none⟩) hg x2).setCell (p := ⟨g, 3, none⟩) hg x3
/-- The first box written. -/
theorem OneSt.setF {w : World} {R F T : Nat} {W : World} {v v' : Value} {x y z : Q} {a0 a1 a2 a3 x0 x1 x2 x3 : Value} {ct : Array Value} (h : OneSt w R F T W v v' x y #[a0, a1, a2, a3] ct) (hz : RatAt W (.agg #[x0, x1, x2, x3]) z) (hwF : w.heap.size ≤ F) (hRF : R ≠ F) (hTF : T ≠ F) :
    OneSt w R F T ((((W.setCell ⟨F, 0, none⟩ x0).setCell ⟨F, 1, none⟩ x1).setCell ⟨F, 2, none⟩ x2).setCell ⟨F, 3, none⟩ x3) (.agg #[x0, x1, x2, x3]) v' z y #[x0, x1, x2, x3] ct :=
  ⟨below_four h.bel hwF _ _ _ _, var_far4 h.vr hRF _ _ _ _, var_four h.vf _ _ _ _, var_far4 h.vt hTF _ _ _ _, rfl, h.et, hz.four h.vf (by decide) _ _ _ _, h.rt.four h.vf (by decide) _ _ _ _⟩
theorem OneSt.setT {w : World} {R F T : Nat} {W : World} {v v' : Value} {x y z : Q} {a0 a1 a2 a3 x0 x1 x2 x3 : Value} {cf : Array Value} (h : OneSt w R F T W v v' x y cf #[a0, a1, a2, a3]) (hz : RatAt W (.agg #[x0, x1, x2, x3]) z) (hwT : w.heap.size ≤ T) (hRT : R ≠ T) (hFT : F ≠ T) :
    OneSt w R F T ((((W.setCell ⟨T, 0, none⟩ x0).setCell ⟨T, 1, none⟩ x1).setCell ⟨T, 2, none⟩ x2).setCell ⟨T, 3, none⟩ x3) v (.agg #[x0, x1, x2, x3]) x z cf #[x0, x1, x2, x3] :=
  ⟨below_four h.bel hwT _ _ _ _, var_far4 h.vr hRT _ _ _ _, var_far4 h.vf hFT _ _ _ _, var_four h.vt _ _ _ _, h.ef, rfl, h.rf.four h.vt (by decide) _ _ _ _, hz.four h.vt (by decide) _ _ _ _⟩


/-- The two boxes changed about. -/
theorem one_swap {w : World} {R F T : Nat} {W : World} {x y : Q} {a0 a1 a2 a3 b0 b1 b2 b3 : Value} (h : OneSt w R F T W (.agg #[a0, a1, a2, a3]) (.agg #[b0, b1, b2, b3]) x y #[a0, a1, a2, a3] #[b0, b1, b2, b3]) (hwF : w.heap.size ≤ F) (hwT : w.heap.size ≤ T) (nRF : R ≠ F) (nTF : T ≠ F) (nRT : R ≠ T) (nFT : F ≠ T) :
    OneSt w R F T ((((((((W.setCell ⟨F, 0, none⟩ b0).setCell ⟨F, 1, none⟩ b1).setCell ⟨F, 2, none⟩ b2).setCell ⟨F, 3, none⟩ b3).setCell ⟨T, 0, none⟩ a0).setCell ⟨T, 1, none⟩ a1).setCell ⟨T, 2, none⟩ a2).setCell ⟨T, 3, none⟩ a3) (.agg #[b0, b1, b2, b3]) (.agg #[a0, a1, a2, a3]) y x #[b0, b1, b2, b3] #[a0, a1, a2, a3] :=
  (h.setF h.rt hwF nRF nTF).setT (h.rf.four h.vf (by decide) _ _ _ _) hwT nRT nFT
theorem one_below {n : Nat} {a w : World} {g : Nat} (h : Below n a w) (hg : n ≤ g) (x0 x1 x2 x3 x4 x5 : Value) : Below n a ((((((w.setCell ⟨g, 0, none⟩ x0).setCell ⟨g, 1, none⟩ x1).setCell ⟨g, 2, none⟩ x2).setCell ⟨g, 3, none⟩ x3).setCell ⟨g, 4, none⟩ x4).setCell ⟨g, 5, none⟩ x5) :=
  ((below_four h hg x0 x1 x2 x3).setCell (p := ⟨g, 4, none⟩) hg x4).setCell (p := ⟨g, 5, none⟩) hg x5

set_option warningAsError false in
set_option maxHeartbeats 8000000 in
set_option maxRecDepth 100000 in
theorem one_r (a b c d : Pt) (hab : ¬ a = b) (ha : I32 a.1 ∧ I32 a.2) (hb : I32 b.1 ∧ I32 b.2) (hc : I32 c.1 ∧ I32 c.2) (hd : I32 d.1 ∧ I32 d.2) (w : World) :
    Calls Try.prog 22 #[.agg #[.int .i32 a.1, .int .i32 a.2], .agg #[.int .i32 b.1, .int .i32 b.2], .agg #[.int .i32 c.1, .int .i32 c.2], .agg #[.int .i32 d.1, .int .i32 d.2]] w fun e w' => e = .returned (MtV (oneR (qalong a b c) (qalong a b d))) ∧ Below w.heap.size w w' := by
  have A1 := Lib.hid (fun W => along_r a b c ha hb hc W)
  have A2 := Lib.hid (fun W => along_r a b d ha hb hd W)
  have W0c := Lib.hid (fun W => whole_q 0 zero_64 W)
  have W1c := Lib.hid (fun W => whole_q 1 one_64 W)
  have Q1 := qs_along ha hb hc
  have Q2 := qs_along ha hb hd
  have B1 := fb_along hab ha hb hc
  have B2 := fb_along hab ha hb hd
  obtain ⟨x, hx⟩ : ∃ x, qalong a b c = x := ⟨_, rfl⟩
  obtain ⟨y, hy⟩ : ∃ y, qalong a b d = y := ⟨_, rfl⟩
  rw [hx] at A1 Q1 B1 ⊢
  rw [hy] at A2 Q2 B2 ⊢
  clear hx hy ha hb hc hd hab
  obtain ⟨M, hM⟩ : ∃ M, oneR x y = M := ⟨_, rfl⟩
  rw [hM]
  have HM := Lib.hid hM
  clear hM
  obtain ⟨a1, a2⟩ := a
  obtain ⟨b1, b2⟩ := b
  obtain ⟨c1, c2⟩ := c
  obtain ⟨d1, d2⟩ := d
  dsimp only at A1 A2 ⊢
  have HQ1 := Lib.hid (And.intro Q1 B1)
  have HQ2 := Lib.hid (And.intro Q2 B2)
  clear Q1 Q2 B1 B2
  go_enter Try.func22, Try.ntmps22
  go_wp2_with fail
  refine (open_q (A1.out _)).mono ?_
  rintro e w1 ⟨p1, pA, pm, pc, p2, pB, pn, pd, rfl, hn1, hn2, hb1⟩
  have va : Var w1 w.heap.size 23 #[.int .i32 a1, .int .i32 a2] := (((((Var.new _ _ _).alloc _).alloc _).alloc _).alloc _).keep hb1
  have vb : Var w1 (w.heap.size + 1) 23 #[.int .i32 b1, .int .i32 b2] := ((((Var.new' _ _ _ (by simp)).alloc _).alloc _).alloc _).keep hb1
  have vd : Var w1 (w.heap.size + 1 + 1 + 1) 23 #[.int .i32 d1, .int .i32 d2] := ((Var.new' _ _ _ (by simp)).alloc _).keep hb1
  have vR : Var w1 (w.heap.size + 1 + 1 + 1 + 1) 30 #[.int .u8 0, .bool false, .int .i64 0, .int .i64 0, .int .i64 0, .int .i64 0] := (Var.new' _ _ _ (by simp)).keep hb1
  have hB1 : Below w.heap.size w w1 := Below.trans (by go_grown) (hb1.mono (by simp; omega))
  have zr := vR.lt
  clear hb1
  obtain ⟨R, hR⟩ : ∃ R, w.heap.size + 1 + 1 + 1 + 1 = R := ⟨_, rfl⟩
  have HRE := Lib.hid hR
  have ca0 := va.cell 0
  have ca1 := va.cell 1
  have cb0 := vb.cell 0
  have cb1 := vb.cell 1
  have cd0 := vd.cell 0
  have cd1 := vd.cell 1
  have za := va.lt
  have zb := vb.lt
  have zd := vd.lt
  go_wp2_with fail
  refine (open_q (A2.out _)).mono ?_
  rintro e w2 ⟨r1, rA, rm, rc, r2, rB, rn, rd, rfl, hm1, hm2, hb2⟩
  have vF : Var w2 w1.heap.size 53 #[.bool p1, .slice pA pm pc, .bool p2, .slice pB pn pd] := (Var.new _ _ _).keep hb2
  have vR2 : Var w2 (w.heap.size + 1 + 1 + 1 + 1) 30 _ := (vR.alloc (.cells #[.bool p1, .slice pA pm pc, .bool p2, .slice pB pn pd] 53)).keep hb2
  have hr1 : RatAt w2 (.agg #[.bool p1, .slice pA pm pc, .bool p2, .slice pB pn pd]) x := (rat_mk (x := x) (hn1.out.alloc (.cells #[.bool p1, .slice pA pm pc, .bool p2, .slice pB pn pd] 53)) (hn2.out.alloc _)).below hb2
  have hB2 : Below w.heap.size w w2 := (hB1.alloc (by omega) _).trans (hb2.mono (by simp; omega))
  have zF2 := vF.lt
  clear hb2 va vb vd vR hB1 ca0 ca1 cb0 cb1 cd0 cd1 za zb zd
  go_upto_region 3 with fail
  refine wp_gen (fun W hW => ?_)
  obtain ⟨F, hF⟩ : ∃ F, w1.heap.size = F := ⟨_, rfl⟩
  obtain ⟨T, hT⟩ : ∃ T, w2.heap.size = T := ⟨_, rfl⟩
  rw [hF, hT]
  try rw [hR]
  have St : Hid (OneSt w R F T W (.agg #[.bool p1, .slice pA pm pc, .bool p2, .slice pB pn pd]) (.agg #[.bool r1, .slice rA rm rc, .bool r2, .slice rB rn rd]) x y #[.bool p1, .slice pA pm pc, .bool p2, .slice pB pn pd] #[.bool r1, .slice rA rm rc, .bool r2, .slice rB rn rd]) := Lib.hid ⟨by rw [hW]; exact hB2.alloc (by omega) _, by rw [hW, ← hR]; exact vR2.alloc _, by rw [hW, ← hF]; exact vF.alloc _, by rw [hW, ← hT]; exact Var.new _ _ _, rfl, rfl, by rw [hW]; exact hr1.below ((Below.refl _ _).alloc (Nat.le_refl _) _), by rw [hW]; exact rat_mk (x := y) (hm1.out.alloc _) (hm2.out.alloc _)⟩
  have hwR : w.heap.size ≤ R := by omega
  have hwF : w.heap.size ≤ F := by omega
  have hwT : w.heap.size ≤ T := by omega
  have nRF : R ≠ F := by omega
  have nRT : R ≠ T := by omega
  have nFT : F ≠ T := by omega
  have nTF : T ≠ F := by omega
  have nFR : F ≠ R := by omega
  have nTR : T ≠ R := by omega
  clear hW vF vR2 hr1 hB2 hn1 hn2 hm1 hm2 zr zF2 hF hT hR
  have zF := St.out.vf.lt
  have zT := St.out.vt.lt
  have kf0 : W.cell? ⟨F, 0, none⟩ = some (.bool p1) := St.out.vf.cell 0
  have kt0 : W.cell? ⟨T, 0, none⟩ = some (.bool r1) := St.out.vt.cell 0
  have kf1 : W.cell? ⟨F, 1, none⟩ = some (.slice pA pm pc) := St.out.vf.cell 1
  have kt1 : W.cell? ⟨T, 1, none⟩ = some (.slice rA rm rc) := St.out.vt.cell 1
  have kf2 : W.cell? ⟨F, 2, none⟩ = some (.bool p2) := St.out.vf.cell 2
  have kt2 : W.cell? ⟨T, 2, none⟩ = some (.bool r2) := St.out.vt.cell 2
  have kf3 : W.cell? ⟨F, 3, none⟩ = some (.slice pB pn pd) := St.out.vf.cell 3
  have kt3 : W.cell? ⟨T, 3, none⟩ = some (.slice rB rn rd) := St.out.vt.cell 3
  have gf0 := St.out.vf.free 0
  have gf1 := St.out.vf.free 1
  have gf2 := St.out.vf.free 2
  have gf3 := St.out.vf.free 3
  have gt0 := St.out.vt.free 0
  have gt1 := St.out.vt.free 1
  have gt2 := St.out.vt.free 2
  have gt3 := St.out.vt.free 3
  rename_i K1 hK1 K0 hK0
  have REST5 : ∀ (X Y : Q) (_ : Hid (QS 4 X ∧ FB X)) (_ : Hid (QS 4 Y ∧ FB Y)) (f1 f2 : Bool) (fA fB : Option Addr) (fm fc fn fd : Nat) (t1 t2 : Bool) (tA tB : Option Addr) (tm tc tn td : Nat) (v13 v14 v15 v16 v17 v18 v19 v20 v21 v22 v23 v24 v25 v26 : Value) (W4 : World), Hid (OneSt w R F T W4 (.agg #[.bool f1, .slice fA fm fc, .bool f2, .slice fB fn fd]) (.agg #[.bool t1, .slice tA tm tc, .bool t2, .slice tB tn td]) X Y #[.bool f1, .slice fA fm fc, .bool f2, .slice fB fn fd] #[.bool t1, .slice tA tm tc, .bool t2, .slice tB tn td]) → Hid (oneR x y = oneR0 X Y) → K1 { tmps := #[.agg #[.int .i32 a1, .int .i32 a2], .agg #[.int .i32 b1, .int .i32 b2], .agg #[.int .i32 c1, .int .i32 c2], .agg #[.int .i32 d1, .int .i32 d2], .pointer (some ⟨w.heap.size, 0, none⟩), .pointer (some ⟨w.heap.size + 1, 0, none⟩), .pointer (some ⟨w.heap.size + 1 + 1, 0, none⟩), .pointer (some ⟨w.heap.size + 1 + 1 + 1, 0, none⟩), .pointer (some ⟨R, 0, none⟩), .pointer (some ⟨F, 0, none⟩), .pointer (some ⟨T, 0, none⟩), undef, undef, v13, v14, v15, v16, v17, v18, v19, v20, v21, v22, v23, v24, v25, v26, undef, undef, undef, undef, undef, undef, undef, undef, undef, undef, undef, undef, undef, undef, undef, undef, undef, undef, undef, undef, undef, undef, undef, undef], defers := [] } W4 := by
    intro X Y HX HY f1 f2 fA fB fm fc fn fd t1 t2 tA tB tm tc tn td v13 v14 v15 v16 v17 v18 v19 v20 v21 v22 v23 v24 v25 v26 W4 St HG
    clear hK0 K0 zF zT kf0 kt0 kf1 kt1 kf2 kt2 kf3 kt3 gf0 gt0 gf1 gt1 gf2 gt2 gf3 gt3
    refine hK1 _ _ ?_
    clear hK1
    have zF := St.out.vf.lt
    have zT := St.out.vt.lt
    have kf0 : W4.cell? ⟨F, 0, none⟩ = some (.bool f1) := St.out.vf.cell 0
    have kt0 : W4.cell? ⟨T, 0, none⟩ = some (.bool t1) := St.out.vt.cell 0
    have kf1 : W4.cell? ⟨F, 1, none⟩ = some (.slice fA fm fc) := St.out.vf.cell 1
    have kt1 : W4.cell? ⟨T, 1, none⟩ = some (.slice tA tm tc) := St.out.vt.cell 1
    have kf2 : W4.cell? ⟨F, 2, none⟩ = some (.bool f2) := St.out.vf.cell 2
    have kt2 : W4.cell? ⟨T, 2, none⟩ = some (.bool t2) := St.out.vt.cell 2
    have kf3 : W4.cell? ⟨F, 3, none⟩ = some (.slice fB fn fd) := St.out.vf.cell 3
    have kt3 : W4.cell? ⟨T, 3, none⟩ = some (.slice tB tn td) := St.out.vt.cell 3
    go_upto_region 5 with fail
    rename_i K3 hK3 K2 hK2
    have REST7 : ∀ (X' : Q) (_ : Hid (QS 4 X' ∧ FB X' ∧ 0 ≤ X'.1)) (_ : Hid ((if X.1 < 0 then qw 0 else X) = X')) (g1 g2 : Bool) (gA gB : Option Addr) (gm gc gn gd : Nat) (v13 v14 v15 v16 v17 v18 v19 v20 v21 v22 v23 v24 v25 v26 v27 v28 v29 v30 : Value) (W6 : World), Hid (OneSt w R F T W6 (.agg #[.bool g1, .slice gA gm gc, .bool g2, .slice gB gn gd]) (.agg #[.bool t1, .slice tA tm tc, .bool t2, .slice tB tn td]) X' Y #[.bool g1, .slice gA gm gc, .bool g2, .slice gB gn gd] #[.bool t1, .slice tA tm tc, .bool t2, .slice tB tn td]) → K3 { tmps := #[.agg #[.int .i32 a1, .int .i32 a2], .agg #[.int .i32 b1, .int .i32 b2], .agg #[.int .i32 c1, .int .i32 c2], .agg #[.int .i32 d1, .int .i32 d2], .pointer (some ⟨w.heap.size, 0, none⟩), .pointer (some ⟨w.heap.size + 1, 0, none⟩), .pointer (some ⟨w.heap.size + 1 + 1, 0, none⟩), .pointer (some ⟨w.heap.size + 1 + 1 + 1, 0, none⟩), .pointer (some ⟨R, 0, none⟩), .pointer (some ⟨F, 0, none⟩), .pointer (some ⟨T, 0, none⟩), undef, undef, v13, v14, v15, v16, v17, v18, v19, v20, v21, v22, v23, v24, v25, v26, v27, v28, v29, v30, undef, undef, undef, undef, undef, undef, undef, undef, undef, undef, undef, undef, undef, undef, undef, undef, undef, undef, undef, undef], defers := [] } W6 := by
      intro X' HX' HXV g1 g2 gA gB gm gc gn gd v13 v14 v15 v16 v17 v18 v19 v20 v21 v22 v23 v24 v25 v26 v27 v28 v29 v30 W6 St
      clear hK2 K2 zF zT kf0 kt0 kf1 kt1 kf2 kt2 kf3 kt3
      refine hK3 _ _ ?_
      clear hK3
      have zF := St.out.vf.lt
      have zT := St.out.vt.lt
      have kf0 : W6.cell? ⟨F, 0, none⟩ = some (.bool g1) := St.out.vf.cell 0
      have kt0 : W6.cell? ⟨T, 0, none⟩ = some (.bool t1) := St.out.vt.cell 0
      have kf1 : W6.cell? ⟨F, 1, none⟩ = some (.slice gA gm gc) := St.out.vf.cell 1
      have kt1 : W6.cell? ⟨T, 1, none⟩ = some (.slice tA tm tc) := St.out.vt.cell 1
      have kf2 : W6.cell? ⟨F, 2, none⟩ = some (.bool g2) := St.out.vf.cell 2
      have kt2 : W6.cell? ⟨T, 2, none⟩ = some (.bool t2) := St.out.vt.cell 2
      have kf3 : W6.cell? ⟨F, 3, none⟩ = some (.slice gB gn gd) := St.out.vf.cell 3
      have kt3 : W6.cell? ⟨T, 3, none⟩ = some (.slice tB tn td) := St.out.vt.cell 3
      go_upto_region 7 with fail
      rename_i K5 hK5 K4 hK4
      have REST9 : ∀ (Y' : Q) (_ : Hid (QS 4 Y' ∧ FB Y')) (_ : Hid ((if 0 < qcmp Y (qw 1) then qw 1 else Y) = Y')) (u1 u2 : Bool) (uA uB : Option Addr) (um uc un ud : Nat) (v13 v14 v15 v16 v17 v18 v19 v20 v21 v22 v23 v24 v25 v26 v27 v28 v29 v30 v31 v32 v33 v34 v35 : Value) (W8 : World), Hid (OneSt w R F T W8 (.agg #[.bool g1, .slice gA gm gc, .bool g2, .slice gB gn gd]) (.agg #[.bool u1, .slice uA um uc, .bool u2, .slice uB un ud]) X' Y' #[.bool g1, .slice gA gm gc, .bool g2, .slice gB gn gd] #[.bool u1, .slice uA um uc, .bool u2, .slice uB un ud]) → K5 { tmps := #[.agg #[.int .i32 a1, .int .i32 a2], .agg #[.int .i32 b1, .int .i32 b2], .agg #[.int .i32 c1, .int .i32 c2], .agg #[.int .i32 d1, .int .i32 d2], .pointer (some ⟨w.heap.size, 0, none⟩), .pointer (some ⟨w.heap.size + 1, 0, none⟩), .pointer (some ⟨w.heap.size + 1 + 1, 0, none⟩), .pointer (some ⟨w.heap.size + 1 + 1 + 1, 0, none⟩), .pointer (some ⟨R, 0, none⟩), .pointer (some ⟨F, 0, none⟩), .pointer (some ⟨T, 0, none⟩), undef, undef, v13, v14, v15, v16, v17, v18, v19, v20, v21, v22, v23, v24, v25, v26, v27, v28, v29, v30, v31, v32, v33, v34, v35, undef, undef, undef, undef, undef, undef, undef, undef, undef, undef, undef, undef, undef, undef, undef], defers := [] } W8 := by
        intro Y' HY' HYV u1 u2 uA uB um uc un ud v13 v14 v15 v16 v17 v18 v19 v20 v21 v22 v23 v24 v25 v26 v27 v28 v29 v30 v31 v32 v33 v34 v35 W8 St
        clear hK4 K4 zF zT kf0 kt0 kf1 kt1 kf2 kt2 kf3 kt3
        refine hK5 _ _ ?_
        clear hK5
        have zF := St.out.vf.lt
        have zT := St.out.vt.lt
        have kf0 : W8.cell? ⟨F, 0, none⟩ = some (.bool g1) := St.out.vf.cell 0
        have kt0 : W8.cell? ⟨T, 0, none⟩ = some (.bool u1) := St.out.vt.cell 0
        have kf1 : W8.cell? ⟨F, 1, none⟩ = some (.slice gA gm gc) := St.out.vf.cell 1
        have kt1 : W8.cell? ⟨T, 1, none⟩ = some (.slice uA um uc) := St.out.vt.cell 1
        have kf2 : W8.cell? ⟨F, 2, none⟩ = some (.bool g2) := St.out.vf.cell 2
        have kt2 : W8.cell? ⟨T, 2, none⟩ = some (.bool u2) := St.out.vt.cell 2
        have kf3 : W8.cell? ⟨F, 3, none⟩ = some (.slice gB gn gd) := St.out.vf.cell 3
        have kt3 : W8.cell? ⟨T, 3, none⟩ = some (.slice uB un ud) := St.out.vt.cell 3
        obtain ⟨k, hk⟩ : ∃ k, qcmp X' Y' = k := ⟨_, rfl⟩
        have CK := cmp_two_q HX'.out.1 HY'.out.1 hk
        have HO := Lib.hid (show oneR0 X Y = if 0 < qcmp X' Y' then mt0 else ⟨if qcmp X' Y' = 0 then 1 else 2, false, fr X'.1 X'.2, fr Y'.1 Y'.2⟩ by unfold oneR0; rw [HXV.out, HYV.out])
        rw [hk] at HO
        have HK := Lib.hid hk
        clear hk
        rcases Int.lt_trichotomy k 0 with h3 | h3 | h3
        · skip
          have h3' : ¬ 0 < k := by omega
          rw [if_neg h3', if_neg (by omega)] at HO
          have FX := frac_fb HX'.out.1 HX'.out.2.1 HX'.out.2.2
          have FY := frac_fb HY'.out.1 HY'.out.2 (fb_nn HX'.out.2.1 HY'.out.2 HX'.out.2.2 (by rw [HK.out]; exact h3'))
          have hk0 : (k == 0) = false := beq_eq_false_iff_ne.2 (by omega)
          go_wp2_with fail
          refine (CK.out _ _ _ (by have := St.out.rf; rw [St.out.ef] at this; exact this) (by have := St.out.rt; rw [St.out.et] at this; exact this)).mono ?_
          rintro e wA ⟨rfl, hbA⟩
          have St := Lib.hid (St.out.keep hbA)
          clear hbA zF zT kf0 kt0 kf1 kt1 kf2 kt2 kf3 kt3
          have zF := St.out.vf.lt
          have zT := St.out.vt.lt
          have kf0 : wA.cell? ⟨F, 0, none⟩ = some (.bool g1) := St.out.vf.cell 0
          have kt0 : wA.cell? ⟨T, 0, none⟩ = some (.bool u1) := St.out.vt.cell 0
          have kf1 : wA.cell? ⟨F, 1, none⟩ = some (.slice gA gm gc) := St.out.vf.cell 1
          have kt1 : wA.cell? ⟨T, 1, none⟩ = some (.slice uA um uc) := St.out.vt.cell 1
          have kf2 : wA.cell? ⟨F, 2, none⟩ = some (.bool g2) := St.out.vf.cell 2
          have kt2 : wA.cell? ⟨T, 2, none⟩ = some (.bool u2) := St.out.vt.cell 2
          have kf3 : wA.cell? ⟨F, 3, none⟩ = some (.slice gB gn gd) := St.out.vf.cell 3
          have kt3 : wA.cell? ⟨T, 3, none⟩ = some (.slice uB un ud) := St.out.vt.cell 3
          have zRA := St.out.vr.lt
          obtain ⟨⟨n1, d1⟩, hf1⟩ : ∃ z, fr X'.1 X'.2 = z := ⟨_, rfl⟩
          obtain ⟨⟨n2, d2⟩, hf2⟩ : ∃ z, fr Y'.1 Y'.2 = z := ⟨_, rfl⟩
          rw [hf1] at FX HO
          rw [hf2] at FY HO
          clear hf1 hf2 HK
          dsimp only at FX FY
          go_wp2_with fail
          refine wp_thenO (one_reg wA F T g1 g2 u1 u2 gA gB uA uB gm gc gn gd um uc un ud n1 d1 n2 d2 kf0 kf1 kf2 kf3 kt0 kt1 kt2 kt3 zF zT (Lib.hid (fun W' hW' => FX.out W' _ (RatAt.below (by have := St.out.rf; rw [St.out.ef] at this; exact this) hW'))) (Lib.hid (fun W' hW' => FY.out W' _ (RatAt.below (by have := St.out.rt; rw [St.out.et] at this; exact this) hW'))) _ _ _ _ _ _ _ _ _ _ _ _ _ _ _ _ _ _ _ _ _ _ _ _ _ _ _ _ _ _ _ _ _ _ _ _ _ _ _ _ _ _ _ _ _ _ _ _ _) ?_
          rintro a' W' ⟨M', v42, v43, v44, v45, v46, rfl, vM, hbM, hMz⟩
          have St := Lib.hid (St.out.keep hbM)
          clear hbM FX FY zF zT kf0 kt0 kf1 kt1 kf2 kt2 kf3 kt3
          have zR := St.out.vr.lt
          have kr0 : W'.cell? ⟨R, 0, none⟩ = some (.int .u8 0) := St.out.vr.cell 0
          have kr1 : W'.cell? ⟨R, 1, none⟩ = some (.bool false) := St.out.vr.cell 1
          have kr2 : W'.cell? ⟨R, 2, none⟩ = some (.int .i64 0) := St.out.vr.cell 2
          have kr3 : W'.cell? ⟨R, 3, none⟩ = some (.int .i64 0) := St.out.vr.cell 3
          have kr4 : W'.cell? ⟨R, 4, none⟩ = some (.int .i64 0) := St.out.vr.cell 4
          have kr5 : W'.cell? ⟨R, 5, none⟩ = some (.int .i64 0) := St.out.vr.cell 5
          have gr0 := St.out.vr.free 0
          have gr1 := St.out.vr.free 1
          have gr2 := St.out.vr.free 2
          have gr3 := St.out.vr.free 3
          have gr4 := St.out.vr.free 4
          have gr5 := St.out.vr.free 5
          have zM := vM.lt
          have nRM : ¬ R = M' := by omega
          have nMR : ¬ M' = R := fun h => nRM h.symm
          have km0 : W'.cell? ⟨M', 0, none⟩ = some (.int .u8 2) := vM.cell 0
          have km1 : W'.cell? ⟨M', 1, none⟩ = some (.bool false) := vM.cell 1
          have km2 : W'.cell? ⟨M', 2, none⟩ = some (.int .i64 n1) := vM.cell 2
          have km3 : W'.cell? ⟨M', 3, none⟩ = some (.int .i64 d1) := vM.cell 3
          have km4 : W'.cell? ⟨M', 4, none⟩ = some (.int .i64 n2) := vM.cell 4
          have km5 : W'.cell? ⟨M', 5, none⟩ = some (.int .i64 d2) := vM.cell 5
          have gm0 := vM.free 0
          clear vM
          go_wp2_with fail
          refine bodyPost_ret (by simp [results, Try.results22, go_sem, *]; try rfl) rfl ?_
          refine ⟨?_, one_below St.out.bel hwR _ _ _ _ _ _⟩
          rw [← HM.out, HG.out, HO.out]
          rfl
        · skip
          have h3' : ¬ 0 < k := by omega
          rw [if_neg h3', if_pos h3] at HO
          have FX := frac_fb HX'.out.1 HX'.out.2.1 HX'.out.2.2
          have FY := frac_fb HY'.out.1 HY'.out.2 (fb_nn HX'.out.2.1 HY'.out.2 HX'.out.2.2 (by rw [HK.out]; exact h3'))
          subst h3
          go_wp2_with fail
          refine (CK.out _ _ _ (by have := St.out.rf; rw [St.out.ef] at this; exact this) (by have := St.out.rt; rw [St.out.et] at this; exact this)).mono ?_
          rintro e wA ⟨rfl, hbA⟩
          have St := Lib.hid (St.out.keep hbA)
          clear hbA zF zT kf0 kt0 kf1 kt1 kf2 kt2 kf3 kt3
          have zF := St.out.vf.lt
          have zT := St.out.vt.lt
          have kf0 : wA.cell? ⟨F, 0, none⟩ = some (.bool g1) := St.out.vf.cell 0
          have kt0 : wA.cell? ⟨T, 0, none⟩ = some (.bool u1) := St.out.vt.cell 0
          have kf1 : wA.cell? ⟨F, 1, none⟩ = some (.slice gA gm gc) := St.out.vf.cell 1
          have kt1 : wA.cell? ⟨T, 1, none⟩ = some (.slice uA um uc) := St.out.vt.cell 1
          have kf2 : wA.cell? ⟨F, 2, none⟩ = some (.bool g2) := St.out.vf.cell 2
          have kt2 : wA.cell? ⟨T, 2, none⟩ = some (.bool u2) := St.out.vt.cell 2
          have kf3 : wA.cell? ⟨F, 3, none⟩ = some (.slice gB gn gd) := St.out.vf.cell 3
          have kt3 : wA.cell? ⟨T, 3, none⟩ = some (.slice uB un ud) := St.out.vt.cell 3
          have zRA := St.out.vr.lt
          obtain ⟨⟨n1, d1⟩, hf1⟩ : ∃ z, fr X'.1 X'.2 = z := ⟨_, rfl⟩
          obtain ⟨⟨n2, d2⟩, hf2⟩ : ∃ z, fr Y'.1 Y'.2 = z := ⟨_, rfl⟩
          rw [hf1] at FX HO
          rw [hf2] at FY HO
          clear hf1 hf2 HK
          dsimp only at FX FY
          go_wp2_with fail
          refine wp_thenO (one_reg wA F T g1 g2 u1 u2 gA gB uA uB gm gc gn gd um uc un ud n1 d1 n2 d2 kf0 kf1 kf2 kf3 kt0 kt1 kt2 kt3 zF zT (Lib.hid (fun W' hW' => FX.out W' _ (RatAt.below (by have := St.out.rf; rw [St.out.ef] at this; exact this) hW'))) (Lib.hid (fun W' hW' => FY.out W' _ (RatAt.below (by have := St.out.rt; rw [St.out.et] at this; exact this) hW'))) _ _ _ _ _ _ _ _ _ _ _ _ _ _ _ _ _ _ _ _ _ _ _ _ _ _ _ _ _ _ _ _ _ _ _ _ _ _ _ _ _ _ _ _ _ _ _ _ _) ?_
          rintro a' W' ⟨M', v42, v43, v44, v45, v46, rfl, vM, hbM, hMz⟩
          have St := Lib.hid (St.out.keep hbM)
          clear hbM FX FY zF zT kf0 kt0 kf1 kt1 kf2 kt2 kf3 kt3
          have zR := St.out.vr.lt
          have kr0 : W'.cell? ⟨R, 0, none⟩ = some (.int .u8 0) := St.out.vr.cell 0
          have kr1 : W'.cell? ⟨R, 1, none⟩ = some (.bool false) := St.out.vr.cell 1
          have kr2 : W'.cell? ⟨R, 2, none⟩ = some (.int .i64 0) := St.out.vr.cell 2
          have kr3 : W'.cell? ⟨R, 3, none⟩ = some (.int .i64 0) := St.out.vr.cell 3
          have kr4 : W'.cell? ⟨R, 4, none⟩ = some (.int .i64 0) := St.out.vr.cell 4
          have kr5 : W'.cell? ⟨R, 5, none⟩ = some (.int .i64 0) := St.out.vr.cell 5
          have gr0 := St.out.vr.free 0
          have gr1 := St.out.vr.free 1
          have gr2 := St.out.vr.free 2
          have gr3 := St.out.vr.free 3
          have gr4 := St.out.vr.free 4
          have gr5 := St.out.vr.free 5
          have zM := vM.lt
          have nRM : ¬ R = M' := by omega
          have nMR : ¬ M' = R := fun h => nRM h.symm
          have km0 : W'.cell? ⟨M', 0, none⟩ = some (.int .u8 2) := vM.cell 0
          have km1 : W'.cell? ⟨M', 1, none⟩ = some (.bool false) := vM.cell 1
          have km2 : W'.cell? ⟨M', 2, none⟩ = some (.int .i64 n1) := vM.cell 2
          have km3 : W'.cell? ⟨M', 3, none⟩ = some (.int .i64 d1) := vM.cell 3
          have km4 : W'.cell? ⟨M', 4, none⟩ = some (.int .i64 n2) := vM.cell 4
          have km5 : W'.cell? ⟨M', 5, none⟩ = some (.int .i64 d2) := vM.cell 5
          have gm0 := vM.free 0
          clear vM
          go_wp2_with fail
          refine bodyPost_ret (by simp [results, Try.results22, go_sem, *]; try rfl) rfl ?_
          refine ⟨?_, one_below (St.out.bel.setCell (p := ⟨M', 0, none⟩) (by show w.heap.size ≤ M'; omega) _) hwR _ _ _ _ _ _⟩
          rw [← HM.out, HG.out, HO.out]
          rfl
        · skip
          have H3 := Lib.hid h3
          go_wp2_with fail
          refine (CK.out _ _ _ (by have := St.out.rf; rw [St.out.ef] at this; exact this) (by have := St.out.rt; rw [St.out.et] at this; exact this)).mono ?_
          rintro e wA ⟨rfl, hbA⟩
          have St := Lib.hid (St.out.keep hbA)
          clear hbA zF zT kf0 kt0 kf1 kt1 kf2 kt2 kf3 kt3
          have zR := St.out.vr.lt
          have kr0 : wA.cell? ⟨R, 0, none⟩ = some (.int .u8 0) := St.out.vr.cell 0
          have kr1 : wA.cell? ⟨R, 1, none⟩ = some (.bool false) := St.out.vr.cell 1
          have kr2 : wA.cell? ⟨R, 2, none⟩ = some (.int .i64 0) := St.out.vr.cell 2
          have kr3 : wA.cell? ⟨R, 3, none⟩ = some (.int .i64 0) := St.out.vr.cell 3
          have kr4 : wA.cell? ⟨R, 4, none⟩ = some (.int .i64 0) := St.out.vr.cell 4
          have kr5 : wA.cell? ⟨R, 5, none⟩ = some (.int .i64 0) := St.out.vr.cell 5
          have gr0 := St.out.vr.free 0
          have gr1 := St.out.vr.free 1
          have gr2 := St.out.vr.free 2
          have gr3 := St.out.vr.free 3
          have gr4 := St.out.vr.free 4
          have gr5 := St.out.vr.free 5
          go_wp2_with fail
          refine bodyPost_ret (by simp [results, Try.results22, go_sem, *]; try rfl) rfl ?_
          refine ⟨?_, one_below St.out.bel hwR _ _ _ _ _ _⟩
          rw [← HM.out, HG.out, HO.out, if_pos H3.out]
          rfl
      clear hK5
      obtain ⟨c1, hc1⟩ : ∃ c, qcmp Y (qw 1) = c := ⟨_, rfl⟩
      have CM := cmp_one_q HY.out.1 (by omega) (by omega) hc1
      by_cases hg1 : 0 < c1
      · have HYV := Lib.hid (show (if 0 < qcmp Y (qw 1) then qw 1 else Y) = qw 1 by rw [hc1, if_pos hg1])
        clear hc1
        go_region_held3 (fun w' => Below W6.heap.size W6 w' ∧ (∀ b o, b < W6.heap.size → w'.cell? ⟨b, o, none⟩ = W6.cell? ⟨b, o, none⟩))
          (first | exact held_step hb_wk (by assumption) | exact held_start _)
          (first | (go_at_call 26; refine (rat_at (W1c.out _)).mono ?_; rintro e wk ⟨v1, rfl, h1, hb_wk⟩) | (go_at_call 27; refine (CM.out _ _ _ (RatAt.below (by have := St.out.rt; rw [St.out.et] at this; exact this) (held_bel (Below.refl _ W6) (by assumption))) h1.out).mono ?_; rintro e wk ⟨rfl, hb_wk⟩))
        have St := Lib.hid (St.out.keep (held_bel (Below.refl _ W6) (by assumption)))
        clear zF zT kf0 kt0 kf1 kt1 kf2 kt2 kf3 kt3
        have zF := St.out.vf.lt
        have zT := St.out.vt.lt
        have kf0 : wk.cell? ⟨F, 0, none⟩ = some (.bool g1) := St.out.vf.cell 0
        have kt0 : wk.cell? ⟨T, 0, none⟩ = some (.bool t1) := St.out.vt.cell 0
        have kf1 : wk.cell? ⟨F, 1, none⟩ = some (.slice gA gm gc) := St.out.vf.cell 1
        have kt1 : wk.cell? ⟨T, 1, none⟩ = some (.slice tA tm tc) := St.out.vt.cell 1
        have kf2 : wk.cell? ⟨F, 2, none⟩ = some (.bool g2) := St.out.vf.cell 2
        have kt2 : wk.cell? ⟨T, 2, none⟩ = some (.bool t2) := St.out.vt.cell 2
        have kf3 : wk.cell? ⟨F, 3, none⟩ = some (.slice gB gn gd) := St.out.vf.cell 3
        have kt3 : wk.cell? ⟨T, 3, none⟩ = some (.slice tB tn td) := St.out.vt.cell 3
        go_wp2_with fail
        refine (open_q (W1c.out _)).mono ?_
        rintro e w9 ⟨u1, uA, um, uc, u2, uB, un, ud, rfl, hn1, hn2, hb9⟩
        have St := Lib.hid (St.out.keep hb9)
        have HN := Lib.hid (rat_mk (x := qw 1) (hn1.out) (hn2.out))
        clear hb9 hn1 hn2 zF zT kf0 kt0 kf1 kt1 kf2 kt2 kf3 kt3
        have zF := St.out.vf.lt
        have zT := St.out.vt.lt
        have kf0 : w9.cell? ⟨F, 0, none⟩ = some (.bool g1) := St.out.vf.cell 0
        have kt0 : w9.cell? ⟨T, 0, none⟩ = some (.bool t1) := St.out.vt.cell 0
        have kf1 : w9.cell? ⟨F, 1, none⟩ = some (.slice gA gm gc) := St.out.vf.cell 1
        have kt1 : w9.cell? ⟨T, 1, none⟩ = some (.slice tA tm tc) := St.out.vt.cell 1
        have kf2 : w9.cell? ⟨F, 2, none⟩ = some (.bool g2) := St.out.vf.cell 2
        have kt2 : w9.cell? ⟨T, 2, none⟩ = some (.bool t2) := St.out.vt.cell 2
        have kf3 : w9.cell? ⟨F, 3, none⟩ = some (.slice gB gn gd) := St.out.vf.cell 3
        have kt3 : w9.cell? ⟨T, 3, none⟩ = some (.slice tB tn td) := St.out.vt.cell 3
        have gt0 := St.out.vt.free 0
        have gt1 := St.out.vt.free 1
        have gt2 := St.out.vt.free 2
        have gt3 := St.out.vt.free 3
        go_wp2_with fail
        exact REST9 (qw 1) (Lib.hid ⟨qs4_1, fb_1⟩) HYV _ _ _ _ _ _ _ _ _ _ _ _ _ _ _ _ _ _ _ _ _ _ _ _ _ _ _ _ _ _ _ _ (Lib.hid (St.out.setT HN.out hwT nRT nFT))
      · have HYV := Lib.hid (show (if 0 < qcmp Y (qw 1) then qw 1 else Y) = Y by rw [hc1, if_neg hg1])
        clear hc1
        go_region_held3 (fun w' => Below W6.heap.size W6 w' ∧ (∀ b o, b < W6.heap.size → w'.cell? ⟨b, o, none⟩ = W6.cell? ⟨b, o, none⟩))
          (first | exact held_step hb_wk (by assumption) | exact held_start _)
          (first | (go_at_call 26; refine (rat_at (W1c.out _)).mono ?_; rintro e wk ⟨v1, rfl, h1, hb_wk⟩) | (go_at_call 27; refine (CM.out _ _ _ (RatAt.below (by have := St.out.rt; rw [St.out.et] at this; exact this) (held_bel (Below.refl _ W6) (by assumption))) h1.out).mono ?_; rintro e wk ⟨rfl, hb_wk⟩))
        have St := Lib.hid (St.out.keep (held_bel (Below.refl _ W6) (by assumption)))
        clear zF zT kf0 kt0 kf1 kt1 kf2 kt2 kf3 kt3
        go_wp2_with fail
        exact REST9 Y HY HYV _ _ _ _ _ _ _ _ _ _ _ _ _ _ _ _ _ _ _ _ _ _ _ _ _ _ _ _ _ _ _ _ St
    clear hK3
    rcases Int.lt_or_le X.1 0 with hs | hs
    · have HXV := Lib.hid (show (if X.1 < 0 then qw 0 else X) = qw 0 by rw [if_pos hs])
      have SG := sign_one_q HX.out.1 (by omega) (show cmpI X.1 0 = -1 by unfold cmpI; rw [if_pos hs])
      clear hs
      go_wp2_with fail
      refine (SG.out _ _ (by have := St.out.rf; rw [St.out.ef] at this; exact this)).mono ?_
      rintro e w5 ⟨rfl, hb5⟩
      have St := Lib.hid (St.out.keep hb5)
      clear hb5 zF zT kf0 kt0 kf1 kt1 kf2 kt2 kf3 kt3
      have zF := St.out.vf.lt
      have zT := St.out.vt.lt
      have kf0 : w5.cell? ⟨F, 0, none⟩ = some (.bool f1) := St.out.vf.cell 0
      have kt0 : w5.cell? ⟨T, 0, none⟩ = some (.bool t1) := St.out.vt.cell 0
      have kf1 : w5.cell? ⟨F, 1, none⟩ = some (.slice fA fm fc) := St.out.vf.cell 1
      have kt1 : w5.cell? ⟨T, 1, none⟩ = some (.slice tA tm tc) := St.out.vt.cell 1
      have kf2 : w5.cell? ⟨F, 2, none⟩ = some (.bool f2) := St.out.vf.cell 2
      have kt2 : w5.cell? ⟨T, 2, none⟩ = some (.bool t2) := St.out.vt.cell 2
      have kf3 : w5.cell? ⟨F, 3, none⟩ = some (.slice fB fn fd) := St.out.vf.cell 3
      have kt3 : w5.cell? ⟨T, 3, none⟩ = some (.slice tB tn td) := St.out.vt.cell 3
      go_wp2_with fail
      refine (open_q (W0c.out _)).mono ?_
      rintro e w6 ⟨s1, sA, sm, sc, s2, sB, sn, sd, rfl, hn1, hn2, hb6⟩
      have St := Lib.hid (St.out.keep hb6)
      have HN := Lib.hid (rat_mk (x := qw 0) (hn1.out) (hn2.out))
      clear hb6 hn1 hn2 zF zT kf0 kt0 kf1 kt1 kf2 kt2 kf3 kt3
      have zF := St.out.vf.lt
      have zT := St.out.vt.lt
      have kf0 : w6.cell? ⟨F, 0, none⟩ = some (.bool f1) := St.out.vf.cell 0
      have kt0 : w6.cell? ⟨T, 0, none⟩ = some (.bool t1) := St.out.vt.cell 0
      have kf1 : w6.cell? ⟨F, 1, none⟩ = some (.slice fA fm fc) := St.out.vf.cell 1
      have kt1 : w6.cell? ⟨T, 1, none⟩ = some (.slice tA tm tc) := St.out.vt.cell 1
      have kf2 : w6.cell? ⟨F, 2, none⟩ = some (.bool f2) := St.out.vf.cell 2
      have kt2 : w6.cell? ⟨T, 2, none⟩ = some (.bool t2) := St.out.vt.cell 2
      have kf3 : w6.cell? ⟨F, 3, none⟩ = some (.slice fB fn fd) := St.out.vf.cell 3
      have kt3 : w6.cell? ⟨T, 3, none⟩ = some (.slice tB tn td) := St.out.vt.cell 3
      have gf0 := St.out.vf.free 0
      have gf1 := St.out.vf.free 1
      have gf2 := St.out.vf.free 2
      have gf3 := St.out.vf.free 3
      go_wp2_with fail
      exact REST7 (qw 0) (Lib.hid ⟨qs4_0, fb_0, by decide⟩) HXV _ _ _ _ _ _ _ _ _ _ _ _ _ _ _ _ _ _ _ _ _ _ _ _ _ _ _ (Lib.hid (St.out.setF HN.out hwF nRF nTF))
    · have HXV := Lib.hid (show (if X.1 < 0 then qw 0 else X) = X by rw [if_neg (by omega)])
      obtain ⟨z, hz⟩ : ∃ z, cmpI X.1 0 = z := ⟨_, rfl⟩
      have hz0 : ¬ z < 0 := by rw [← hz]; unfold cmpI; rw [if_neg (by omega)]; split <;> decide
      have SG := sign_one_q HX.out.1 (by omega) hz
      have HSX := Lib.hid hs
      clear hz hs
      go_wp2_with fail
      refine (SG.out _ _ (by have := St.out.rf; rw [St.out.ef] at this; exact this)).mono ?_
      rintro e w5 ⟨rfl, hb5⟩
      have St := Lib.hid (St.out.keep hb5)
      clear hb5 zF zT kf0 kt0 kf1 kt1 kf2 kt2 kf3 kt3
      go_wp2_with fail
      exact REST7 X (Lib.hid ⟨HX.out.1, HX.out.2, HSX.out⟩) HXV _ _ _ _ _ _ _ _ _ _ _ _ _ _ _ _ _ _ _ _ _ _ _ _ _ _ _ St
  clear hK1
  obtain ⟨k, hk⟩ : ∃ k, qcmp x y = k := ⟨_, rfl⟩
  have CK := cmp_two_q HQ1.out.1 HQ2.out.1 hk
  by_cases hg : 0 < k
  · have HG := Lib.hid (show oneR x y = oneR0 y x by unfold oneR; rw [hk, if_pos hg])
    clear hk
    go_wp2_with fail
    refine (CK.out _ _ _ (by have := St.out.rf; rw [St.out.ef] at this; exact this) (by have := St.out.rt; rw [St.out.et] at this; exact this)).mono ?_
    rintro e w3 ⟨rfl, hb3⟩
    have St := Lib.hid (St.out.keep hb3)
    clear hb3 zF zT kf0 kt0 kf1 kt1 kf2 kt2 kf3 kt3 gf0 gt0 gf1 gt1 gf2 gt2 gf3 gt3
    have zF := St.out.vf.lt
    have zT := St.out.vt.lt
    have kf0 : w3.cell? ⟨F, 0, none⟩ = some (.bool p1) := St.out.vf.cell 0
    have kt0 : w3.cell? ⟨T, 0, none⟩ = some (.bool r1) := St.out.vt.cell 0
    have kf1 : w3.cell? ⟨F, 1, none⟩ = some (.slice pA pm pc) := St.out.vf.cell 1
    have kt1 : w3.cell? ⟨T, 1, none⟩ = some (.slice rA rm rc) := St.out.vt.cell 1
    have kf2 : w3.cell? ⟨F, 2, none⟩ = some (.bool p2) := St.out.vf.cell 2
    have kt2 : w3.cell? ⟨T, 2, none⟩ = some (.bool r2) := St.out.vt.cell 2
    have kf3 : w3.cell? ⟨F, 3, none⟩ = some (.slice pB pn pd) := St.out.vf.cell 3
    have kt3 : w3.cell? ⟨T, 3, none⟩ = some (.slice rB rn rd) := St.out.vt.cell 3
    have gf0 := St.out.vf.free 0
    have gf1 := St.out.vf.free 1
    have gf2 := St.out.vf.free 2
    have gf3 := St.out.vf.free 3
    have gt0 := St.out.vt.free 0
    have gt1 := St.out.vt.free 1
    have gt2 := St.out.vt.free 2
    have gt3 := St.out.vt.free 3
    go_wp2_with fail
    exact REST5 y x HQ2 HQ1 _ _ _ _ _ _ _ _ _ _ _ _ _ _ _ _ _ _ _ _ _ _ _ _ _ _ _ _ _ _ _ (Lib.hid (one_swap St.out hwF hwT nRF nTF nRT nFT)) HG
  · have HG := Lib.hid (show oneR x y = oneR0 x y by unfold oneR; rw [hk, if_neg hg])
    clear hk
    go_wp2_with fail
    refine (CK.out _ _ _ (by have := St.out.rf; rw [St.out.ef] at this; exact this) (by have := St.out.rt; rw [St.out.et] at this; exact this)).mono ?_
    rintro e W4 ⟨rfl, hb3⟩
    have St := Lib.hid (St.out.keep hb3)
    clear hb3 zF zT kf0 kt0 kf1 kt1 kf2 kt2 kf3 kt3 gf0 gt0 gf1 gt1 gf2 gt2 gf3 gt3
    go_wp2_with fail
    exact REST5 x y HQ1 HQ2 _ _ _ _ _ _ _ _ _ _ _ _ _ _ _ _ _ _ _ _ _ _ _ _ _ _ _ _ _ _ _ St HG

end Go.Proofs.Ytpjgghakeaajbaa
