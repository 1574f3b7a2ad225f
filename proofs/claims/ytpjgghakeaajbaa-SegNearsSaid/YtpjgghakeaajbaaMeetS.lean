/-
  The document's Meet: from the ways along both segments on. Printed by wip/tools/gen_meett.py.
-/
import Derived.Test.YtpjgghakeaajbaaMeetV
import Derived.Test.YtpjgghakeaajbaaMeetQB
namespace Go.Proofs.Ytpjgghakeaajbaa
open Go.RowKit

/-- The boxes of Meet. -/
structure MtSt (w : World) (A B C D R : Nat) (a b c d : Pt) (W : World) : Prop where
  bel : Below w.heap.size w W
  va : Var W A 23 #[.int .i32 a.1, .int .i32 a.2]
  vb : Var W B 23 #[.int .i32 b.1, .int .i32 b.2]
  vc : Var W C 23 #[.int .i32 c.1, .int .i32 c.2]
  vd : Var W D 23 #[.int .i32 d.1, .int .i32 d.2]
  vr : Var W R 30 #[.int .u8 0, .bool false, .int .i64 0, .int .i64 0, .int .i64 0, .int .i64 0]
theorem MtSt.keep {w : World} {A B C D R : Nat} {a b c d : Pt} {W W' : World} (h : MtSt w A B C D R a b c d W) (hb : Below W.heap.size W W') : MtSt w A B C D R a b c d W' :=
  ⟨h.bel.trans (hb.mono h.bel.size), h.va.keep hb, h.vb.keep hb, h.vc.keep hb, h.vd.keep hb, h.vr.keep hb⟩
theorem inP_i32 {p : Pt} (h : inP p = true) : I32 p.1 ∧ I32 p.2 := by
  have := of_decide_eq_true h
  unfold I32
  omega
theorem cr_bd2 {x y z v : Int} (hx : -2147483646 ≤ x ∧ x ≤ 2147483646) (hy : -2147483646 ≤ y ∧ y ≤ 2147483646) (hz : -2147483646 ≤ z ∧ z ≤ 2147483646) (hv : -2147483646 ≤ v ∧ v ≤ 2147483646) :
    -9223372036854775807 ≤ x * v - y * z ∧ x * v - y * z ≤ 9223372036854775807 := by
  have m : ∀ p q : Int, -2147483646 ≤ p ∧ p ≤ 2147483646 → -2147483646 ≤ q ∧ q ≤ 2147483646 → (p * q).natAbs ≤ 4611686009837453316 := fun p q hp hq => by
    rw [Int.natAbs_mul]
    have h2 := Nat.mul_le_mul (show p.natAbs ≤ 2147483646 by omega) (show q.natAbs ≤ 2147483646 by omega)
    rw [show 2147483646 * 2147483646 = 4611686009837453316 from rfl] at h2
    exact h2
  have h1 := m x v hx hv
  have h2 := m y z hy hz
  generalize x * v = p at *
  generalize y * z = q at *
  omega
theorem inP_sb {p q : Pt} (hp : inP p = true) (hq : inP q = true) : (-2147483646 ≤ (sb p q).1 ∧ (sb p q).1 ≤ 2147483646) ∧ (-2147483646 ≤ (sb p q).2 ∧ (sb p q).2 ≤ 2147483646) := by
  have h1 := of_decide_eq_true hp
  have h2 := of_decide_eq_true hq
  unfold sb
  dsimp only
  omega
/-- The place along the first segment fits, if it is between 0 and 1. -/
theorem place_fits {n D : Int} (hD : D ≠ 0) (h1 : -9223372036854775807 ≤ D ∧ D ≤ 9223372036854775807) (h0 : 0 ≤ (qquo (n, 1) (D, 1)).1) (hc : ¬ 0 < qcmp (qquo (n, 1) (D, 1)) (qw 1)) : (qquo (n, 1) (D, 1)).1 ≤ 9223372036854775807 ∧ 0 < (qquo (n, 1) (D, 1)).2 ∧ (qquo (n, 1) (D, 1)).2 ≤ 9223372036854775807 := by
  have e := qquo_c n D
  obtain ⟨q, hq⟩ : ∃ q, qquo (n, 1) (D, 1) = q := ⟨_, rfl⟩
  rw [hq] at e h0 hc ⊢
  have h : ¬ (qw 1).1 * q.2 < q.1 * (qw 1).2 := fun h => hc (cmpI_gt.2 h)
  clear hq hc
  by_cases hs : D < 0
  · rw [if_pos hs] at e
    subst e
    dsimp only [qw] at *
    omega
  · rw [if_neg hs] at e
    subst e
    dsimp only [qw] at *
    omega


set_option maxHeartbeats 8000000 in
set_option maxRecDepth 100000 in
theorem meet_tail (a1 a2 b1 b2 c1 c2 d1 d2 : Int) (ia : inP (a1, a2) = true) (ib : inP (b1, b2) = true) (ic : inP (c1, c2) = true) (id' : inP (d1, d2) = true) (w W : World) (A B C D R : Nat) (St : Hid (MtSt w A B C D R (a1, a2) (b1, b2) (c1, c2) (d1, d2) W)) (hwR : w.heap.size ≤ R)
    (u0 u1 u2 u3 u9 u10 u11 u12 u13 u14 u15 u16 u17 u18 u19 u20 u21 u22 u23 u24 u25 u26 u27 u28 u29 u30 u31 u32 u33 u34 u35 u36 u37 u38 u39 u40 u41 u42 u43 u44 u45 u46 u47 u48 u49 u50 u51 u52 u53 u54 u55 u56 u57 u58 u59 u60 u61 u62 u63 u64 u65 u66 u67 u68 u69 u70 u71 u72 u73 u74 u75 u76 u77 u78 u79 u80 u81 u82 u83 u84 u85 u86 u87 u88 u89 u90 u91 u92 u93 u94 u95 u96 u97 u98 u99 u100 u101 u102 u103 u104 u105 u106 u107 u108 u109 u110 u111 u112 u113 u114 u115 u116 u117 u118 u119 u120 u121 u122 u123 u124 u125 u126 u127 u128 u129 u130 u131 u132 u133 u134 u135 u136 u137 u138 u139 u140 u141 u142 u143 u144 u145 u146 u147 u148 u149 u150 u151 u152 u153 u154 u155 u156 u157 u158 u159 u160 u161 u162 u163 u164 u165 u166 u167 u168 u169 u170 u171 u172 u173 u174 u175 u176 u177 u178 u179 u180 u181 u182 u183 u184 u185 u186 u187 u188 u189 u190 u191 u192 : Value) :
    (tailO Try.f7 5).wp Try.prog (fun e a' w' => e = .ret ∧ a'.defers = [] ∧ (results Try.f7 a'.tmps).run Try.prog w' = .ok (MtV (if cr (sb (a1, a2) (b1, b2)) (sb (c1, c2) (d1, d2)) = 0 then mt0 else meetTS (qquo (qcross (sb (a1, a2) (c1, c2)) (sb (c1, c2) (d1, d2))) (qcross (sb (a1, a2) (b1, b2)) (sb (c1, c2) (d1, d2)))) (qquo (qcross (sb (a1, a2) (c1, c2)) (sb (a1, a2) (b1, b2))) (qcross (sb (a1, a2) (b1, b2)) (sb (c1, c2) (d1, d2)))))) w' ∧ Below w.heap.size w w') { tmps := #[u0, u1, u2, u3, .pointer (some ⟨A, 0, none⟩), .pointer (some ⟨B, 0, none⟩), .pointer (some ⟨C, 0, none⟩), .pointer (some ⟨D, 0, none⟩), .pointer (some ⟨R, 0, none⟩), u9, u10, u11, u12, u13, u14, u15, u16, u17, u18, u19, u20, u21, u22, u23, u24, u25, u26, u27, u28, u29, u30, u31, u32, u33, u34, u35, u36, u37, u38, u39, u40, u41, u42, u43, u44, u45, u46, u47, u48, u49, u50, u51, u52, u53, u54, u55, u56, u57, u58, u59, u60, u61, u62, u63, u64, u65, u66, u67, u68, u69, u70, u71, u72, u73, u74, u75, u76, u77, u78, u79, u80, u81, u82, u83, u84, u85, u86, u87, u88, u89, u90, u91, u92, u93, u94, u95, u96, u97, u98, u99, u100, u101, u102, u103, u104, u105, u106, u107, u108, u109, u110, u111, u112, u113, u114, u115, u116, u117, u118, u119, u120, u121, u122, u123, u124, u125, u126, u127, u128, u129, u130, u131, u132, u133, u134, u135, u136, u137, u138, u139, u140, u141, u142, u143, u144, u145, u146, u147, u148, u149, u150, u151, u152, u153, u154, u155, u156, u157, u158, u159, u160, u161, u162, u163, u164, u165, u166, u167, u168, u169, u170, u171, u172, u173, u174, u175, u176, u177, u178, u179, u180, u181, u182, u183, u184, u185, u186, u187, u188, u189, u190, u191, u192], defers := [] } W := by
  have ha := inP_i32 ia
  have hb := inP_i32 ib
  have hc := inP_i32 ic
  have hd := inP_i32 id'
  have hco := sb_64 ha hb
  have hco2 := sb_64 hc hd
  have hco3 := sb_64 ha hc
  have X1 := Lib.hid (fun W => cross_q (sb (a1, a2) (b1, b2)) (sb (c1, c2) (d1, d2)) hco.1 hco.2 hco2.1 hco2.2 W)
  have X2 := Lib.hid (fun W => cross_q (sb (a1, a2) (c1, c2)) (sb (c1, c2) (d1, d2)) hco3.1 hco3.2 hco2.1 hco2.2 W)
  have X3 := Lib.hid (fun W => cross_q (sb (a1, a2) (c1, c2)) (sb (a1, a2) (b1, b2)) hco3.1 hco3.2 hco.1 hco.2 W)
  have Q1 := Lib.hid (qs_cross hco.1 hco.2 hco2.1 hco2.2)
  have Q2 := Lib.hid (qs_cross hco3.1 hco3.2 hco2.1 hco2.2)
  have Q3 := Lib.hid (qs_cross hco3.1 hco3.2 hco.1 hco.2)
  have W1c := Lib.hid (fun W => whole_q 1 one_64 W)
  have HD : Hid (cr (sb (a1, a2) (b1, b2)) (sb (c1, c2) (d1, d2)) ≠ 0 → 0 ≤ (qquo (qcross (sb (a1, a2) (c1, c2)) (sb (c1, c2) (d1, d2))) (qcross (sb (a1, a2) (b1, b2)) (sb (c1, c2) (d1, d2)))).1 → ¬ 0 < qcmp (qquo (qcross (sb (a1, a2) (c1, c2)) (sb (c1, c2) (d1, d2))) (qcross (sb (a1, a2) (b1, b2)) (sb (c1, c2) (d1, d2)))) (qw 1) → (qquo (qcross (sb (a1, a2) (c1, c2)) (sb (c1, c2) (d1, d2))) (qcross (sb (a1, a2) (b1, b2)) (sb (c1, c2) (d1, d2)))).1 ≤ 9223372036854775807 ∧ 0 < (qquo (qcross (sb (a1, a2) (c1, c2)) (sb (c1, c2) (d1, d2))) (qcross (sb (a1, a2) (b1, b2)) (sb (c1, c2) (d1, d2)))).2 ∧ (qquo (qcross (sb (a1, a2) (c1, c2)) (sb (c1, c2) (d1, d2))) (qcross (sb (a1, a2) (b1, b2)) (sb (c1, c2) (d1, d2)))).2 ≤ 9223372036854775807) := Lib.hid (fun hD => by
    rw [qcross_is, qcross_is]
    have k1 := inP_sb ia ib
    have k2 := inP_sb ic id'
    exact place_fits hD (cr_bd2 k1.1 k1.2 k2.1 k2.2))
  have HZ := Lib.hid (show (qcross (sb (a1, a2) (b1, b2)) (sb (c1, c2) (d1, d2))).1 = cr (sb (a1, a2) (b1, b2)) (sb (c1, c2) (d1, d2)) by rw [qcross_is])
  obtain ⟨n1, hn1⟩ : ∃ z, qcross (sb (a1, a2) (c1, c2)) (sb (c1, c2) (d1, d2)) = z := ⟨_, rfl⟩
  obtain ⟨n2, hn2⟩ : ∃ z, qcross (sb (a1, a2) (c1, c2)) (sb (a1, a2) (b1, b2)) = z := ⟨_, rfl⟩
  obtain ⟨dn, hdn⟩ : ∃ z, qcross (sb (a1, a2) (b1, b2)) (sb (c1, c2) (d1, d2)) = z := ⟨_, rfl⟩
  rw [hdn] at X1 Q1 HD HZ ⊢
  rw [hn1] at X2 Q2 HD ⊢
  rw [hn2] at X3 Q3 ⊢
  obtain ⟨De, hDe⟩ : ∃ z, cr (sb (a1, a2) (b1, b2)) (sb (c1, c2) (d1, d2)) = z := ⟨_, rfl⟩
  rw [hDe] at HD HZ ⊢
  clear hn1 hn2 hdn hDe hco hco2 hco3 ia ib ic id'
  dsimp only [sb] at X1 X2 X3
  have e1 := sub_wraps ha.1 hb.1 hc.1
  have e2 := sub_wraps ha.2 hb.2 hc.2
  have HWr := Lib.hid (And.intro e1 e2)
  clear e1 e2
  obtain ⟨ha1, ha2⟩ := ha
  obtain ⟨hb1, hb2⟩ := hb
  obtain ⟨hc1, hc2⟩ := hc
  obtain ⟨hd1, hd2⟩ := hd
  unfold I32 at ha1 ha2 hb1 hb2 hc1 hc2 hd1 hd2
  dsimp only at ha1 ha2 hb1 hb2 hc1 hc2 hd1 hd2
  obtain ⟨M, hM⟩ : ∃ M, (if De = 0 then mt0 else meetTS (qquo n1 dn) (qquo n2 dn)) = M := ⟨_, rfl⟩
  rw [hM]
  have HM := Lib.hid hM
  clear hM
  have ka0 : W.cell? ⟨A, 0, none⟩ = some (.int .i32 a1) := St.out.va.cell 0
  have ka1 : W.cell? ⟨A, 1, none⟩ = some (.int .i32 a2) := St.out.va.cell 1
  have za := St.out.va.lt
  have kb0 : W.cell? ⟨B, 0, none⟩ = some (.int .i32 b1) := St.out.vb.cell 0
  have kb1 : W.cell? ⟨B, 1, none⟩ = some (.int .i32 b2) := St.out.vb.cell 1
  have zb := St.out.vb.lt
  have kc0 : W.cell? ⟨C, 0, none⟩ = some (.int .i32 c1) := St.out.vc.cell 0
  have kc1 : W.cell? ⟨C, 1, none⟩ = some (.int .i32 c2) := St.out.vc.cell 1
  have zc := St.out.vc.lt
  have kd0 : W.cell? ⟨D, 0, none⟩ = some (.int .i32 d1) := St.out.vd.cell 0
  have kd1 : W.cell? ⟨D, 1, none⟩ = some (.int .i32 d2) := St.out.vd.cell 1
  have zd := St.out.vd.lt
  show Code.wp _ (.seq _ (.seq _ (.seq _ (.seq _ (.seq _ (.seq _ (.seq _ (.seq _ (.seq _ (tailO Try.f7 14)))))))))) _ _ _
  generalize hTL : tailO Try.f7 14 = TL
  have HTL := Lib.hid hTL
  clear hTL
  go_wp2_with fail
  refine (open_q (X1.out _)).mono ?_
  rintro e w1 ⟨e1, eA, em, ec, e2, eB, en, ed, rfl, hn1, hn2, hb⟩
  have St := Lib.hid (St.out.keep hb)
  clear hb ka0 ka1 za kb0 kb1 zb kc0 kc1 zc kd0 kd1 zd X1 ha1 ha2 hb1 hb2 hc1 hc2 hd1 hd2
  have hAl : Below w1.heap.size w1 (w1.alloc (.cells #[.bool e1, .slice eA em ec, .bool e2, .slice eB en ed] 53)) := (Below.refl _ _).alloc (Nat.le_refl _) _
  go_upto_region 16 with fail
  refine wp_gen (fun W1 hW => ?_)
  have hb : Below w1.heap.size w1 W1 := by rw [hW]; exact hAl
  obtain ⟨N, hN⟩ : ∃ N, w1.heap.size = N := ⟨_, rfl⟩
  have vN : Hid (Var W1 N 53 #[.bool e1, .slice eA em ec, .bool e2, .slice eB en ed]) := Lib.hid (by rw [hW, ← hN]; exact Var.new _ _ _)
  have rN : Hid (RatAt W1 (.agg #[.bool e1, .slice eA em ec, .bool e2, .slice eB en ed]) dn) := Lib.hid ((rat_mk (x := dn) hn1.out hn2.out).below hb)
  have St := Lib.hid (St.out.keep hb)
  rw [hN]
  clear hN hW hb hAl hn1 hn2
  have kn0 : W1.cell? ⟨N, 0, none⟩ = some (.bool e1) := vN.out.cell 0
  have kn1 : W1.cell? ⟨N, 1, none⟩ = some (.slice eA em ec) := vN.out.cell 1
  have kn2 : W1.cell? ⟨N, 2, none⟩ = some (.bool e2) := vN.out.cell 2
  have kn3 : W1.cell? ⟨N, 3, none⟩ = some (.slice eB en ed) := vN.out.cell 3
  have zn := vN.out.lt
  have SG := Lib.hid (sign_q rN.out Q1.out (by omega) W1 (Below.refl _ _))
  rw [HZ.out] at SG
  clear HZ
  by_cases h0 : De = 0
  · rw [if_pos h0] at HM
    have hc0 : cmpI De 0 = 0 := by rw [h0]; rfl
    rw [hc0] at SG
    clear h0 hc0 HD X2 X3 Q1 Q2 Q3 W1c HWr
    go_wp2_with fail
    refine SG.out.mono ?_
    rintro e W2 ⟨rfl, hb⟩
    have St := Lib.hid (St.out.keep hb)
    clear hb kn0 kn1 kn2 kn3 zn SG rN vN
    have zR := St.out.vr.lt
    have kr0 : W2.cell? ⟨R, 0, none⟩ = some (.int .u8 0) := St.out.vr.cell 0
    have kr1 : W2.cell? ⟨R, 1, none⟩ = some (.bool false) := St.out.vr.cell 1
    have kr2 : W2.cell? ⟨R, 2, none⟩ = some (.int .i64 0) := St.out.vr.cell 2
    have kr3 : W2.cell? ⟨R, 3, none⟩ = some (.int .i64 0) := St.out.vr.cell 3
    have kr4 : W2.cell? ⟨R, 4, none⟩ = some (.int .i64 0) := St.out.vr.cell 4
    have kr5 : W2.cell? ⟨R, 5, none⟩ = some (.int .i64 0) := St.out.vr.cell 5
    have gr0 := St.out.vr.free 0
    have gr1 := St.out.vr.free 1
    have gr2 := St.out.vr.free 2
    have gr3 := St.out.vr.free 3
    have gr4 := St.out.vr.free 4
    have gr5 := St.out.vr.free 5
    go_wp2_with fail
    rw [← HM.out]
    refine ⟨by simp [results, Try.results7, go_sem, MtV, mt0, *]; done, one_below St.out.bel hwR _ _ _ _ _ _⟩
  · rw [if_neg h0] at HM
    have HD := Lib.hid (HD.out h0)
    have hc0 : cmpI De 0 ≠ 0 := fun h => h0 (cmpI_zero.1 h)
    obtain ⟨si, hsi⟩ : ∃ z, cmpI De 0 = z := ⟨_, rfl⟩
    rw [hsi] at SG hc0
    have hq : (si == 0) = false := beq_eq_false_iff_ne.2 hc0
    clear h0 hc0 hsi
    go_wp2_with fail
    refine SG.out.mono ?_
    rintro e W2 ⟨rfl, hb⟩
    have St := Lib.hid (St.out.keep hb)
    have vN := Lib.hid (vN.out.keep hb)
    have rN := Lib.hid (rN.out.below hb)
    clear hb kn0 kn1 kn2 kn3 zn SG
    go_upto_region 18 with fail
    have ka0 : W2.cell? ⟨A, 0, none⟩ = some (.int .i32 a1) := St.out.va.cell 0
    have ka1 : W2.cell? ⟨A, 1, none⟩ = some (.int .i32 a2) := St.out.va.cell 1
    have za := St.out.va.lt
    have kb0 : W2.cell? ⟨B, 0, none⟩ = some (.int .i32 b1) := St.out.vb.cell 0
    have kb1 : W2.cell? ⟨B, 1, none⟩ = some (.int .i32 b2) := St.out.vb.cell 1
    have zb := St.out.vb.lt
    have kc0 : W2.cell? ⟨C, 0, none⟩ = some (.int .i32 c1) := St.out.vc.cell 0
    have kc1 : W2.cell? ⟨C, 1, none⟩ = some (.int .i32 c2) := St.out.vc.cell 1
    have zc := St.out.vc.lt
    have kd0 : W2.cell? ⟨D, 0, none⟩ = some (.int .i32 d1) := St.out.vd.cell 0
    have kd1 : W2.cell? ⟨D, 1, none⟩ = some (.int .i32 d2) := St.out.vd.cell 1
    have zd := St.out.vd.lt
    have kn0 : W2.cell? ⟨N, 0, none⟩ = some (.bool e1) := vN.out.cell 0
    have kn1 : W2.cell? ⟨N, 1, none⟩ = some (.slice eA em ec) := vN.out.cell 1
    have kn2 : W2.cell? ⟨N, 2, none⟩ = some (.bool e2) := vN.out.cell 2
    have kn3 : W2.cell? ⟨N, 3, none⟩ = some (.slice eB en ed) := vN.out.cell 3
    have zn := vN.out.lt
    skip
    refine wp_thenO (meet_reg18 W2 A C N a1 a2 c1 c2 (d1 - c1) (d2 - c2) e1 e2 eA eB em ec en ed n1 dn ka0 ka1 kc0 kc1 kn0 kn1 kn2 kn3 za zc zn HWr.out.1.1 HWr.out.2.1 HWr.out.1.2.2.1 HWr.out.2.2.2.1 HWr.out.1.2.2.2.2 HWr.out.2.2.2.2.2 X2 rN Q2.out Q1.out _ _ _ _ _ _ _ _ _ _ _ _ _ _ _ _ _ _ _ _ _ _ _ _ _ _ _ _ _ _ _ _ _ _ _ _ _ _ _ _ _ _ _ _ _ _ _ _ _ _ _ _ _ _ _ _ _ _ _ _ _ _ _ _ _ _ _ _ _ _ _ _ _ _ _ _ _ _ _ _ _ _ _ _ _ _ _ _ _ _ _ _ _ _ _ _ _ _ _ _ _ _ _ _ _ _ _ _ _ _ _ _ _ _ _ _ _ _ _ _ _ _ _ _ _ _ _ _ _ _ _ _ _ _ _ _ _ _ _ _ _ _ _ _ _ _ _ _ _ _ _ _ _ _ _ _ _ _ _ _ _ _ _ _ _ _ _ _ _ _ _ _ _ _ _ _ _ _ _ _ _ _ _ _ _ _ _ _) ?_
    rintro a' W3 ⟨T, t1, tA, tm, tc, t2, tB, tn, td, v107, v108, v109, v110, v111, v112, v113, v114, v115, v116, v117, v118, v119, v120, v121, v122, v123, v124, v125, rfl, vT, rT, hb, hT⟩
    have St := Lib.hid (St.out.keep hb)
    have vN := Lib.hid (vN.out.keep hb)
    have rN := Lib.hid (rN.out.below hb)
    have vT := Lib.hid vT
    have rT := Lib.hid rT
    clear hb hT ka0 ka1 za kb0 kb1 zb kc0 kc1 zc kd0 kd1 zd kn0 kn1 kn2 kn3 zn X2
    go_upto_region 19 with fail
    have ka0 : W3.cell? ⟨A, 0, none⟩ = some (.int .i32 a1) := St.out.va.cell 0
    have ka1 : W3.cell? ⟨A, 1, none⟩ = some (.int .i32 a2) := St.out.va.cell 1
    have za := St.out.va.lt
    have kb0 : W3.cell? ⟨B, 0, none⟩ = some (.int .i32 b1) := St.out.vb.cell 0
    have kb1 : W3.cell? ⟨B, 1, none⟩ = some (.int .i32 b2) := St.out.vb.cell 1
    have zb := St.out.vb.lt
    have kc0 : W3.cell? ⟨C, 0, none⟩ = some (.int .i32 c1) := St.out.vc.cell 0
    have kc1 : W3.cell? ⟨C, 1, none⟩ = some (.int .i32 c2) := St.out.vc.cell 1
    have zc := St.out.vc.lt
    have kd0 : W3.cell? ⟨D, 0, none⟩ = some (.int .i32 d1) := St.out.vd.cell 0
    have kd1 : W3.cell? ⟨D, 1, none⟩ = some (.int .i32 d2) := St.out.vd.cell 1
    have zd := St.out.vd.lt
    have kn0 : W3.cell? ⟨N, 0, none⟩ = some (.bool e1) := vN.out.cell 0
    have kn1 : W3.cell? ⟨N, 1, none⟩ = some (.slice eA em ec) := vN.out.cell 1
    have kn2 : W3.cell? ⟨N, 2, none⟩ = some (.bool e2) := vN.out.cell 2
    have kn3 : W3.cell? ⟨N, 3, none⟩ = some (.slice eB en ed) := vN.out.cell 3
    have zn := vN.out.lt
    refine wp_thenO (meet_reg19 W3 A C N a1 a2 c1 c2 (b1 - a1) (b2 - a2) e1 e2 eA eB em ec en ed n2 dn ka0 ka1 kc0 kc1 kn0 kn1 kn2 kn3 za zc zn HWr.out.1.1 HWr.out.2.1 HWr.out.1.2.2.1 HWr.out.2.2.2.1 HWr.out.1.2.2.2.2 HWr.out.2.2.2.2.2 X3 rN Q3.out Q1.out _ _ _ _ _ _ _ _ _ _ _ _ _ _ _ _ _ _ _ _ _ _ _ _ _ _ _ _ _ _ _ _ _ _ _ _ _ _ _ _ _ _ _ _ _ _ _ _ _ _ _ _ _ _ _ _ _ _ _ _ _ _ _ _ _ _ _ _ _ _ _ _ _ _ _ _ _ _ _ _ _ _ _ _ _ _ _ _ _ _ _ _ _ _ _ _ _ _ _ _ _ _ _ _ _ _ _ _ _ _ _ _ _ _ _ _ _ _ _ _ _ _ _ _ _ _ _ _ _ _ _ _ _ _ _ _ _ _ _ _ _ _ _ _ _ _ _ _ _ _ _ _ _ _ _ _ _ _ _ _ _ _ _ _ _ _ _ _ _ _ _ _ _ _ _ _ _ _ _ _ _ _ _ _ _ _ _ _) ?_
    rintro a' W4 ⟨S, s1, sA, sm, sc, s2, sB, sn, sd, v126, v127, v128, v129, v130, v131, v132, v133, v134, v135, v136, v137, v138, v139, v140, v141, v142, v143, v144, rfl, vS, rS, hb, hS⟩
    have St := Lib.hid (St.out.keep hb)
    have vT := Lib.hid (vT.out.keep hb)
    have rT := Lib.hid (rT.out.below hb)
    have vS := Lib.hid vS
    have rS := Lib.hid rS
    clear hb hS ka0 ka1 za kb0 kb1 zb kc0 kc1 zc kd0 kd1 zd kn0 kn1 kn2 kn3 zn X3 vN rN HWr
    go_wp2_with fail
    refine (open_q (W1c.out _)).mono ?_
    rintro e W5 ⟨o1, oA, om, oc, o2, oB, on', od, rfl, hn1, hn2, hb⟩
    have St := Lib.hid (St.out.keep hb)
    have vT := Lib.hid (vT.out.keep hb)
    have rT := Lib.hid (rT.out.below hb)
    have vS := Lib.hid (vS.out.keep hb)
    have rS := Lib.hid (rS.out.below hb)
    clear hb W1c
    have hAl : Below W5.heap.size W5 (W5.alloc (.cells #[.bool o1, .slice oA om oc, .bool o2, .slice oB on' od] 53)) := (Below.refl _ _).alloc (Nat.le_refl _) _
    go_wp2_with fail
    refine wp_gen (fun W6 hW => ?_)
    have hb : Below W5.heap.size W5 W6 := by rw [hW]; exact hAl
    obtain ⟨O, hO⟩ : ∃ O, W5.heap.size = O := ⟨_, rfl⟩
    have vO : Hid (Var W6 O 53 #[.bool o1, .slice oA om oc, .bool o2, .slice oB on' od]) := Lib.hid (by rw [hW, ← hO]; exact Var.new _ _ _)
    have rO : Hid (RatAt W6 (.agg #[.bool o1, .slice oA om oc, .bool o2, .slice oB on' od]) (qw 1)) := Lib.hid ((rat_mk (x := qw 1) hn1.out hn2.out).below hb)
    have St := Lib.hid (St.out.keep hb)
    have vT := Lib.hid (vT.out.keep hb)
    have rT := Lib.hid (rT.out.below hb)
    have vS := Lib.hid (vS.out.keep hb)
    have rS := Lib.hid (rS.out.below hb)
    rw [hO, ← HTL.out]
    clear hO hW hb hAl hn1 hn2
    refine Code.wp_mono (fun e a' w' h => by rw [HM.out] at h; exact h) (meet_end w W6 R T S O t1 t2 s1 s2 o1 o2 tA tB sA sB oA oB tm tc tn td sm sc sn sd om oc on' od (qquo n1 dn) (qquo n2 dn) (Lib.hid St.out.bel) hwR (Lib.hid St.out.vr) vT vS vO rT rS rO (Lib.hid (qs_quo Q2.out Q1.out)) (Lib.hid (qs_quo Q3.out Q1.out)) (Lib.hid (fun x y => HD.out x (by omega))) _ _ _ _ _ _ _ _ _ _ _ _ _ _ _ _ _ _ _ _ _ _ _ _ _ _ _ _ _ _ _ _ _ _ _ _ _ _ _ _ _ _ _ _ _ _ _ _ _ _ _ _ _ _ _ _ _ _ _ _ _ _ _ _ _ _ _ _ _ _ _ _ _ _ _ _ _ _ _ _ _ _ _ _ _ _ _ _ _ _ _ _ _ _ _ _ _ _ _ _ _ _ _ _ _ _ _ _ _ _ _ _ _ _ _ _ _ _ _ _ _ _ _ _ _ _ _ _ _ _ _ _ _ _ _ _ _ _ _ _ _ _ _ _ _ _ _ _ _ _ _ _ _ _ _ _ _ _ _ _ _ _ _ _ _ _ _ _ _ _ _ _ _ _ _ _ _ _ _ _ _ _ _ _ _ _ _ _ _)

end Go.Proofs.Ytpjgghakeaajbaa
