/-
  The document's Meet: the two regions that hold the places along both segments against 0 and 1. Printed by wip/tools/gen_meetv.py.
  The document's Meet: its end, where the places along both segments are known. Printed by wip/tools/gen_meett.py.
-/
import Derived.Test.YtpjgghakeaajbaaOneR
namespace Go.Proofs.Ytpjgghakeaajbaa
open Go.RowKit

set_option maxHeartbeats 8000000 in
set_option maxRecDepth 100000 in
theorem meet_reg21 (W : World) (T S O : Nat) (t1 t2 s1 s2 o1 o2 : Bool) (tA tB sA sB oA oB : Option Addr) (tm tc tn td sm sc sn sd om oc on' od : Nat) (st ct ss cs : Int)
    (vT : Hid (Var W T 53 #[.bool t1, .slice tA tm tc, .bool t2, .slice tB tn td]))
    (vS : Hid (Var W S 53 #[.bool s1, .slice sA sm sc, .bool s2, .slice sB sn sd]))
    (vO : Hid (Var W O 53 #[.bool o1, .slice oA om oc, .bool o2, .slice oB on' od]))
    (HT : Hid (∀ W', Below W.heap.size W W' → Calls Try.prog 24 #[.agg #[.bool t1, .slice tA tm tc, .bool t2, .slice tB tn td]] W' fun e w' => e = .returned (.int .i64 st) ∧ Below W'.heap.size W' w'))
    (HTC : Hid (∀ W', Below W.heap.size W W' → Calls Try.prog 27 #[.agg #[.bool t1, .slice tA tm tc, .bool t2, .slice tB tn td], .agg #[.bool o1, .slice oA om oc, .bool o2, .slice oB on' od]] W' fun e w' => e = .returned (.int .i64 ct) ∧ Below W'.heap.size W' w'))
    (HS : Hid (∀ W', Below W.heap.size W W' → Calls Try.prog 24 #[.agg #[.bool s1, .slice sA sm sc, .bool s2, .slice sB sn sd]] W' fun e w' => e = .returned (.int .i64 ss) ∧ Below W'.heap.size W' w'))
    (HSC : Hid (∀ W', Below W.heap.size W W' → Calls Try.prog 27 #[.agg #[.bool s1, .slice sA sm sc, .bool s2, .slice sB sn sd], .agg #[.bool o1, .slice oA om oc, .bool o2, .slice oB on' od]] W' fun e w' => e = .returned (.int .i64 cs) ∧ Below W'.heap.size W' w'))
    (u0 u1 u2 u3 u4 u5 u6 u7 u8 u9 u10 u11 u12 u13 u17 u18 u19 u20 u21 u22 u23 u24 u25 u26 u27 u28 u29 u30 u31 u32 u33 u34 u35 u36 u37 u38 u39 u40 u41 u42 u43 u44 u45 u46 u47 u48 u49 u50 u51 u52 u53 u54 u55 u56 u57 u58 u59 u60 u61 u62 u63 u64 u65 u66 u67 u68 u69 u70 u71 u72 u73 u74 u75 u76 u77 u78 u79 u80 u81 u82 u83 u84 u85 u86 u87 u88 u89 u90 u91 u92 u93 u94 u95 u96 u97 u98 u99 u100 u101 u102 u103 u104 u105 u106 u107 u108 u109 u110 u111 u112 u113 u114 u115 u116 u117 u118 u119 u120 u121 u122 u123 u124 u125 u126 u127 u128 u129 u130 u131 u132 u133 u134 u135 u136 u137 u138 u139 u140 u141 u142 u143 u144 u145 u146 u147 u148 u149 u150 u151 u152 u153 u154 u155 u156 u157 u158 u159 u160 u161 u162 u163 u164 u165 u166 u167 u168 u169 u170 u171 u172 u173 u174 u175 u176 u177 u178 u179 u180 u181 u182 u183 u184 u185 u186 u187 u188 u189 u190 u191 u192 : Value) :
    (regionO Try.f7 21).wp Try.prog (Exit.then (fun a' W' => ∃ v146 v147 v148 v149 v150 v151 v152 v153 v154 v155 v156 v157 v158 v159 v160 v161 v162 v163 v164, a' = { tmps := #[u0, u1, u2, u3, u4, u5, u6, u7, u8, u9, u10, u11, u12, u13, .pointer (some ⟨T, 0, none⟩), .pointer (some ⟨S, 0, none⟩), .pointer (some ⟨O, 0, none⟩), u17, u18, u19, u20, u21, u22, u23, u24, u25, u26, u27, u28, u29, u30, u31, u32, u33, u34, u35, u36, u37, u38, u39, u40, u41, u42, u43, u44, u45, u46, u47, u48, u49, u50, u51, u52, u53, u54, u55, u56, u57, u58, u59, u60, u61, u62, u63, u64, u65, u66, u67, u68, u69, u70, u71, u72, u73, u74, u75, u76, u77, u78, u79, u80, u81, u82, u83, u84, u85, u86, u87, u88, u89, u90, u91, u92, u93, u94, u95, u96, u97, u98, u99, u100, u101, u102, u103, u104, u105, u106, u107, u108, u109, u110, u111, u112, u113, u114, u115, u116, u117, u118, u119, u120, u121, u122, u123, u124, u125, u126, u127, u128, u129, u130, u131, u132, u133, u134, u135, u136, u137, u138, u139, u140, u141, u142, u143, u144, u145, v146, v147, v148, v149, v150, v151, v152, v153, v154, v155, v156, v157, v158, v159, v160, v161, v162, v163, v164, .bool (decide (st < 0 ∨ 0 < ct ∨ ss < 0 ∨ 0 < cs)), u166, u167, u168, u169, u170, u171, u172, u173, u174, u175, u176, u177, u178, u179, u180, u181, u182, u183, u184, u185, u186, u187, u188, u189, u190, u191, u192], defers := [] } ∧ Below W.heap.size W W') (fun _ _ _ => False)) { tmps := #[u0, u1, u2, u3, u4, u5, u6, u7, u8, u9, u10, u11, u12, u13, .pointer (some ⟨T, 0, none⟩), .pointer (some ⟨S, 0, none⟩), .pointer (some ⟨O, 0, none⟩), u17, u18, u19, u20, u21, u22, u23, u24, u25, u26, u27, u28, u29, u30, u31, u32, u33, u34, u35, u36, u37, u38, u39, u40, u41, u42, u43, u44, u45, u46, u47, u48, u49, u50, u51, u52, u53, u54, u55, u56, u57, u58, u59, u60, u61, u62, u63, u64, u65, u66, u67, u68, u69, u70, u71, u72, u73, u74, u75, u76, u77, u78, u79, u80, u81, u82, u83, u84, u85, u86, u87, u88, u89, u90, u91, u92, u93, u94, u95, u96, u97, u98, u99, u100, u101, u102, u103, u104, u105, u106, u107, u108, u109, u110, u111, u112, u113, u114, u115, u116, u117, u118, u119, u120, u121, u122, u123, u124, u125, u126, u127, u128, u129, u130, u131, u132, u133, u134, u135, u136, u137, u138, u139, u140, u141, u142, u143, u144, u145, u146, u147, u148, u149, u150, u151, u152, u153, u154, u155, u156, u157, u158, u159, u160, u161, u162, u163, u164, u165, u166, u167, u168, u169, u170, u171, u172, u173, u174, u175, u176, u177, u178, u179, u180, u181, u182, u183, u184, u185, u186, u187, u188, u189, u190, u191, u192], defers := [] } W := by
  show Code.wp _ (Code.region _ _ _) _ _ _
  obtain ⟨ans, hans⟩ : ∃ z, decide (st < 0 ∨ 0 < ct ∨ ss < 0 ∨ 0 < cs) = z := ⟨_, rfl⟩
  rw [hans]
  have HANS := Lib.hid hans
  clear hans
  have HB := Lib.hid (Below.refl W.heap.size W)
  have kt0 : W.cell? ⟨T, 0, none⟩ = some (.bool t1) := vT.out.cell 0
  have kt1 : W.cell? ⟨T, 1, none⟩ = some (.slice tA tm tc) := vT.out.cell 1
  have kt2 : W.cell? ⟨T, 2, none⟩ = some (.bool t2) := vT.out.cell 2
  have kt3 : W.cell? ⟨T, 3, none⟩ = some (.slice tB tn td) := vT.out.cell 3
  have zt := vT.out.lt
  have ks0 : W.cell? ⟨S, 0, none⟩ = some (.bool s1) := vS.out.cell 0
  have ks1 : W.cell? ⟨S, 1, none⟩ = some (.slice sA sm sc) := vS.out.cell 1
  have ks2 : W.cell? ⟨S, 2, none⟩ = some (.bool s2) := vS.out.cell 2
  have ks3 : W.cell? ⟨S, 3, none⟩ = some (.slice sB sn sd) := vS.out.cell 3
  have zs := vS.out.lt
  have ko0 : W.cell? ⟨O, 0, none⟩ = some (.bool o1) := vO.out.cell 0
  have ko1 : W.cell? ⟨O, 1, none⟩ = some (.slice oA om oc) := vO.out.cell 1
  have ko2 : W.cell? ⟨O, 2, none⟩ = some (.bool o2) := vO.out.cell 2
  have ko3 : W.cell? ⟨O, 3, none⟩ = some (.slice oB on' od) := vO.out.cell 3
  have zo := vO.out.lt
  by_cases h0 : st < 0
  · have q0 : decide (st < 0) = true := by simp [h0]
    have e0 := Lib.hid h0
    clear h0
    go_wp2_with fail
    refine (HT.out _ HB.out).mono ?_
    rintro e w1 ⟨rfl, hb⟩
    have HB := Lib.hid (HB.out.trans (hb.mono HB.out.size))
    have vT := Lib.hid (vT.out.keep hb)
    have vS := Lib.hid (vS.out.keep hb)
    have vO := Lib.hid (vO.out.keep hb)
    clear hb kt0 kt1 kt2 kt3 ks0 ks1 ks2 ks3 ko0 ko1 ko2 ko3 zt zs zo
    have kt0 : w1.cell? ⟨T, 0, none⟩ = some (.bool t1) := vT.out.cell 0
    have kt1 : w1.cell? ⟨T, 1, none⟩ = some (.slice tA tm tc) := vT.out.cell 1
    have kt2 : w1.cell? ⟨T, 2, none⟩ = some (.bool t2) := vT.out.cell 2
    have kt3 : w1.cell? ⟨T, 3, none⟩ = some (.slice tB tn td) := vT.out.cell 3
    have zt := vT.out.lt
    have ks0 : w1.cell? ⟨S, 0, none⟩ = some (.bool s1) := vS.out.cell 0
    have ks1 : w1.cell? ⟨S, 1, none⟩ = some (.slice sA sm sc) := vS.out.cell 1
    have ks2 : w1.cell? ⟨S, 2, none⟩ = some (.bool s2) := vS.out.cell 2
    have ks3 : w1.cell? ⟨S, 3, none⟩ = some (.slice sB sn sd) := vS.out.cell 3
    have zs := vS.out.lt
    have ko0 : w1.cell? ⟨O, 0, none⟩ = some (.bool o1) := vO.out.cell 0
    have ko1 : w1.cell? ⟨O, 1, none⟩ = some (.slice oA om oc) := vO.out.cell 1
    have ko2 : w1.cell? ⟨O, 2, none⟩ = some (.bool o2) := vO.out.cell 2
    have ko3 : w1.cell? ⟨O, 3, none⟩ = some (.slice oB on' od) := vO.out.cell 3
    have zo := vO.out.lt
    obtain rfl : ans = true := HANS.out.symm.trans (decide_eq_true (by have x0 := e0.out; omega))
    go_wp2_with fail
    exact ⟨_, _, _, _, _, _, _, _, _, _, _, _, _, _, _, _, _, _, _, rfl, HB.out⟩
  · have q0 : decide (st < 0) = false := by simp [h0]
    have e0 := Lib.hid h0
    clear h0
    go_wp2_with fail
    refine (HT.out _ HB.out).mono ?_
    rintro e w1 ⟨rfl, hb⟩
    have HB := Lib.hid (HB.out.trans (hb.mono HB.out.size))
    have vT := Lib.hid (vT.out.keep hb)
    have vS := Lib.hid (vS.out.keep hb)
    have vO := Lib.hid (vO.out.keep hb)
    clear hb kt0 kt1 kt2 kt3 ks0 ks1 ks2 ks3 ko0 ko1 ko2 ko3 zt zs zo
    have kt0 : w1.cell? ⟨T, 0, none⟩ = some (.bool t1) := vT.out.cell 0
    have kt1 : w1.cell? ⟨T, 1, none⟩ = some (.slice tA tm tc) := vT.out.cell 1
    have kt2 : w1.cell? ⟨T, 2, none⟩ = some (.bool t2) := vT.out.cell 2
    have kt3 : w1.cell? ⟨T, 3, none⟩ = some (.slice tB tn td) := vT.out.cell 3
    have zt := vT.out.lt
    have ks0 : w1.cell? ⟨S, 0, none⟩ = some (.bool s1) := vS.out.cell 0
    have ks1 : w1.cell? ⟨S, 1, none⟩ = some (.slice sA sm sc) := vS.out.cell 1
    have ks2 : w1.cell? ⟨S, 2, none⟩ = some (.bool s2) := vS.out.cell 2
    have ks3 : w1.cell? ⟨S, 3, none⟩ = some (.slice sB sn sd) := vS.out.cell 3
    have zs := vS.out.lt
    have ko0 : w1.cell? ⟨O, 0, none⟩ = some (.bool o1) := vO.out.cell 0
    have ko1 : w1.cell? ⟨O, 1, none⟩ = some (.slice oA om oc) := vO.out.cell 1
    have ko2 : w1.cell? ⟨O, 2, none⟩ = some (.bool o2) := vO.out.cell 2
    have ko3 : w1.cell? ⟨O, 3, none⟩ = some (.slice oB on' od) := vO.out.cell 3
    have zo := vO.out.lt
    by_cases h1 : 0 < ct
    · have q1 : decide (0 < ct) = true := by simp [h1]
      have e1 := Lib.hid h1
      clear h1
      go_wp2_with fail
      refine (HTC.out _ HB.out).mono ?_
      rintro e w2 ⟨rfl, hb⟩
      have HB := Lib.hid (HB.out.trans (hb.mono HB.out.size))
      have vT := Lib.hid (vT.out.keep hb)
      have vS := Lib.hid (vS.out.keep hb)
      have vO := Lib.hid (vO.out.keep hb)
      clear hb kt0 kt1 kt2 kt3 ks0 ks1 ks2 ks3 ko0 ko1 ko2 ko3 zt zs zo
      have kt0 : w2.cell? ⟨T, 0, none⟩ = some (.bool t1) := vT.out.cell 0
      have kt1 : w2.cell? ⟨T, 1, none⟩ = some (.slice tA tm tc) := vT.out.cell 1
      have kt2 : w2.cell? ⟨T, 2, none⟩ = some (.bool t2) := vT.out.cell 2
      have kt3 : w2.cell? ⟨T, 3, none⟩ = some (.slice tB tn td) := vT.out.cell 3
      have zt := vT.out.lt
      have ks0 : w2.cell? ⟨S, 0, none⟩ = some (.bool s1) := vS.out.cell 0
      have ks1 : w2.cell? ⟨S, 1, none⟩ = some (.slice sA sm sc) := vS.out.cell 1
      have ks2 : w2.cell? ⟨S, 2, none⟩ = some (.bool s2) := vS.out.cell 2
      have ks3 : w2.cell? ⟨S, 3, none⟩ = some (.slice sB sn sd) := vS.out.cell 3
      have zs := vS.out.lt
      have ko0 : w2.cell? ⟨O, 0, none⟩ = some (.bool o1) := vO.out.cell 0
      have ko1 : w2.cell? ⟨O, 1, none⟩ = some (.slice oA om oc) := vO.out.cell 1
      have ko2 : w2.cell? ⟨O, 2, none⟩ = some (.bool o2) := vO.out.cell 2
      have ko3 : w2.cell? ⟨O, 3, none⟩ = some (.slice oB on' od) := vO.out.cell 3
      have zo := vO.out.lt
      obtain rfl : ans = true := HANS.out.symm.trans (decide_eq_true (by have x0 := e0.out; have x1 := e1.out; omega))
      go_wp2_with fail
      exact ⟨_, _, _, _, _, _, _, _, _, _, _, _, _, _, _, _, _, _, _, rfl, HB.out⟩
    · have q1 : decide (0 < ct) = false := by simp [h1]
      have e1 := Lib.hid h1
      clear h1
      go_wp2_with fail
      refine (HTC.out _ HB.out).mono ?_
      rintro e w2 ⟨rfl, hb⟩
      have HB := Lib.hid (HB.out.trans (hb.mono HB.out.size))
      have vT := Lib.hid (vT.out.keep hb)
      have vS := Lib.hid (vS.out.keep hb)
      have vO := Lib.hid (vO.out.keep hb)
      clear hb kt0 kt1 kt2 kt3 ks0 ks1 ks2 ks3 ko0 ko1 ko2 ko3 zt zs zo
      have kt0 : w2.cell? ⟨T, 0, none⟩ = some (.bool t1) := vT.out.cell 0
      have kt1 : w2.cell? ⟨T, 1, none⟩ = some (.slice tA tm tc) := vT.out.cell 1
      have kt2 : w2.cell? ⟨T, 2, none⟩ = some (.bool t2) := vT.out.cell 2
      have kt3 : w2.cell? ⟨T, 3, none⟩ = some (.slice tB tn td) := vT.out.cell 3
      have zt := vT.out.lt
      have ks0 : w2.cell? ⟨S, 0, none⟩ = some (.bool s1) := vS.out.cell 0
      have ks1 : w2.cell? ⟨S, 1, none⟩ = some (.slice sA sm sc) := vS.out.cell 1
      have ks2 : w2.cell? ⟨S, 2, none⟩ = some (.bool s2) := vS.out.cell 2
      have ks3 : w2.cell? ⟨S, 3, none⟩ = some (.slice sB sn sd) := vS.out.cell 3
      have zs := vS.out.lt
      have ko0 : w2.cell? ⟨O, 0, none⟩ = some (.bool o1) := vO.out.cell 0
      have ko1 : w2.cell? ⟨O, 1, none⟩ = some (.slice oA om oc) := vO.out.cell 1
      have ko2 : w2.cell? ⟨O, 2, none⟩ = some (.bool o2) := vO.out.cell 2
      have ko3 : w2.cell? ⟨O, 3, none⟩ = some (.slice oB on' od) := vO.out.cell 3
      have zo := vO.out.lt
      by_cases h2 : ss < 0
      · have q2 : decide (ss < 0) = true := by simp [h2]
        have e2 := Lib.hid h2
        clear h2
        go_wp2_with fail
        refine (HS.out _ HB.out).mono ?_
        rintro e w3 ⟨rfl, hb⟩
        have HB := Lib.hid (HB.out.trans (hb.mono HB.out.size))
        have vT := Lib.hid (vT.out.keep hb)
        have vS := Lib.hid (vS.out.keep hb)
        have vO := Lib.hid (vO.out.keep hb)
        clear hb kt0 kt1 kt2 kt3 ks0 ks1 ks2 ks3 ko0 ko1 ko2 ko3 zt zs zo
        have kt0 : w3.cell? ⟨T, 0, none⟩ = some (.bool t1) := vT.out.cell 0
        have kt1 : w3.cell? ⟨T, 1, none⟩ = some (.slice tA tm tc) := vT.out.cell 1
        have kt2 : w3.cell? ⟨T, 2, none⟩ = some (.bool t2) := vT.out.cell 2
        have kt3 : w3.cell? ⟨T, 3, none⟩ = some (.slice tB tn td) := vT.out.cell 3
        have zt := vT.out.lt
        have ks0 : w3.cell? ⟨S, 0, none⟩ = some (.bool s1) := vS.out.cell 0
        have ks1 : w3.cell? ⟨S, 1, none⟩ = some (.slice sA sm sc) := vS.out.cell 1
        have ks2 : w3.cell? ⟨S, 2, none⟩ = some (.bool s2) := vS.out.cell 2
        have ks3 : w3.cell? ⟨S, 3, none⟩ = some (.slice sB sn sd) := vS.out.cell 3
        have zs := vS.out.lt
        have ko0 : w3.cell? ⟨O, 0, none⟩ = some (.bool o1) := vO.out.cell 0
        have ko1 : w3.cell? ⟨O, 1, none⟩ = some (.slice oA om oc) := vO.out.cell 1
        have ko2 : w3.cell? ⟨O, 2, none⟩ = some (.bool o2) := vO.out.cell 2
        have ko3 : w3.cell? ⟨O, 3, none⟩ = some (.slice oB on' od) := vO.out.cell 3
        have zo := vO.out.lt
        obtain rfl : ans = true := HANS.out.symm.trans (decide_eq_true (by have x0 := e0.out; have x1 := e1.out; have x2 := e2.out; omega))
        go_wp2_with fail
        exact ⟨_, _, _, _, _, _, _, _, _, _, _, _, _, _, _, _, _, _, _, rfl, HB.out⟩
      · have q2 : decide (ss < 0) = false := by simp [h2]
        have e2 := Lib.hid h2
        clear h2
        go_wp2_with fail
        refine (HS.out _ HB.out).mono ?_
        rintro e w3 ⟨rfl, hb⟩
        have HB := Lib.hid (HB.out.trans (hb.mono HB.out.size))
        have vT := Lib.hid (vT.out.keep hb)
        have vS := Lib.hid (vS.out.keep hb)
        have vO := Lib.hid (vO.out.keep hb)
        clear hb kt0 kt1 kt2 kt3 ks0 ks1 ks2 ks3 ko0 ko1 ko2 ko3 zt zs zo
        have kt0 : w3.cell? ⟨T, 0, none⟩ = some (.bool t1) := vT.out.cell 0
        have kt1 : w3.cell? ⟨T, 1, none⟩ = some (.slice tA tm tc) := vT.out.cell 1
        have kt2 : w3.cell? ⟨T, 2, none⟩ = some (.bool t2) := vT.out.cell 2
        have kt3 : w3.cell? ⟨T, 3, none⟩ = some (.slice tB tn td) := vT.out.cell 3
        have zt := vT.out.lt
        have ks0 : w3.cell? ⟨S, 0, none⟩ = some (.bool s1) := vS.out.cell 0
        have ks1 : w3.cell? ⟨S, 1, none⟩ = some (.slice sA sm sc) := vS.out.cell 1
        have ks2 : w3.cell? ⟨S, 2, none⟩ = some (.bool s2) := vS.out.cell 2
        have ks3 : w3.cell? ⟨S, 3, none⟩ = some (.slice sB sn sd) := vS.out.cell 3
        have zs := vS.out.lt
        have ko0 : w3.cell? ⟨O, 0, none⟩ = some (.bool o1) := vO.out.cell 0
        have ko1 : w3.cell? ⟨O, 1, none⟩ = some (.slice oA om oc) := vO.out.cell 1
        have ko2 : w3.cell? ⟨O, 2, none⟩ = some (.bool o2) := vO.out.cell 2
        have ko3 : w3.cell? ⟨O, 3, none⟩ = some (.slice oB on' od) := vO.out.cell 3
        have zo := vO.out.lt
        by_cases h3 : 0 < cs
        · have q3 : decide (0 < cs) = true := by simp [h3]
          have e3 := Lib.hid h3
          clear h3
          go_wp2_with fail
          refine (HSC.out _ HB.out).mono ?_
          rintro e w4 ⟨rfl, hb⟩
          have HB := Lib.hid (HB.out.trans (hb.mono HB.out.size))
          have vT := Lib.hid (vT.out.keep hb)
          have vS := Lib.hid (vS.out.keep hb)
          have vO := Lib.hid (vO.out.keep hb)
          clear hb kt0 kt1 kt2 kt3 ks0 ks1 ks2 ks3 ko0 ko1 ko2 ko3 zt zs zo
          have kt0 : w4.cell? ⟨T, 0, none⟩ = some (.bool t1) := vT.out.cell 0
          have kt1 : w4.cell? ⟨T, 1, none⟩ = some (.slice tA tm tc) := vT.out.cell 1
          have kt2 : w4.cell? ⟨T, 2, none⟩ = some (.bool t2) := vT.out.cell 2
          have kt3 : w4.cell? ⟨T, 3, none⟩ = some (.slice tB tn td) := vT.out.cell 3
          have zt := vT.out.lt
          have ks0 : w4.cell? ⟨S, 0, none⟩ = some (.bool s1) := vS.out.cell 0
          have ks1 : w4.cell? ⟨S, 1, none⟩ = some (.slice sA sm sc) := vS.out.cell 1
          have ks2 : w4.cell? ⟨S, 2, none⟩ = some (.bool s2) := vS.out.cell 2
          have ks3 : w4.cell? ⟨S, 3, none⟩ = some (.slice sB sn sd) := vS.out.cell 3
          have zs := vS.out.lt
          have ko0 : w4.cell? ⟨O, 0, none⟩ = some (.bool o1) := vO.out.cell 0
          have ko1 : w4.cell? ⟨O, 1, none⟩ = some (.slice oA om oc) := vO.out.cell 1
          have ko2 : w4.cell? ⟨O, 2, none⟩ = some (.bool o2) := vO.out.cell 2
          have ko3 : w4.cell? ⟨O, 3, none⟩ = some (.slice oB on' od) := vO.out.cell 3
          have zo := vO.out.lt
          obtain rfl : ans = true := HANS.out.symm.trans (decide_eq_true (by have x0 := e0.out; have x1 := e1.out; have x2 := e2.out; have x3 := e3.out; omega))
          go_wp2_with fail
          exact ⟨_, _, _, _, _, _, _, _, _, _, _, _, _, _, _, _, _, _, _, rfl, HB.out⟩
        · have q3 : decide (0 < cs) = false := by simp [h3]
          have e3 := Lib.hid h3
          clear h3
          go_wp2_with fail
          refine (HSC.out _ HB.out).mono ?_
          rintro e w4 ⟨rfl, hb⟩
          have HB := Lib.hid (HB.out.trans (hb.mono HB.out.size))
          have vT := Lib.hid (vT.out.keep hb)
          have vS := Lib.hid (vS.out.keep hb)
          have vO := Lib.hid (vO.out.keep hb)
          clear hb kt0 kt1 kt2 kt3 ks0 ks1 ks2 ks3 ko0 ko1 ko2 ko3 zt zs zo
          have kt0 : w4.cell? ⟨T, 0, none⟩ = some (.bool t1) := vT.out.cell 0
          have kt1 : w4.cell? ⟨T, 1, none⟩ = some (.slice tA tm tc) := vT.out.cell 1
          have kt2 : w4.cell? ⟨T, 2, none⟩ = some (.bool t2) := vT.out.cell 2
          have kt3 : w4.cell? ⟨T, 3, none⟩ = some (.slice tB tn td) := vT.out.cell 3
          have zt := vT.out.lt
          have ks0 : w4.cell? ⟨S, 0, none⟩ = some (.bool s1) := vS.out.cell 0
          have ks1 : w4.cell? ⟨S, 1, none⟩ = some (.slice sA sm sc) := vS.out.cell 1
          have ks2 : w4.cell? ⟨S, 2, none⟩ = some (.bool s2) := vS.out.cell 2
          have ks3 : w4.cell? ⟨S, 3, none⟩ = some (.slice sB sn sd) := vS.out.cell 3
          have zs := vS.out.lt
          have ko0 : w4.cell? ⟨O, 0, none⟩ = some (.bool o1) := vO.out.cell 0
          have ko1 : w4.cell? ⟨O, 1, none⟩ = some (.slice oA om oc) := vO.out.cell 1
          have ko2 : w4.cell? ⟨O, 2, none⟩ = some (.bool o2) := vO.out.cell 2
          have ko3 : w4.cell? ⟨O, 3, none⟩ = some (.slice oB on' od) := vO.out.cell 3
          have zo := vO.out.lt
          obtain rfl : ans = false := HANS.out.symm.trans (decide_eq_false (by have x0 := e0.out; have x1 := e1.out; have x2 := e2.out; have x3 := e3.out; omega))
          go_wp2_with fail
          exact ⟨_, _, _, _, _, _, _, _, _, _, _, _, _, _, _, _, _, _, _, rfl, HB.out⟩

set_option maxHeartbeats 8000000 in
set_option maxRecDepth 100000 in
theorem meet_reg23 (W : World) (T S O : Nat) (t1 t2 s1 s2 o1 o2 : Bool) (tA tB sA sB oA oB : Option Addr) (tm tc tn td sm sc sn sd om oc on' od : Nat) (st ct ss cs : Int)
    (vT : Hid (Var W T 53 #[.bool t1, .slice tA tm tc, .bool t2, .slice tB tn td]))
    (vS : Hid (Var W S 53 #[.bool s1, .slice sA sm sc, .bool s2, .slice sB sn sd]))
    (vO : Hid (Var W O 53 #[.bool o1, .slice oA om oc, .bool o2, .slice oB on' od]))
    (HT : Hid (∀ W', Below W.heap.size W W' → Calls Try.prog 24 #[.agg #[.bool t1, .slice tA tm tc, .bool t2, .slice tB tn td]] W' fun e w' => e = .returned (.int .i64 st) ∧ Below W'.heap.size W' w'))
    (HTC : Hid (∀ W', Below W.heap.size W W' → Calls Try.prog 27 #[.agg #[.bool t1, .slice tA tm tc, .bool t2, .slice tB tn td], .agg #[.bool o1, .slice oA om oc, .bool o2, .slice oB on' od]] W' fun e w' => e = .returned (.int .i64 ct) ∧ Below W'.heap.size W' w'))
    (HS : Hid (∀ W', Below W.heap.size W W' → Calls Try.prog 24 #[.agg #[.bool s1, .slice sA sm sc, .bool s2, .slice sB sn sd]] W' fun e w' => e = .returned (.int .i64 ss) ∧ Below W'.heap.size W' w'))
    (HSC : Hid (∀ W', Below W.heap.size W W' → Calls Try.prog 27 #[.agg #[.bool s1, .slice sA sm sc, .bool s2, .slice sB sn sd], .agg #[.bool o1, .slice oA om oc, .bool o2, .slice oB on' od]] W' fun e w' => e = .returned (.int .i64 cs) ∧ Below W'.heap.size W' w'))
    (u0 u1 u2 u3 u4 u5 u6 u7 u8 u9 u10 u11 u12 u13 u17 u18 u19 u20 u21 u22 u23 u24 u25 u26 u27 u28 u29 u30 u31 u32 u33 u34 u35 u36 u37 u38 u39 u40 u41 u42 u43 u44 u45 u46 u47 u48 u49 u50 u51 u52 u53 u54 u55 u56 u57 u58 u59 u60 u61 u62 u63 u64 u65 u66 u67 u68 u69 u70 u71 u72 u73 u74 u75 u76 u77 u78 u79 u80 u81 u82 u83 u84 u85 u86 u87 u88 u89 u90 u91 u92 u93 u94 u95 u96 u97 u98 u99 u100 u101 u102 u103 u104 u105 u106 u107 u108 u109 u110 u111 u112 u113 u114 u115 u116 u117 u118 u119 u120 u121 u122 u123 u124 u125 u126 u127 u128 u129 u130 u131 u132 u133 u134 u135 u136 u137 u138 u139 u140 u141 u142 u143 u144 u145 u146 u147 u148 u149 u150 u151 u152 u153 u154 u155 u156 u157 u158 u159 u160 u161 u162 u163 u164 u165 u166 u167 u168 u169 u170 u171 u172 u173 u174 u175 u176 u177 u178 u179 u180 u181 u182 u183 u184 u185 u186 u187 u188 u189 u190 u191 u192 : Value) :
    (regionO Try.f7 23).wp Try.prog (Exit.then (fun a' W' => ∃ v167 v168 v169 v170 v171 v172 v173 v174 v175 v176 v177 v178 v179 v180 v181 v182 v183 v184 v185 v186, a' = { tmps := #[u0, u1, u2, u3, u4, u5, u6, u7, u8, u9, u10, u11, u12, u13, .pointer (some ⟨T, 0, none⟩), .pointer (some ⟨S, 0, none⟩), .pointer (some ⟨O, 0, none⟩), .bool (decide (0 < st ∧ ct < 0 ∧ 0 < ss ∧ cs < 0)), u18, u19, u20, u21, u22, u23, u24, u25, u26, u27, u28, u29, u30, u31, u32, u33, u34, u35, u36, u37, u38, u39, u40, u41, u42, u43, u44, u45, u46, u47, u48, u49, u50, u51, u52, u53, u54, u55, u56, u57, u58, u59, u60, u61, u62, u63, u64, u65, u66, u67, u68, u69, u70, u71, u72, u73, u74, u75, u76, u77, u78, u79, u80, u81, u82, u83, u84, u85, u86, u87, u88, u89, u90, u91, u92, u93, u94, u95, u96, u97, u98, u99, u100, u101, u102, u103, u104, u105, u106, u107, u108, u109, u110, u111, u112, u113, u114, u115, u116, u117, u118, u119, u120, u121, u122, u123, u124, u125, u126, u127, u128, u129, u130, u131, u132, u133, u134, u135, u136, u137, u138, u139, u140, u141, u142, u143, u144, u145, u146, u147, u148, u149, u150, u151, u152, u153, u154, u155, u156, u157, u158, u159, u160, u161, u162, u163, u164, u165, u166, v167, v168, v169, v170, v171, v172, v173, v174, v175, v176, v177, v178, v179, v180, v181, v182, v183, v184, v185, v186, u187, u188, u189, u190, u191, u192], defers := [] } ∧ Below W.heap.size W W') (fun _ _ _ => False)) { tmps := #[u0, u1, u2, u3, u4, u5, u6, u7, u8, u9, u10, u11, u12, u13, .pointer (some ⟨T, 0, none⟩), .pointer (some ⟨S, 0, none⟩), .pointer (some ⟨O, 0, none⟩), u17, u18, u19, u20, u21, u22, u23, u24, u25, u26, u27, u28, u29, u30, u31, u32, u33, u34, u35, u36, u37, u38, u39, u40, u41, u42, u43, u44, u45, u46, u47, u48, u49, u50, u51, u52, u53, u54, u55, u56, u57, u58, u59, u60, u61, u62, u63, u64, u65, u66, u67, u68, u69, u70, u71, u72, u73, u74, u75, u76, u77, u78, u79, u80, u81, u82, u83, u84, u85, u86, u87, u88, u89, u90, u91, u92, u93, u94, u95, u96, u97, u98, u99, u100, u101, u102, u103, u104, u105, u106, u107, u108, u109, u110, u111, u112, u113, u114, u115, u116, u117, u118, u119, u120, u121, u122, u123, u124, u125, u126, u127, u128, u129, u130, u131, u132, u133, u134, u135, u136, u137, u138, u139, u140, u141, u142, u143, u144, u145, u146, u147, u148, u149, u150, u151, u152, u153, u154, u155, u156, u157, u158, u159, u160, u161, u162, u163, u164, u165, u166, u167, u168, u169, u170, u171, u172, u173, u174, u175, u176, u177, u178, u179, u180, u181, u182, u183, u184, u185, u186, u187, u188, u189, u190, u191, u192], defers := [] } W := by
  show Code.wp _ (Code.region _ _ _) _ _ _
  obtain ⟨ans, hans⟩ : ∃ z, decide (0 < st ∧ ct < 0 ∧ 0 < ss ∧ cs < 0) = z := ⟨_, rfl⟩
  rw [hans]
  have HANS := Lib.hid hans
  clear hans
  have HB := Lib.hid (Below.refl W.heap.size W)
  have kt0 : W.cell? ⟨T, 0, none⟩ = some (.bool t1) := vT.out.cell 0
  have kt1 : W.cell? ⟨T, 1, none⟩ = some (.slice tA tm tc) := vT.out.cell 1
  have kt2 : W.cell? ⟨T, 2, none⟩ = some (.bool t2) := vT.out.cell 2
  have kt3 : W.cell? ⟨T, 3, none⟩ = some (.slice tB tn td) := vT.out.cell 3
  have zt := vT.out.lt
  have ks0 : W.cell? ⟨S, 0, none⟩ = some (.bool s1) := vS.out.cell 0
  have ks1 : W.cell? ⟨S, 1, none⟩ = some (.slice sA sm sc) := vS.out.cell 1
  have ks2 : W.cell? ⟨S, 2, none⟩ = some (.bool s2) := vS.out.cell 2
  have ks3 : W.cell? ⟨S, 3, none⟩ = some (.slice sB sn sd) := vS.out.cell 3
  have zs := vS.out.lt
  have ko0 : W.cell? ⟨O, 0, none⟩ = some (.bool o1) := vO.out.cell 0
  have ko1 : W.cell? ⟨O, 1, none⟩ = some (.slice oA om oc) := vO.out.cell 1
  have ko2 : W.cell? ⟨O, 2, none⟩ = some (.bool o2) := vO.out.cell 2
  have ko3 : W.cell? ⟨O, 3, none⟩ = some (.slice oB on' od) := vO.out.cell 3
  have zo := vO.out.lt
  by_cases h0 : 0 < st
  · have q0 : decide (0 < st) = true := by simp [h0]
    have e0 := Lib.hid h0
    clear h0
    go_wp2_with fail
    refine (HT.out _ HB.out).mono ?_
    rintro e w1 ⟨rfl, hb⟩
    have HB := Lib.hid (HB.out.trans (hb.mono HB.out.size))
    have vT := Lib.hid (vT.out.keep hb)
    have vS := Lib.hid (vS.out.keep hb)
    have vO := Lib.hid (vO.out.keep hb)
    clear hb kt0 kt1 kt2 kt3 ks0 ks1 ks2 ks3 ko0 ko1 ko2 ko3 zt zs zo
    have kt0 : w1.cell? ⟨T, 0, none⟩ = some (.bool t1) := vT.out.cell 0
    have kt1 : w1.cell? ⟨T, 1, none⟩ = some (.slice tA tm tc) := vT.out.cell 1
    have kt2 : w1.cell? ⟨T, 2, none⟩ = some (.bool t2) := vT.out.cell 2
    have kt3 : w1.cell? ⟨T, 3, none⟩ = some (.slice tB tn td) := vT.out.cell 3
    have zt := vT.out.lt
    have ks0 : w1.cell? ⟨S, 0, none⟩ = some (.bool s1) := vS.out.cell 0
    have ks1 : w1.cell? ⟨S, 1, none⟩ = some (.slice sA sm sc) := vS.out.cell 1
    have ks2 : w1.cell? ⟨S, 2, none⟩ = some (.bool s2) := vS.out.cell 2
    have ks3 : w1.cell? ⟨S, 3, none⟩ = some (.slice sB sn sd) := vS.out.cell 3
    have zs := vS.out.lt
    have ko0 : w1.cell? ⟨O, 0, none⟩ = some (.bool o1) := vO.out.cell 0
    have ko1 : w1.cell? ⟨O, 1, none⟩ = some (.slice oA om oc) := vO.out.cell 1
    have ko2 : w1.cell? ⟨O, 2, none⟩ = some (.bool o2) := vO.out.cell 2
    have ko3 : w1.cell? ⟨O, 3, none⟩ = some (.slice oB on' od) := vO.out.cell 3
    have zo := vO.out.lt
    by_cases h1 : ct < 0
    · have q1 : decide (ct < 0) = true := by simp [h1]
      have e1 := Lib.hid h1
      clear h1
      go_wp2_with fail
      refine (HTC.out _ HB.out).mono ?_
      rintro e w2 ⟨rfl, hb⟩
      have HB := Lib.hid (HB.out.trans (hb.mono HB.out.size))
      have vT := Lib.hid (vT.out.keep hb)
      have vS := Lib.hid (vS.out.keep hb)
      have vO := Lib.hid (vO.out.keep hb)
      clear hb kt0 kt1 kt2 kt3 ks0 ks1 ks2 ks3 ko0 ko1 ko2 ko3 zt zs zo
      have kt0 : w2.cell? ⟨T, 0, none⟩ = some (.bool t1) := vT.out.cell 0
      have kt1 : w2.cell? ⟨T, 1, none⟩ = some (.slice tA tm tc) := vT.out.cell 1
      have kt2 : w2.cell? ⟨T, 2, none⟩ = some (.bool t2) := vT.out.cell 2
      have kt3 : w2.cell? ⟨T, 3, none⟩ = some (.slice tB tn td) := vT.out.cell 3
      have zt := vT.out.lt
      have ks0 : w2.cell? ⟨S, 0, none⟩ = some (.bool s1) := vS.out.cell 0
      have ks1 : w2.cell? ⟨S, 1, none⟩ = some (.slice sA sm sc) := vS.out.cell 1
      have ks2 : w2.cell? ⟨S, 2, none⟩ = some (.bool s2) := vS.out.cell 2
      have ks3 : w2.cell? ⟨S, 3, none⟩ = some (.slice sB sn sd) := vS.out.cell 3
      have zs := vS.out.lt
      have ko0 : w2.cell? ⟨O, 0, none⟩ = some (.bool o1) := vO.out.cell 0
      have ko1 : w2.cell? ⟨O, 1, none⟩ = some (.slice oA om oc) := vO.out.cell 1
      have ko2 : w2.cell? ⟨O, 2, none⟩ = some (.bool o2) := vO.out.cell 2
      have ko3 : w2.cell? ⟨O, 3, none⟩ = some (.slice oB on' od) := vO.out.cell 3
      have zo := vO.out.lt
      by_cases h2 : 0 < ss
      · have q2 : decide (0 < ss) = true := by simp [h2]
        have e2 := Lib.hid h2
        clear h2
        go_wp2_with fail
        refine (HS.out _ HB.out).mono ?_
        rintro e w3 ⟨rfl, hb⟩
        have HB := Lib.hid (HB.out.trans (hb.mono HB.out.size))
        have vT := Lib.hid (vT.out.keep hb)
        have vS := Lib.hid (vS.out.keep hb)
        have vO := Lib.hid (vO.out.keep hb)
        clear hb kt0 kt1 kt2 kt3 ks0 ks1 ks2 ks3 ko0 ko1 ko2 ko3 zt zs zo
        have kt0 : w3.cell? ⟨T, 0, none⟩ = some (.bool t1) := vT.out.cell 0
        have kt1 : w3.cell? ⟨T, 1, none⟩ = some (.slice tA tm tc) := vT.out.cell 1
        have kt2 : w3.cell? ⟨T, 2, none⟩ = some (.bool t2) := vT.out.cell 2
        have kt3 : w3.cell? ⟨T, 3, none⟩ = some (.slice tB tn td) := vT.out.cell 3
        have zt := vT.out.lt
        have ks0 : w3.cell? ⟨S, 0, none⟩ = some (.bool s1) := vS.out.cell 0
        have ks1 : w3.cell? ⟨S, 1, none⟩ = some (.slice sA sm sc) := vS.out.cell 1
        have ks2 : w3.cell? ⟨S, 2, none⟩ = some (.bool s2) := vS.out.cell 2
        have ks3 : w3.cell? ⟨S, 3, none⟩ = some (.slice sB sn sd) := vS.out.cell 3
        have zs := vS.out.lt
        have ko0 : w3.cell? ⟨O, 0, none⟩ = some (.bool o1) := vO.out.cell 0
        have ko1 : w3.cell? ⟨O, 1, none⟩ = some (.slice oA om oc) := vO.out.cell 1
        have ko2 : w3.cell? ⟨O, 2, none⟩ = some (.bool o2) := vO.out.cell 2
        have ko3 : w3.cell? ⟨O, 3, none⟩ = some (.slice oB on' od) := vO.out.cell 3
        have zo := vO.out.lt
        by_cases h3 : cs < 0
        · have q3 : decide (cs < 0) = true := by simp [h3]
          have e3 := Lib.hid h3
          clear h3
          go_wp2_with fail
          refine (HSC.out _ HB.out).mono ?_
          rintro e w4 ⟨rfl, hb⟩
          have HB := Lib.hid (HB.out.trans (hb.mono HB.out.size))
          have vT := Lib.hid (vT.out.keep hb)
          have vS := Lib.hid (vS.out.keep hb)
          have vO := Lib.hid (vO.out.keep hb)
          clear hb kt0 kt1 kt2 kt3 ks0 ks1 ks2 ks3 ko0 ko1 ko2 ko3 zt zs zo
          have kt0 : w4.cell? ⟨T, 0, none⟩ = some (.bool t1) := vT.out.cell 0
          have kt1 : w4.cell? ⟨T, 1, none⟩ = some (.slice tA tm tc) := vT.out.cell 1
          have kt2 : w4.cell? ⟨T, 2, none⟩ = some (.bool t2) := vT.out.cell 2
          have kt3 : w4.cell? ⟨T, 3, none⟩ = some (.slice tB tn td) := vT.out.cell 3
          have zt := vT.out.lt
          have ks0 : w4.cell? ⟨S, 0, none⟩ = some (.bool s1) := vS.out.cell 0
          have ks1 : w4.cell? ⟨S, 1, none⟩ = some (.slice sA sm sc) := vS.out.cell 1
          have ks2 : w4.cell? ⟨S, 2, none⟩ = some (.bool s2) := vS.out.cell 2
          have ks3 : w4.cell? ⟨S, 3, none⟩ = some (.slice sB sn sd) := vS.out.cell 3
          have zs := vS.out.lt
          have ko0 : w4.cell? ⟨O, 0, none⟩ = some (.bool o1) := vO.out.cell 0
          have ko1 : w4.cell? ⟨O, 1, none⟩ = some (.slice oA om oc) := vO.out.cell 1
          have ko2 : w4.cell? ⟨O, 2, none⟩ = some (.bool o2) := vO.out.cell 2
          have ko3 : w4.cell? ⟨O, 3, none⟩ = some (.slice oB on' od) := vO.out.cell 3
          have zo := vO.out.lt
          obtain rfl : ans = true := HANS.out.symm.trans (decide_eq_true (by have x0 := e0.out; have x1 := e1.out; have x2 := e2.out; have x3 := e3.out; omega))
          go_wp2_with fail
          exact ⟨_, _, _, _, _, _, _, _, _, _, _, _, _, _, _, _, _, _, _, _, rfl, HB.out⟩
        · have q3 : decide (cs < 0) = false := by simp [h3]
          have e3 := Lib.hid h3
          clear h3
          go_wp2_with fail
          refine (HSC.out _ HB.out).mono ?_
          rintro e w4 ⟨rfl, hb⟩
          have HB := Lib.hid (HB.out.trans (hb.mono HB.out.size))
          have vT := Lib.hid (vT.out.keep hb)
          have vS := Lib.hid (vS.out.keep hb)
          have vO := Lib.hid (vO.out.keep hb)
          clear hb kt0 kt1 kt2 kt3 ks0 ks1 ks2 ks3 ko0 ko1 ko2 ko3 zt zs zo
          have kt0 : w4.cell? ⟨T, 0, none⟩ = some (.bool t1) := vT.out.cell 0
          have kt1 : w4.cell? ⟨T, 1, none⟩ = some (.slice tA tm tc) := vT.out.cell 1
          have kt2 : w4.cell? ⟨T, 2, none⟩ = some (.bool t2) := vT.out.cell 2
          have kt3 : w4.cell? ⟨T, 3, none⟩ = some (.slice tB tn td) := vT.out.cell 3
          have zt := vT.out.lt
          have ks0 : w4.cell? ⟨S, 0, none⟩ = some (.bool s1) := vS.out.cell 0
          have ks1 : w4.cell? ⟨S, 1, none⟩ = some (.slice sA sm sc) := vS.out.cell 1
          have ks2 : w4.cell? ⟨S, 2, none⟩ = some (.bool s2) := vS.out.cell 2
          have ks3 : w4.cell? ⟨S, 3, none⟩ = some (.slice sB sn sd) := vS.out.cell 3
          have zs := vS.out.lt
          have ko0 : w4.cell? ⟨O, 0, none⟩ = some (.bool o1) := vO.out.cell 0
          have ko1 : w4.cell? ⟨O, 1, none⟩ = some (.slice oA om oc) := vO.out.cell 1
          have ko2 : w4.cell? ⟨O, 2, none⟩ = some (.bool o2) := vO.out.cell 2
          have ko3 : w4.cell? ⟨O, 3, none⟩ = some (.slice oB on' od) := vO.out.cell 3
          have zo := vO.out.lt
          obtain rfl : ans = false := HANS.out.symm.trans (decide_eq_false (by have x0 := e0.out; have x1 := e1.out; have x2 := e2.out; have x3 := e3.out; omega))
          go_wp2_with fail
          exact ⟨_, _, _, _, _, _, _, _, _, _, _, _, _, _, _, _, _, _, _, _, rfl, HB.out⟩
      · have q2 : decide (0 < ss) = false := by simp [h2]
        have e2 := Lib.hid h2
        clear h2
        go_wp2_with fail
        refine (HS.out _ HB.out).mono ?_
        rintro e w3 ⟨rfl, hb⟩
        have HB := Lib.hid (HB.out.trans (hb.mono HB.out.size))
        have vT := Lib.hid (vT.out.keep hb)
        have vS := Lib.hid (vS.out.keep hb)
        have vO := Lib.hid (vO.out.keep hb)
        clear hb kt0 kt1 kt2 kt3 ks0 ks1 ks2 ks3 ko0 ko1 ko2 ko3 zt zs zo
        have kt0 : w3.cell? ⟨T, 0, none⟩ = some (.bool t1) := vT.out.cell 0
        have kt1 : w3.cell? ⟨T, 1, none⟩ = some (.slice tA tm tc) := vT.out.cell 1
        have kt2 : w3.cell? ⟨T, 2, none⟩ = some (.bool t2) := vT.out.cell 2
        have kt3 : w3.cell? ⟨T, 3, none⟩ = some (.slice tB tn td) := vT.out.cell 3
        have zt := vT.out.lt
        have ks0 : w3.cell? ⟨S, 0, none⟩ = some (.bool s1) := vS.out.cell 0
        have ks1 : w3.cell? ⟨S, 1, none⟩ = some (.slice sA sm sc) := vS.out.cell 1
        have ks2 : w3.cell? ⟨S, 2, none⟩ = some (.bool s2) := vS.out.cell 2
        have ks3 : w3.cell? ⟨S, 3, none⟩ = some (.slice sB sn sd) := vS.out.cell 3
        have zs := vS.out.lt
        have ko0 : w3.cell? ⟨O, 0, none⟩ = some (.bool o1) := vO.out.cell 0
        have ko1 : w3.cell? ⟨O, 1, none⟩ = some (.slice oA om oc) := vO.out.cell 1
        have ko2 : w3.cell? ⟨O, 2, none⟩ = some (.bool o2) := vO.out.cell 2
        have ko3 : w3.cell? ⟨O, 3, none⟩ = some (.slice oB on' od) := vO.out.cell 3
        have zo := vO.out.lt
        obtain rfl : ans = false := HANS.out.symm.trans (decide_eq_false (by have x0 := e0.out; have x1 := e1.out; have x2 := e2.out; omega))
        go_wp2_with fail
        exact ⟨_, _, _, _, _, _, _, _, _, _, _, _, _, _, _, _, _, _, _, _, rfl, HB.out⟩
    · have q1 : decide (ct < 0) = false := by simp [h1]
      have e1 := Lib.hid h1
      clear h1
      go_wp2_with fail
      refine (HTC.out _ HB.out).mono ?_
      rintro e w2 ⟨rfl, hb⟩
      have HB := Lib.hid (HB.out.trans (hb.mono HB.out.size))
      have vT := Lib.hid (vT.out.keep hb)
      have vS := Lib.hid (vS.out.keep hb)
      have vO := Lib.hid (vO.out.keep hb)
      clear hb kt0 kt1 kt2 kt3 ks0 ks1 ks2 ks3 ko0 ko1 ko2 ko3 zt zs zo
      have kt0 : w2.cell? ⟨T, 0, none⟩ = some (.bool t1) := vT.out.cell 0
      have kt1 : w2.cell? ⟨T, 1, none⟩ = some (.slice tA tm tc) := vT.out.cell 1
      have kt2 : w2.cell? ⟨T, 2, none⟩ = some (.bool t2) := vT.out.cell 2
      have kt3 : w2.cell? ⟨T, 3, none⟩ = some (.slice tB tn td) := vT.out.cell 3
      have zt := vT.out.lt
      have ks0 : w2.cell? ⟨S, 0, none⟩ = some (.bool s1) := vS.out.cell 0
      have ks1 : w2.cell? ⟨S, 1, none⟩ = some (.slice sA sm sc) := vS.out.cell 1
      have ks2 : w2.cell? ⟨S, 2, none⟩ = some (.bool s2) := vS.out.cell 2
      have ks3 : w2.cell? ⟨S, 3, none⟩ = some (.slice sB sn sd) := vS.out.cell 3
      have zs := vS.out.lt
      have ko0 : w2.cell? ⟨O, 0, none⟩ = some (.bool o1) := vO.out.cell 0
      have ko1 : w2.cell? ⟨O, 1, none⟩ = some (.slice oA om oc) := vO.out.cell 1
      have ko2 : w2.cell? ⟨O, 2, none⟩ = some (.bool o2) := vO.out.cell 2
      have ko3 : w2.cell? ⟨O, 3, none⟩ = some (.slice oB on' od) := vO.out.cell 3
      have zo := vO.out.lt
      obtain rfl : ans = false := HANS.out.symm.trans (decide_eq_false (by have x0 := e0.out; have x1 := e1.out; omega))
      go_wp2_with fail
      exact ⟨_, _, _, _, _, _, _, _, _, _, _, _, _, _, _, _, _, _, _, _, rfl, HB.out⟩
  · have q0 : decide (0 < st) = false := by simp [h0]
    have e0 := Lib.hid h0
    clear h0
    go_wp2_with fail
    refine (HT.out _ HB.out).mono ?_
    rintro e w1 ⟨rfl, hb⟩
    have HB := Lib.hid (HB.out.trans (hb.mono HB.out.size))
    have vT := Lib.hid (vT.out.keep hb)
    have vS := Lib.hid (vS.out.keep hb)
    have vO := Lib.hid (vO.out.keep hb)
    clear hb kt0 kt1 kt2 kt3 ks0 ks1 ks2 ks3 ko0 ko1 ko2 ko3 zt zs zo
    have kt0 : w1.cell? ⟨T, 0, none⟩ = some (.bool t1) := vT.out.cell 0
    have kt1 : w1.cell? ⟨T, 1, none⟩ = some (.slice tA tm tc) := vT.out.cell 1
    have kt2 : w1.cell? ⟨T, 2, none⟩ = some (.bool t2) := vT.out.cell 2
    have kt3 : w1.cell? ⟨T, 3, none⟩ = some (.slice tB tn td) := vT.out.cell 3
    have zt := vT.out.lt
    have ks0 : w1.cell? ⟨S, 0, none⟩ = some (.bool s1) := vS.out.cell 0
    have ks1 : w1.cell? ⟨S, 1, none⟩ = some (.slice sA sm sc) := vS.out.cell 1
    have ks2 : w1.cell? ⟨S, 2, none⟩ = some (.bool s2) := vS.out.cell 2
    have ks3 : w1.cell? ⟨S, 3, none⟩ = some (.slice sB sn sd) := vS.out.cell 3
    have zs := vS.out.lt
    have ko0 : w1.cell? ⟨O, 0, none⟩ = some (.bool o1) := vO.out.cell 0
    have ko1 : w1.cell? ⟨O, 1, none⟩ = some (.slice oA om oc) := vO.out.cell 1
    have ko2 : w1.cell? ⟨O, 2, none⟩ = some (.bool o2) := vO.out.cell 2
    have ko3 : w1.cell? ⟨O, 3, none⟩ = some (.slice oB on' od) := vO.out.cell 3
    have zo := vO.out.lt
    obtain rfl : ans = false := HANS.out.symm.trans (decide_eq_false (by have x0 := e0.out; omega))
    go_wp2_with fail
    exact ⟨_, _, _, _, _, _, _, _, _, _, _, _, _, _, _, _, _, _, _, _, rfl, HB.out⟩

/-- What follows the first n parts of a sequence. -/
def dropO : Nat → Code → Code
  | 0, c => c
  | n + 1, .seq _ b => dropO n b
  | _ + 1, c => c
def tailO (f : Func) (n : Nat) : Code := dropO n (f.body.getD .skip)
/-- How two segments that are not of one line meet, as the document has it: by the places along them. -/
def meetTS (t s : Q) : Mt :=
  if t.1 < 0 ∨ 0 < qcmp t (qw 1) ∨ s.1 < 0 ∨ 0 < qcmp s (qw 1) then mt0
  else ⟨1, decide (0 < t.1 ∧ qcmp t (qw 1) < 0 ∧ 0 < s.1 ∧ qcmp s (qw 1) < 0), fr t.1 t.2, fr t.1 t.2⟩
theorem cmpI_lt0 {a : Int} : cmpI a 0 < 0 ↔ a < 0 := cmpI_neg'
theorem cmpI_gt0 {a : Int} : 0 < cmpI a 0 ↔ 0 < a := cmpI_gt
theorem meetTS_is (t s : Q) : meetTS t s = if cmpI t.1 0 < 0 ∨ 0 < qcmp t (qw 1) ∨ cmpI s.1 0 < 0 ∨ 0 < qcmp s (qw 1) then mt0
  else ⟨1, decide (0 < cmpI t.1 0 ∧ qcmp t (qw 1) < 0 ∧ 0 < cmpI s.1 0 ∧ qcmp s (qw 1) < 0), fr t.1 t.2, fr t.1 t.2⟩ := by
  unfold meetTS
  simp only [cmpI_lt0, cmpI_gt0]

set_option maxHeartbeats 8000000 in
set_option maxRecDepth 100000 in
theorem meet_end (w W : World) (R T S O : Nat) (t1 t2 s1 s2 o1 o2 : Bool) (tA tB sA sB oA oB : Option Addr) (tm tc tn td sm sc sn sd om oc on' od : Nat) (t s : Q)
    (HBW : Hid (Below w.heap.size w W)) (hwR : w.heap.size ≤ R) (vR : Hid (Var W R 30 #[.int .u8 0, .bool false, .int .i64 0, .int .i64 0, .int .i64 0, .int .i64 0]))
    (vT : Hid (Var W T 53 #[.bool t1, .slice tA tm tc, .bool t2, .slice tB tn td]))
    (vS : Hid (Var W S 53 #[.bool s1, .slice sA sm sc, .bool s2, .slice sB sn sd]))
    (vO : Hid (Var W O 53 #[.bool o1, .slice oA om oc, .bool o2, .slice oB on' od]))
    (rT : Hid (RatAt W (.agg #[.bool t1, .slice tA tm tc, .bool t2, .slice tB tn td]) t)) (rS : Hid (RatAt W (.agg #[.bool s1, .slice sA sm sc, .bool s2, .slice sB sn sd]) s)) (rO : Hid (RatAt W (.agg #[.bool o1, .slice oA om oc, .bool o2, .slice oB on' od]) (qw 1))) (Kt : Hid (QS 18 t)) (Ks : Hid (QS 18 s)) (Ft : Hid (0 ≤ t.1 → ¬ 0 < qcmp t (qw 1) → t.1 ≤ 9223372036854775807 ∧ 0 < t.2 ∧ t.2 ≤ 9223372036854775807))
    (u0 u1 u2 u3 u4 u5 u6 u7 u9 u10 u11 u12 u13 u17 u18 u19 u20 u21 u22 u23 u24 u25 u26 u27 u28 u29 u30 u31 u32 u33 u34 u35 u36 u37 u38 u39 u40 u41 u42 u43 u44 u45 u46 u47 u48 u49 u50 u51 u52 u53 u54 u55 u56 u57 u58 u59 u60 u61 u62 u63 u64 u65 u66 u67 u68 u69 u70 u71 u72 u73 u74 u75 u76 u77 u78 u79 u80 u81 u82 u83 u84 u85 u86 u87 u88 u89 u90 u91 u92 u93 u94 u95 u96 u97 u98 u99 u100 u101 u102 u103 u104 u105 u106 u107 u108 u109 u110 u111 u112 u113 u114 u115 u116 u117 u118 u119 u120 u121 u122 u123 u124 u125 u126 u127 u128 u129 u130 u131 u132 u133 u134 u135 u136 u137 u138 u139 u140 u141 u142 u143 u144 u145 u146 u147 u148 u149 u150 u151 u152 u153 u154 u155 u156 u157 u158 u159 u160 u161 u162 u163 u164 u165 u166 u167 u168 u169 u170 u171 u172 u173 u174 u175 u176 u177 u178 u179 u180 u181 u182 u183 u184 u185 u186 u187 u188 u189 u190 u191 u192 : Value) :
    (tailO Try.f7 14).wp Try.prog (fun e a' w' => e = .ret ∧ a'.defers = [] ∧ (results Try.f7 a'.tmps).run Try.prog w' = .ok (MtV (meetTS t s)) w' ∧ Below w.heap.size w w') { tmps := #[u0, u1, u2, u3, u4, u5, u6, u7, .pointer (some ⟨R, 0, none⟩), u9, u10, u11, u12, u13, .pointer (some ⟨T, 0, none⟩), .pointer (some ⟨S, 0, none⟩), .pointer (some ⟨O, 0, none⟩), u17, u18, u19, u20, u21, u22, u23, u24, u25, u26, u27, u28, u29, u30, u31, u32, u33, u34, u35, u36, u37, u38, u39, u40, u41, u42, u43, u44, u45, u46, u47, u48, u49, u50, u51, u52, u53, u54, u55, u56, u57, u58, u59, u60, u61, u62, u63, u64, u65, u66, u67, u68, u69, u70, u71, u72, u73, u74, u75, u76, u77, u78, u79, u80, u81, u82, u83, u84, u85, u86, u87, u88, u89, u90, u91, u92, u93, u94, u95, u96, u97, u98, u99, u100, u101, u102, u103, u104, u105, u106, u107, u108, u109, u110, u111, u112, u113, u114, u115, u116, u117, u118, u119, u120, u121, u122, u123, u124, u125, u126, u127, u128, u129, u130, u131, u132, u133, u134, u135, u136, u137, u138, u139, u140, u141, u142, u143, u144, u145, u146, u147, u148, u149, u150, u151, u152, u153, u154, u155, u156, u157, u158, u159, u160, u161, u162, u163, u164, u165, u166, u167, u168, u169, u170, u171, u172, u173, u174, u175, u176, u177, u178, u179, u180, u181, u182, u183, u184, u185, u186, u187, u188, u189, u190, u191, u192], defers := [] } W := by
  have HM := Lib.hid (meetTS_is t s)
  have C1 : Hid (∀ W', Below W.heap.size W W' → Calls Try.prog 24 #[.agg #[.bool t1, .slice tA tm tc, .bool t2, .slice tB tn td]] W' fun e w' => e = .returned (.int .i64 (cmpI t.1 0)) ∧ Below W'.heap.size W' w') := Lib.hid (fun W' h => sign_q rT.out Kt.out (by omega) W' h)
  have C2 : Hid (∀ W', Below W.heap.size W W' → Calls Try.prog 27 #[.agg #[.bool t1, .slice tA tm tc, .bool t2, .slice tB tn td], .agg #[.bool o1, .slice oA om oc, .bool o2, .slice oB on' od]] W' fun e w' => e = .returned (.int .i64 (qcmp t (qw 1))) ∧ Below W'.heap.size W' w') := Lib.hid (fun W' h => cmp_q rT.out rO.out Kt.out (qs4_1.mono (by omega)) (by omega) W' h)
  have C3 : Hid (∀ W', Below W.heap.size W W' → Calls Try.prog 24 #[.agg #[.bool s1, .slice sA sm sc, .bool s2, .slice sB sn sd]] W' fun e w' => e = .returned (.int .i64 (cmpI s.1 0)) ∧ Below W'.heap.size W' w') := Lib.hid (fun W' h => sign_q rS.out Ks.out (by omega) W' h)
  have C4 : Hid (∀ W', Below W.heap.size W W' → Calls Try.prog 27 #[.agg #[.bool s1, .slice sA sm sc, .bool s2, .slice sB sn sd], .agg #[.bool o1, .slice oA om oc, .bool o2, .slice oB on' od]] W' fun e w' => e = .returned (.int .i64 (qcmp s (qw 1))) ∧ Below W'.heap.size W' w') := Lib.hid (fun W' h => cmp_q rS.out rO.out Ks.out (qs4_1.mono (by omega)) (by omega) W' h)
  have CF : Hid (0 ≤ t.1 → ¬ 0 < qcmp t (qw 1) → ∀ W', Below W.heap.size W W' → Calls Try.prog 28 #[.agg #[.bool t1, .slice tA tm tc, .bool t2, .slice tB tn td]] W' fun e w' => e = .returned (.agg #[.int .i64 (fr t.1 t.2).1, .int .i64 (fr t.1 t.2).2]) ∧ Below W'.heap.size W' w') := Lib.hid (fun h0 h1 W' h => frac_q rT.out Kt.out (by omega) ⟨h0, (Ft.out h0 h1).1⟩ (Ft.out h0 h1).2 W' h)
  have HP : Hid (¬ cmpI t.1 0 < 0 → 0 ≤ t.1) := Lib.hid (fun h => by have := @cmpI_lt0 t.1; omega)
  clear Ft Kt Ks rT rS rO
  obtain ⟨M, hM⟩ : ∃ M, meetTS t s = M := ⟨_, rfl⟩
  rw [hM] at HM ⊢
  clear hM
  obtain ⟨st, hst⟩ : ∃ z, cmpI t.1 0 = z := ⟨_, rfl⟩
  obtain ⟨ss, hss⟩ : ∃ z, cmpI s.1 0 = z := ⟨_, rfl⟩
  obtain ⟨ct, hct⟩ : ∃ z, qcmp t (qw 1) = z := ⟨_, rfl⟩
  obtain ⟨cs, hcs⟩ : ∃ z, qcmp s (qw 1) = z := ⟨_, rfl⟩
  obtain ⟨⟨f1, f2⟩, hf⟩ : ∃ z, fr t.1 t.2 = z := ⟨_, rfl⟩
  rw [hst] at HM C1 HP
  rw [hss] at HM C3
  rw [hct] at HM C2 CF
  rw [hcs] at HM C4
  rw [hf] at HM CF
  clear hst hss hct hcs hf
  dsimp only at CF
  by_cases hno : st < 0 ∨ 0 < ct ∨ ss < 0 ∨ 0 < cs
  · have Hd := Lib.hid (decide_eq_true hno)
    rw [if_pos hno] at HM
    clear hno CF HP
    rw [HM.out]
    unfold MtV mt0
    dsimp only
    show Code.wp _ (Code.seq (Code.seq (Code.region _ _ _) (Code.cond _ _ _)) _) _ _ _
    go_upto_region 21 with fail
    refine wp_thenO (meet_reg21 W T S O t1 t2 s1 s2 o1 o2 tA tB sA sB oA oB tm tc tn td sm sc sn sd om oc on' od st ct ss cs vT vS vO C1 C2 C3 C4 _ _ _ _ _ _ _ _ _ _ _ _ _ _ _ _ _ _ _ _ _ _ _ _ _ _ _ _ _ _ _ _ _ _ _ _ _ _ _ _ _ _ _ _ _ _ _ _ _ _ _ _ _ _ _ _ _ _ _ _ _ _ _ _ _ _ _ _ _ _ _ _ _ _ _ _ _ _ _ _ _ _ _ _ _ _ _ _ _ _ _ _ _ _ _ _ _ _ _ _ _ _ _ _ _ _ _ _ _ _ _ _ _ _ _ _ _ _ _ _ _ _ _ _ _ _ _ _ _ _ _ _ _ _ _ _ _ _ _ _ _ _ _ _ _ _ _ _ _ _ _ _ _ _ _ _ _ _ _ _ _ _ _ _ _ _ _ _ _ _ _ _ _ _ _ _ _ _ _ _ _ _ _ _ _ _ _ _ _ _) ?_
    rintro a' W1 ⟨v146, v147, v148, v149, v150, v151, v152, v153, v154, v155, v156, v157, v158, v159, v160, v161, v162, v163, v164, rfl, hb⟩
    rw [Hd.out]
    have HB := Lib.hid hb
    have HBW := Lib.hid (HBW.out.trans (hb.mono HBW.out.size))
    have vR := Lib.hid (vR.out.keep hb)
    have vT := Lib.hid (vT.out.keep hb)
    have vS := Lib.hid (vS.out.keep hb)
    have vO := Lib.hid (vO.out.keep hb)
    clear hb
    clear C1 C2 C3 C4 HB
    have zR := vR.out.lt
    have kr0 : W1.cell? ⟨R, 0, none⟩ = some (.int .u8 0) := vR.out.cell 0
    have kr1 : W1.cell? ⟨R, 1, none⟩ = some (.bool false) := vR.out.cell 1
    have kr2 : W1.cell? ⟨R, 2, none⟩ = some (.int .i64 0) := vR.out.cell 2
    have kr3 : W1.cell? ⟨R, 3, none⟩ = some (.int .i64 0) := vR.out.cell 3
    have kr4 : W1.cell? ⟨R, 4, none⟩ = some (.int .i64 0) := vR.out.cell 4
    have kr5 : W1.cell? ⟨R, 5, none⟩ = some (.int .i64 0) := vR.out.cell 5
    have gr0 := vR.out.free 0
    have gr1 := vR.out.free 1
    have gr2 := vR.out.free 2
    have gr3 := vR.out.free 3
    have gr4 := vR.out.free 4
    have gr5 := vR.out.free 5
    go_wp2_with fail
    refine ⟨by simp [results, Try.results7, go_sem, *]; done, one_below HBW.out hwR _ _ _ _ _ _⟩
  · have Hd := Lib.hid (decide_eq_false hno)
    rw [if_neg hno] at HM
    have CG := Lib.hid (CF.out (HP.out (fun h => hno (Or.inl h))) (fun h => hno (Or.inr (Or.inl h))))
    clear hno HP CF
    obtain ⟨inn, hin⟩ : ∃ z, decide (0 < st ∧ ct < 0 ∧ 0 < ss ∧ cs < 0) = z := ⟨_, rfl⟩
    rw [hin] at HM
    have HIN := Lib.hid hin
    clear hin
    rw [HM.out]
    unfold MtV
    dsimp only
    show Code.wp _ (Code.seq (Code.seq (Code.region _ _ _) (Code.cond _ _ _)) _) _ _ _
    go_upto_region 21 with fail
    refine wp_thenO (meet_reg21 W T S O t1 t2 s1 s2 o1 o2 tA tB sA sB oA oB tm tc tn td sm sc sn sd om oc on' od st ct ss cs vT vS vO C1 C2 C3 C4 _ _ _ _ _ _ _ _ _ _ _ _ _ _ _ _ _ _ _ _ _ _ _ _ _ _ _ _ _ _ _ _ _ _ _ _ _ _ _ _ _ _ _ _ _ _ _ _ _ _ _ _ _ _ _ _ _ _ _ _ _ _ _ _ _ _ _ _ _ _ _ _ _ _ _ _ _ _ _ _ _ _ _ _ _ _ _ _ _ _ _ _ _ _ _ _ _ _ _ _ _ _ _ _ _ _ _ _ _ _ _ _ _ _ _ _ _ _ _ _ _ _ _ _ _ _ _ _ _ _ _ _ _ _ _ _ _ _ _ _ _ _ _ _ _ _ _ _ _ _ _ _ _ _ _ _ _ _ _ _ _ _ _ _ _ _ _ _ _ _ _ _ _ _ _ _ _ _ _ _ _ _ _ _ _ _ _ _ _ _) ?_
    rintro a' W1 ⟨v146, v147, v148, v149, v150, v151, v152, v153, v154, v155, v156, v157, v158, v159, v160, v161, v162, v163, v164, rfl, hb⟩
    rw [Hd.out]
    have HB := Lib.hid hb
    have HBW := Lib.hid (HBW.out.trans (hb.mono HBW.out.size))
    have vR := Lib.hid (vR.out.keep hb)
    have vT := Lib.hid (vT.out.keep hb)
    have vS := Lib.hid (vS.out.keep hb)
    have vO := Lib.hid (vO.out.keep hb)
    clear hb
    go_upto_region 23 with fail
    refine wp_thenO (meet_reg23 W1 T S O t1 t2 s1 s2 o1 o2 tA tB sA sB oA oB tm tc tn td sm sc sn sd om oc on' od st ct ss cs vT vS vO (Lib.hid (fun W' h => C1.out W' (HB.out.trans (h.mono HB.out.size)))) (Lib.hid (fun W' h => C2.out W' (HB.out.trans (h.mono HB.out.size)))) (Lib.hid (fun W' h => C3.out W' (HB.out.trans (h.mono HB.out.size)))) (Lib.hid (fun W' h => C4.out W' (HB.out.trans (h.mono HB.out.size)))) _ _ _ _ _ _ _ _ _ _ _ _ _ _ _ _ _ _ _ _ _ _ _ _ _ _ _ _ _ _ _ _ _ _ _ _ _ _ _ _ _ _ _ _ _ _ _ _ _ _ _ _ _ _ _ _ _ _ _ _ _ _ _ _ _ _ _ _ _ _ _ _ _ _ _ _ _ _ _ _ _ _ _ _ _ _ _ _ _ _ _ _ _ _ _ _ _ _ _ _ _ _ _ _ _ _ _ _ _ _ _ _ _ _ _ _ _ _ _ _ _ _ _ _ _ _ _ _ _ _ _ _ _ _ _ _ _ _ _ _ _ _ _ _ _ _ _ _ _ _ _ _ _ _ _ _ _ _ _ _ _ _ _ _ _ _ _ _ _ _ _ _ _ _ _ _ _ _ _ _ _ _ _ _ _ _ _ _ _ _) ?_
    rintro a' W2 ⟨v167, v168, v169, v170, v171, v172, v173, v174, v175, v176, v177, v178, v179, v180, v181, v182, v183, v184, v185, v186, rfl, hb⟩
    rw [HIN.out]
    have HB := Lib.hid (HB.out.trans (hb.mono HB.out.size))
    have HBW := Lib.hid (HBW.out.trans (hb.mono HBW.out.size))
    have vR := Lib.hid (vR.out.keep hb)
    have vT := Lib.hid (vT.out.keep hb)
    have vS := Lib.hid (vS.out.keep hb)
    have vO := Lib.hid (vO.out.keep hb)
    clear hb C1 C2 C3 C4
    have kt0 : W2.cell? ⟨T, 0, none⟩ = some (.bool t1) := vT.out.cell 0
    have kt1 : W2.cell? ⟨T, 1, none⟩ = some (.slice tA tm tc) := vT.out.cell 1
    have kt2 : W2.cell? ⟨T, 2, none⟩ = some (.bool t2) := vT.out.cell 2
    have kt3 : W2.cell? ⟨T, 3, none⟩ = some (.slice tB tn td) := vT.out.cell 3
    have zt := vT.out.lt
    go_wp2_with fail
    refine (CG.out _ HB.out).mono ?_
    rintro e W3 ⟨rfl, hb⟩
    have HBW := Lib.hid (HBW.out.trans (hb.mono HBW.out.size))
    have vR := Lib.hid (vR.out.keep hb)
    have vT := Lib.hid (vT.out.keep hb)
    have vS := Lib.hid (vS.out.keep hb)
    have vO := Lib.hid (vO.out.keep hb)
    clear hb CG HB kt0 kt1 kt2 kt3 zt
    have zR := vR.out.lt
    have kr0 : W3.cell? ⟨R, 0, none⟩ = some (.int .u8 0) := vR.out.cell 0
    have kr1 : W3.cell? ⟨R, 1, none⟩ = some (.bool false) := vR.out.cell 1
    have kr2 : W3.cell? ⟨R, 2, none⟩ = some (.int .i64 0) := vR.out.cell 2
    have kr3 : W3.cell? ⟨R, 3, none⟩ = some (.int .i64 0) := vR.out.cell 3
    have kr4 : W3.cell? ⟨R, 4, none⟩ = some (.int .i64 0) := vR.out.cell 4
    have kr5 : W3.cell? ⟨R, 5, none⟩ = some (.int .i64 0) := vR.out.cell 5
    have gr0 := vR.out.free 0
    have gr1 := vR.out.free 1
    have gr2 := vR.out.free 2
    have gr3 := vR.out.free 3
    have gr4 := vR.out.free 4
    have gr5 := vR.out.free 5
    go_wp2_with fail
    refine ⟨by simp [results, Try.results7, go_sem, *]; done, Below.alloc (one_below HBW.out hwR _ _ _ _ _ _) (one_below HBW.out hwR _ _ _ _ _ _).size _⟩

end Go.Proofs.Ytpjgghakeaajbaa
