/-
  The law WireLays' last region (printed by gen_layse.py).
-/
import Derived.Test.YtiejgandjlldjaaLaysM
namespace Go.Proofs.Ytiejgandjlldjaa
open Go.RowKit

/-- The regions of a body, in the order of the text. -/
def regs : Code → List Code
  | .region id ops d => [.region id ops d]
  | .seq a b => regs a ++ regs b
  | .cond _ a b => regs a ++ regs b
  | .block _ b => regs b
  | .loop b => regs b
  | .rangeFunc _ _ a b => regs a ++ regs b
  | .scope b => regs b
  | _ => []
def regionAt (f : Func) (k : Nat) : Code := (((f.body.map regs).getD [])[k]?).getD .skip

/-- What the last region leaves. -/
def LaysEnd (wk : World) (O P : Nat) (Aa At : Option Addr) (ca ct : Nat) (al tl : List UInt8) (u0 u1 u2 u3 u4 u5 u8 u10 u11 u12 u15 u16 u17 u18 u19 u20 u21 u22 u23 u24 u25 u26 u27 u28 u29 u30 u31 u32 u33 u34 u35 u36 u37 u38 u39 u40 u41 u42 u43 u44 u45 u46 u47 u48 u49 u50 u51 u52 u53 u54 u55 u56 u57 u58 u59 u60 u61 u62 u63 u64 u65 u66 u67 u68 u69 u70 u71 u72 u73 u74 u75 u76 u77 u78 u79 u80 u81 u82 u83 u84 u85 u86 u87 u88 u89 u90 u91 u92 u93 u94 u95 u96 u97 u98 u99 u100 u101 u102 u103 u104 u105 u106 u107 u108 u109 u110 u111 u112 u113 u114 u115 u116 u117 u118 u119 u120 u121 u122 u123 u124 u125 u126 u127 u128 u129 u130 u131 u132 u133 u134 u135 u136 u137 u138 u139 u140 u141 u142 u143 u144 u145 u146 u147 u148 u149 u150 u151 u152 u153 u154 u155 u156 u157 u158 u159 u160 u161 u162 u163 u164 u165 u166 u167 u168 u169 u170 u171 u172 u173 u174 u175 u176 u177 u178 u179 u180 u181 u182 u183 u184 u185 u186 u187 u188 u189 u190 u191 u192 u193 u194 u195 u196 u197 u198 u199 u200 u201 u202 u203 u204 u205 u206 u207 u208 : Value) (a' : Act) (w' : World) : Prop :=
  (∃ v209 v210 v211 v212 v213 v214 v215 v216 v217 v218 v219 v220 v221 v222 v223 v224 v225 v226 v227 v228 v229 v230 v231 v232 v233 v234 v235 v236 v237 v238 v239, a' = { tmps := #[u0, u1, u2, u3, u4, u5, .bool true, .pointer (some ⟨O, 0, none⟩), u8, .slice Aa al.length ca, u10, u11, u12, .pointer (some ⟨P, 0, none⟩), .slice At tl.length ct, u15, u16, u17, u18, u19, u20, u21, u22, u23, u24, u25, u26, u27, u28, u29, u30, u31, u32, u33, u34, u35, u36, u37, u38, u39, u40, u41, u42, u43, u44, u45, u46, u47, u48, u49, u50, u51, u52, u53, u54, u55, u56, u57, u58, u59, u60, u61, u62, u63, u64, u65, u66, u67, u68, u69, u70, u71, u72, u73, u74, u75, u76, u77, u78, u79, u80, u81, u82, u83, u84, u85, u86, u87, u88, u89, u90, u91, u92, u93, u94, u95, u96, u97, u98, u99, u100, u101, u102, u103, u104, u105, u106, u107, u108, u109, u110, u111, u112, u113, u114, u115, u116, u117, u118, u119, u120, u121, u122, u123, u124, u125, u126, u127, u128, u129, u130, u131, u132, u133, u134, u135, u136, u137, u138, u139, u140, u141, u142, u143, u144, u145, u146, u147, u148, u149, u150, u151, u152, u153, u154, u155, u156, u157, u158, u159, u160, u161, u162, u163, u164, u165, u166, u167, u168, u169, u170, u171, u172, u173, u174, u175, u176, u177, u178, u179, u180, u181, u182, u183, u184, u185, u186, u187, u188, u189, u190, u191, u192, u193, u194, u195, u196, u197, u198, u199, u200, u201, u202, u203, u204, u205, u206, u207, u208, v209, v210, v211, v212, v213, v214, v215, v216, v217, v218, v219, v220, v221, v222, v223, v224, v225, v226, v227, v228, v229, v230, v231, v232, v233, v234, v235, v236, v237, v238, v239], defers := [] }) ∧ Below wk.heap.size wk w'

theorem bytes_app (l k : List UInt8) : (⟨l.toArray⟩ : ByteArray) ++ (⟨k.toArray⟩ : ByteArray) = ⟨(l ++ k).toArray⟩ := by
  apply ByteArray.ext
  simp
set_option maxRecDepth 100000 in
set_option maxHeartbeats 4000000 in
theorem lays_end (wk wr : World) (O P M : Nat) (Aa At : Option Addr) (ca ct : Nat) (al tl bl : List UInt8) (hB : Below wk.heap.size wk wr) (ha : Bs wk Aa al.length ca al) (ht : Bs wk At tl.length ct tl)
    (hlen : al.length + tl.length ≤ 140737488355328) (hbln : bl.length = al.length + M) (hbl : ∀ x, al[0]? = some x → bl[0]? = some x)
    (FB : Hid (∀ W, Below wk.heap.size wk W → Calls Try.prog 18 #[.pointer (some ⟨P, 0, none⟩)] W fun e w' => ∃ A' c', e = .returned (.slice A' (al.length + tl.length) c') ∧ Fresh W w' A' (al.length + tl.length) c' (al ++ tl) ∧ Below W.heap.size W w'))
    (FO : Hid (∀ W, Below wk.heap.size wk W → Calls Try.prog 18 #[.pointer (some ⟨O, 0, none⟩)] W fun e w' => ∃ A' c', e = .returned (.slice A' (al.length + M) c') ∧ Fresh W w' A' (al.length + M) c' bl ∧ (al.length + M = 0 → c' = 0) ∧ Below W.heap.size W w'))
    (FL : Hid (∀ W, Below wk.heap.size wk W → Calls Try.prog 19 #[.pointer (some ⟨O, 0, none⟩)] W fun e w' => e = .returned (.int .i64 ((al.length : Int) + (M : Int))) ∧ Below W.heap.size W w'))
    (u0 u1 u2 u3 u4 u5 u8 u10 u11 u12 u15 u16 u17 u18 u19 u20 u21 u22 u23 u24 u25 u26 u27 u28 u29 u30 u31 u32 u33 u34 u35 u36 u37 u38 u39 u40 u41 u42 u43 u44 u45 u46 u47 u48 u49 u50 u51 u52 u53 u54 u55 u56 u57 u58 u59 u60 u61 u62 u63 u64 u65 u66 u67 u68 u69 u70 u71 u72 u73 u74 u75 u76 u77 u78 u79 u80 u81 u82 u83 u84 u85 u86 u87 u88 u89 u90 u91 u92 u93 u94 u95 u96 u97 u98 u99 u100 u101 u102 u103 u104 u105 u106 u107 u108 u109 u110 u111 u112 u113 u114 u115 u116 u117 u118 u119 u120 u121 u122 u123 u124 u125 u126 u127 u128 u129 u130 u131 u132 u133 u134 u135 u136 u137 u138 u139 u140 u141 u142 u143 u144 u145 u146 u147 u148 u149 u150 u151 u152 u153 u154 u155 u156 u157 u158 u159 u160 u161 u162 u163 u164 u165 u166 u167 u168 u169 u170 u171 u172 u173 u174 u175 u176 u177 u178 u179 u180 u181 u182 u183 u184 u185 u186 u187 u188 u189 u190 u191 u192 u193 u194 u195 u196 u197 u198 u199 u200 u201 u202 u203 u204 u205 u206 u207 u208 u6 : Value) :
    (regionAt Try.f5 44).wp Try.prog (fun e a' w' => e = .normal ∧ LaysEnd wk O P Aa At ca ct al tl u0 u1 u2 u3 u4 u5 u8 u10 u11 u12 u15 u16 u17 u18 u19 u20 u21 u22 u23 u24 u25 u26 u27 u28 u29 u30 u31 u32 u33 u34 u35 u36 u37 u38 u39 u40 u41 u42 u43 u44 u45 u46 u47 u48 u49 u50 u51 u52 u53 u54 u55 u56 u57 u58 u59 u60 u61 u62 u63 u64 u65 u66 u67 u68 u69 u70 u71 u72 u73 u74 u75 u76 u77 u78 u79 u80 u81 u82 u83 u84 u85 u86 u87 u88 u89 u90 u91 u92 u93 u94 u95 u96 u97 u98 u99 u100 u101 u102 u103 u104 u105 u106 u107 u108 u109 u110 u111 u112 u113 u114 u115 u116 u117 u118 u119 u120 u121 u122 u123 u124 u125 u126 u127 u128 u129 u130 u131 u132 u133 u134 u135 u136 u137 u138 u139 u140 u141 u142 u143 u144 u145 u146 u147 u148 u149 u150 u151 u152 u153 u154 u155 u156 u157 u158 u159 u160 u161 u162 u163 u164 u165 u166 u167 u168 u169 u170 u171 u172 u173 u174 u175 u176 u177 u178 u179 u180 u181 u182 u183 u184 u185 u186 u187 u188 u189 u190 u191 u192 u193 u194 u195 u196 u197 u198 u199 u200 u201 u202 u203 u204 u205 u206 u207 u208 a' w') { tmps := #[u0, u1, u2, u3, u4, u5, u6, .pointer (some ⟨O, 0, none⟩), u8, .slice Aa al.length ca, u10, u11, u12, .pointer (some ⟨P, 0, none⟩), .slice At tl.length ct, u15, u16, u17, u18, u19, u20, u21, u22, u23, u24, u25, u26, u27, u28, u29, u30, u31, u32, u33, u34, u35, u36, u37, u38, u39, u40, u41, u42, u43, u44, u45, u46, u47, u48, u49, u50, u51, u52, u53, u54, u55, u56, u57, u58, u59, u60, u61, u62, u63, u64, u65, u66, u67, u68, u69, u70, u71, u72, u73, u74, u75, u76, u77, u78, u79, u80, u81, u82, u83, u84, u85, u86, u87, u88, u89, u90, u91, u92, u93, u94, u95, u96, u97, u98, u99, u100, u101, u102, u103, u104, u105, u106, u107, u108, u109, u110, u111, u112, u113, u114, u115, u116, u117, u118, u119, u120, u121, u122, u123, u124, u125, u126, u127, u128, u129, u130, u131, u132, u133, u134, u135, u136, u137, u138, u139, u140, u141, u142, u143, u144, u145, u146, u147, u148, u149, u150, u151, u152, u153, u154, u155, u156, u157, u158, u159, u160, u161, u162, u163, u164, u165, u166, u167, u168, u169, u170, u171, u172, u173, u174, u175, u176, u177, u178, u179, u180, u181, u182, u183, u184, u185, u186, u187, u188, u189, u190, u191, u192, u193, u194, u195, u196, u197, u198, u199, u200, u201, u202, u203, u204, u205, u206, u207, u208, undef, undef, undef, undef, undef, undef, undef, undef, undef, undef, undef, undef, undef, undef, undef, undef, undef, undef, undef, undef, undef, undef, undef, undef, undef, undef, undef, undef, undef, undef, undef], defers := [] } wr := by
  have HF : Hid (∀ W, Below wk.heap.size wk W → (convert 23 9 (.slice Aa al.length ca)).run Try.prog W = .ok (.string ⟨al.toArray⟩) W ∧ (convert 23 9 (.slice At tl.length ct)).run Try.prog W = .ok (.string ⟨tl.toArray⟩) W ∧
      (Op.stringOp .add ⟨al.toArray⟩ ⟨tl.toArray⟩).run Try.prog W = .ok (.string ⟨(al ++ tl).toArray⟩) W) := Lib.hid (fun W h => ⟨bs_str (ha.below h), bs_str (ht.below h), by
    have hadd := run_string_add_sum (P := Try.prog) W ⟨al.toArray⟩ ⟨tl.toArray⟩ (by have h1 : (⟨al.toArray⟩ : ByteArray).size = al.length := rfl; have h2 : (⟨tl.toArray⟩ : ByteArray).size = tl.length := rfl; omega)
    rwa [bytes_app] at hadd⟩)
  have hcur : Below wk.heap.size wk wr.drew := hB.drew
  have HA := Lib.hid (And.intro ha (And.intro ht (And.intro hbl hbln)))
  clear ha ht hbl hbln
  unfold LaysEnd
  show Code.wp _ (Code.region _ _ _) _ _ _
  rcases Nat.eq_zero_or_pos al.length with hz0 | hz0
  · have hz1 : ((al.length : Int) == 0) = true := by rw [hz0]; rfl
    have hz2 : (al.length : Int) = 0 := by omega
    have HS4 := Lib.hid (fun W (h : Below wk.heap.size wk W) => And.intro h (HF.out W h))
    have hS := HS4.out _ hcur
    clear hz0
    set_option warningAsError false in
    first
    | go_region_held3 (fun w' => Below wk.heap.size wk w' ∧ (convert 23 9 (.slice Aa al.length ca)).run Try.prog w' = .ok (.string ⟨al.toArray⟩) w' ∧ (convert 23 9 (.slice At tl.length ct)).run Try.prog w' = .ok (.string ⟨tl.toArray⟩) w' ∧
      (Op.stringOp .add ⟨al.toArray⟩ ⟨tl.toArray⟩).run Try.prog w' = .ok (.string ⟨(al ++ tl).toArray⟩) w')
        (first | assumption)
        (first
      | (go_at_call 18; (with_reducible refine (FB.out _ hcur).mono ?_); rintro e wa ⟨Ap, cp, rfl, hfp, hb_wa⟩; have hcvp := bs_str hfp.1; have hcur := hcur.trans (hb_wa.mono hcur.size); have hS := HS4.out _ hcur)
      | (go_at_call 18; (with_reducible refine (FO.out _ hcur).mono ?_); rintro e wb ⟨Ao, co, rfl, hfo, _, hb_wb⟩; have hcur := hcur.trans (hb_wb.mono hcur.size); have hS := HS4.out _ hcur)
      | (go_at_call 19; (with_reducible refine (FL.out _ hcur).mono ?_); rintro e wc ⟨rfl, hb_wc⟩; have hcur := hcur.trans (hb_wc.mono hcur.size); have hS := HS4.out _ hcur)
      | (go_at_call 12; (with_reducible refine (works_any _).mono ?_); rintro e wd ⟨rfl, hb_wd⟩; have hcur := hcur.trans (hb_wd.mono hcur.size); have hS := HS4.out _ hcur))
    | fail
    all_goals exact ⟨rfl, ⟨_, _, _, _, _, _, _, _, _, _, _, _, _, _, _, _, _, _, _, _, _, _, _, _, _, _, _, _, _, _, _, rfl⟩, hcur⟩
  · have hz1 : ((al.length : Int) == 0) = false := by rw [beq_eq_false_iff_ne]; omega
    have hz2 : ¬ (al.length : Int) = 0 := by omega
    obtain ⟨x0, hx0⟩ : ∃ x, al[0]? = some x := ⟨_, List.getElem?_eq_getElem hz0⟩
    have hb0 : bl[0]? = some x0 := HA.out.2.2.1 x0 hx0
    obtain ⟨ga, oa, rfl, hga, hca⟩ := HA.out.1.pos hz0
    have hcw := hca 0 x0 hx0
    rw [Nat.add_zero] at hcw
    unfold B8 at hcw
    obtain ⟨xv, hxv⟩ : ∃ z : Nat, x0.toNat = z := ⟨_, rfl⟩
    rw [hxv] at hcw
    have HC0 : Hid (∀ W, Below wk.heap.size wk W → W.cell? ⟨ga, oa, none⟩ = some (.int .u8 (xv : Int))) := Lib.hid (fun W h => ((bcell h).1 ga oa hga).trans hcw)
    have HX0 := Lib.hid (And.intro hb0 hxv)
    have HS4 := Lib.hid (fun W (h : Below wk.heap.size wk W) => And.intro h (And.intro (HC0.out W h) (HF.out W h)))
    have hS := HS4.out _ hcur
    clear hx0 hb0 hca hcw hxv
    set_option warningAsError false in
    go_region_held3 (fun w' => Below wk.heap.size wk w' ∧ w'.cell? ⟨ga, oa, none⟩ = some (.int .u8 (xv : Int)) ∧ (convert 23 9 (.slice (some ⟨ga, oa, none⟩) al.length ca)).run Try.prog w' = .ok (.string ⟨al.toArray⟩) w' ∧ (convert 23 9 (.slice At tl.length ct)).run Try.prog w' = .ok (.string ⟨tl.toArray⟩) w' ∧
      (Op.stringOp .add ⟨al.toArray⟩ ⟨tl.toArray⟩).run Try.prog w' = .ok (.string ⟨(al ++ tl).toArray⟩) w')
      (first | assumption)
      (first
      | (go_at_call 18; (with_reducible refine (FB.out _ hcur).mono ?_); rintro e wa ⟨Ap, cp, rfl, hfp, hb_wa⟩; have hcvp := bs_str hfp.1; have hcur := hcur.trans (hb_wa.mono hcur.size); have hS := HS4.out _ hcur)
      | (go_at_call 18; (with_reducible refine (FO.out _ hcur).mono ?_); rintro e wb ⟨Ao, co, rfl, hfo, _, hb_wb⟩; have hcur := hcur.trans (hb_wb.mono hcur.size); have hS := HS4.out _ hcur; obtain ⟨g0, o0, rfl, hg0, hc0⟩ := hfo.1.pos (by omega); have cb0 := hc0 0 _ HX0.out.1; rw [Nat.add_zero] at cb0; unfold B8 at cb0; rw [HX0.out.2] at cb0; clear hc0)
      | (go_at_call 19; (with_reducible refine (FL.out _ hcur).mono ?_); rintro e wc ⟨rfl, hb_wc⟩; have hcur := hcur.trans (hb_wc.mono hcur.size); have hS := HS4.out _ hcur)
      | (go_at_call 12; (with_reducible refine (works_any _).mono ?_); rintro e wd ⟨rfl, hb_wd⟩; have hcur := hcur.trans (hb_wd.mono hcur.size); have hS := HS4.out _ hcur))
    all_goals exact ⟨rfl, ⟨_, _, _, _, _, _, _, _, _, _, _, _, _, _, _, _, _, _, _, _, _, _, _, _, _, _, _, _, _, _, _, rfl⟩, hcur⟩

end Go.Proofs.Ytiejgandjlldjaa
