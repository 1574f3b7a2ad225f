/-
  The document's Meet: the regions that reckon a place by two cross products. Printed by wip/tools/gen_meetq.py.
-/
import Derived.Test.YtpjgghakeaajbaaOneR
namespace Go.Proofs.Ytpjgghakeaajbaa
open Go.RowKit

/-- Where nothing is ready all is done (each operation waits for earlier ones alone). -/
def earlier (ops : Array Oper) : Bool := (List.range ops.size).all fun i => ((ops[i]?).map (·.after.all fun e => decide (e.on < i))).getD true
theorem ready_nil {md : Region.Mode} {ops : Array Oper} {listed : Array Bool} (hd : earlier ops = true) (hs : listed.size = ops.size) (hr : Region.ready md ops listed = []) : ∀ i, i < ops.size → listed.getD i true = true := by
  intro i
  induction i using Nat.strongRecOn with
  | _ i ih =>
    intro hi
    cases hb : listed.getD i true with
    | true => rfl
    | false =>
      exfalso
      have hm : i ∈ Region.ready md ops listed := by
        refine mem_ready.2 ⟨hb, ops[i], Array.getElem?_eq_getElem hi, fun e he _ => ?_⟩
        unfold earlier at hd
        have h1 := List.all_eq_true.1 hd i (List.mem_range.2 hi)
        rw [Array.getElem?_eq_getElem hi] at h1
        simp only [Option.map_some, Option.getD_some] at h1
        have h2 := of_decide_eq_true (Array.all_eq_true_iff_forall_mem.1 h1 e he)
        have h3 := ih e.on h2 (by omega)
        have h4 : e.on < listed.size := by omega
        rw [Array.getD_eq_getD_getElem?, Array.getElem?_eq_getElem h4] at h3 ⊢
        exact h3
      rw [hr] at hm
      cases hm

theorem mq_keep {w wk : World} {W : World} {b19 b20 : Bool} {v : Value} {x : Q} (hb : Below w.heap.size w wk) (h : b19 = true → ∃ M, v = .pointer (some ⟨M, 0, none⟩) ∧ W.heap.size ≤ M ∧ if b20 = true then ∃ g1 gA gm gc g2 gB gn gd, Var w M 53 #[.bool g1, .slice gA gm gc, .bool g2, .slice gB gn gd] ∧ RatAt w (.agg #[.bool g1, .slice gA gm gc, .bool g2, .slice gB gn gd]) x else Var w M 53 #[.bool false, .slice none 0 0, .bool false, .slice none 0 0]) :
    b19 = true → ∃ M, v = .pointer (some ⟨M, 0, none⟩) ∧ W.heap.size ≤ M ∧ if b20 = true then ∃ g1 gA gm gc g2 gB gn gd, Var wk M 53 #[.bool g1, .slice gA gm gc, .bool g2, .slice gB gn gd] ∧ RatAt wk (.agg #[.bool g1, .slice gA gm gc, .bool g2, .slice gB gn gd]) x else Var wk M 53 #[.bool false, .slice none 0 0, .bool false, .slice none 0 0] := fun h1 => by
  obtain ⟨M, e1, e2, e3⟩ := h h1
  refine ⟨M, e1, e2, ?_⟩
  cases b20
  · exact Var.keep e3 hb
  · obtain ⟨g1, gA, gm, gc, g2, gB, gn, gd, k1, k2⟩ := e3
    exact ⟨g1, gA, gm, gc, g2, gB, gn, gd, k1.keep hb, k2.below hb⟩

set_option maxHeartbeats 8000000 in
set_option maxRecDepth 100000 in
theorem meet_reg18 (W : World) (A C N : Nat) (a1 a2 c1 c2 p1 p2 : Int) (e1 e2 : Bool) (eA eB : Option Addr) (em ec en ed : Nat) (n dn : Q)
    (ka0 : W.cell? ⟨A, 0, none⟩ = some (.int .i32 a1)) (ka1 : W.cell? ⟨A, 1, none⟩ = some (.int .i32 a2)) (kc0 : W.cell? ⟨C, 0, none⟩ = some (.int .i32 c1)) (kc1 : W.cell? ⟨C, 1, none⟩ = some (.int .i32 c2))
    (kn0 : W.cell? ⟨N, 0, none⟩ = some (.bool e1)) (kn1 : W.cell? ⟨N, 1, none⟩ = some (.slice eA em ec)) (kn2 : W.cell? ⟨N, 2, none⟩ = some (.bool e2)) (kn3 : W.cell? ⟨N, 3, none⟩ = some (.slice eB en ed)) (zA : A < W.heap.size) (zC : C < W.heap.size) (zN : N < W.heap.size)
    (x1 : IntKind.i64.wrap a1 = a1) (x2 : IntKind.i64.wrap a2 = a2) (x3 : IntKind.i64.wrap c1 = c1) (x4 : IntKind.i64.wrap c2 = c2) (x5 : IntKind.i64.wrap (c1 - a1) = c1 - a1) (x6 : IntKind.i64.wrap (c2 - a2) = c2 - a2)
    (HC : Hid (∀ W', Calls Try.prog 23 #[.int .i64 (c1 - a1), .int .i64 (c2 - a2), .int .i64 p1, .int .i64 p2] W' fun e w' => ∃ z, e = .returned z ∧ RatAt w' z n ∧ Below W'.heap.size W' w'))
    (HN : Hid (RatAt W (.agg #[.bool e1, .slice eA em ec, .bool e2, .slice eB en ed]) dn)) (Kn : QS 9 n) (Kd : QS 9 dn)
    (u0 u1 u2 u3 u5 u7 u8 u9 u10 u14 u15 u16 u17 u18 u19 u20 u21 u22 u23 u24 u25 u26 u27 u28 u29 u30 u31 u32 u33 u34 u35 u36 u37 u38 u39 u40 u41 u42 u43 u44 u45 u46 u47 u48 u49 u50 u51 u52 u53 u54 u55 u56 u57 u58 u59 u60 u61 u62 u63 u64 u65 u66 u67 u68 u69 u70 u71 u72 u73 u74 u75 u76 u77 u78 u79 u80 u81 u82 u83 u84 u85 u86 u87 u88 u89 u90 u91 u92 u93 u94 u95 u96 u97 u98 u99 u100 u101 u102 u103 u104 u105 u106 u107 u108 u109 u110 u111 u112 u113 u114 u115 u116 u117 u118 u119 u120 u121 u122 u123 u124 u125 u126 u127 u128 u129 u130 u131 u132 u133 u134 u135 u136 u137 u138 u139 u140 u141 u142 u143 u144 u145 u146 u147 u148 u149 u150 u151 u152 u153 u154 u155 u156 u157 u158 u159 u160 u161 u162 u163 u164 u165 u166 u167 u168 u169 u170 u171 u172 u173 u174 u175 u176 u177 u178 u179 u180 u181 u182 u183 u184 u185 u186 u187 u188 u189 u190 u191 u192 : Value) :
    (regionO Try.f7 18).wp Try.prog (Exit.then (fun a' W' => ∃ M g1 gA gm gc g2 gB gn gd v107 v108 v109 v110 v111 v112 v113 v114 v115 v116 v117 v118 v119 v120 v121 v122 v123 v124 v125, a' = { tmps := #[u0, u1, u2, u3, .pointer (some ⟨A, 0, none⟩), u5, .pointer (some ⟨C, 0, none⟩), u7, u8, u9, u10, .int .i64 p1, .int .i64 p2, .pointer (some ⟨N, 0, none⟩), .pointer (some ⟨M, 0, none⟩), u15, u16, u17, u18, u19, u20, u21, u22, u23, u24, u25, u26, u27, u28, u29, u30, u31, u32, u33, u34, u35, u36, u37, u38, u39, u40, u41, u42, u43, u44, u45, u46, u47, u48, u49, u50, u51, u52, u53, u54, u55, u56, u57, u58, u59, u60, u61, u62, u63, u64, u65, u66, u67, u68, u69, u70, u71, u72, u73, u74, u75, u76, u77, u78, u79, u80, u81, u82, u83, u84, u85, u86, u87, u88, u89, u90, u91, u92, u93, u94, u95, u96, u97, u98, u99, u100, u101, u102, u103, u104, u105, u106, v107, v108, v109, v110, v111, v112, v113, v114, v115, v116, v117, v118, v119, v120, v121, v122, v123, v124, v125, u126, u127, u128, u129, u130, u131, u132, u133, u134, u135, u136, u137, u138, u139, u140, u141, u142, u143, u144, u145, u146, u147, u148, u149, u150, u151, u152, u153, u154, u155, u156, u157, u158, u159, u160, u161, u162, u163, u164, u165, u166, u167, u168, u169, u170, u171, u172, u173, u174, u175, u176, u177, u178, u179, u180, u181, u182, u183, u184, u185, u186, u187, u188, u189, u190, u191, u192], defers := [] } ∧ Var W' M 53 #[.bool g1, .slice gA gm gc, .bool g2, .slice gB gn gd] ∧ RatAt W' (.agg #[.bool g1, .slice gA gm gc, .bool g2, .slice gB gn gd]) (qquo n dn) ∧ Below W.heap.size W W' ∧ W.heap.size ≤ M) (fun _ _ _ => False)) { tmps := #[u0, u1, u2, u3, .pointer (some ⟨A, 0, none⟩), u5, .pointer (some ⟨C, 0, none⟩), u7, u8, u9, u10, .int .i64 p1, .int .i64 p2, .pointer (some ⟨N, 0, none⟩), u14, u15, u16, u17, u18, u19, u20, u21, u22, u23, u24, u25, u26, u27, u28, u29, u30, u31, u32, u33, u34, u35, u36, u37, u38, u39, u40, u41, u42, u43, u44, u45, u46, u47, u48, u49, u50, u51, u52, u53, u54, u55, u56, u57, u58, u59, u60, u61, u62, u63, u64, u65, u66, u67, u68, u69, u70, u71, u72, u73, u74, u75, u76, u77, u78, u79, u80, u81, u82, u83, u84, u85, u86, u87, u88, u89, u90, u91, u92, u93, u94, u95, u96, u97, u98, u99, u100, u101, u102, u103, u104, u105, u106, u107, u108, u109, u110, u111, u112, u113, u114, u115, u116, u117, u118, u119, u120, u121, u122, u123, u124, u125, u126, u127, u128, u129, u130, u131, u132, u133, u134, u135, u136, u137, u138, u139, u140, u141, u142, u143, u144, u145, u146, u147, u148, u149, u150, u151, u152, u153, u154, u155, u156, u157, u158, u159, u160, u161, u162, u163, u164, u165, u166, u167, u168, u169, u170, u171, u172, u173, u174, u175, u176, u177, u178, u179, u180, u181, u182, u183, u184, u185, u186, u187, u188, u189, u190, u191, u192], defers := [] } W := by
  show Code.wp _ (Code.region _ _ _) _ _ _
  refine wp_region_any (by kernel_rfl) ?_
  refine wpAny_inv (fun (b : Array Bool) a' w' => ∃ b0 b1 b2 b3 b4 b5 b6 b7 b8 b9 b10 b11 b12 b13 b14 b15 b16 b17 b18 b19 b20 : Bool, b = #[b0, b1, b2, b3, b4, b5, b6, b7, b8, b9, b10, b11, b12, b13, b14, b15, b16, b17, b18, b19, b20] ∧ ∃ v107 v108 v109 v110 v111 v112 v113 v114 v115 v116 v117 v118 v119 v120 v121 v122 v123 v124 v125 v14, a' = { tmps := #[u0, u1, u2, u3, .pointer (some ⟨A, 0, none⟩), u5, .pointer (some ⟨C, 0, none⟩), u7, u8, u9, u10, .int .i64 p1, .int .i64 p2, .pointer (some ⟨N, 0, none⟩), v14, u15, u16, u17, u18, u19, u20, u21, u22, u23, u24, u25, u26, u27, u28, u29, u30, u31, u32, u33, u34, u35, u36, u37, u38, u39, u40, u41, u42, u43, u44, u45, u46, u47, u48, u49, u50, u51, u52, u53, u54, u55, u56, u57, u58, u59, u60, u61, u62, u63, u64, u65, u66, u67, u68, u69, u70, u71, u72, u73, u74, u75, u76, u77, u78, u79, u80, u81, u82, u83, u84, u85, u86, u87, u88, u89, u90, u91, u92, u93, u94, u95, u96, u97, u98, u99, u100, u101, u102, u103, u104, u105, u106, v107, v108, v109, v110, v111, v112, v113, v114, v115, v116, v117, v118, v119, v120, v121, v122, v123, v124, v125, u126, u127, u128, u129, u130, u131, u132, u133, u134, u135, u136, u137, u138, u139, u140, u141, u142, u143, u144, u145, u146, u147, u148, u149, u150, u151, u152, u153, u154, u155, u156, u157, u158, u159, u160, u161, u162, u163, u164, u165, u166, u167, u168, u169, u170, u171, u172, u173, u174, u175, u176, u177, u178, u179, u180, u181, u182, u183, u184, u185, u186, u187, u188, u189, u190, u191, u192], defers := [] } ∧ Below W.heap.size W w' ∧ (b0 = true → v107 = .pointer (some ⟨C, 0, none⟩)) ∧ (b1 = true → v108 = .int .i32 c1) ∧ (b2 = true → v109 = .int .i64 c1) ∧ (b3 = true → v110 = .pointer (some ⟨A, 0, none⟩)) ∧ (b4 = true → v111 = .int .i32 a1) ∧ (b5 = true → v112 = .int .i64 a1) ∧ (b6 = true → v113 = .int .i64 (c1 - a1)) ∧ (b7 = true → v114 = .pointer (some ⟨C, 1, none⟩)) ∧ (b8 = true → v115 = .int .i32 c2) ∧ (b9 = true → v116 = .int .i64 c2) ∧ (b10 = true → v117 = .pointer (some ⟨A, 1, none⟩)) ∧ (b11 = true → v118 = .int .i32 a2) ∧ (b12 = true → v119 = .int .i64 a2) ∧ (b13 = true → v120 = .int .i64 (c2 - a2)) ∧ (b14 = true → v121 = .int .i64 p1) ∧ (b15 = true → v122 = .int .i64 p2) ∧ (b16 = true → RatAt w' v123 n) ∧ (b17 = true → v124 = .agg #[.bool e1, .slice eA em ec, .bool e2, .slice eB en ed]) ∧ (b18 = true → RatAt w' v125 (qquo n dn)) ∧ (b19 = true → ∃ M, v14 = .pointer (some ⟨M, 0, none⟩) ∧ W.heap.size ≤ M ∧ if b20 = true then ∃ g1 gA gm gc g2 gB gn gd, Var w' M 53 #[.bool g1, .slice gA gm gc, .bool g2, .slice gB gn gd] ∧ RatAt w' (.agg #[.bool g1, .slice gA gm gc, .bool g2, .slice gB gn gd]) (qquo n dn) else Var w' M 53 #[.bool false, .slice none 0 0, .bool false, .slice none 0 0]) ∧ (b20 = true → b19 = true)) ?_ ?_ _ _ _ _ (by rfl) ?_
  · rintro listed a w i K ⟨b0, b1, b2, b3, b4, b5, b6, b7, b8, b9, b10, b11, b12, b13, b14, b15, b16, b17, b18, b19, b20, rfl, v107, v108, v109, v110, v111, v112, v113, v114, v115, v116, v117, v118, v119, v120, v121, v122, v123, v124, v125, v14, rfl, hB, h0, h1, h2, h3, h4, h5, h6, h7, h8, h9, h10, h11, h12, h13, h14, h15, h16, h17, h18, h19, h20⟩ hi hK
    obtain ⟨hun, o, ho, hdep⟩ := mem_ready.1 hi
    have ja0 := (hB.cell (p := ⟨A, 0, none⟩) zA).trans ka0
    have ja1 := (hB.cell (p := ⟨A, 1, none⟩) zA).trans ka1
    have jc0 := (hB.cell (p := ⟨C, 0, none⟩) zC).trans kc0
    have jc1 := (hB.cell (p := ⟨C, 1, none⟩) zC).trans kc1
    have jn0 := (hB.cell (p := ⟨N, 0, none⟩) zN).trans kn0
    have jn1 := (hB.cell (p := ⟨N, 1, none⟩) zN).trans kn1
    have jn2 := (hB.cell (p := ⟨N, 2, none⟩) zN).trans kn2
    have jn3 := (hB.cell (p := ⟨N, 3, none⟩) zN).trans kn3
    have HI := Lib.hid (And.intro h0 (And.intro h1 (And.intro h2 (And.intro h3 (And.intro h4 (And.intro h5 (And.intro h6 (And.intro h7 (And.intro h8 (And.intro h9 (And.intro h10 (And.intro h11 (And.intro h12 (And.intro h13 (And.intro h14 (And.intro h15 (And.intro h16 (And.intro h17 (And.intro h18 (And.intro h19 h20))))))))))))))))))))
    have HBW := Lib.hid hB
    have HK := Lib.hid hK
    clear h0 h1 h2 h3 h4 h5 h6 h7 h8 h9 h10 h11 h12 h13 h14 h15 h16 h17 h18 h19 h20 hB hK hi ka0 ka1 kc0 kc1 kn0 kn1 kn2 kn3
    rcases i with _ | _ | _ | _ | _ | _ | _ | _ | _ | _ | _ | _ | _ | _ | _ | _ | _ | _ | _ | _ | _ | i
    · simp at ho
      subst ho
      try simp [Region.binds] at hdep
      unfold wpOp
      go_simp
      exact Or.inl (HK.out _ _ ⟨true, b1, b2, b3, b4, b5, b6, b7, b8, b9, b10, b11, b12, b13, b14, b15, b16, b17, b18, b19, b20, rfl, _, v108, v109, v110, v111, v112, v113, v114, v115, v116, v117, v118, v119, v120, v121, v122, v123, v124, v125, v14, rfl, HBW.out, (fun _ => rfl), HI.out.2.1, HI.out.2.2.1, HI.out.2.2.2.1, HI.out.2.2.2.2.1, HI.out.2.2.2.2.2.1, HI.out.2.2.2.2.2.2.1, HI.out.2.2.2.2.2.2.2.1, HI.out.2.2.2.2.2.2.2.2.1, HI.out.2.2.2.2.2.2.2.2.2.1, HI.out.2.2.2.2.2.2.2.2.2.2.1, HI.out.2.2.2.2.2.2.2.2.2.2.2.1, HI.out.2.2.2.2.2.2.2.2.2.2.2.2.1, HI.out.2.2.2.2.2.2.2.2.2.2.2.2.2.1, HI.out.2.2.2.2.2.2.2.2.2.2.2.2.2.2.1, HI.out.2.2.2.2.2.2.2.2.2.2.2.2.2.2.2.1, HI.out.2.2.2.2.2.2.2.2.2.2.2.2.2.2.2.2.1, HI.out.2.2.2.2.2.2.2.2.2.2.2.2.2.2.2.2.2.1, HI.out.2.2.2.2.2.2.2.2.2.2.2.2.2.2.2.2.2.2.1, HI.out.2.2.2.2.2.2.2.2.2.2.2.2.2.2.2.2.2.2.2.1, HI.out.2.2.2.2.2.2.2.2.2.2.2.2.2.2.2.2.2.2.2.2⟩)
    · simp at ho
      subst ho
      try simp [Region.binds] at hdep
      have q0 := HI.out.1 (show b0 = true by first | exact hdep | exact hdep.1 | exact hdep.2 | exact hdep.2.1 | exact hdep.2.2 | exact hdep.2.2.1 | exact hdep.2.2.2 | exact hdep.2.2.2.1 | exact hdep.2.2.2.2.1 | exact hdep.2.2.2.2.2.1)
      subst q0
      unfold wpOp
      go_simp
      exact Or.inl (HK.out _ _ ⟨b0, true, b2, b3, b4, b5, b6, b7, b8, b9, b10, b11, b12, b13, b14, b15, b16, b17, b18, b19, b20, rfl, _, _, v109, v110, v111, v112, v113, v114, v115, v116, v117, v118, v119, v120, v121, v122, v123, v124, v125, v14, rfl, HBW.out, (fun _ => rfl), (fun _ => rfl), HI.out.2.2.1, HI.out.2.2.2.1, HI.out.2.2.2.2.1, HI.out.2.2.2.2.2.1, HI.out.2.2.2.2.2.2.1, HI.out.2.2.2.2.2.2.2.1, HI.out.2.2.2.2.2.2.2.2.1, HI.out.2.2.2.2.2.2.2.2.2.1, HI.out.2.2.2.2.2.2.2.2.2.2.1, HI.out.2.2.2.2.2.2.2.2.2.2.2.1, HI.out.2.2.2.2.2.2.2.2.2.2.2.2.1, HI.out.2.2.2.2.2.2.2.2.2.2.2.2.2.1, HI.out.2.2.2.2.2.2.2.2.2.2.2.2.2.2.1, HI.out.2.2.2.2.2.2.2.2.2.2.2.2.2.2.2.1, HI.out.2.2.2.2.2.2.2.2.2.2.2.2.2.2.2.2.1, HI.out.2.2.2.2.2.2.2.2.2.2.2.2.2.2.2.2.2.1, HI.out.2.2.2.2.2.2.2.2.2.2.2.2.2.2.2.2.2.2.1, HI.out.2.2.2.2.2.2.2.2.2.2.2.2.2.2.2.2.2.2.2.1, HI.out.2.2.2.2.2.2.2.2.2.2.2.2.2.2.2.2.2.2.2.2⟩)
    · simp at ho
      subst ho
      try simp [Region.binds] at hdep
      have q1 := HI.out.2.1 (show b1 = true by first | exact hdep | exact hdep.1 | exact hdep.2 | exact hdep.2.1 | exact hdep.2.2 | exact hdep.2.2.1 | exact hdep.2.2.2 | exact hdep.2.2.2.1 | exact hdep.2.2.2.2.1 | exact hdep.2.2.2.2.2.1)
      subst q1
      unfold wpOp
      go_simp
      exact Or.inl (HK.out _ _ ⟨b0, b1, true, b3, b4, b5, b6, b7, b8, b9, b10, b11, b12, b13, b14, b15, b16, b17, b18, b19, b20, rfl, v107, _, _, v110, v111, v112, v113, v114, v115, v116, v117, v118, v119, v120, v121, v122, v123, v124, v125, v14, rfl, HBW.out, HI.out.1, (fun _ => rfl), (fun _ => rfl), HI.out.2.2.2.1, HI.out.2.2.2.2.1, HI.out.2.2.2.2.2.1, HI.out.2.2.2.2.2.2.1, HI.out.2.2.2.2.2.2.2.1, HI.out.2.2.2.2.2.2.2.2.1, HI.out.2.2.2.2.2.2.2.2.2.1, HI.out.2.2.2.2.2.2.2.2.2.2.1, HI.out.2.2.2.2.2.2.2.2.2.2.2.1, HI.out.2.2.2.2.2.2.2.2.2.2.2.2.1, HI.out.2.2.2.2.2.2.2.2.2.2.2.2.2.1, HI.out.2.2.2.2.2.2.2.2.2.2.2.2.2.2.1, HI.out.2.2.2.2.2.2.2.2.2.2.2.2.2.2.2.1, HI.out.2.2.2.2.2.2.2.2.2.2.2.2.2.2.2.2.1, HI.out.2.2.2.2.2.2.2.2.2.2.2.2.2.2.2.2.2.1, HI.out.2.2.2.2.2.2.2.2.2.2.2.2.2.2.2.2.2.2.1, HI.out.2.2.2.2.2.2.2.2.2.2.2.2.2.2.2.2.2.2.2.1, HI.out.2.2.2.2.2.2.2.2.2.2.2.2.2.2.2.2.2.2.2.2⟩)
    · simp at ho
      subst ho
      try simp [Region.binds] at hdep
      unfold wpOp
      go_simp
      exact Or.inl (HK.out _ _ ⟨b0, b1, b2, true, b4, b5, b6, b7, b8, b9, b10, b11, b12, b13, b14, b15, b16, b17, b18, b19, b20, rfl, v107, v108, v109, _, v111, v112, v113, v114, v115, v116, v117, v118, v119, v120, v121, v122, v123, v124, v125, v14, rfl, HBW.out, HI.out.1, HI.out.2.1, HI.out.2.2.1, (fun _ => rfl), HI.out.2.2.2.2.1, HI.out.2.2.2.2.2.1, HI.out.2.2.2.2.2.2.1, HI.out.2.2.2.2.2.2.2.1, HI.out.2.2.2.2.2.2.2.2.1, HI.out.2.2.2.2.2.2.2.2.2.1, HI.out.2.2.2.2.2.2.2.2.2.2.1, HI.out.2.2.2.2.2.2.2.2.2.2.2.1, HI.out.2.2.2.2.2.2.2.2.2.2.2.2.1, HI.out.2.2.2.2.2.2.2.2.2.2.2.2.2.1, HI.out.2.2.2.2.2.2.2.2.2.2.2.2.2.2.1, HI.out.2.2.2.2.2.2.2.2.2.2.2.2.2.2.2.1, HI.out.2.2.2.2.2.2.2.2.2.2.2.2.2.2.2.2.1, HI.out.2.2.2.2.2.2.2.2.2.2.2.2.2.2.2.2.2.1, HI.out.2.2.2.2.2.2.2.2.2.2.2.2.2.2.2.2.2.2.1, HI.out.2.2.2.2.2.2.2.2.2.2.2.2.2.2.2.2.2.2.2.1, HI.out.2.2.2.2.2.2.2.2.2.2.2.2.2.2.2.2.2.2.2.2⟩)
    · simp at ho
      subst ho
      try simp [Region.binds] at hdep
      have q3 := HI.out.2.2.2.1 (show b3 = true by first | exact hdep | exact hdep.1 | exact hdep.2 | exact hdep.2.1 | exact hdep.2.2 | exact hdep.2.2.1 | exact hdep.2.2.2 | exact hdep.2.2.2.1 | exact hdep.2.2.2.2.1 | exact hdep.2.2.2.2.2.1)
      subst q3
      unfold wpOp
      go_simp
      exact Or.inl (HK.out _ _ ⟨b0, b1, b2, b3, true, b5, b6, b7, b8, b9, b10, b11, b12, b13, b14, b15, b16, b17, b18, b19, b20, rfl, v107, v108, v109, _, _, v112, v113, v114, v115, v116, v117, v118, v119, v120, v121, v122, v123, v124, v125, v14, rfl, HBW.out, HI.out.1, HI.out.2.1, HI.out.2.2.1, (fun _ => rfl), (fun _ => rfl), HI.out.2.2.2.2.2.1, HI.out.2.2.2.2.2.2.1, HI.out.2.2.2.2.2.2.2.1, HI.out.2.2.2.2.2.2.2.2.1, HI.out.2.2.2.2.2.2.2.2.2.1, HI.out.2.2.2.2.2.2.2.2.2.2.1, HI.out.2.2.2.2.2.2.2.2.2.2.2.1, HI.out.2.2.2.2.2.2.2.2.2.2.2.2.1, HI.out.2.2.2.2.2.2.2.2.2.2.2.2.2.1, HI.out.2.2.2.2.2.2.2.2.2.2.2.2.2.2.1, HI.out.2.2.2.2.2.2.2.2.2.2.2.2.2.2.2.1, HI.out.2.2.2.2.2.2.2.2.2.2.2.2.2.2.2.2.1, HI.out.2.2.2.2.2.2.2.2.2.2.2.2.2.2.2.2.2.1, HI.out.2.2.2.2.2.2.2.2.2.2.2.2.2.2.2.2.2.2.1, HI.out.2.2.2.2.2.2.2.2.2.2.2.2.2.2.2.2.2.2.2.1, HI.out.2.2.2.2.2.2.2.2.2.2.2.2.2.2.2.2.2.2.2.2⟩)
    · simp at ho
      subst ho
      try simp [Region.binds] at hdep
      have q4 := HI.out.2.2.2.2.1 (show b4 = true by first | exact hdep | exact hdep.1 | exact hdep.2 | exact hdep.2.1 | exact hdep.2.2 | exact hdep.2.2.1 | exact hdep.2.2.2 | exact hdep.2.2.2.1 | exact hdep.2.2.2.2.1 | exact hdep.2.2.2.2.2.1)
      subst q4
      unfold wpOp
      go_simp
      exact Or.inl (HK.out _ _ ⟨b0, b1, b2, b3, b4, true, b6, b7, b8, b9, b10, b11, b12, b13, b14, b15, b16, b17, b18, b19, b20, rfl, v107, v108, v109, v110, _, _, v113, v114, v115, v116, v117, v118, v119, v120, v121, v122, v123, v124, v125, v14, rfl, HBW.out, HI.out.1, HI.out.2.1, HI.out.2.2.1, HI.out.2.2.2.1, (fun _ => rfl), (fun _ => rfl), HI.out.2.2.2.2.2.2.1, HI.out.2.2.2.2.2.2.2.1, HI.out.2.2.2.2.2.2.2.2.1, HI.out.2.2.2.2.2.2.2.2.2.1, HI.out.2.2.2.2.2.2.2.2.2.2.1, HI.out.2.2.2.2.2.2.2.2.2.2.2.1, HI.out.2.2.2.2.2.2.2.2.2.2.2.2.1, HI.out.2.2.2.2.2.2.2.2.2.2.2.2.2.1, HI.out.2.2.2.2.2.2.2.2.2.2.2.2.2.2.1, HI.out.2.2.2.2.2.2.2.2.2.2.2.2.2.2.2.1, HI.out.2.2.2.2.2.2.2.2.2.2.2.2.2.2.2.2.1, HI.out.2.2.2.2.2.2.2.2.2.2.2.2.2.2.2.2.2.1, HI.out.2.2.2.2.2.2.2.2.2.2.2.2.2.2.2.2.2.2.1, HI.out.2.2.2.2.2.2.2.2.2.2.2.2.2.2.2.2.2.2.2.1, HI.out.2.2.2.2.2.2.2.2.2.2.2.2.2.2.2.2.2.2.2.2⟩)
    · simp at ho
      subst ho
      try simp [Region.binds] at hdep
      have q2 := HI.out.2.2.1 (show b2 = true by first | exact hdep | exact hdep.1 | exact hdep.2 | exact hdep.2.1 | exact hdep.2.2 | exact hdep.2.2.1 | exact hdep.2.2.2 | exact hdep.2.2.2.1 | exact hdep.2.2.2.2.1 | exact hdep.2.2.2.2.2.1)
      subst q2
      have q5 := HI.out.2.2.2.2.2.1 (show b5 = true by first | exact hdep | exact hdep.1 | exact hdep.2 | exact hdep.2.1 | exact hdep.2.2 | exact hdep.2.2.1 | exact hdep.2.2.2 | exact hdep.2.2.2.1 | exact hdep.2.2.2.2.1 | exact hdep.2.2.2.2.2.1)
      subst q5
      unfold wpOp
      go_simp
      exact Or.inl (HK.out _ _ ⟨b0, b1, b2, b3, b4, b5, true, b7, b8, b9, b10, b11, b12, b13, b14, b15, b16, b17, b18, b19, b20, rfl, v107, v108, _, v110, v111, _, _, v114, v115, v116, v117, v118, v119, v120, v121, v122, v123, v124, v125, v14, rfl, HBW.out, HI.out.1, HI.out.2.1, (fun _ => rfl), HI.out.2.2.2.1, HI.out.2.2.2.2.1, (fun _ => rfl), (fun _ => rfl), HI.out.2.2.2.2.2.2.2.1, HI.out.2.2.2.2.2.2.2.2.1, HI.out.2.2.2.2.2.2.2.2.2.1, HI.out.2.2.2.2.2.2.2.2.2.2.1, HI.out.2.2.2.2.2.2.2.2.2.2.2.1, HI.out.2.2.2.2.2.2.2.2.2.2.2.2.1, HI.out.2.2.2.2.2.2.2.2.2.2.2.2.2.1, HI.out.2.2.2.2.2.2.2.2.2.2.2.2.2.2.1, HI.out.2.2.2.2.2.2.2.2.2.2.2.2.2.2.2.1, HI.out.2.2.2.2.2.2.2.2.2.2.2.2.2.2.2.2.1, HI.out.2.2.2.2.2.2.2.2.2.2.2.2.2.2.2.2.2.1, HI.out.2.2.2.2.2.2.2.2.2.2.2.2.2.2.2.2.2.2.1, HI.out.2.2.2.2.2.2.2.2.2.2.2.2.2.2.2.2.2.2.2.1, HI.out.2.2.2.2.2.2.2.2.2.2.2.2.2.2.2.2.2.2.2.2⟩)
    · simp at ho
      subst ho
      try simp [Region.binds] at hdep
      unfold wpOp
      go_simp
      exact Or.inl (HK.out _ _ ⟨b0, b1, b2, b3, b4, b5, b6, true, b8, b9, b10, b11, b12, b13, b14, b15, b16, b17, b18, b19, b20, rfl, v107, v108, v109, v110, v111, v112, v113, _, v115, v116, v117, v118, v119, v120, v121, v122, v123, v124, v125, v14, rfl, HBW.out, HI.out.1, HI.out.2.1, HI.out.2.2.1, HI.out.2.2.2.1, HI.out.2.2.2.2.1, HI.out.2.2.2.2.2.1, HI.out.2.2.2.2.2.2.1, (fun _ => rfl), HI.out.2.2.2.2.2.2.2.2.1, HI.out.2.2.2.2.2.2.2.2.2.1, HI.out.2.2.2.2.2.2.2.2.2.2.1, HI.out.2.2.2.2.2.2.2.2.2.2.2.1, HI.out.2.2.2.2.2.2.2.2.2.2.2.2.1, HI.out.2.2.2.2.2.2.2.2.2.2.2.2.2.1, HI.out.2.2.2.2.2.2.2.2.2.2.2.2.2.2.1, HI.out.2.2.2.2.2.2.2.2.2.2.2.2.2.2.2.1, HI.out.2.2.2.2.2.2.2.2.2.2.2.2.2.2.2.2.1, HI.out.2.2.2.2.2.2.2.2.2.2.2.2.2.2.2.2.2.1, HI.out.2.2.2.2.2.2.2.2.2.2.2.2.2.2.2.2.2.2.1, HI.out.2.2.2.2.2.2.2.2.2.2.2.2.2.2.2.2.2.2.2.1, HI.out.2.2.2.2.2.2.2.2.2.2.2.2.2.2.2.2.2.2.2.2⟩)
    · simp at ho
      subst ho
      try simp [Region.binds] at hdep
      have q7 := HI.out.2.2.2.2.2.2.2.1 (show b7 = true by first | exact hdep | exact hdep.1 | exact hdep.2 | exact hdep.2.1 | exact hdep.2.2 | exact hdep.2.2.1 | exact hdep.2.2.2 | exact hdep.2.2.2.1 | exact hdep.2.2.2.2.1 | exact hdep.2.2.2.2.2.1)
      subst q7
      unfold wpOp
      go_simp
      exact Or.inl (HK.out _ _ ⟨b0, b1, b2, b3, b4, b5, b6, b7, true, b9, b10, b11, b12, b13, b14, b15, b16, b17, b18, b19, b20, rfl, v107, v108, v109, v110, v111, v112, v113, _, _, v116, v117, v118, v119, v120, v121, v122, v123, v124, v125, v14, rfl, HBW.out, HI.out.1, HI.out.2.1, HI.out.2.2.1, HI.out.2.2.2.1, HI.out.2.2.2.2.1, HI.out.2.2.2.2.2.1, HI.out.2.2.2.2.2.2.1, (fun _ => rfl), (fun _ => rfl), HI.out.2.2.2.2.2.2.2.2.2.1, HI.out.2.2.2.2.2.2.2.2.2.2.1, HI.out.2.2.2.2.2.2.2.2.2.2.2.1, HI.out.2.2.2.2.2.2.2.2.2.2.2.2.1, HI.out.2.2.2.2.2.2.2.2.2.2.2.2.2.1, HI.out.2.2.2.2.2.2.2.2.2.2.2.2.2.2.1, HI.out.2.2.2.2.2.2.2.2.2.2.2.2.2.2.2.1, HI.out.2.2.2.2.2.2.2.2.2.2.2.2.2.2.2.2.1, HI.out.2.2.2.2.2.2.2.2.2.2.2.2.2.2.2.2.2.1, HI.out.2.2.2.2.2.2.2.2.2.2.2.2.2.2.2.2.2.2.1, HI.out.2.2.2.2.2.2.2.2.2.2.2.2.2.2.2.2.2.2.2.1, HI.out.2.2.2.2.2.2.2.2.2.2.2.2.2.2.2.2.2.2.2.2⟩)
    · simp at ho
      subst ho
      try simp [Region.binds] at hdep
      have q8 := HI.out.2.2.2.2.2.2.2.2.1 (show b8 = true by first | exact hdep | exact hdep.1 | exact hdep.2 | exact hdep.2.1 | exact hdep.2.2 | exact hdep.2.2.1 | exact hdep.2.2.2 | exact hdep.2.2.2.1 | exact hdep.2.2.2.2.1 | exact hdep.2.2.2.2.2.1)
      subst q8
      unfold wpOp
      go_simp
      exact Or.inl (HK.out _ _ ⟨b0, b1, b2, b3, b4, b5, b6, b7, b8, true, b10, b11, b12, b13, b14, b15, b16, b17, b18, b19, b20, rfl, v107, v108, v109, v110, v111, v112, v113, v114, _, _, v117, v118, v119, v120, v121, v122, v123, v124, v125, v14, rfl, HBW.out, HI.out.1, HI.out.2.1, HI.out.2.2.1, HI.out.2.2.2.1, HI.out.2.2.2.2.1, HI.out.2.2.2.2.2.1, HI.out.2.2.2.2.2.2.1, HI.out.2.2.2.2.2.2.2.1, (fun _ => rfl), (fun _ => rfl), HI.out.2.2.2.2.2.2.2.2.2.2.1, HI.out.2.2.2.2.2.2.2.2.2.2.2.1, HI.out.2.2.2.2.2.2.2.2.2.2.2.2.1, HI.out.2.2.2.2.2.2.2.2.2.2.2.2.2.1, HI.out.2.2.2.2.2.2.2.2.2.2.2.2.2.2.1, HI.out.2.2.2.2.2.2.2.2.2.2.2.2.2.2.2.1, HI.out.2.2.2.2.2.2.2.2.2.2.2.2.2.2.2.2.1, HI.out.2.2.2.2.2.2.2.2.2.2.2.2.2.2.2.2.2.1, HI.out.2.2.2.2.2.2.2.2.2.2.2.2.2.2.2.2.2.2.1, HI.out.2.2.2.2.2.2.2.2.2.2.2.2.2.2.2.2.2.2.2.1, HI.out.2.2.2.2.2.2.2.2.2.2.2.2.2.2.2.2.2.2.2.2⟩)
    · simp at ho
      subst ho
      try simp [Region.binds] at hdep
      unfold wpOp
      go_simp
      exact Or.inl (HK.out _ _ ⟨b0, b1, b2, b3, b4, b5, b6, b7, b8, b9, true, b11, b12, b13, b14, b15, b16, b17, b18, b19, b20, rfl, v107, v108, v109, v110, v111, v112, v113, v114, v115, v116, _, v118, v119, v120, v121, v122, v123, v124, v125, v14, rfl, HBW.out, HI.out.1, HI.out.2.1, HI.out.2.2.1, HI.out.2.2.2.1, HI.out.2.2.2.2.1, HI.out.2.2.2.2.2.1, HI.out.2.2.2.2.2.2.1, HI.out.2.2.2.2.2.2.2.1, HI.out.2.2.2.2.2.2.2.2.1, HI.out.2.2.2.2.2.2.2.2.2.1, (fun _ => rfl), HI.out.2.2.2.2.2.2.2.2.2.2.2.1, HI.out.2.2.2.2.2.2.2.2.2.2.2.2.1, HI.out.2.2.2.2.2.2.2.2.2.2.2.2.2.1, HI.out.2.2.2.2.2.2.2.2.2.2.2.2.2.2.1, HI.out.2.2.2.2.2.2.2.2.2.2.2.2.2.2.2.1, HI.out.2.2.2.2.2.2.2.2.2.2.2.2.2.2.2.2.1, HI.out.2.2.2.2.2.2.2.2.2.2.2.2.2.2.2.2.2.1, HI.out.2.2.2.2.2.2.2.2.2.2.2.2.2.2.2.2.2.2.1, HI.out.2.2.2.2.2.2.2.2.2.2.2.2.2.2.2.2.2.2.2.1, HI.out.2.2.2.2.2.2.2.2.2.2.2.2.2.2.2.2.2.2.2.2⟩)
    · simp at ho
      subst ho
      try simp [Region.binds] at hdep
      have q10 := HI.out.2.2.2.2.2.2.2.2.2.2.1 (show b10 = true by first | exact hdep | exact hdep.1 | exact hdep.2 | exact hdep.2.1 | exact hdep.2.2 | exact hdep.2.2.1 | exact hdep.2.2.2 | exact hdep.2.2.2.1 | exact hdep.2.2.2.2.1 | exact hdep.2.2.2.2.2.1)
      subst q10
      unfold wpOp
      go_simp
      exact Or.inl (HK.out _ _ ⟨b0, b1, b2, b3, b4, b5, b6, b7, b8, b9, b10, true, b12, b13, b14, b15, b16, b17, b18, b19, b20, rfl, v107, v108, v109, v110, v111, v112, v113, v114, v115, v116, _, _, v119, v120, v121, v122, v123, v124, v125, v14, rfl, HBW.out, HI.out.1, HI.out.2.1, HI.out.2.2.1, HI.out.2.2.2.1, HI.out.2.2.2.2.1, HI.out.2.2.2.2.2.1, HI.out.2.2.2.2.2.2.1, HI.out.2.2.2.2.2.2.2.1, HI.out.2.2.2.2.2.2.2.2.1, HI.out.2.2.2.2.2.2.2.2.2.1, (fun _ => rfl), (fun _ => rfl), HI.out.2.2.2.2.2.2.2.2.2.2.2.2.1, HI.out.2.2.2.2.2.2.2.2.2.2.2.2.2.1, HI.out.2.2.2.2.2.2.2.2.2.2.2.2.2.2.1, HI.out.2.2.2.2.2.2.2.2.2.2.2.2.2.2.2.1, HI.out.2.2.2.2.2.2.2.2.2.2.2.2.2.2.2.2.1, HI.out.2.2.2.2.2.2.2.2.2.2.2.2.2.2.2.2.2.1, HI.out.2.2.2.2.2.2.2.2.2.2.2.2.2.2.2.2.2.2.1, HI.out.2.2.2.2.2.2.2.2.2.2.2.2.2.2.2.2.2.2.2.1, HI.out.2.2.2.2.2.2.2.2.2.2.2.2.2.2.2.2.2.2.2.2⟩)
    · simp at ho
      subst ho
      try simp [Region.binds] at hdep
      have q11 := HI.out.2.2.2.2.2.2.2.2.2.2.2.1 (show b11 = true by first | exact hdep | exact hdep.1 | exact hdep.2 | exact hdep.2.1 | exact hdep.2.2 | exact hdep.2.2.1 | exact hdep.2.2.2 | exact hdep.2.2.2.1 | exact hdep.2.2.2.2.1 | exact hdep.2.2.2.2.2.1)
      subst q11
      unfold wpOp
      go_simp
      exact Or.inl (HK.out _ _ ⟨b0, b1, b2, b3, b4, b5, b6, b7, b8, b9, b10, b11, true, b13, b14, b15, b16, b17, b18, b19, b20, rfl, v107, v108, v109, v110, v111, v112, v113, v114, v115, v116, v117, _, _, v120, v121, v122, v123, v124, v125, v14, rfl, HBW.out, HI.out.1, HI.out.2.1, HI.out.2.2.1, HI.out.2.2.2.1, HI.out.2.2.2.2.1, HI.out.2.2.2.2.2.1, HI.out.2.2.2.2.2.2.1, HI.out.2.2.2.2.2.2.2.1, HI.out.2.2.2.2.2.2.2.2.1, HI.out.2.2.2.2.2.2.2.2.2.1, HI.out.2.2.2.2.2.2.2.2.2.2.1, (fun _ => rfl), (fun _ => rfl), HI.out.2.2.2.2.2.2.2.2.2.2.2.2.2.1, HI.out.2.2.2.2.2.2.2.2.2.2.2.2.2.2.1, HI.out.2.2.2.2.2.2.2.2.2.2.2.2.2.2.2.1, HI.out.2.2.2.2.2.2.2.2.2.2.2.2.2.2.2.2.1, HI.out.2.2.2.2.2.2.2.2.2.2.2.2.2.2.2.2.2.1, HI.out.2.2.2.2.2.2.2.2.2.2.2.2.2.2.2.2.2.2.1, HI.out.2.2.2.2.2.2.2.2.2.2.2.2.2.2.2.2.2.2.2.1, HI.out.2.2.2.2.2.2.2.2.2.2.2.2.2.2.2.2.2.2.2.2⟩)
    · simp at ho
      subst ho
      try simp [Region.binds] at hdep
      have q9 := HI.out.2.2.2.2.2.2.2.2.2.1 (show b9 = true by first | exact hdep | exact hdep.1 | exact hdep.2 | exact hdep.2.1 | exact hdep.2.2 | exact hdep.2.2.1 | exact hdep.2.2.2 | exact hdep.2.2.2.1 | exact hdep.2.2.2.2.1 | exact hdep.2.2.2.2.2.1)
      subst q9
      have q12 := HI.out.2.2.2.2.2.2.2.2.2.2.2.2.1 (show b12 = true by first | exact hdep | exact hdep.1 | exact hdep.2 | exact hdep.2.1 | exact hdep.2.2 | exact hdep.2.2.1 | exact hdep.2.2.2 | exact hdep.2.2.2.1 | exact hdep.2.2.2.2.1 | exact hdep.2.2.2.2.2.1)
      subst q12
      unfold wpOp
      go_simp
      exact Or.inl (HK.out _ _ ⟨b0, b1, b2, b3, b4, b5, b6, b7, b8, b9, b10, b11, b12, true, b14, b15, b16, b17, b18, b19, b20, rfl, v107, v108, v109, v110, v111, v112, v113, v114, v115, _, v117, v118, _, _, v121, v122, v123, v124, v125, v14, rfl, HBW.out, HI.out.1, HI.out.2.1, HI.out.2.2.1, HI.out.2.2.2.1, HI.out.2.2.2.2.1, HI.out.2.2.2.2.2.1, HI.out.2.2.2.2.2.2.1, HI.out.2.2.2.2.2.2.2.1, HI.out.2.2.2.2.2.2.2.2.1, (fun _ => rfl), HI.out.2.2.2.2.2.2.2.2.2.2.1, HI.out.2.2.2.2.2.2.2.2.2.2.2.1, (fun _ => rfl), (fun _ => rfl), HI.out.2.2.2.2.2.2.2.2.2.2.2.2.2.2.1, HI.out.2.2.2.2.2.2.2.2.2.2.2.2.2.2.2.1, HI.out.2.2.2.2.2.2.2.2.2.2.2.2.2.2.2.2.1, HI.out.2.2.2.2.2.2.2.2.2.2.2.2.2.2.2.2.2.1, HI.out.2.2.2.2.2.2.2.2.2.2.2.2.2.2.2.2.2.2.1, HI.out.2.2.2.2.2.2.2.2.2.2.2.2.2.2.2.2.2.2.2.1, HI.out.2.2.2.2.2.2.2.2.2.2.2.2.2.2.2.2.2.2.2.2⟩)
    · simp at ho
      subst ho
      try simp [Region.binds] at hdep
      unfold wpOp
      go_simp
      exact Or.inl (HK.out _ _ ⟨b0, b1, b2, b3, b4, b5, b6, b7, b8, b9, b10, b11, b12, b13, true, b15, b16, b17, b18, b19, b20, rfl, v107, v108, v109, v110, v111, v112, v113, v114, v115, v116, v117, v118, v119, v120, _, v122, v123, v124, v125, v14, rfl, HBW.out, HI.out.1, HI.out.2.1, HI.out.2.2.1, HI.out.2.2.2.1, HI.out.2.2.2.2.1, HI.out.2.2.2.2.2.1, HI.out.2.2.2.2.2.2.1, HI.out.2.2.2.2.2.2.2.1, HI.out.2.2.2.2.2.2.2.2.1, HI.out.2.2.2.2.2.2.2.2.2.1, HI.out.2.2.2.2.2.2.2.2.2.2.1, HI.out.2.2.2.2.2.2.2.2.2.2.2.1, HI.out.2.2.2.2.2.2.2.2.2.2.2.2.1, HI.out.2.2.2.2.2.2.2.2.2.2.2.2.2.1, (fun _ => rfl), HI.out.2.2.2.2.2.2.2.2.2.2.2.2.2.2.2.1, HI.out.2.2.2.2.2.2.2.2.2.2.2.2.2.2.2.2.1, HI.out.2.2.2.2.2.2.2.2.2.2.2.2.2.2.2.2.2.1, HI.out.2.2.2.2.2.2.2.2.2.2.2.2.2.2.2.2.2.2.1, HI.out.2.2.2.2.2.2.2.2.2.2.2.2.2.2.2.2.2.2.2.1, HI.out.2.2.2.2.2.2.2.2.2.2.2.2.2.2.2.2.2.2.2.2⟩)
    · simp at ho
      subst ho
      try simp [Region.binds] at hdep
      unfold wpOp
      go_simp
      exact Or.inl (HK.out _ _ ⟨b0, b1, b2, b3, b4, b5, b6, b7, b8, b9, b10, b11, b12, b13, b14, true, b16, b17, b18, b19, b20, rfl, v107, v108, v109, v110, v111, v112, v113, v114, v115, v116, v117, v118, v119, v120, v121, _, v123, v124, v125, v14, rfl, HBW.out, HI.out.1, HI.out.2.1, HI.out.2.2.1, HI.out.2.2.2.1, HI.out.2.2.2.2.1, HI.out.2.2.2.2.2.1, HI.out.2.2.2.2.2.2.1, HI.out.2.2.2.2.2.2.2.1, HI.out.2.2.2.2.2.2.2.2.1, HI.out.2.2.2.2.2.2.2.2.2.1, HI.out.2.2.2.2.2.2.2.2.2.2.1, HI.out.2.2.2.2.2.2.2.2.2.2.2.1, HI.out.2.2.2.2.2.2.2.2.2.2.2.2.1, HI.out.2.2.2.2.2.2.2.2.2.2.2.2.2.1, HI.out.2.2.2.2.2.2.2.2.2.2.2.2.2.2.1, (fun _ => rfl), HI.out.2.2.2.2.2.2.2.2.2.2.2.2.2.2.2.2.1, HI.out.2.2.2.2.2.2.2.2.2.2.2.2.2.2.2.2.2.1, HI.out.2.2.2.2.2.2.2.2.2.2.2.2.2.2.2.2.2.2.1, HI.out.2.2.2.2.2.2.2.2.2.2.2.2.2.2.2.2.2.2.2.1, HI.out.2.2.2.2.2.2.2.2.2.2.2.2.2.2.2.2.2.2.2.2⟩)
    · simp at ho
      subst ho
      try simp [Region.binds] at hdep
      have q6 := HI.out.2.2.2.2.2.2.1 (show b6 = true by first | exact hdep | exact hdep.1 | exact hdep.2 | exact hdep.2.1 | exact hdep.2.2 | exact hdep.2.2.1 | exact hdep.2.2.2 | exact hdep.2.2.2.1 | exact hdep.2.2.2.2.1 | exact hdep.2.2.2.2.2.1)
      subst q6
      have q13 := HI.out.2.2.2.2.2.2.2.2.2.2.2.2.2.1 (show b13 = true by first | exact hdep | exact hdep.1 | exact hdep.2 | exact hdep.2.1 | exact hdep.2.2 | exact hdep.2.2.1 | exact hdep.2.2.2 | exact hdep.2.2.2.1 | exact hdep.2.2.2.2.1 | exact hdep.2.2.2.2.2.1)
      subst q13
      have q14 := HI.out.2.2.2.2.2.2.2.2.2.2.2.2.2.2.1 (show b14 = true by first | exact hdep | exact hdep.1 | exact hdep.2 | exact hdep.2.1 | exact hdep.2.2 | exact hdep.2.2.1 | exact hdep.2.2.2 | exact hdep.2.2.2.1 | exact hdep.2.2.2.2.1 | exact hdep.2.2.2.2.2.1)
      subst q14
      have q15 := HI.out.2.2.2.2.2.2.2.2.2.2.2.2.2.2.2.1 (show b15 = true by first | exact hdep | exact hdep.1 | exact hdep.2 | exact hdep.2.1 | exact hdep.2.2 | exact hdep.2.2.1 | exact hdep.2.2.2 | exact hdep.2.2.2.1 | exact hdep.2.2.2.2.1 | exact hdep.2.2.2.2.2.1)
      subst q15
      unfold wpOp
      go_simp
      refine Or.inl ((HC.out _).mono ?_)
      rintro e wk ⟨z, rfl, hz, hb⟩
      exact HK.out _ _ ⟨b0, b1, b2, b3, b4, b5, b6, b7, b8, b9, b10, b11, b12, b13, b14, b15, true, b17, b18, b19, b20, rfl, v107, v108, v109, v110, v111, v112, _, v114, v115, v116, v117, v118, v119, _, _, _, _, v124, v125, v14, rfl, (HBW.out.trans (hb.mono HBW.out.size)), HI.out.1, HI.out.2.1, HI.out.2.2.1, HI.out.2.2.2.1, HI.out.2.2.2.2.1, HI.out.2.2.2.2.2.1, (fun _ => rfl), HI.out.2.2.2.2.2.2.2.1, HI.out.2.2.2.2.2.2.2.2.1, HI.out.2.2.2.2.2.2.2.2.2.1, HI.out.2.2.2.2.2.2.2.2.2.2.1, HI.out.2.2.2.2.2.2.2.2.2.2.2.1, HI.out.2.2.2.2.2.2.2.2.2.2.2.2.1, (fun _ => rfl), (fun _ => rfl), (fun _ => rfl), (fun _ => hz), HI.out.2.2.2.2.2.2.2.2.2.2.2.2.2.2.2.2.2.1, (fun h => (HI.out.2.2.2.2.2.2.2.2.2.2.2.2.2.2.2.2.2.2.1 h).below hb), (mq_keep hb (HI.out.2.2.2.2.2.2.2.2.2.2.2.2.2.2.2.2.2.2.2.1)), HI.out.2.2.2.2.2.2.2.2.2.2.2.2.2.2.2.2.2.2.2.2⟩
    · simp at ho
      subst ho
      try simp [Region.binds] at hdep
      unfold wpOp
      go_simp
      exact Or.inl (HK.out _ _ ⟨b0, b1, b2, b3, b4, b5, b6, b7, b8, b9, b10, b11, b12, b13, b14, b15, b16, true, b18, b19, b20, rfl, v107, v108, v109, v110, v111, v112, v113, v114, v115, v116, v117, v118, v119, v120, v121, v122, v123, _, v125, v14, rfl, HBW.out, HI.out.1, HI.out.2.1, HI.out.2.2.1, HI.out.2.2.2.1, HI.out.2.2.2.2.1, HI.out.2.2.2.2.2.1, HI.out.2.2.2.2.2.2.1, HI.out.2.2.2.2.2.2.2.1, HI.out.2.2.2.2.2.2.2.2.1, HI.out.2.2.2.2.2.2.2.2.2.1, HI.out.2.2.2.2.2.2.2.2.2.2.1, HI.out.2.2.2.2.2.2.2.2.2.2.2.1, HI.out.2.2.2.2.2.2.2.2.2.2.2.2.1, HI.out.2.2.2.2.2.2.2.2.2.2.2.2.2.1, HI.out.2.2.2.2.2.2.2.2.2.2.2.2.2.2.1, HI.out.2.2.2.2.2.2.2.2.2.2.2.2.2.2.2.1, HI.out.2.2.2.2.2.2.2.2.2.2.2.2.2.2.2.2.1, (fun _ => rfl), HI.out.2.2.2.2.2.2.2.2.2.2.2.2.2.2.2.2.2.2.1, HI.out.2.2.2.2.2.2.2.2.2.2.2.2.2.2.2.2.2.2.2.1, HI.out.2.2.2.2.2.2.2.2.2.2.2.2.2.2.2.2.2.2.2.2⟩)
    · simp at ho
      subst ho
      try simp [Region.binds] at hdep
      have q17 := HI.out.2.2.2.2.2.2.2.2.2.2.2.2.2.2.2.2.2.1 (show b17 = true by first | exact hdep | exact hdep.1 | exact hdep.2 | exact hdep.2.1 | exact hdep.2.2 | exact hdep.2.2.1 | exact hdep.2.2.2 | exact hdep.2.2.2.1 | exact hdep.2.2.2.2.1 | exact hdep.2.2.2.2.2.1)
      subst q17
      have r16 := HI.out.2.2.2.2.2.2.2.2.2.2.2.2.2.2.2.2.1 (show b16 = true by first | exact hdep | exact hdep.1 | exact hdep.2 | exact hdep.2.1 | exact hdep.2.2 | exact hdep.2.2.1 | exact hdep.2.2.2 | exact hdep.2.2.2.1 | exact hdep.2.2.2.2.1 | exact hdep.2.2.2.2.2.1)
      have rN := HN.out.below HBW.out
      have R16 := Lib.hid r16
      have RN := Lib.hid rN
      clear r16 rN
      unfold wpOp
      go_simp
      refine Or.inl ((quo_q R16.out RN.out Kn Kd (by omega) _ (Below.refl _ _)).mono ?_)
      rintro e wk ⟨z, rfl, hz, hb⟩
      exact HK.out _ _ ⟨b0, b1, b2, b3, b4, b5, b6, b7, b8, b9, b10, b11, b12, b13, b14, b15, b16, b17, true, b19, b20, rfl, v107, v108, v109, v110, v111, v112, v113, v114, v115, v116, v117, v118, v119, v120, v121, v122, v123, _, _, v14, rfl, (HBW.out.trans (hb.mono HBW.out.size)), HI.out.1, HI.out.2.1, HI.out.2.2.1, HI.out.2.2.2.1, HI.out.2.2.2.2.1, HI.out.2.2.2.2.2.1, HI.out.2.2.2.2.2.2.1, HI.out.2.2.2.2.2.2.2.1, HI.out.2.2.2.2.2.2.2.2.1, HI.out.2.2.2.2.2.2.2.2.2.1, HI.out.2.2.2.2.2.2.2.2.2.2.1, HI.out.2.2.2.2.2.2.2.2.2.2.2.1, HI.out.2.2.2.2.2.2.2.2.2.2.2.2.1, HI.out.2.2.2.2.2.2.2.2.2.2.2.2.2.1, HI.out.2.2.2.2.2.2.2.2.2.2.2.2.2.2.1, HI.out.2.2.2.2.2.2.2.2.2.2.2.2.2.2.2.1, (fun h => (HI.out.2.2.2.2.2.2.2.2.2.2.2.2.2.2.2.2.1 h).below hb), (fun _ => rfl), (fun _ => hz), (mq_keep hb (HI.out.2.2.2.2.2.2.2.2.2.2.2.2.2.2.2.2.2.2.2.1)), HI.out.2.2.2.2.2.2.2.2.2.2.2.2.2.2.2.2.2.2.2.2⟩
    · simp at ho
      subst ho
      try simp [Region.binds] at hdep
      have hb19 : b19 = false := by simpa using hun
      subst hb19
      have hb20 : b20 = false := by
        cases hb : b20
        · rfl
        · exact absurd (HI.out.2.2.2.2.2.2.2.2.2.2.2.2.2.2.2.2.2.2.2.2 hb) (by decide)
      subst hb20
      unfold wpOp
      go_simp
      exact Or.inl (HK.out _ _ ⟨b0, b1, b2, b3, b4, b5, b6, b7, b8, b9, b10, b11, b12, b13, b14, b15, b16, b17, b18, true, false, rfl, v107, v108, v109, v110, v111, v112, v113, v114, v115, v116, v117, v118, v119, v120, v121, v122, v123, v124, v125, _, rfl, (HBW.out.alloc HBW.out.size _), HI.out.1, HI.out.2.1, HI.out.2.2.1, HI.out.2.2.2.1, HI.out.2.2.2.2.1, HI.out.2.2.2.2.2.1, HI.out.2.2.2.2.2.2.1, HI.out.2.2.2.2.2.2.2.1, HI.out.2.2.2.2.2.2.2.2.1, HI.out.2.2.2.2.2.2.2.2.2.1, HI.out.2.2.2.2.2.2.2.2.2.2.1, HI.out.2.2.2.2.2.2.2.2.2.2.2.1, HI.out.2.2.2.2.2.2.2.2.2.2.2.2.1, HI.out.2.2.2.2.2.2.2.2.2.2.2.2.2.1, HI.out.2.2.2.2.2.2.2.2.2.2.2.2.2.2.1, HI.out.2.2.2.2.2.2.2.2.2.2.2.2.2.2.2.1, (fun h => (HI.out.2.2.2.2.2.2.2.2.2.2.2.2.2.2.2.2.1 h).below ((Below.refl _ _).alloc (Nat.le_refl _) _)), HI.out.2.2.2.2.2.2.2.2.2.2.2.2.2.2.2.2.2.1, (fun h => (HI.out.2.2.2.2.2.2.2.2.2.2.2.2.2.2.2.2.2.2.1 h).below ((Below.refl _ _).alloc (Nat.le_refl _) _)), (fun _ => ⟨w.heap.size, rfl, HBW.out.size, Var.new _ _ _⟩), (fun h => by cases h)⟩)
    · have hb20 : b20 = false := by simpa using hun
      subst hb20
      simp at ho
      subst ho
      try simp [Region.binds] at hdep
      obtain ⟨M, rfl, hM, vM⟩ := HI.out.2.2.2.2.2.2.2.2.2.2.2.2.2.2.2.2.2.2.2.1 (show b19 = true by first | exact hdep | exact hdep.1 | exact hdep.2 | exact hdep.2.1 | exact hdep.2.2 | exact hdep.2.2.1 | exact hdep.2.2.2 | exact hdep.2.2.2.1 | exact hdep.2.2.2.2.1 | exact hdep.2.2.2.2.2.1)
      have d19 := (show b19 = true by first | exact hdep | exact hdep.1 | exact hdep.2 | exact hdep.2.1 | exact hdep.2.2 | exact hdep.2.2.1 | exact hdep.2.2.2 | exact hdep.2.2.2.1 | exact hdep.2.2.2.2.1 | exact hdep.2.2.2.2.2.1)
      obtain ⟨g1, gA, gm, gc, g2, gB, gn, gd, e', r1, r2⟩ := HI.out.2.2.2.2.2.2.2.2.2.2.2.2.2.2.2.2.2.2.1 (show b18 = true by first | exact hdep | exact hdep.1 | exact hdep.2 | exact hdep.2.1 | exact hdep.2.2 | exact hdep.2.2.1 | exact hdep.2.2.2 | exact hdep.2.2.2.1 | exact hdep.2.2.2.2.1 | exact hdep.2.2.2.2.2.1)
      subst e'
      have vM' : Var w M 53 #[.bool false, .slice none 0 0, .bool false, .slice none 0 0] := vM
      have m0 : w.cell? ⟨M, 0, none⟩ = some (.bool false) := vM'.cell 0
      have f0 := vM'.free 0
      have m1 : w.cell? ⟨M, 1, none⟩ = some (.slice none 0 0) := vM'.cell 1
      have f1 := vM'.free 1
      have m2 : w.cell? ⟨M, 2, none⟩ = some (.bool false) := vM'.cell 2
      have f2 := vM'.free 2
      have m3 : w.cell? ⟨M, 3, none⟩ = some (.slice none 0 0) := vM'.cell 3
      have f3 := vM'.free 3
      have HVM := Lib.hid vM'
      have HR := Lib.hid (rat_mk r1 r2)
      clear vM vM' r1 r2
      unfold wpOp
      go_simp
      exact Or.inl (HK.out _ _ ⟨b0, b1, b2, b3, b4, b5, b6, b7, b8, b9, b10, b11, b12, b13, b14, b15, b16, b17, b18, b19, true, rfl, v107, v108, v109, v110, v111, v112, v113, v114, v115, v116, v117, v118, v119, v120, v121, v122, v123, v124, _, _, rfl, (below_four HBW.out hM _ _ _ _), HI.out.1, HI.out.2.1, HI.out.2.2.1, HI.out.2.2.2.1, HI.out.2.2.2.2.1, HI.out.2.2.2.2.2.1, HI.out.2.2.2.2.2.2.1, HI.out.2.2.2.2.2.2.2.1, HI.out.2.2.2.2.2.2.2.2.1, HI.out.2.2.2.2.2.2.2.2.2.1, HI.out.2.2.2.2.2.2.2.2.2.2.1, HI.out.2.2.2.2.2.2.2.2.2.2.2.1, HI.out.2.2.2.2.2.2.2.2.2.2.2.2.1, HI.out.2.2.2.2.2.2.2.2.2.2.2.2.2.1, HI.out.2.2.2.2.2.2.2.2.2.2.2.2.2.2.1, HI.out.2.2.2.2.2.2.2.2.2.2.2.2.2.2.2.1, (fun h => (HI.out.2.2.2.2.2.2.2.2.2.2.2.2.2.2.2.2.1 h).four HVM.out (by decide) _ _ _ _), HI.out.2.2.2.2.2.2.2.2.2.2.2.2.2.2.2.2.2.1, (fun _ => HR.out.four HVM.out (by decide) _ _ _ _), (fun _ => ⟨M, rfl, hM, g1, gA, gm, gc, g2, gB, gn, gd, var_four HVM.out _ _ _ _, HR.out.four HVM.out (by decide) _ _ _ _⟩), (fun _ => d19)⟩)
    · simp at ho
  · rintro listed a w ⟨b0, b1, b2, b3, b4, b5, b6, b7, b8, b9, b10, b11, b12, b13, b14, b15, b16, b17, b18, b19, b20, rfl, v107, v108, v109, v110, v111, v112, v113, v114, v115, v116, v117, v118, v119, v120, v121, v122, v123, v124, v125, v14, rfl, hB, h0, h1, h2, h3, h4, h5, h6, h7, h8, h9, h10, h11, h12, h13, h14, h15, h16, h17, h18, h19, h20⟩ hr
    have hall := ready_nil (by kernel_rfl) (by rfl) hr
    have t0 : b0 = true := hall 0 (by decide)
    have t1 : b1 = true := hall 1 (by decide)
    have t2 : b2 = true := hall 2 (by decide)
    have t3 : b3 = true := hall 3 (by decide)
    have t4 : b4 = true := hall 4 (by decide)
    have t5 : b5 = true := hall 5 (by decide)
    have t6 : b6 = true := hall 6 (by decide)
    have t7 : b7 = true := hall 7 (by decide)
    have t8 : b8 = true := hall 8 (by decide)
    have t9 : b9 = true := hall 9 (by decide)
    have t10 : b10 = true := hall 10 (by decide)
    have t11 : b11 = true := hall 11 (by decide)
    have t12 : b12 = true := hall 12 (by decide)
    have t13 : b13 = true := hall 13 (by decide)
    have t14 : b14 = true := hall 14 (by decide)
    have t15 : b15 = true := hall 15 (by decide)
    have t16 : b16 = true := hall 16 (by decide)
    have t17 : b17 = true := hall 17 (by decide)
    have t18 : b18 = true := hall 18 (by decide)
    have t19 : b19 = true := hall 19 (by decide)
    have t20 : b20 = true := hall 20 (by decide)
    subst t0 t1 t2 t3 t4 t5 t6 t7 t8 t9 t10 t11 t12 t13 t14 t15 t16 t17 t18 t19 t20
    obtain ⟨M, rfl, hM, g1, gA, gm, gc, g2, gB, gn, gd, vM, rM⟩ := h19 rfl
    exact ⟨M, g1, gA, gm, gc, g2, gB, gn, gd, _, _, _, _, _, _, _, _, _, _, _, _, _, _, _, _, _, _, _, rfl, vM, rM, hB, hM⟩
  · refine ⟨false, false, false, false, false, false, false, false, false, false, false, false, false, false, false, false, false, false, false, false, false, rfl, u107, u108, u109, u110, u111, u112, u113, u114, u115, u116, u117, u118, u119, u120, u121, u122, u123, u124, u125, u14, rfl, (Below.refl _ _).drew, ?_, ?_, ?_, ?_, ?_, ?_, ?_, ?_, ?_, ?_, ?_, ?_, ?_, ?_, ?_, ?_, ?_, ?_, ?_, ?_, ?_⟩ <;> (intro h; cases h)

end Go.Proofs.Ytpjgghakeaajbaa
