/-
  ring.Check's region that reads the four ends of two edges. Printed by wip/tools/gen_chkd.py.
  ring.Check: what is wrong with a ring first, and where.
-/
import Derived.Test.YthbndilnobjjgaaChkE
import Derived.Test.YthbndilnobjjgaaSegG
import Derived.Test.YthbndilnobjjgaaTell
namespace Go.Proofs.Ythbndilnobjjgaa
open Go.RowKit Go.Shelf

theorem heldD_alloc {W0 W : World} (o : Obj) (h : Below W0.heap.size W0 W ∧ (∀ b o, b < W0.heap.size → W.cell? ⟨b, o, none⟩ = W0.cell? ⟨b, o, none⟩)) :
    Below W0.heap.size W0 (W.alloc o) ∧ (∀ b o', b < W0.heap.size → (W.alloc o).cell? ⟨b, o', none⟩ = W0.cell? ⟨b, o', none⟩) :=
  have hB := h.1.alloc h.1.size o
  ⟨hB, (bcell hB).1⟩
theorem heldD_set {W0 W : World} {g o : Nat} (u : Value) (hg : W0.heap.size ≤ g) (h : Below W0.heap.size W0 W ∧ (∀ b o, b < W0.heap.size → W.cell? ⟨b, o, none⟩ = W0.cell? ⟨b, o, none⟩)) :
    Below W0.heap.size W0 (W.setCell ⟨g, o, none⟩ u) ∧ (∀ b o', b < W0.heap.size → (W.setCell ⟨g, o, none⟩ u).cell? ⟨b, o', none⟩ = W0.cell? ⟨b, o', none⟩) :=
  have hB := h.1.setCell (p := ⟨g, o, none⟩) hg u
  ⟨hB, (bcell hB).1⟩
theorem heldD_drew {W0 W : World} (h : Below W0.heap.size W0 W ∧ (∀ b o, b < W0.heap.size → W.cell? ⟨b, o, none⟩ = W0.cell? ⟨b, o, none⟩)) :
    Below W0.heap.size W0 W.drew ∧ (∀ b o', b < W0.heap.size → W.drew.cell? ⟨b, o', none⟩ = W0.cell? ⟨b, o', none⟩) := ⟨h.1.drew, h.2⟩
theorem heldD_refl (W0 : World) : Below W0.heap.size W0 W0 ∧ (∀ b o, b < W0.heap.size → W0.cell? ⟨b, o, none⟩ = W0.cell? ⟨b, o, none⟩) := ⟨Below.refl _ _, fun _ _ _ => rfl⟩
theorem fourA {V : World} {a b : Value} {t : TypeId} {o2 o3 o4 : Obj} : ((((V.alloc (.cells #[a, b] t)).alloc o2).alloc o3).alloc o4).drew.heap[V.heap.size]? = some (.cells #[a, b] t (0, 0)) :=
  (((Var.new V t #[a, b]).alloc o2).alloc o3).alloc o4
theorem fourB {V : World} {a b : Value} {t : TypeId} {o2 o3 o4 : Obj} : ((((V.alloc o2).alloc (.cells #[a, b] t)).alloc o3).alloc o4).drew.heap[V.heap.size + 1]? = some (.cells #[a, b] t (0, 0)) :=
  ((Var.new' (V.alloc o2) t #[a, b] (by simp)).alloc o3).alloc o4
theorem fourC {V : World} {a b : Value} {t : TypeId} {o2 o3 o4 : Obj} : ((((V.alloc o2).alloc o3).alloc (.cells #[a, b] t)).alloc o4).drew.heap[V.heap.size + 1 + 1]? = some (.cells #[a, b] t (0, 0)) :=
  (Var.new' ((V.alloc o2).alloc o3) t #[a, b] (by simp)).alloc o4
theorem fourD {V : World} {a b : Value} {t : TypeId} {o2 o3 o4 : Obj} : ((((V.alloc o2).alloc o3).alloc o4).alloc (.cells #[a, b] t)).drew.heap[V.heap.size + 1 + 1 + 1]? = some (.cells #[a, b] t (0, 0)) :=
  Var.new' (((V.alloc o2).alloc o3).alloc o4) t #[a, b] (by simp)
theorem four_below {V : World} {o1 o2 o3 o4 : Obj} : Below V.heap.size V ((((V.alloc o1).alloc o2).alloc o3).alloc o4).drew :=
  (((((Below.refl _ V).alloc (Nat.le_refl _) o1).alloc (by simp) o2).alloc (by simp; omega) o3).alloc (by simp; omega) o4).drew
/-- What it leaves. -/
def PtsOut (V : World) (g off n c N i j : Nat) (ax ay bx by_ cx cy dx dy : Int) (ds : List Deferred) (u1 u2 u3 u4 u6 u7 u8 u9 u16 u17 u18 u19 u20 u21 u22 u23 u24 u25 u26 u27 u28 u29 u30 u31 u32 u33 u34 u35 u36 u37 u38 u39 u40 u41 u42 u43 u44 u45 u46 u47 u48 u49 u50 u51 u52 u53 u74 u75 u76 u77 u78 u79 u80 u81 u82 u83 u84 u85 u86 u87 u88 u89 u90 u91 u92 u93 u94 u95 u96 u97 u98 u99 u100 u101 u102 u103 u104 u105 u106 u107 u108 u109 u110 u111 u112 u113 : Value) (a' : Act) (W : World) : Prop :=
  ∃ X1 X2 X3 X4 v54 v55 v56 v57 v58 v59 v60 v61 v62 v63 v64 v65 v66 v67 v68 v69 v70 v71 v72 v73, a' = { tmps := #[.slice (some ⟨g, off, none⟩) n c, u1, u2, u3, u4, .pointer (some ⟨N, 0, none⟩), u6, u7, u8, u9, .int .i64 (i : Int), .int .i64 (j : Int), .pointer (some ⟨X1, 0, none⟩), .pointer (some ⟨X2, 0, none⟩), .pointer (some ⟨X3, 0, none⟩), .pointer (some ⟨X4, 0, none⟩), u16, u17, u18, u19, u20, u21, u22, u23, u24, u25, u26, u27, u28, u29, u30, u31, u32, u33, u34, u35, u36, u37, u38, u39, u40, u41, u42, u43, u44, u45, u46, u47, u48, u49, u50, u51, u52, u53, v54, v55, v56, v57, v58, v59, v60, v61, v62, v63, v64, v65, v66, v67, v68, v69, v70, v71, v72, v73, u74, u75, u76, u77, u78, u79, u80, u81, u82, u83, u84, u85, u86, u87, u88, u89, u90, u91, u92, u93, u94, u95, u96, u97, u98, u99, u100, u101, u102, u103, u104, u105, u106, u107, u108, u109, u110, u111, u112, u113], defers := ds } ∧
    (W.heap[X1]? = some (.cells #[.int .i32 ax, .int .i32 ay] 28 (0, 0)) ∧ W.heap[X2]? = some (.cells #[.int .i32 bx, .int .i32 by_] 28 (0, 0)) ∧ W.heap[X3]? = some (.cells #[.int .i32 cx, .int .i32 cy] 28 (0, 0)) ∧ W.heap[X4]? = some (.cells #[.int .i32 dx, .int .i32 dy] 28 (0, 0))) ∧
    (V.heap.size ≤ X1 ∧ V.heap.size ≤ X2 ∧ V.heap.size ≤ X3 ∧ V.heap.size ≤ X4) ∧ Below V.heap.size V W

set_option maxRecDepth 100000 in
set_option maxHeartbeats 8000000 in
theorem pts_in (V : World) (g off n c N i j i1 q : Nat) (ax ay bx by_ cx cy dx dy : Int) (ds : List Deferred) (u1 u2 u3 u4 u6 u7 u8 u9 u12 u13 u14 u15 u16 u17 u18 u19 u20 u21 u22 u23 u24 u25 u26 u27 u28 u29 u30 u31 u32 u33 u34 u35 u36 u37 u38 u39 u40 u41 u42 u43 u44 u45 u46 u47 u48 u49 u50 u51 u52 u53 u54 u55 u56 u57 u58 u59 u60 u61 u62 u63 u64 u65 u66 u67 u68 u69 u70 u71 u72 u73 u74 u75 u76 u77 u78 u79 u80 u81 u82 u83 u84 u85 u86 u87 u88 u89 u90 u91 u92 u93 u94 u95 u96 u97 u98 u99 u100 u101 u102 u103 u104 u105 u106 u107 u108 u109 u110 u111 u112 u113 : Value) (cN : V.cell? ⟨N, 0, none⟩ = some (.int .i64 (n : Int))) (hN : N < V.heap.size) (hg : g < V.heap.size)
    (a0 : V.cell? ⟨g, off + i * 2, none⟩ = some (.int .i32 ax)) (a1 : V.cell? ⟨g, off + i * 2 + 1, none⟩ = some (.int .i32 ay)) (b0 : V.cell? ⟨g, off + i1 * 2, none⟩ = some (.int .i32 bx)) (b1 : V.cell? ⟨g, off + i1 * 2 + 1, none⟩ = some (.int .i32 by_))
    (c0 : V.cell? ⟨g, off + j * 2, none⟩ = some (.int .i32 cx)) (c1 : V.cell? ⟨g, off + j * 2 + 1, none⟩ = some (.int .i32 cy)) (d0 : V.cell? ⟨g, off + q * 2, none⟩ = some (.int .i32 dx)) (d1 : V.cell? ⟨g, off + q * 2 + 1, none⟩ = some (.int .i32 dy))
    (hi : (i : Int) < (n : Int)) (hi1 : (i1 : Int) < (n : Int)) (hj : (j : Int) < (n : Int)) (hq : (q : Int) < (n : Int)) (hmod : ((j : Int) + 1).tmod (n : Int) = (q : Int)) (_hz1 : ((n : Int) == 0) = false) (_hz2 : ¬ (n : Int) = 0) (hz4 : ¬ n = 0)
    (hv1 : IntKind.i64.wrap ((i : Int) + 1) = (i1 : Int)) (_hv2 : wrap64 ((i : Int) + 1) = (i1 : Int)) (hv3 : IntKind.i64.wrap ((j : Int) + 1) = (j : Int) + 1) (_hv4 : wrap64 ((j : Int) + 1) = (j : Int) + 1) :
    (regionC Try.f8 19).wp Try.prog (Exit.then (PtsOut V g off n c N i j ax ay bx by_ cx cy dx dy ds u1 u2 u3 u4 u6 u7 u8 u9 u16 u17 u18 u19 u20 u21 u22 u23 u24 u25 u26 u27 u28 u29 u30 u31 u32 u33 u34 u35 u36 u37 u38 u39 u40 u41 u42 u43 u44 u45 u46 u47 u48 u49 u50 u51 u52 u53 u74 u75 u76 u77 u78 u79 u80 u81 u82 u83 u84 u85 u86 u87 u88 u89 u90 u91 u92 u93 u94 u95 u96 u97 u98 u99 u100 u101 u102 u103 u104 u105 u106 u107 u108 u109 u110 u111 u112 u113) (fun _ _ _ => False)) { tmps := #[.slice (some ⟨g, off, none⟩) n c, u1, u2, u3, u4, .pointer (some ⟨N, 0, none⟩), u6, u7, u8, u9, .int .i64 (i : Int), .int .i64 (j : Int), u12, u13, u14, u15, u16, u17, u18, u19, u20, u21, u22, u23, u24, u25, u26, u27, u28, u29, u30, u31, u32, u33, u34, u35, u36, u37, u38, u39, u40, u41, u42, u43, u44, u45, u46, u47, u48, u49, u50, u51, u52, u53, u54, u55, u56, u57, u58, u59, u60, u61, u62, u63, u64, u65, u66, u67, u68, u69, u70, u71, u72, u73, u74, u75, u76, u77, u78, u79, u80, u81, u82, u83, u84, u85, u86, u87, u88, u89, u90, u91, u92, u93, u94, u95, u96, u97, u98, u99, u100, u101, u102, u103, u104, u105, u106, u107, u108, u109, u110, u111, u112, u113], defers := ds } V := by
  show Code.wp _ (Code.region _ _ _) _ _ _
  go_region_held3 (fun w' => Below V.heap.size V w' ∧ (∀ b o, b < V.heap.size → w'.cell? ⟨b, o, none⟩ = V.cell? ⟨b, o, none⟩))
    (first | assumption | ((repeat' (first | assumption | (with_reducible exact heldD_refl _) | (with_reducible refine heldD_drew ?_) | (with_reducible refine heldD_alloc _ ?_) | (with_reducible refine heldD_set _ (by omega) ?_)))))
    (fail)
  all_goals
    refine ⟨_, _, _, _, _, _, _, _, _, _, _, _, _, _, _, _, _, _, _, _, _, _, _, _, rfl, ⟨?_, ?_, ?_, ?_⟩, ⟨?_, ?_, ?_, ?_⟩, four_below⟩
    all_goals first | with_reducible exact fourA | with_reducible exact fourB | with_reducible exact fourC | with_reducible exact fourD | (clear hv1 _hv2 hv3 _hv4 hmod; omega)

theorem pts_any {co : Code} (hc : co = regionC Try.f8 19) (V : World) (g off n c N i j i1 q : Nat) (ax ay bx by_ cx cy dx dy : Int) (ds : List Deferred) (u1 u2 u3 u4 u6 u7 u8 u9 u12 u13 u14 u15 u16 u17 u18 u19 u20 u21 u22 u23 u24 u25 u26 u27 u28 u29 u30 u31 u32 u33 u34 u35 u36 u37 u38 u39 u40 u41 u42 u43 u44 u45 u46 u47 u48 u49 u50 u51 u52 u53 u54 u55 u56 u57 u58 u59 u60 u61 u62 u63 u64 u65 u66 u67 u68 u69 u70 u71 u72 u73 u74 u75 u76 u77 u78 u79 u80 u81 u82 u83 u84 u85 u86 u87 u88 u89 u90 u91 u92 u93 u94 u95 u96 u97 u98 u99 u100 u101 u102 u103 u104 u105 u106 u107 u108 u109 u110 u111 u112 u113 : Value) (cN : V.cell? ⟨N, 0, none⟩ = some (.int .i64 (n : Int))) (hN : N < V.heap.size) (hg : g < V.heap.size)
    (a0 : V.cell? ⟨g, off + i * 2, none⟩ = some (.int .i32 ax)) (a1 : V.cell? ⟨g, off + i * 2 + 1, none⟩ = some (.int .i32 ay)) (b0 : V.cell? ⟨g, off + i1 * 2, none⟩ = some (.int .i32 bx)) (b1 : V.cell? ⟨g, off + i1 * 2 + 1, none⟩ = some (.int .i32 by_))
    (c0 : V.cell? ⟨g, off + j * 2, none⟩ = some (.int .i32 cx)) (c1 : V.cell? ⟨g, off + j * 2 + 1, none⟩ = some (.int .i32 cy)) (d0 : V.cell? ⟨g, off + q * 2, none⟩ = some (.int .i32 dx)) (d1 : V.cell? ⟨g, off + q * 2 + 1, none⟩ = some (.int .i32 dy))
    (hi : (i : Int) < (n : Int)) (hi1 : (i1 : Int) < (n : Int)) (hj : (j : Int) < (n : Int)) (hq : (q : Int) < (n : Int)) (hmod : ((j : Int) + 1).tmod (n : Int) = (q : Int)) (hz1 : ((n : Int) == 0) = false) (hz2 : ¬ (n : Int) = 0) (hz4 : ¬ n = 0)
    (hv1 : IntKind.i64.wrap ((i : Int) + 1) = (i1 : Int)) (hv2 : wrap64 ((i : Int) + 1) = (i1 : Int)) (hv3 : IntKind.i64.wrap ((j : Int) + 1) = (j : Int) + 1) (hv4 : wrap64 ((j : Int) + 1) = (j : Int) + 1) :
    co.wp Try.prog (Exit.then (PtsOut V g off n c N i j ax ay bx by_ cx cy dx dy ds u1 u2 u3 u4 u6 u7 u8 u9 u16 u17 u18 u19 u20 u21 u22 u23 u24 u25 u26 u27 u28 u29 u30 u31 u32 u33 u34 u35 u36 u37 u38 u39 u40 u41 u42 u43 u44 u45 u46 u47 u48 u49 u50 u51 u52 u53 u74 u75 u76 u77 u78 u79 u80 u81 u82 u83 u84 u85 u86 u87 u88 u89 u90 u91 u92 u93 u94 u95 u96 u97 u98 u99 u100 u101 u102 u103 u104 u105 u106 u107 u108 u109 u110 u111 u112 u113) (fun _ _ _ => False)) { tmps := #[.slice (some ⟨g, off, none⟩) n c, u1, u2, u3, u4, .pointer (some ⟨N, 0, none⟩), u6, u7, u8, u9, .int .i64 (i : Int), .int .i64 (j : Int), u12, u13, u14, u15, u16, u17, u18, u19, u20, u21, u22, u23, u24, u25, u26, u27, u28, u29, u30, u31, u32, u33, u34, u35, u36, u37, u38, u39, u40, u41, u42, u43, u44, u45, u46, u47, u48, u49, u50, u51, u52, u53, u54, u55, u56, u57, u58, u59, u60, u61, u62, u63, u64, u65, u66, u67, u68, u69, u70, u71, u72, u73, u74, u75, u76, u77, u78, u79, u80, u81, u82, u83, u84, u85, u86, u87, u88, u89, u90, u91, u92, u93, u94, u95, u96, u97, u98, u99, u100, u101, u102, u103, u104, u105, u106, u107, u108, u109, u110, u111, u112, u113], defers := ds } V := by
  subst hc
  exact pts_in V g off n c N i j i1 q ax ay bx by_ cx cy dx dy ds u1 u2 u3 u4 u6 u7 u8 u9 u12 u13 u14 u15 u16 u17 u18 u19 u20 u21 u22 u23 u24 u25 u26 u27 u28 u29 u30 u31 u32 u33 u34 u35 u36 u37 u38 u39 u40 u41 u42 u43 u44 u45 u46 u47 u48 u49 u50 u51 u52 u53 u54 u55 u56 u57 u58 u59 u60 u61 u62 u63 u64 u65 u66 u67 u68 u69 u70 u71 u72 u73 u74 u75 u76 u77 u78 u79 u80 u81 u82 u83 u84 u85 u86 u87 u88 u89 u90 u91 u92 u93 u94 u95 u96 u97 u98 u99 u100 u101 u102 u103 u104 u105 u106 u107 u108 u109 u110 u111 u112 u113 cN hN hg a0 a1 b0 b1 c0 c1 d0 d1 hi hi1 hj hq hmod hz1 hz2 hz4 hv1 hv2 hv3 hv4

attribute [local go_sem] Oper.semAt_some

theorem wp_scope_none {P : Program} {a : Act} {w : World} {Q : Exit → Act → World → Prop} {c : Code} (hQ : ∀ l a w, Q (.goto l) a w → False) (h : c.wp P Q a w) : (Code.scope c).wp P Q a w := by
  intro b k cs
  obtain ⟨e, a1, w1, hq, har⟩ := h b (.inScope c :: k) cs
  cases e with
  | normal => exact ⟨.normal, a1, w1, hq, .head step_scope (Steps.trans har (.one step_inScope))⟩
  | exit id => exact ⟨.exit id, a1, w1, hq, fun k' hk => .head step_scope (har k' (by simp [exitTo, hk]))⟩
  | goto l' => exact (hQ _ _ _ hq).elim
  | ret => exact ⟨_, a1, w1, hq, .of_steps (.one step_scope) har⟩
  | panic ch => exact ⟨_, a1, w1, hq, .of_steps (.one step_scope) har⟩
  | outgrown => exact ⟨_, a1, w1, hq, .of_steps (.one step_scope) har⟩
theorem res_check {tmps : Array Value} {W : World} {R I J : Nat} {x y z : Int} (h2 : tmps.getD 2 undef = .pointer (some ⟨R, 0, none⟩)) (h3 : tmps.getD 3 undef = .pointer (some ⟨I, 0, none⟩)) (h4 : tmps.getD 4 undef = .pointer (some ⟨J, 0, none⟩))
    (c2 : W.cell? ⟨R, 0, none⟩ = some (.int .i64 x)) (c3 : W.cell? ⟨I, 0, none⟩ = some (.int .i64 y)) (c4 : W.cell? ⟨J, 0, none⟩ = some (.int .i64 z)) :
    (results Try.f8 tmps).run Try.prog W = .ok (.tuple #[.int .i64 x, .int .i64 y, .int .i64 z]) W := by
  simp only [Array.getD_eq_getD_getElem?] at h2 h3 h4
  simp [results, Try.f8, go_sem, h2, h3, h4, c2, c3, c4]

theorem three_out {V : World} {R I J : Nat} {tR tI tJ : TypeId} {u v x : Value} (bR : Boxed V R tR u) (bI : Boxed V I tI v) (bJ : Boxed V J tJ x) (nRI : R ≠ I) (nRJ : R ≠ J) (nIJ : I ≠ J) (a b c : Int) :
    (((V.setCell ⟨R, 0, none⟩ (.int .i64 a)).setCell ⟨I, 0, none⟩ (.int .i64 b)).setCell ⟨J, 0, none⟩ (.int .i64 c)).cell? ⟨R, 0, none⟩ = some (.int .i64 a) ∧ (((V.setCell ⟨R, 0, none⟩ (.int .i64 a)).setCell ⟨I, 0, none⟩ (.int .i64 b)).setCell ⟨J, 0, none⟩ (.int .i64 c)).cell? ⟨I, 0, none⟩ = some (.int .i64 b) ∧ (((V.setCell ⟨R, 0, none⟩ (.int .i64 a)).setCell ⟨I, 0, none⟩ (.int .i64 b)).setCell ⟨J, 0, none⟩ (.int .i64 c)).cell? ⟨J, 0, none⟩ = some (.int .i64 c) :=
  ⟨(((bR.set (.int .i64 a)).other nRI _).other nRJ _).cell, (((bI.other (Ne.symm nRI) _).set (.int .i64 b)).other nIJ _).cell, (((bJ.other (Ne.symm nRJ) _).other (Ne.symm nIJ) _).set (.int .i64 c)).cell⟩
theorem three_below {w V : World} {R I J n : Nat} {a b c : Value} (h : Below n w V) (hR : n ≤ R) (hI : n ≤ I) (hJ : n ≤ J) : Below n w (((V.setCell ⟨R, 0, none⟩ a).setCell ⟨I, 0, none⟩ b).setCell ⟨J, 0, none⟩ c) :=
  ((h.setCell (p := ⟨R, 0, none⟩) hR _).setCell (p := ⟨I, 0, none⟩) hI _).setCell (p := ⟨J, 0, none⟩) hJ _

/-- What the range over the sides keeps. -/
def ChkI (w : World) (R I J N B n z : Nat) (pre : List Sd) (W : World) : Prop :=
  (((∀ y ∈ vals pre, y.1 ≠ y.2) ∧ Boxed W B 3 (.int .i64 (pre.length : Int))) ∧ (Boxed W R 24 (.int .i64 0) ∧ Boxed W I 3 (.int .i64 0)) ∧ Boxed W J 3 (.int .i64 0) ∧ Boxed W N 3 (.int .i64 (n : Int))) ∧ Below R w W ∧ z ≤ W.heap.size
theorem same_more {w V : World} {R I J N B n z L : Nat} {pre : List Sd} {x : Sd} (hL : pre.length = L) (hf : ∀ y ∈ vals pre, y.1 ≠ y.2) (hne : ¬ x.1.1 = x.1.2) (bR : Boxed V R 24 (.int .i64 0)) (bI : Boxed V I 3 (.int .i64 0)) (bJ : Boxed V J 3 (.int .i64 0)) (bN : Boxed V N 3 (.int .i64 (n : Int))) (bB : Boxed V B 3 (.int .i64 (L : Int)))
    (hB : Below R w V) (hz : z ≤ V.heap.size) (nR : R ≠ B) (nI : I ≠ B) (nJ : J ≠ B) (nN : N ≠ B) (hR : R ≤ B) :
    KeepsFrom z V (V.setCell ⟨B, 0, none⟩ (.int .i64 ((L : Int) + 1))) ∧ Kx B z V (V.setCell ⟨B, 0, none⟩ (.int .i64 ((L : Int) + 1))) ∧ ChkI w R I J N B n z (pre ++ [x]) (V.setCell ⟨B, 0, none⟩ (.int .i64 ((L : Int) + 1))) := by
  refine ⟨(KeepsOthers.setCell _ _ _).from _, kx_set (Below.refl _ _) hz _, ⟨⟨fun y hy => ?_, ?_⟩, ⟨bR.other nR _, bI.other nI _⟩, bJ.other nJ _, bN.other nN _⟩, hB.setCell (p := ⟨B, 0, none⟩) hR _, by simp; exact hz⟩
  · rw [vals_snoc, List.mem_append] at hy
    rcases hy with hy | hy
    · exact hf y hy
    · rw [List.mem_singleton] at hy
      subst hy
      exact hne
  · rw [show ((pre ++ [x]).length : Int) = (L : Int) + 1 by rw [List.length_append, hL]; rfl]
    exact bB.set _
theorem diff_all {ps : List Pt} {hps : ∀ p ∈ ps, IPt p} {k : Nat} (h : ∀ y ∈ vals (upto (sdS ps hps) k), y.1 ≠ y.2) : ∀ m, m < k → DiffAt ps m := fun m hm => by
  unfold vals at h
  rw [sdS_map] at h
  exact h (sid ps m) (List.mem_map.2 ⟨m, List.mem_range.2 hm, rfl⟩)

theorem chk_leave {ps : List Pt} {w : World} {a : Act} {W W0 : World} {R I J D n : Nat} {x y z : Int} (hd : a.defers = [{ target := .collected D, args := #[] }]) (h2 : a.tmps.getD 2 undef = .pointer (some ⟨R, 0, none⟩)) (h3 : a.tmps.getD 3 undef = .pointer (some ⟨I, 0, none⟩)) (h4 : a.tmps.getD 4 undef = .pointer (some ⟨J, 0, none⟩))
    (c2 : W.cell? ⟨R, 0, none⟩ = some (.int .i64 x)) (c3 : W.cell? ⟨I, 0, none⟩ = some (.int .i64 y)) (c4 : W.cell? ⟨J, 0, none⟩ = some (.int .i64 z)) (hk : KeepsOthers W0 W) (hK0 : W0.heap[D]? = some (.deferred (some []))) (hB : Below n w W) (hwn : w.heap.size ≤ n) (_hnw : n ≤ w.heap.size) (hD : w.heap.size ≤ D)
    (h : ChkOut ps (.returned (.tuple #[.int .i64 x, .int .i64 y, .int .i64 z]))) :
    bodyPostM Fence.wide 6 Try.prog Try.f8 (fun e w' => ChkOut ps e ∧ Below w.heap.size w w') Exit.ret a W := by
  have hK : W.heap[D]? = some (.deferred (some [])) := hk.same D _ hK0 rfl
  have e : ∀ r : Nat, some D = some r → ∃ o : Obj, W.heap[r]? = some o ∧ o.isCells = false := fun r e => by cases e; exact ⟨_, hK, rfl⟩
  have hk1 := cell_kept c2 (grownBy_putObj' _ D (.deferred none)) e
  have hk2 := cell_kept c3 (grownBy_putObj' _ D (.deferred none)) e
  have hk3 := cell_kept c4 (grownBy_putObj' _ D (.deferred none)) e
  obtain ⟨tmps, defers⟩ := a
  dsimp only at hd h2 h3 h4
  subst hd
  refine ⟨by simp, .inl ⟨_, _, rfl, run_takeDeferred hK, ?_⟩⟩
  exact ⟨_, res_check h2 h3 h4 hk1 hk2 hk3, h, (hB.mono hwn).trans (belowK_b (w := w) (Nat.le_refl _) _ D _ _ hD hK rfl rfl)⟩
/-- A world within the loops: the reason's box holds z. -/
def ChkW (w W wr : World) (R : Nat) (z : Int) : Prop := Boxed wr R 24 (.int .i64 z) ∧ Below R w wr ∧ W.grownBy wr (some R)
theorem ChkW.keep {w W wr w' : World} {R : Nat} {z : Int} (h : ChkW w W wr R z) (hb : Below wr.heap.size wr w') : ChkW w W w' R z :=
  ⟨boxed_below hb h.1.lt h.1, h.2.1.trans (hb.mono (Nat.le_of_lt h.1.lt)), h.2.2.trans ⟨hb.os, hb.tape, hb.output, hb.size, fun k hk _ => hb.block k hk⟩⟩
theorem ChkW.set {w W wr : World} {R : Nat} {z : Int} (h : ChkW w W wr R z) (v : Int) : ChkW w W (wr.setCell ⟨R, 0, none⟩ (.int .i64 v)) R v :=
  ⟨h.1.set _, h.2.1.setCell (p := ⟨R, 0, none⟩) (Nat.le_refl _) _, h.2.2.trans (grownBy_setCell' _ _ _)⟩
theorem ChkW.box {w W wr : World} {R X : Nat} {z : Int} {t : TypeId} {u : Value} (h : ChkW w W wr R z) (hb : Boxed W X t u) (hne : X ≠ R) : Boxed wr X t u := hb.kept h.2.2 (fun e => hne (Option.some.inj e))
theorem wp_then {P : Program} {c : Code} {Q : Exit → Act → World → Prop} {F : Act → World → Prop} {a : Act} {w : World} (h1 : c.wp P (Exit.then F (fun _ _ _ => False)) a w) (h2 : ∀ a' w', F a' w' → Q .normal a' w') : c.wp P Q a w :=
  Code.wp_mono (fun e a' w' h => by
    cases e with
    | normal => exact h2 a' w' h
    | _ => exact h.elim) h1
theorem chk_eq1 {j n : Nat} (h : j = n - 1) (h3 : 3 ≤ n) : ((j : Int) == (n : Int) - 1) = true := by rw [beq_iff_eq]; omega
theorem chk_eq0 {j n : Nat} (h : ¬ j = n - 1) (h3 : 3 ≤ n) : ((j : Int) == (n : Int) - 1) = false := by rw [beq_eq_false_iff_ne]; omega
theorem chk_len {l j n : Nat} (hl : l = n) (h : j = n - 1) (h3 : 3 ≤ n) : l = j + 1 := by omega
theorem chk_cast (i : Nat) : Value.int .i64 ((i : Int) + 1) = Value.int .i64 ((i + 1 : Nat) : Int) := rfl
theorem chk_less {i n : Nat} (h : i < n) : n - (intOf (.int .i64 ((i : Int) + 1))).toNat < n - (intOf (.int .i64 (i : Int))).toNat := by simp [intOf]; omega
theorem chk_wraps {i j i1 n : Nat} (h1 : i + 1 = i1) (hi : i < n) (hj : j < n) (hn : n ≤ 64) : IntKind.i64.wrap ((i : Int) + 1) = (i1 : Int) ∧ wrap64 ((i : Int) + 1) = (i1 : Int) ∧ IntKind.i64.wrap ((j : Int) + 1) = (j : Int) + 1 ∧ wrap64 ((j : Int) + 1) = (j : Int) + 1 ∧ wrap64 ((n : Int) - 1) = (n : Int) - 1 := by
  subst h1
  have h : ∀ z : Int, 0 ≤ z → z ≤ 100 → IntKind.i64.wrap z = z ∧ wrap64 z = z := fun z a b => by
    refine ⟨?_, ?_⟩
    · simp only [IntKind.wrap, IntKind.signed, IntKind.bits]
      simp
      omega
    · unfold wrap64
      omega
  have a := h ((i : Int) + 1) (by omega) (by omega)
  have b := h ((j : Int) + 1) (by omega) (by omega)
  have c := h ((n : Int) - 1) (by omega) (by omega)
  exact ⟨a.1, a.2, b.1, b.2, c.2⟩
theorem chk_block {W wr : World} {R D z : Nat} {o : Obj} (hG : W.grownBy wr (some R)) (hK : W.heap[D]? = some o) (hz : z ≤ D) (hR : R < z) : wr.heap[D]? = some o :=
  (hG.block D (Array.getElem?_eq_some_iff.1 hK).1 (fun e => by have : D = R := Option.some.inj e; omega)).trans hK

set_option maxHeartbeats 2000000 in
set_option maxRecDepth 100000 in
theorem check_any (HM : MeetSays) (ps : List Pt) (hps : ∀ p ∈ ps, IPt p) (n : Nat) (hn : ps.length = n) (M c : Nat) (A : Option Addr) (w : World) (hP : PtsAt M w (.slice A n c) ps) (hM : M ≤ w.heap.size) :
    Calls Try.prog 8 #[.slice A n c] w fun e w' => ChkOut ps e ∧ Below w.heap.size w w' := by
  have ID := Lib.hid (fun (h64 : n ≤ 64) W (h : Below w.heap.size w W) => idx_any ps n hn M A c W (hP.below (h.mono hM)) (Nat.le_trans hM h.size) (by omega))
  have ED := Lib.hid (fun (h3 : 3 ≤ n) (h64 : n ≤ 64) W (h : Below w.heap.size w W) => edges_any ps M A c W (by rw [hn]; exact hP.below (h.mono hM)) (Nat.le_trans hM h.size) (by omega) (by omega))
  have HP := Lib.hid (And.intro hn (And.intro hP hps))
  have HMS := Lib.hid HM
  rw [hn] at ED
  clear hn hP HM hps
  refine (callsIn_wide (n := 6)).1 ?_
  have h1 : 1 ≤ 6 := by omega
  refine callsIn_of_wp_marks Try.func8 rfl trivial ?_ rfl
  simp only [Try.ntmps8, List.size_toArray, List.length_cons, List.length_nil, Nat.reduceAdd, Nat.reduceSub, Array.replicate_succ, Array.replicate_zero, List.push_toArray, List.append_toArray, List.nil_append, List.cons_append]
  refine wpIn_wide.2 ?_
  go_wp2_with fail
  refine wp_scope_none (fun _ _ _ h => h) ?_
  go_upto_region 2 with fail
  refine wp_gen (fun W hW => ?_)
  have bR : Boxed W w.heap.size 24 (.int .i64 0) := by rw [hW]; exact (((Boxed.new _ _ _).alloc _).alloc _).alloc _
  have bI : Boxed W (w.heap.size + 1) 3 (.int .i64 0) := by
    have := ((Boxed.new (w.alloc (.cells #[.int .i64 0] 24)) 3 (.int .i64 0)).alloc (.cells #[.int .i64 0] 3)).alloc (.cells #[.int .i64 (n : Int)] 3)
    rw [World.size_alloc] at this
    rw [hW]; exact this
  have bJ : Boxed W (w.heap.size + 1 + 1) 3 (.int .i64 0) := by
    have := (Boxed.new ((w.alloc (.cells #[.int .i64 0] 24)).alloc (.cells #[.int .i64 0] 3)) 3 (.int .i64 0)).alloc (.cells #[.int .i64 (n : Int)] 3)
    rw [World.size_alloc, World.size_alloc] at this
    rw [hW]; exact this
  have bN : Boxed W (w.heap.size + 1 + 1 + 1) 3 (.int .i64 (n : Int)) := by
    have := Boxed.new (((w.alloc (.cells #[.int .i64 0] 24)).alloc (.cells #[.int .i64 0] 3)).alloc (.cells #[.int .i64 0] 3)) 3 (.int .i64 (n : Int))
    rw [World.size_alloc, World.size_alloc, World.size_alloc] at this
    rw [hW]; exact this
  have hB : Below w.heap.size w W := by rw [hW]; go_grown
  clear hW
  obtain ⟨R, hR⟩ : ∃ R, w.heap.size = R := ⟨_, rfl⟩
  rw [hR] at bR bI bJ bN ID ED hB hM ⊢
  have HR := Lib.hid hR
  obtain ⟨I, hI⟩ : ∃ I, R + 1 = I := ⟨_, rfl⟩
  rw [hI] at bI bJ bN ⊢
  obtain ⟨J, hJ⟩ : ∃ J, I + 1 = J := ⟨_, rfl⟩
  rw [hJ] at bJ bN ⊢
  obtain ⟨N, hN⟩ : ∃ N, J + 1 = N := ⟨_, rfl⟩
  rw [hN] at bN ⊢
  have nRI : R ≠ I := by omega
  have nRJ : R ≠ J := by omega
  have nRN : R ≠ N := by omega
  have nIJ : I ≠ J := by omega
  have nIR : I ≠ R := by omega
  have nJR : J ≠ R := by omega
  have nJI : J ≠ I := by omega
  have nNR : N ≠ R := by omega
  have hRN : R < N := by omega
  have nIN : I ≠ N := by omega
  have nJN : J ≠ N := by omega
  have hRI : R < I := by omega
  have hRJ : R < J := by omega
  have hwR : w.heap.size ≤ R := by omega
  have hRw : R ≤ w.heap.size := by omega
  clear hR hI hJ hN
  have cN := bN.cell
  have cR := bR.cell
  have cI := bI.cell
  have cJ := bJ.cell
  have fR := bR.frozen
  have fI := bI.frozen
  have fJ := bJ.frozen
  have zR := bR.lt
  have zI := bI.lt
  have zJ := bJ.lt
  have zN := bN.lt
  have H0 := Lib.hid (And.intro hB (And.intro bR (And.intro bI (And.intro bJ bN))))
  clear hB bR bI bJ bN
  rcases Nat.lt_or_ge n 3 with h3 | h3
  · have hI3 : (n : Int) < 3 := by omega
    have HC : Hid (ChkIs ps (60, 0, 0)) := Lib.hid (.inl ⟨by have := HP.out.1; omega, rfl⟩)
    go_wp2_with fail
    obtain ⟨k1, k2, k3⟩ := three_out H0.out.2.1 H0.out.2.2.1 H0.out.2.2.2.1 nRI nRJ nIJ 60 ((0 : Nat) : Int) ((0 : Nat) : Int)
    exact ⟨_, res_check rfl rfl rfl k1 k2 k3, chk_put HC.out, three_below (by rw [HR.out]; exact H0.out.1) (by omega) (by omega) (by omega)⟩
  rcases Nat.lt_or_ge 64 n with h64 | h64
  · have hI3 : ¬ (n : Int) < 3 := by omega
    have hI2 : (64 : Int) < (n : Int) := by omega
    have HC : Hid (ChkIs ps (60, 0, 0)) := Lib.hid (.inl ⟨by have := HP.out.1; omega, rfl⟩)
    go_wp2_with fail
    obtain ⟨k1, k2, k3⟩ := three_out H0.out.2.1 H0.out.2.2.1 H0.out.2.2.2.1 nRI nRJ nIJ 60 ((0 : Nat) : Int) ((0 : Nat) : Int)
    exact ⟨_, res_check rfl rfl rfl k1 k2 k3, chk_put HC.out, three_below (by rw [HR.out]; exact H0.out.1) (by omega) (by omega) (by omega)⟩
  have hI3 : ¬ (n : Int) < 3 := by omega
  have hI2 : ¬ (64 : Int) < (n : Int) := by omega
  have hRW : R ≤ W.heap.size := by omega
  go_wp2_with fail
  refine (ID.out h64 W H0.out.1).mono ?_
  rintro e w1 ⟨⟨z, rfl, hz⟩, hb1⟩
  have bR1 := boxed_below hb1 zR H0.out.2.1
  have bI1 := boxed_below hb1 zI H0.out.2.2.1
  have bJ1 := boxed_below hb1 zJ H0.out.2.2.2.1
  have bN1 := boxed_below hb1 zN H0.out.2.2.2.2
  have hB1 := H0.out.1.trans (hb1.mono hRW)
  clear cN cR cI cJ fR fI fJ zR zI zJ zN H0 hb1 hRW ID
  have cR := bR1.cell
  have cI := bI1.cell
  have cJ := bJ1.cell
  have fR := bR1.frozen
  have fI := bI1.frozen
  have fJ := bJ1.frozen
  have zR := bR1.lt
  have zI := bI1.lt
  have zJ := bJ1.lt
  have zN := bN1.lt
  have H1 := Lib.hid (And.intro hB1 (And.intro bR1 (And.intro bI1 (And.intro bJ1 bN1))))
  clear bR1 bI1 bJ1 bN1 hB1
  rcases hz with ⟨k, rfl, hk, hnk, hlk⟩ | ⟨rfl, hall⟩
  · have HC : Hid (ChkIs ps (61, k, 0)) := Lib.hid (.inr ⟨by have := HP.out.1; omega, .inl ⟨k, hk, hnk, hlk, rfl⟩⟩)
    have hz0 : (0 : Int) ≤ (k : Int) := by omega
    clear hk hnk hlk
    go_wp2_with fail
    obtain ⟨k1, k2, k3⟩ := three_out H1.out.2.1 H1.out.2.2.1 H1.out.2.2.2.1 nRI nRJ nIJ 61 (k : Int) ((0 : Nat) : Int)
    exact ⟨_, res_check rfl rfl rfl k1 k2 k3, chk_put HC.out, three_below (by rw [HR.out]; exact H1.out.1) (by omega) (by omega) (by omega)⟩
  have HIN := Lib.hid hall
  clear hall cR cI cJ fR fI fJ
  go_wp2_with fail
  refine (ED.out h3 h64 _ (H1.out.1.alloc (by omega) _)).mono ?_
  rintro e w3 ⟨A', c', rfl, bS, hPN, hb3⟩
  have hB1 := H1.out.1
  obtain ⟨B, hBe⟩ : ∃ B, w1.heap.size = B := ⟨_, rfl⟩
  have bB : Boxed w3 B 3 (.int .i64 0) := by rw [← hBe]; exact boxed_below hb3 (by simp) (Boxed.new w1 _ _)
  have hS : (w1.alloc (.cells #[.int .i64 0] 3)).heap.size = B + 1 := by simp [hBe]
  rw [hS] at bS hPN hb3
  have bR3 := boxed_below hb3 (by omega) (H1.out.2.1.alloc (.cells #[.int .i64 0] 3))
  have bI3 := boxed_below hb3 (by omega) (H1.out.2.2.1.alloc (.cells #[.int .i64 0] 3))
  have bJ3 := boxed_below hb3 (by omega) (H1.out.2.2.2.1.alloc (.cells #[.int .i64 0] 3))
  have bN3 := boxed_below hb3 (by omega) (H1.out.2.2.2.2.alloc (.cells #[.int .i64 0] 3))
  have hB3 : Below R w w3 := (H1.out.1.alloc (by omega) _).trans (hb3.mono (by omega))
  have hPB := hPN B (by omega)
  have hz3 : B + 1 < w3.heap.size := bS.lt
  have nBR : R ≠ B := by omega
  have nBI : I ≠ B := by omega
  have nBJ : J ≠ B := by omega
  have nBN : N ≠ B := by omega
  rw [hBe] at zR zI zJ zN
  have H3 := Lib.hid (And.intro hB3 (And.intro bR3 (And.intro bI3 (And.intro bJ3 bN3))))
  clear H1 hB1 hPN hb3 hS
  have HBE := Lib.hid hBe
  clear hBe
  obtain ⟨S, hSe⟩ : ∃ S, B + 1 = S := ⟨_, rfl⟩
  rw [hSe] at bS hz3
  have nBS : S ≠ B := by omega
  have hRB : R ≤ B := by omega
  have hBS : B < S := by omega
  have hw3 : R ≤ w3.heap.size := by omega
  have hps := HP.out.2.2
  have hn := HP.out.1
  have HSE := Lib.hid hSe
  clear hSe
  go_wp2_with fail
  rw [HBE.out, HSE.out]
  refine (wpIn_wide (n := 6)).1 ?_
  refine wpIn_rangeFunc_ownH rfl h1 (gf := 51) (lb := #[.pointer (some ⟨S, 0, none⟩)]) rfl trivial (enters_of Try.func51 (by kernel_rfl) rfl)
    (edges_stops Fence.wide (6 - 1) trivial rfl (by omega) S B w3.heap.size (.slice A' n c') ps hps (by omega) w3 (Nat.le_refl _) (by omega) nBS bS.cell hPB) kx_t (kx_b (Nat.le_refl _)) (Below.refl _ _) (fun _ => rfl)
    (ChkI w R I J N B n w3.heap.size)
    (fun c pre W => ((c = .ret ∧ ∃ q x, pre = q ++ [x] ∧ (∀ y ∈ vals q, y.1 ≠ y.2) ∧ x.1.1 = x.1.2) ∧ (Boxed W R 24 (.int .i64 62) ∧ Boxed W I 3 (.int .i64 ((pre.length - 1 : Nat) : Int))) ∧ Boxed W J 3 (.int .i64 ((pre.length % n : Nat) : Int))) ∧ Below R w W)
    (OwnFrom.and (OwnFrom.and (OwnFrom.and (ownFrom_pure _ _) (Own.from (boxed_own _ _ _) _)) (OwnFrom.and (OwnFrom.and (Own.from (boxed_own _ _ _) _) (Own.from (boxed_own _ _ _) _)) (OwnFrom.and (Own.from (boxed_own _ _ _) _) (Own.from (boxed_own _ _ _) _)))) (OwnFrom.and (ownFrom_below (by omega) (by omega)) (ownFrom_size _ _)))
    (fun c => OwnFrom.and (OwnFrom.and (ownFrom_pure _ _) (OwnFrom.and (OwnFrom.and (Own.from (boxed_own _ _ _) _) (Own.from (boxed_own _ _ _) _)) (Own.from (boxed_own _ _ _) _))) (ownFrom_below (by omega) (by omega)))
    ⟨⟨⟨fun y hy => by simp [vals] at hy, bB⟩, ⟨H3.out.2.1, H3.out.2.2.1⟩, H3.out.2.2.2.1, H3.out.2.2.2.2⟩, H3.out.1, Nat.le_refl _⟩
    (fun x a' W => ∃ X Y, (N < X ∧ Two W X 28 x.1.1) ∧ (N < Y ∧ Two W Y 28 x.1.2) ∧ a' = { tmps := #[.slice A n c, undef, .pointer (some ⟨R, 0, none⟩), .pointer (some ⟨I, 0, none⟩), .pointer (some ⟨J, 0, none⟩), .pointer (some ⟨N, 0, none⟩), .int .i64 (-1), .pointer (some ⟨B, 0, none⟩), .pointer (some ⟨X, 0, none⟩), .pointer (some ⟨Y, 0, none⟩), undef, undef, undef, undef, undef, undef, .slice A n c, .int .i64 (n : Int), .int .i64 (n : Int), .bool false, .bool false, .int .i64 (n : Int), .bool false, .bool false, .slice A n c, .int .i64 (-1), .int .i64 (-1), .bool false, undef, .slice A n c, .func (.func 51) #[] #[.pointer (some ⟨S, 0, none⟩)], .agg #[.int .i32 x.1.1.1, .int .i32 x.1.1.2], .agg #[.int .i32 x.1.2.1, .int .i32 x.1.2.2], undef, undef, undef, undef, undef, undef, undef, undef, undef, undef, undef, undef, undef, undef, undef, undef, undef, undef, undef, undef, undef, undef, undef, undef, undef, undef, undef, undef, undef, undef, undef, undef, undef, undef, undef, undef, undef, undef, undef, undef, undef, undef, undef, undef, undef, undef, undef, undef, undef, undef, undef, undef, undef, undef, undef, undef, undef, undef, undef, undef, undef, undef, undef, undef, undef, undef, undef, undef, undef, undef, undef, undef, undef, undef, undef, undef, undef, undef, undef, undef, undef], defers := [] })
    (fun x a' _ V V' row hs hg hr => by
      obtain ⟨X, Y, ⟨k1, k2⟩, ⟨k3, k4⟩, k5⟩ := hs
      exact ⟨X, Y, ⟨k1, two_own X 28 (fun (_ : Unit) => x.1.1) () V V' row k2 hg (fun r e => (hr r e).2)⟩, ⟨k3, two_own Y 28 (fun (_ : Unit) => x.1.2) () V V' row k4 hg (fun r e => (hr r e).2)⟩, k5⟩)
    ?assign ?body ?done ?stop
  case assign =>
    rintro l pre x V K ⟨hI1, hB1, hsz⟩ hK
    have hVR := hB1.size
    unfold ePt
    gi_wp2
    refine hK _ _ (((KeepsOthers.alloc _ _).trans (KeepsOthers.alloc _ _)).from _) (Kx.below (((Below.refl _ V).alloc (Nat.le_refl _) _).alloc (by simp) _) hsz) ⟨⟨⟨hI1.1.1, (hI1.1.2.alloc _).alloc _⟩, ⟨(hI1.2.1.1.alloc _).alloc _, (hI1.2.1.2.alloc _).alloc _⟩, (hI1.2.2.1.alloc _).alloc _, (hI1.2.2.2.alloc _).alloc _⟩, (hB1.alloc (by omega) _).alloc (by simp; omega) _, by simp; omega⟩ ⟨V.heap.size, V.heap.size + 1, ⟨by omega, (Two.new V 28 x.1.1).alloc _⟩, ⟨by omega, ?_⟩, rfl⟩
    have := Two.new (V.alloc (.cells #[.int .i32 x.1.1.1, .int .i32 x.1.1.2] 28)) 28 x.1.2
    rw [World.size_alloc] at this
    exact this
  case body =>
    rintro l pre x a' V hl _ ⟨⟨⟨hf, bB1⟩, ⟨bR1, bI1⟩, bJ1, bN1⟩, hB1, hsz⟩ ⟨X, Y, ⟨hX, bX⟩, ⟨hY, bY⟩, rfl⟩ hlt
    obtain ⟨⟨⟨px, py⟩, ⟨qx, qy⟩⟩, hxi⟩ := x
    dsimp only at bX bY ⊢
    have cX0 := bX.c0
    have cX1 := bX.c1
    have cY0 := bY.c0
    have cY1 := bY.c1
    dsimp only at cX0 cX1 cY0 cY1
    have cB := bB1.cell
    have fB := bB1.frozen
    have cN := bN1.cell
    have zB := bB1.lt
    obtain ⟨L, hL⟩ : ∃ L, pre.length = L := ⟨_, rfl⟩
    rw [hL] at cB bB1 hlt
    have hlt' : L < n := by omega
    have hLI : (L : Int) < (n : Int) := by omega
    have hwr : IntKind.i64.wrap ((L : Int) + 1) = (L : Int) + 1 := by simp only [IntKind.wrap, IntKind.signed, IntKind.bits]; simp; omega
    have hwr2 : wrap64 ((L : Int) + 1) = (L : Int) + 1 := by unfold wrap64; omega
    by_cases hxy : ((px, py) : Pt) = (qx, qy)
    · injection hxy with hx hy
      subst hx hy
      have uRI : ¬ R = I := nRI
      have uRJ : ¬ R = J := nRJ
      have uRN : ¬ R = N := nRN
      have uRB : ¬ R = B := nBR
      have uIJ : ¬ I = J := nIJ
      have uIN : ¬ I = N := nIN
      have uIB : ¬ I = B := nBI
      have uJN : ¬ J = N := nJN
      have uJB : ¬ J = B := nBJ
      obtain ⟨q, hq⟩ : ∃ q, (L + 1) % n = q := ⟨_, rfl⟩
      have SI := Lib.hid (And.intro bR1 (And.intro bI1 (And.intro bJ1 (And.intro bN1 (And.intro bB1 (And.intro hq (And.intro hL (And.intro hf (And.intro hB1 hsz)))))))))
      clear hq hL hf hB1 hsz bR1 bI1 bJ1 bN1 bB1 bX bY
      gi_wp2
      refine wpIn_mono (same_in Fence.wide l _ V R I J N B L n q _ _ _ _ _ _ _ _ _ _ _ _ _ _ _ _ _ _ _ _ _ _ _ _ _ _ _ _ _ _ _ _ _ _ _ _ _ _ _ _ _ _ _ _ _ _ _ _ _ _ _ _ _ _ _ _ _ _ _ _ _ _ _ _ _ _ _ _ _ _ _ _ _ _ _ _ _ _ _ _ _ _ _ _ _ _ _ _ _ _ _ _ _ _ _ _ _ _ _ _ _ _ _ _ _ _ _ _ _ SI.out.1 SI.out.2.1 SI.out.2.2.1 SI.out.2.2.2.1 SI.out.2.2.2.2.1 uRI uRJ uRN uRB uIJ uIN uIB uJN uJB hlt' h64 SI.out.2.2.2.2.2.1) ?_
      rintro e a' W' ⟨rfl, ⟨v36, v37, v38, v39, v40, rfl⟩, hE⟩
      gi_wp2
      obtain ⟨_, _, _, _, _, hq, hL, hf, hB1, _⟩ := SI.out
      have hlen : (pre ++ [(⟨((px, py), px, py), hxi⟩ : Sd)]).length = L + 1 := by rw [List.length_append, hL]; rfl
      refine ⟨hE.2.2.2.1.from _, ⟨⟨rfl, pre, _, rfl, hf, rfl⟩, ⟨hE.1, ?_⟩, ?_⟩, hB1.trans (hE.2.2.2.2 R (Nat.le_refl _) (by omega) (by omega))⟩
      · rw [hlen]; exact hE.2.1
      · rw [hlen, hq]; exact hE.2.2.1
    · have hne : (((px, py) : Pt) = (qx, qy)) → False := hxy
      have fB := bB1.frozen
      have hNE := Lib.hid hxy
      have SI := Lib.hid (And.intro bR1 (And.intro bI1 (And.intro bJ1 (And.intro bN1 (And.intro bB1 (And.intro hL (And.intro hf (And.intro hB1 hsz))))))))
      clear hL hf hB1 hsz bR1 bI1 bJ1 bN1 bB1 bX bY hxy hne
      by_cases hx : px = qx
      · have hy : (py == qy) = false := beq_eq_false_iff_ne.2 (fun h => hNE.out (by rw [hx, h]))
        subst hx
        gi_wp2
        obtain ⟨bR1, bI1, bJ1, bN1, bB1, hL, hf, hB1, hsz⟩ := SI.out
        exact same_more hL hf hNE.out bR1 bI1 bJ1 bN1 bB1 hB1 hsz nBR nBI nBJ nBN hRB
      · have hx' : (px == qx) = false := beq_eq_false_iff_ne.2 hx
        gi_wp2
        obtain ⟨bR1, bI1, bJ1, bN1, bB1, hL, hf, hB1, hsz⟩ := SI.out
        exact same_more hL hf hNE.out bR1 bI1 bJ1 bN1 bB1 hB1 hsz nBR nBI nBJ nBN hRB
  case done =>
    rintro D ys W hD rfl ⟨⟨⟨hf, bB1⟩, ⟨bR1, bI1⟩, bJ1, bN1⟩, hB1, hsz⟩ hK
    have HDF := diff_all hf
    rw [upto_length] at bB1
    obtain ⟨g, off, rfl, hg, hcs⟩ := pts_cells6 HP.out.2.1 (by omega)
    have hgR : g < R := by omega
    have HCS : Hid (∀ W', Below R w W' → ∀ k, k < n → W'.cell? ⟨g, off + k * 2, none⟩ = some (.int .i32 (gp ps k).1) ∧ W'.cell? ⟨g, off + k * 2 + 1, none⟩ = some (.int .i32 (gp ps k).2)) := Lib.hid (fun W' hb k hk => ⟨(hb.cell (p := ⟨g, off + k * 2, none⟩) hgR).trans (hcs k (by omega)).1, (hb.cell (p := ⟨g, off + k * 2 + 1, none⟩) hgR).trans (hcs k (by omega)).2⟩)
    have cN := bN1.cell
    have hRz3 : R < w3.heap.size := by omega
    have hwz3 : w.heap.size ≤ w3.heap.size := by omega
    have H0 : Hid (Below R w W ∧ Boxed W R 24 (.int .i64 0) ∧ Boxed W I 3 (.int .i64 0) ∧ Boxed W J 3 (.int .i64 0) ∧ Boxed W N 3 (.int .i64 (n : Int)) ∧ W.heap[D]? = some (.deferred (some [])) ∧ w3.heap.size ≤ D ∧ w3.heap.size ≤ W.heap.size) := Lib.hid ⟨hB1, bR1, bI1, bJ1, bN1, hK, hD, hsz⟩
    have HD := Lib.hid HDF
    clear hB1 bR1 bI1 bJ1 bN1 hK hD hsz HDF hf bB1 hcs bB hPB hB3 bR3 bI3 bJ3 bN3 bS
    go_wp2_with fail
    refine wp_label ?_
    go_wp2_with fail
    go_loopw [44] (fun t wr => ∃ i : Nat, i ≤ n ∧ t = .int .i64 (i : Int) ∧ FineAt ps i (i + 1) ∧ Boxed wr R 24 (.int .i64 0) ∧ Below R w wr ∧ W.grownBy wr (some R)) (fun t _ => n - (intOf t).toNat)
    case atStart => exact ⟨0, by omega, rfl, fine_start ps, H0.out.2.1, H0.out.1, World.grownBy.refl _ _⟩
    case round =>
      obtain ⟨i, hi, rfl, hfi, bR, hB, hG⟩ := hrel
      rcases Nat.lt_or_ge i n with hlt | hge
      · have hiI : (i : Int) < (n : Int) := by omega
        have HX := Lib.hid (And.intro hfi (And.intro bR (And.intro hB hG)))
        clear hfi bR hB hG
        go_wp2_with fail
        obtain ⟨wm, rfl⟩ : ∃ z, z = wr := ⟨_, rfl⟩
        go_loopw [11] (fun t wr => ∃ j : Nat, i < j ∧ j ≤ n ∧ t = .int .i64 (j : Int) ∧ FineAt ps i j ∧ Boxed wr R 24 (.int .i64 0) ∧ Below R w wr ∧ W.grownBy wr (some R)) (fun t _ => n - (intOf t).toNat)
        case atStart => exact ⟨i + 1, by omega, by omega, by simp, HX.out⟩
        case round =>
          obtain ⟨j, hij, hj, rfl, hfj, bR, hB, hG⟩ := hrel
          have hzr := hG.size
          have bNr := H0.out.2.2.2.2.1.kept hG (fun e => nNR (Option.some.inj e))
          have cNr := bNr.cell
          have hNr : N < wr.heap.size := bNr.lt
          clear bNr
          rcases Nat.lt_or_ge j n with hlt2 | hge2
          · have hjI : (j : Int) < (n : Int) := by omega
            obtain ⟨i1, hi1⟩ : ∃ i1, i + 1 = i1 := ⟨_, rfl⟩
            have hi1I : (i1 : Int) < (n : Int) := by omega
            obtain ⟨a0, a1⟩ := HCS.out wr hB i hlt
            obtain ⟨b0, b1⟩ := HCS.out wr hB i1 (by omega)
            obtain ⟨c0, c1⟩ := HCS.out wr hB j hlt2
            obtain ⟨d0, d1⟩ := HCS.out wr hB ((j + 1) % n) (Nat.mod_lt _ (by omega))
            have hmod := mod_int (k := j) (m := n) (by omega)
            have hz1 : ((n : Int) == 0) = false := by rw [beq_eq_false_iff_ne]; omega
            have hz2 : ¬ (n : Int) = 0 := by omega
            have hz4 : ¬ n = 0 := by omega
            obtain ⟨q, hq⟩ : ∃ q, (j + 1) % n = q := ⟨_, rfl⟩
            have hqn : q < n := by rw [← hq]; exact Nat.mod_lt _ (by omega)
            rw [hq] at d0 d1 hmod
            have hqI : (q : Int) < (n : Int) := by omega
            have hi2 : (i + 1) % n = i1 := by rw [hi1]; exact Nat.mod_eq_of_lt (by omega)
            have HPF : Hid (pairF ps i j = if j = i1 then (if foldF (gp ps i) (gp ps i1) (gp ps q) then 63 else 0) else if i = 0 ∧ j = n - 1 then (if foldF (gp ps j) (gp ps q) (gp ps i1) then 63 else 0) else if touches (gp ps i) (gp ps i1) (gp ps j) (gp ps q) then 64 else 0) := Lib.hid (by unfold pairF; rw [hn, hi2, hq, hi1])
            have gi : ∀ k, IPt (gp ps k) := gp_i hps
            have F1 := Lib.hid (fun W => fold_any (gp ps i) (gp ps i1) (gp ps q) (gi _) (gi _) (gi _) W)
            have F2 := Lib.hid (fun W => fold_any (gp ps j) (gp ps q) (gp ps i1) (gi _) (gi _) (gi _) W)
            have F3 := Lib.hid (fun W => touch_of HMS.out (gp ps i) (gp ps i1) (gp ps j) (gp ps q) W)
            obtain ⟨f1, hf1⟩ : ∃ z, foldF (gp ps i) (gp ps i1) (gp ps q) = z := ⟨_, rfl⟩
            obtain ⟨f2, hf2⟩ : ∃ z, foldF (gp ps j) (gp ps q) (gp ps i1) = z := ⟨_, rfl⟩
            obtain ⟨f3, hf3⟩ : ∃ z, touches (gp ps i) (gp ps i1) (gp ps j) (gp ps q) = z := ⟨_, rfl⟩
            rw [hf1] at F1
            rw [hf2] at F2
            rw [hf3] at F3
            rw [hf1, hf2, hf3] at HPF
            clear hf1 hf2 hf3
            have HY := Lib.hid (And.intro hfj (And.intro bR (And.intro hB (And.intro hG (And.intro hq (And.intro hi2 gi))))))
            have hRr : R < wr.heap.size := bR.lt
            have hgr : g < wr.heap.size := by omega
            have hi1n : (0 : Int) ≤ (i1 : Int) := by omega
            obtain ⟨hv1, hv2, hv3, hv4, hv5⟩ := chk_wraps hi1 hlt hlt2 h64
            clear hfj bR hB hG hq gi hv5
            obtain ⟨⟨ax, ay⟩, hae⟩ : ∃ p, gp ps i = p := ⟨_, rfl⟩
            obtain ⟨⟨bx, by_⟩, hbe⟩ : ∃ p, gp ps i1 = p := ⟨_, rfl⟩
            obtain ⟨⟨cx, cy⟩, hce⟩ : ∃ p, gp ps j = p := ⟨_, rfl⟩
            obtain ⟨⟨dx, dy⟩, hde⟩ : ∃ p, gp ps q = p := ⟨_, rfl⟩
            rw [hae] at a0 a1
            rw [hbe] at b0 b1
            rw [hce] at c0 c1
            rw [hde] at d0 d1
            rw [hae, hbe, hde] at F1
            rw [hce, hde, hbe] at F2
            rw [hae, hbe, hce, hde] at F3
            dsimp only at a0 a1 b0 b1 c0 c1 d0 d1 F1 F2 F3
            clear hae hbe hce hde
            -- INNER
            go_wp2_with fail
            refine wp_then (pts_any (by kernel_rfl) wr g off n c N i j i1 q ax ay bx by_ cx cy dx dy _ _ _ _ _ _ _ _ _ _ _ _ _ _ _ _ _ _ _ _ _ _ _ _ _ _ _ _ _ _ _ _ _ _ _ _ _ _ _ _ _ _ _ _ _ _ _ _ _ _ _ _ _ _ _ _ _ _ _ _ _ _ _ _ _ _ _ _ _ _ _ _ _ _ _ _ _ _ _ _ _ _ _ _ _ _ _ _ _ _ _ _ _ _ _ _ _ _ _ _ _ _ _ _ _ _ _ _ _ _ _ cNr hNr hgr a0 a1 b0 b1 c0 c1 d0 d1 hiI hi1I hjI hqI hmod hz1 hz2 hz4 hv1 hv2 hv3 hv4) ?_
            rintro a' W5 ⟨X1, X2, X3, X4, v54, v55, v56, v57, v58, v59, v60, v61, v62, v63, v64, v65, v66, v67, v68, v69, v70, v71, v72, v73, rfl, ⟨p1, p2, p3, p4⟩, ⟨l1, l2, l3, l4⟩, hb5⟩
            have HC5 := Lib.hid ((show ChkW w W wr R 0 from ⟨HY.out.2.1, HY.out.2.2.1, HY.out.2.2.2.1⟩).keep hb5)
            have cN5 := (HC5.out.box H0.out.2.2.2.2.1 nNR).cell
            have e10 : W5.cell? ⟨X1, 0, none⟩ = some (.int .i32 ax) := Var.cell p1 0
            have e11 : W5.cell? ⟨X1, 1, none⟩ = some (.int .i32 ay) := Var.cell p1 1
            have e20 : W5.cell? ⟨X2, 0, none⟩ = some (.int .i32 bx) := Var.cell p2 0
            have e21 : W5.cell? ⟨X2, 1, none⟩ = some (.int .i32 by_) := Var.cell p2 1
            have e30 : W5.cell? ⟨X3, 0, none⟩ = some (.int .i32 cx) := Var.cell p3 0
            have e31 : W5.cell? ⟨X3, 1, none⟩ = some (.int .i32 cy) := Var.cell p3 1
            have e40 : W5.cell? ⟨X4, 0, none⟩ = some (.int .i32 dx) := Var.cell p4 0
            have e41 : W5.cell? ⟨X4, 1, none⟩ = some (.int .i32 dy) := Var.cell p4 1
            clear a0 a1 b0 b1 c0 c1 d0 d1 hv1 hv2 hv3 hv4 hmod hi2 hb5 p1 p2 p3 p4 l1 l2 l3 l4 cNr hNr hgr hz1 hz2 hz4 hzr hRr hi1n
            rcases Decidable.em (j = i1) with hA | hA
            · have q1 : ((j : Int) == (i : Int) + 1) = true := by rw [beq_iff_eq]; omega
              have HA := Lib.hid hA
              clear F2 F3 hA hi1
              cases f1
              · have HPZ : Hid (pairF ps i j = 0) := Lib.hid (by rw [HPF.out, if_pos HA.out]; rfl)
                clear HPF
                go_wp2_with fail
                refine (F1.out _).mono ?_
                rintro e w6 ⟨rfl, hb6⟩
                have HC6 := Lib.hid (HC5.out.keep hb6)
                clear hb6
                go_wp2_with fail
                refine (when_any false 63 _).mono ?_
                rintro e w7 ⟨rfl, hb7⟩
                rw [if_neg Bool.false_ne_true]
                have HC7 := Lib.hid (HC6.out.keep hb7)
                have cR7 := HC7.out.1.cell
                have fR7 := HC7.out.1.frozen
                have cN7 := (HC7.out.box H0.out.2.2.2.2.1 nNR).cell
                clear hb7
                have H8 := Lib.hid (HC7.out.set 0)
                rcases Decidable.em (j = n - 1) with hjn | hjn
                · have hq5 : ((j : Int) == (n : Int) - 1) = true := chk_eq1 hjn h3
                  have HFE : Hid (FineAt ps (i + 1) (i + 1 + 1)) := Lib.hid (fine_next (by rw [chk_len hn hjn h3]; exact fine_step HY.out.1 HPZ.out))
                  clear hjn
                  go_wp2_with fail
                  go_roundw
                  case rel => exact ⟨i + 1, hlt, chk_cast i, HFE.out, H8.out⟩
                  case measure => exact chk_less hlt
                · have hq5 : ((j : Int) == (n : Int) - 1) = false := chk_eq0 hjn h3
                  clear hjn
                  go_wp2_with fail
                  go_roundw
                  case rel => exact ⟨j + 1, Nat.lt_succ_of_lt hij, hlt2, rfl, fine_step HY.out.1 HPZ.out, H8.out⟩
                  case measure => exact chk_less hlt2
              · have HPZ : Hid (pairF ps i j = 63) := Lib.hid (by rw [HPF.out, if_pos HA.out]; rfl)
                clear HPF
                go_wp2_with fail
                refine (F1.out _).mono ?_
                rintro e w6 ⟨rfl, hb6⟩
                have HC6 := Lib.hid (HC5.out.keep hb6)
                clear hb6
                go_wp2_with fail
                refine (when_any true 63 _).mono ?_
                rintro e w7 ⟨rfl, hb7⟩
                rw [if_pos rfl]
                have HC7 := Lib.hid (HC6.out.keep hb7)
                have cR7 := HC7.out.1.cell
                have fR7 := HC7.out.1.frozen
                have cN7 := (HC7.out.box H0.out.2.2.2.2.1 nNR).cell
                clear hb7
                have bI7 := HC7.out.box H0.out.2.2.1 nIR
                have bJ7 := HC7.out.box H0.out.2.2.2.1 nJR
                have cI7 := bI7.cell
                have cJ7 := bJ7.cell
                have fI7 := bI7.frozen
                have fJ7 := bJ7.frozen
                have HS := HC7.out.set 63
                have H8 := Lib.hid (And.intro HS (And.intro (bI7.other nIR (.int .i64 63)) (bJ7.other nJR (.int .i64 63))))
                clear bI7 bJ7 HS
                go_wp2_with fail
                obtain ⟨k1, k2, k3⟩ := three_out H8.out.1.1 H8.out.2.1 H8.out.2.2 nRI nRJ nIJ 63 (i : Int) (j : Int)
                exact chk_leave rfl rfl rfl rfl k1 k2 k3 (((KeepsOthers.setCell _ _ _).trans (KeepsOthers.setCell _ _ _)).trans (KeepsOthers.setCell _ _ _)) (chk_block H8.out.1.2.2 H0.out.2.2.2.2.2.1 H0.out.2.2.2.2.2.2.1 hRz3) (three_below H8.out.1.2.1 (Nat.le_refl _) (Nat.le_of_lt hRI) (Nat.le_of_lt hRJ)) hwR hRw (Nat.le_trans hwz3 H0.out.2.2.2.2.2.2.1) (chk_put (a := 63) (.inr ⟨⟨by omega, by omega⟩, .inr ⟨HIN.out, .inr ⟨HD.out, .inl ⟨i, j, hij, by omega, by rw [HPZ.out]; decide, HY.out.1, by rw [HPZ.out]⟩⟩⟩⟩))
            · have q1 : ((j : Int) == (i : Int) + 1) = false := by rw [beq_eq_false_iff_ne]; omega
              have HA := Lib.hid hA
              clear F1 hA hi1
              rcases Decidable.em (i = 0) with hi0 | hi0
              · have q3 : ((i : Int) == 0) = true := by rw [beq_iff_eq, hi0]; rfl
                have HI0 := Lib.hid hi0
                clear hi0
                rcases Decidable.em (j = n - 1) with hj0 | hj0
                · have q4 : ((j : Int) == (n : Int) - 1) = true := chk_eq1 hj0 h3
                  have HJ0 := Lib.hid hj0
                  clear hj0 F3
                  cases f2
                  · have HPZ : Hid (pairF ps i j = 0) := Lib.hid (by rw [HPF.out, if_neg HA.out, if_pos ⟨HI0.out, HJ0.out⟩]; rfl)
                    clear HPF
                    go_wp2_with fail
                    refine (F2.out _).mono ?_
                    rintro e w6 ⟨rfl, hb6⟩
                    have HC6 := Lib.hid (HC5.out.keep hb6)
                    clear hb6
                    go_wp2_with fail
                    refine (when_any false 63 _).mono ?_
                    rintro e w7 ⟨rfl, hb7⟩
                    rw [if_neg Bool.false_ne_true]
                    have HC7 := Lib.hid (HC6.out.keep hb7)
                    have cR7 := HC7.out.1.cell
                    have fR7 := HC7.out.1.frozen
                    have cN7 := (HC7.out.box H0.out.2.2.2.2.1 nNR).cell
                    clear hb7
                    have H8 := Lib.hid (HC7.out.set 0)
                    have HFE : Hid (FineAt ps (i + 1) (i + 1 + 1)) := Lib.hid (fine_next (by rw [chk_len hn HJ0.out h3]; exact fine_step HY.out.1 HPZ.out))
                    go_wp2_with fail
                    go_roundw
                    case rel => exact ⟨i + 1, hlt, chk_cast i, HFE.out, H8.out⟩
                    case measure => exact chk_less hlt
                  · have HPZ : Hid (pairF ps i j = 63) := Lib.hid (by rw [HPF.out, if_neg HA.out, if_pos ⟨HI0.out, HJ0.out⟩]; rfl)
                    clear HPF
                    go_wp2_with fail
                    refine (F2.out _).mono ?_
                    rintro e w6 ⟨rfl, hb6⟩
                    have HC6 := Lib.hid (HC5.out.keep hb6)
                    clear hb6
                    go_wp2_with fail
                    refine (when_any true 63 _).mono ?_
                    rintro e w7 ⟨rfl, hb7⟩
                    rw [if_pos rfl]
                    have HC7 := Lib.hid (HC6.out.keep hb7)
                    have cR7 := HC7.out.1.cell
                    have fR7 := HC7.out.1.frozen
                    have cN7 := (HC7.out.box H0.out.2.2.2.2.1 nNR).cell
                    clear hb7
                    have bI7 := HC7.out.box H0.out.2.2.1 nIR
                    have bJ7 := HC7.out.box H0.out.2.2.2.1 nJR
                    have cI7 := bI7.cell
                    have cJ7 := bJ7.cell
                    have fI7 := bI7.frozen
                    have fJ7 := bJ7.frozen
                    have HS := HC7.out.set 63
                    have H8 := Lib.hid (And.intro HS (And.intro (bI7.other nIR (.int .i64 63)) (bJ7.other nJR (.int .i64 63))))
                    clear bI7 bJ7 HS
                    go_wp2_with fail
                    obtain ⟨k1, k2, k3⟩ := three_out H8.out.1.1 H8.out.2.1 H8.out.2.2 nRI nRJ nIJ 63 (i : Int) (j : Int)
                    exact chk_leave rfl rfl rfl rfl k1 k2 k3 (((KeepsOthers.setCell _ _ _).trans (KeepsOthers.setCell _ _ _)).trans (KeepsOthers.setCell _ _ _)) (chk_block H8.out.1.2.2 H0.out.2.2.2.2.2.1 H0.out.2.2.2.2.2.2.1 hRz3) (three_below H8.out.1.2.1 (Nat.le_refl _) (Nat.le_of_lt hRI) (Nat.le_of_lt hRJ)) hwR hRw (Nat.le_trans hwz3 H0.out.2.2.2.2.2.2.1) (chk_put (a := 63) (.inr ⟨⟨by omega, by omega⟩, .inr ⟨HIN.out, .inr ⟨HD.out, .inl ⟨i, j, hij, by omega, by rw [HPZ.out]; decide, HY.out.1, by rw [HPZ.out]⟩⟩⟩⟩))
                · have q4 : ((j : Int) == (n : Int) - 1) = false := chk_eq0 hj0 h3
                  have HJ0 := Lib.hid hj0
                  clear hj0 F2
                  cases f3
                  · have HPZ : Hid (pairF ps i j = 0) := Lib.hid (by rw [HPF.out, if_neg HA.out, if_neg (fun h => HJ0.out h.2)]; rfl)
                    clear HPF
                    go_wp2_with fail
                    refine (F3.out _).mono ?_
                    rintro e w6 ⟨rfl, hb6⟩
                    have HC6 := Lib.hid (HC5.out.keep hb6)
                    clear hb6
                    go_wp2_with fail
                    refine (when_any false 64 _).mono ?_
                    rintro e w7 ⟨rfl, hb7⟩
                    rw [if_neg Bool.false_ne_true]
                    have HC7 := Lib.hid (HC6.out.keep hb7)
                    have cR7 := HC7.out.1.cell
                    have fR7 := HC7.out.1.frozen
                    have cN7 := (HC7.out.box H0.out.2.2.2.2.1 nNR).cell
                    clear hb7
                    have H8 := Lib.hid (HC7.out.set 0)
                    go_wp2_with fail
                    go_roundw
                    case rel => exact ⟨j + 1, Nat.lt_succ_of_lt hij, hlt2, rfl, fine_step HY.out.1 HPZ.out, H8.out⟩
                    case measure => exact chk_less hlt2
                  · have HPZ : Hid (pairF ps i j = 64) := Lib.hid (by rw [HPF.out, if_neg HA.out, if_neg (fun h => HJ0.out h.2)]; rfl)
                    clear HPF
                    go_wp2_with fail
                    refine (F3.out _).mono ?_
                    rintro e w6 ⟨rfl, hb6⟩
                    have HC6 := Lib.hid (HC5.out.keep hb6)
                    clear hb6
                    go_wp2_with fail
                    refine (when_any true 64 _).mono ?_
                    rintro e w7 ⟨rfl, hb7⟩
                    rw [if_pos rfl]
                    have HC7 := Lib.hid (HC6.out.keep hb7)
                    have cR7 := HC7.out.1.cell
                    have fR7 := HC7.out.1.frozen
                    have cN7 := (HC7.out.box H0.out.2.2.2.2.1 nNR).cell
                    clear hb7
                    have bI7 := HC7.out.box H0.out.2.2.1 nIR
                    have bJ7 := HC7.out.box H0.out.2.2.2.1 nJR
                    have cI7 := bI7.cell
                    have cJ7 := bJ7.cell
                    have fI7 := bI7.frozen
                    have fJ7 := bJ7.frozen
                    have HS := HC7.out.set 64
                    have H8 := Lib.hid (And.intro HS (And.intro (bI7.other nIR (.int .i64 64)) (bJ7.other nJR (.int .i64 64))))
                    clear bI7 bJ7 HS
                    go_wp2_with fail
                    obtain ⟨k1, k2, k3⟩ := three_out H8.out.1.1 H8.out.2.1 H8.out.2.2 nRI nRJ nIJ 64 (i : Int) (j : Int)
                    exact chk_leave rfl rfl rfl rfl k1 k2 k3 (((KeepsOthers.setCell _ _ _).trans (KeepsOthers.setCell _ _ _)).trans (KeepsOthers.setCell _ _ _)) (chk_block H8.out.1.2.2 H0.out.2.2.2.2.2.1 H0.out.2.2.2.2.2.2.1 hRz3) (three_below H8.out.1.2.1 (Nat.le_refl _) (Nat.le_of_lt hRI) (Nat.le_of_lt hRJ)) hwR hRw (Nat.le_trans hwz3 H0.out.2.2.2.2.2.2.1) (chk_put (a := 64) (.inr ⟨⟨by omega, by omega⟩, .inr ⟨HIN.out, .inr ⟨HD.out, .inl ⟨i, j, hij, by omega, by rw [HPZ.out]; decide, HY.out.1, by rw [HPZ.out]⟩⟩⟩⟩))
              · have q3 : ((i : Int) == 0) = false := by rw [beq_eq_false_iff_ne]; intro h; exact hi0 (Int.ofNat.inj h)
                have HI0 := Lib.hid hi0
                clear hi0 F2
                cases f3
                · have HPZ : Hid (pairF ps i j = 0) := Lib.hid (by rw [HPF.out, if_neg HA.out, if_neg (fun h => HI0.out h.1)]; rfl)
                  clear HPF
                  go_wp2_with fail
                  refine (F3.out _).mono ?_
                  rintro e w6 ⟨rfl, hb6⟩
                  have HC6 := Lib.hid (HC5.out.keep hb6)
                  clear hb6
                  go_wp2_with fail
                  refine (when_any false 64 _).mono ?_
                  rintro e w7 ⟨rfl, hb7⟩
                  rw [if_neg Bool.false_ne_true]
                  have HC7 := Lib.hid (HC6.out.keep hb7)
                  have cR7 := HC7.out.1.cell
                  have fR7 := HC7.out.1.frozen
                  have cN7 := (HC7.out.box H0.out.2.2.2.2.1 nNR).cell
                  clear hb7
                  have H8 := Lib.hid (HC7.out.set 0)
                  rcases Decidable.em (j = n - 1) with hjn | hjn
                  · have hq5 : ((j : Int) == (n : Int) - 1) = true := chk_eq1 hjn h3
                    have HFE : Hid (FineAt ps (i + 1) (i + 1 + 1)) := Lib.hid (fine_next (by rw [chk_len hn hjn h3]; exact fine_step HY.out.1 HPZ.out))
                    clear hjn
                    go_wp2_with fail
                    go_roundw
                    case rel => exact ⟨i + 1, hlt, chk_cast i, HFE.out, H8.out⟩
                    case measure => exact chk_less hlt
                  · have hq5 : ((j : Int) == (n : Int) - 1) = false := chk_eq0 hjn h3
                    clear hjn
                    go_wp2_with fail
                    go_roundw
                    case rel => exact ⟨j + 1, Nat.lt_succ_of_lt hij, hlt2, rfl, fine_step HY.out.1 HPZ.out, H8.out⟩
                    case measure => exact chk_less hlt2
                · have HPZ : Hid (pairF ps i j = 64) := Lib.hid (by rw [HPF.out, if_neg HA.out, if_neg (fun h => HI0.out h.1)]; rfl)
                  clear HPF
                  go_wp2_with fail
                  refine (F3.out _).mono ?_
                  rintro e w6 ⟨rfl, hb6⟩
                  have HC6 := Lib.hid (HC5.out.keep hb6)
                  clear hb6
                  go_wp2_with fail
                  refine (when_any true 64 _).mono ?_
                  rintro e w7 ⟨rfl, hb7⟩
                  rw [if_pos rfl]
                  have HC7 := Lib.hid (HC6.out.keep hb7)
                  have cR7 := HC7.out.1.cell
                  have fR7 := HC7.out.1.frozen
                  have cN7 := (HC7.out.box H0.out.2.2.2.2.1 nNR).cell
                  clear hb7
                  have bI7 := HC7.out.box H0.out.2.2.1 nIR
                  have bJ7 := HC7.out.box H0.out.2.2.2.1 nJR
                  have cI7 := bI7.cell
                  have cJ7 := bJ7.cell
                  have fI7 := bI7.frozen
                  have fJ7 := bJ7.frozen
                  have HS := HC7.out.set 64
                  have H8 := Lib.hid (And.intro HS (And.intro (bI7.other nIR (.int .i64 64)) (bJ7.other nJR (.int .i64 64))))
                  clear bI7 bJ7 HS
                  go_wp2_with fail
                  obtain ⟨k1, k2, k3⟩ := three_out H8.out.1.1 H8.out.2.1 H8.out.2.2 nRI nRJ nIJ 64 (i : Int) (j : Int)
                  exact chk_leave rfl rfl rfl rfl k1 k2 k3 (((KeepsOthers.setCell _ _ _).trans (KeepsOthers.setCell _ _ _)).trans (KeepsOthers.setCell _ _ _)) (chk_block H8.out.1.2.2 H0.out.2.2.2.2.2.1 H0.out.2.2.2.2.2.2.1 hRz3) (three_below H8.out.1.2.1 (Nat.le_refl _) (Nat.le_of_lt hRI) (Nat.le_of_lt hRJ)) hwR hRw (Nat.le_trans hwz3 H0.out.2.2.2.2.2.2.1) (chk_put (a := 64) (.inr ⟨⟨by omega, by omega⟩, .inr ⟨HIN.out, .inr ⟨HD.out, .inl ⟨i, j, hij, by omega, by rw [HPZ.out]; decide, HY.out.1, by rw [HPZ.out]⟩⟩⟩⟩))
            -- INNER END
          · have hjI : ¬ (j : Int) < (n : Int) := by omega
            have HY : Hid (FineAt ps (i + 1) (i + 1 + 1) ∧ Boxed wr R 24 (.int .i64 0) ∧ Below R w wr ∧ W.grownBy wr (some R)) := Lib.hid ⟨fine_next (by rw [show ps.length = j by omega]; exact hfj), bR, hB, hG⟩
            clear hfj bR hB hG
            go_wp2_with fail
            go_roundw
            case rel => exact ⟨i + 1, by omega, by simp, HY.out⟩
            case measure => simp [intOf]; omega
      · have hiI : ¬ (i : Int) < (n : Int) := by omega
        have bI := H0.out.2.2.1.kept hG (fun e => nIR (Option.some.inj e))
        have bJ := H0.out.2.2.2.1.kept hG (fun e => nJR (Option.some.inj e))
        have cR := bR.cell
        have cI := bI.cell
        have cJ := bJ.cell
        have fR := bR.frozen
        have fI := bI.frozen
        have fJ := bJ.frozen
        have HX := Lib.hid (And.intro hfi (And.intro bR (And.intro bI (And.intro bJ (And.intro hB hG)))))
        clear hfi bR hB hG bI bJ
        go_wp2_with fail
        obtain ⟨k1, k2, k3⟩ := three_out HX.out.2.1 HX.out.2.2.1 HX.out.2.2.2.1 nRI nRJ nIJ 0 0 0
        exact chk_leave rfl rfl rfl rfl k1 k2 k3 (((KeepsOthers.setCell _ _ _).trans (KeepsOthers.setCell _ _ _)).trans (KeepsOthers.setCell _ _ _)) (chk_block HX.out.2.2.2.2.2 H0.out.2.2.2.2.2.1 H0.out.2.2.2.2.2.2.1 hRz3) (three_below HX.out.2.2.2.2.1 (Nat.le_refl _) (Nat.le_of_lt hRI) (Nat.le_of_lt hRJ)) hwR hRw (Nat.le_trans hwz3 H0.out.2.2.2.2.2.2.1) (chk_put (a := 0) (b := 0) (c := 0) (.inr ⟨by omega, .inr ⟨HIN.out, .inr ⟨HD.out, .inr ⟨fine_end HX.out.1 (by omega), rfl⟩⟩⟩⟩))
  case stop =>
    rintro D c pre W hD ⟨k, hk, rfl⟩ ⟨⟨⟨rfl, q, x, hpre, hf, hx⟩, ⟨bR1, bI1⟩, bJ1⟩, hB1⟩ hK
    rw [upto_length] at bI1 bJ1
    cases k with
    | zero => exact absurd (congrArg List.length hpre) (by simp [upto_length])
    | succ k =>
      rw [upto_succ] at hpre
      obtain ⟨hp1, hp2⟩ := List.append_inj' hpre rfl
      subst hp1
      injection hp2 with hp2 _
      subst hp2
      have HC : Hid (ChkIs ps (62, k, (k + 1) % ps.length)) := Lib.hid (.inr ⟨by omega, .inr ⟨HIN.out, .inl ⟨k, by omega, fun h => h hx, diff_all hf, rfl⟩⟩⟩)
      gi_wp2
      have hk1 := cell_kept bR1.cell (grownBy_putObj' _ D (.deferred none)) (fun r e => by cases e; exact ⟨_, hK, rfl⟩)
      have hk2 := cell_kept bI1.cell (grownBy_putObj' _ D (.deferred none)) (fun r e => by cases e; exact ⟨_, hK, rfl⟩)
      have hk3 := cell_kept bJ1.cell (grownBy_putObj' _ D (.deferred none)) (fun r e => by cases e; exact ⟨_, hK, rfl⟩)
      refine ⟨by simp, .inl ⟨_, _, rfl, run_takeDeferred hK, ?_⟩⟩
      refine ⟨_, res_check rfl rfl rfl hk1 hk2 hk3, ?_, ?_⟩
      · rw [Nat.add_sub_cancel, ← hn]
        exact chk_put HC.out
      · rw [HR.out]
        exact hB1.trans (belowK_b (w := w) hRw _ D _ _ (by omega) hK rfl rfl)

end Go.Proofs.Ythbndilnobjjgaa
