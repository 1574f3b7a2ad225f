/-
  ring.Check's region behind two equal neighbours, inside a round of the range. Printed by wip/tools/gen_chke.py.
-/
import Derived.Test.YthbndilnobjjgaaChkP
import Derived.Test.YthbndilnobjjgaaTailRd
import Derived.Shelf.RegionOpen
import Derived.RangeFuncNested
namespace Go.Proofs.Ythbndilnobjjgaa
open Go.RowKit Go.Shelf

attribute [local go_sem] Oper.semAt_some

theorem three_set {V : World} {A B C : Nat} {tA tB tC : TypeId} {u v x : Value} (bA : Boxed V A tA u) (bB : Boxed V B tB v) (bC : Boxed V C tC x) (nAB : A ≠ B) (nAC : A ≠ C) (nBC : B ≠ C) (a b c : Value) :
    Boxed (((V.setCell ⟨A, 0, none⟩ a).setCell ⟨B, 0, none⟩ b).setCell ⟨C, 0, none⟩ c) A tA a ∧ Boxed (((V.setCell ⟨A, 0, none⟩ a).setCell ⟨B, 0, none⟩ b).setCell ⟨C, 0, none⟩ c) B tB b ∧ Boxed (((V.setCell ⟨A, 0, none⟩ a).setCell ⟨B, 0, none⟩ b).setCell ⟨C, 0, none⟩ c) C tC c ∧
      KeepsOthers V (((V.setCell ⟨A, 0, none⟩ a).setCell ⟨B, 0, none⟩ b).setCell ⟨C, 0, none⟩ c) ∧ ∀ m, m ≤ A → m ≤ B → m ≤ C → Below m V (((V.setCell ⟨A, 0, none⟩ a).setCell ⟨B, 0, none⟩ b).setCell ⟨C, 0, none⟩ c) :=
  ⟨((bA.set a).other nAB _).other nAC _, ((bB.other (Ne.symm nAB) _).set b).other nBC _, ((bC.other (Ne.symm nAC) _).other (Ne.symm nBC) _).set c, ((KeepsOthers.setCell _ _ _).trans (KeepsOthers.setCell _ _ _)).trans (KeepsOthers.setCell _ _ _),
    fun m hA hB hC => (((Below.refl m V).setCell (p := ⟨A, 0, none⟩) hA _).setCell (p := ⟨B, 0, none⟩) hB _).setCell (p := ⟨C, 0, none⟩) hC _⟩
/-- What it leaves. -/
def SameEnd (V : World) (R I J L q : Nat) (W : World) : Prop :=
  Boxed W R 24 (.int .i64 62) ∧ Boxed W I 3 (.int .i64 (L : Int)) ∧ Boxed W J 3 (.int .i64 (q : Int)) ∧ KeepsOthers V W ∧ ∀ m, m ≤ R → m ≤ I → m ≤ J → Below m V W
theorem SameEnd.drewn {V W : World} {R I J L q : Nat} (h : SameEnd V R I J L q W) : SameEnd V R I J L q W.drew :=
  ⟨h.1, h.2.1, h.2.2.1, h.2.2.2.1.trans (KeepsOthers.drew W), fun m a b c => (h.2.2.2.2 m a b c).drew⟩
def SameOut (V : World) (R I J N B L q : Nat) (u0 u1 u6 u8 u9 u10 u11 u12 u13 u14 u15 u16 u17 u18 u19 u20 u21 u22 u23 u24 u25 u26 u27 u28 u29 u30 u31 u32 u33 u34 u35 _u36 _u37 _u38 _u39 _u40 u41 u42 u43 u44 u45 u46 u47 u48 u49 u50 u51 u52 u53 u54 u55 u56 u57 u58 u59 u60 u61 u62 u63 u64 u65 u66 u67 u68 u69 u70 u71 u72 u73 u74 u75 u76 u77 u78 u79 u80 u81 u82 u83 u84 u85 u86 u87 u88 u89 u90 u91 u92 u93 u94 u95 u96 u97 u98 u99 u100 u101 u102 u103 u104 u105 u106 u107 u108 u109 u110 u111 u112 u113 : Value) (a' : Act) (W : World) : Prop :=
  (∃ v36 v37 v38 v39 v40, a' = { tmps := #[u0, u1, .pointer (some ⟨R, 0, none⟩), .pointer (some ⟨I, 0, none⟩), .pointer (some ⟨J, 0, none⟩), .pointer (some ⟨N, 0, none⟩), u6, .pointer (some ⟨B, 0, none⟩), u8, u9, u10, u11, u12, u13, u14, u15, u16, u17, u18, u19, u20, u21, u22, u23, u24, u25, u26, u27, u28, u29, u30, u31, u32, u33, u34, u35, v36, v37, v38, v39, v40, u41, u42, u43, u44, u45, u46, u47, u48, u49, u50, u51, u52, u53, u54, u55, u56, u57, u58, u59, u60, u61, u62, u63, u64, u65, u66, u67, u68, u69, u70, u71, u72, u73, u74, u75, u76, u77, u78, u79, u80, u81, u82, u83, u84, u85, u86, u87, u88, u89, u90, u91, u92, u93, u94, u95, u96, u97, u98, u99, u100, u101, u102, u103, u104, u105, u106, u107, u108, u109, u110, u111, u112, u113], defers := [] }) ∧ SameEnd V R I J L q W

theorem same_put {V : World} {R I J N B L q : Nat} {u0 u1 u6 u8 u9 u10 u11 u12 u13 u14 u15 u16 u17 u18 u19 u20 u21 u22 u23 u24 u25 u26 u27 u28 u29 u30 u31 u32 u33 u34 u35 u36 u37 u38 u39 u40 u41 u42 u43 u44 u45 u46 u47 u48 u49 u50 u51 u52 u53 u54 u55 u56 u57 u58 u59 u60 u61 u62 u63 u64 u65 u66 u67 u68 u69 u70 u71 u72 u73 u74 u75 u76 u77 u78 u79 u80 u81 u82 u83 u84 u85 u86 u87 u88 u89 u90 u91 u92 u93 u94 u95 u96 u97 u98 u99 u100 u101 u102 u103 u104 u105 u106 u107 u108 u109 u110 u111 u112 u113 v36 v37 v38 v39 v40 : Value} (bR : Boxed V R 24 (.int .i64 0)) (bI : Boxed V I 3 (.int .i64 0)) (bJ : Boxed V J 3 (.int .i64 0)) (uRI : ¬ R = I) (uRJ : ¬ R = J) (uIJ : ¬ I = J) :
    Exit.normal = Exit.normal ∧ SameOut V R I J N B L q u0 u1 u6 u8 u9 u10 u11 u12 u13 u14 u15 u16 u17 u18 u19 u20 u21 u22 u23 u24 u25 u26 u27 u28 u29 u30 u31 u32 u33 u34 u35 u36 u37 u38 u39 u40 u41 u42 u43 u44 u45 u46 u47 u48 u49 u50 u51 u52 u53 u54 u55 u56 u57 u58 u59 u60 u61 u62 u63 u64 u65 u66 u67 u68 u69 u70 u71 u72 u73 u74 u75 u76 u77 u78 u79 u80 u81 u82 u83 u84 u85 u86 u87 u88 u89 u90 u91 u92 u93 u94 u95 u96 u97 u98 u99 u100 u101 u102 u103 u104 u105 u106 u107 u108 u109 u110 u111 u112 u113 { tmps := #[u0, u1, .pointer (some ⟨R, 0, none⟩), .pointer (some ⟨I, 0, none⟩), .pointer (some ⟨J, 0, none⟩), .pointer (some ⟨N, 0, none⟩), u6, .pointer (some ⟨B, 0, none⟩), u8, u9, u10, u11, u12, u13, u14, u15, u16, u17, u18, u19, u20, u21, u22, u23, u24, u25, u26, u27, u28, u29, u30, u31, u32, u33, u34, u35, v36, v37, v38, v39, v40, u41, u42, u43, u44, u45, u46, u47, u48, u49, u50, u51, u52, u53, u54, u55, u56, u57, u58, u59, u60, u61, u62, u63, u64, u65, u66, u67, u68, u69, u70, u71, u72, u73, u74, u75, u76, u77, u78, u79, u80, u81, u82, u83, u84, u85, u86, u87, u88, u89, u90, u91, u92, u93, u94, u95, u96, u97, u98, u99, u100, u101, u102, u103, u104, u105, u106, u107, u108, u109, u110, u111, u112, u113], defers := [] } (((V.setCell ⟨R, 0, none⟩ (.int .i64 62)).setCell ⟨I, 0, none⟩ (.int .i64 (L : Int))).setCell ⟨J, 0, none⟩ (.int .i64 (q : Int))).drew :=
  ⟨rfl, ⟨_, _, _, _, _, rfl⟩, SameEnd.drewn (three_set bR bI bJ uRI uRJ uIJ _ _ _)⟩

set_option maxRecDepth 100000 in
set_option maxHeartbeats 8000000 in
theorem same_in (F : Fence) (l k : Nat) (V : World) (R I J N B L n q : Nat) (u0 u1 u6 u8 u9 u10 u11 u12 u13 u14 u15 u16 u17 u18 u19 u20 u21 u22 u23 u24 u25 u26 u27 u28 u29 u30 u31 u32 u33 u34 u35 u36 u37 u38 u39 u40 u41 u42 u43 u44 u45 u46 u47 u48 u49 u50 u51 u52 u53 u54 u55 u56 u57 u58 u59 u60 u61 u62 u63 u64 u65 u66 u67 u68 u69 u70 u71 u72 u73 u74 u75 u76 u77 u78 u79 u80 u81 u82 u83 u84 u85 u86 u87 u88 u89 u90 u91 u92 u93 u94 u95 u96 u97 u98 u99 u100 u101 u102 u103 u104 u105 u106 u107 u108 u109 u110 u111 u112 u113 : Value) (bR : Boxed V R 24 (.int .i64 0)) (bI : Boxed V I 3 (.int .i64 0)) (bJ : Boxed V J 3 (.int .i64 0)) (bN : Boxed V N 3 (.int .i64 (n : Int))) (bB : Boxed V B 3 (.int .i64 (L : Int)))
    (uRI : ¬ R = I) (uRJ : ¬ R = J) (uRN : ¬ R = N) (uRB : ¬ R = B) (uIJ : ¬ I = J) (uIN : ¬ I = N) (uIB : ¬ I = B) (uJN : ¬ J = N) (uJB : ¬ J = B) (hL : L < n) (hn : n ≤ 64) (hq : (L + 1) % n = q) :
    (regionC Try.f8 12).wpIn (F.inRound l) k Try.prog (fun e a' W => e = .normal ∧ SameOut V R I J N B L q u0 u1 u6 u8 u9 u10 u11 u12 u13 u14 u15 u16 u17 u18 u19 u20 u21 u22 u23 u24 u25 u26 u27 u28 u29 u30 u31 u32 u33 u34 u35 u36 u37 u38 u39 u40 u41 u42 u43 u44 u45 u46 u47 u48 u49 u50 u51 u52 u53 u54 u55 u56 u57 u58 u59 u60 u61 u62 u63 u64 u65 u66 u67 u68 u69 u70 u71 u72 u73 u74 u75 u76 u77 u78 u79 u80 u81 u82 u83 u84 u85 u86 u87 u88 u89 u90 u91 u92 u93 u94 u95 u96 u97 u98 u99 u100 u101 u102 u103 u104 u105 u106 u107 u108 u109 u110 u111 u112 u113 a' W) { tmps := #[u0, u1, .pointer (some ⟨R, 0, none⟩), .pointer (some ⟨I, 0, none⟩), .pointer (some ⟨J, 0, none⟩), .pointer (some ⟨N, 0, none⟩), u6, .pointer (some ⟨B, 0, none⟩), u8, u9, u10, u11, u12, u13, u14, u15, u16, u17, u18, u19, u20, u21, u22, u23, u24, u25, u26, u27, u28, u29, u30, u31, u32, u33, u34, u35, u36, u37, u38, u39, u40, u41, u42, u43, u44, u45, u46, u47, u48, u49, u50, u51, u52, u53, u54, u55, u56, u57, u58, u59, u60, u61, u62, u63, u64, u65, u66, u67, u68, u69, u70, u71, u72, u73, u74, u75, u76, u77, u78, u79, u80, u81, u82, u83, u84, u85, u86, u87, u88, u89, u90, u91, u92, u93, u94, u95, u96, u97, u98, u99, u100, u101, u102, u103, u104, u105, u106, u107, u108, u109, u110, u111, u112, u113], defers := [] } V := by
  have cB := bB.cell
  have cN := bN.cell
  have cR := bR.cell
  have cI := bI.cell
  have cJ := bJ.cell
  have fR := bR.frozen
  have fI := bI.frozen
  have fJ := bJ.frozen
  have uIR : ¬ I = R := fun h => uRI h.symm
  have uJR : ¬ J = R := fun h => uRJ h.symm
  have uNR : ¬ N = R := fun h => uRN h.symm
  have uBR : ¬ B = R := fun h => uRB h.symm
  have uJI : ¬ J = I := fun h => uIJ h.symm
  have uNI : ¬ N = I := fun h => uIN h.symm
  have uBI : ¬ B = I := fun h => uIB h.symm
  have uNJ : ¬ N = J := fun h => uJN h.symm
  have uBJ : ¬ B = J := fun h => uJB h.symm
  have hwr : IntKind.i64.wrap ((L : Int) + 1) = (L : Int) + 1 := by simp only [IntKind.wrap, IntKind.signed, IntKind.bits]; simp; omega
  have hwr2 : wrap64 ((L : Int) + 1) = (L : Int) + 1 := by unfold wrap64; omega
  have hmod := mod_int (k := L) (m := n) (by omega)
  rw [hq] at hmod
  have hz1 : ((n : Int) == 0) = false := by rw [beq_eq_false_iff_ne]; omega
  have hz2 : ¬ (n : Int) = 0 := by omega
  have hz4 : ¬ n = 0 := by omega
  have H := Lib.hid (And.intro bR (And.intro bI bJ))
  clear hq hL hn bR bI bJ bN bB
  have hmx : Try.prog.follows .mixedOrders = true := by kernel_rfl
  show Code.wpIn _ _ _ (Code.region _ _ _) _ _ _
  gi_region_with_o fail
  all_goals with_reducible exact same_put H.out.1 H.out.2.1 H.out.2.2 uRI uRJ uIJ

end Go.Proofs.Ythbndilnobjjgaa
