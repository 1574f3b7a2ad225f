/-
  The document's oneLine: the region that tells the two fractions. Printed by wip/tools/gen_oneq.py.
-/
import Derived.Test.YtpjgghakeaajbaaOnR
namespace Go.Proofs.Ytpjgghakeaajbaa
open Go.RowKit

/-- The regions of a body, in the order of the text. -/
def regsO : Code → List Code
  | .region id ops d => [.region id ops d]
  | .seq a b => regsO a ++ regsO b
  | .cond _ a b => regsO a ++ regsO b
  | .block _ b => regsO b
  | .loop b => regsO b
  | .rangeFunc _ _ a b => regsO a ++ regsO b
  | .scope b => regsO b
  | _ => []
def regionO (f : Func) (k : Nat) : Code := (((f.body.map regsO).getD [])[k]?).getD .skip
theorem wp_thenO {P : Program} {c : Code} {Q : Exit → Act → World → Prop} {F : Act → World → Prop} {a : Act} {w : World} (h1 : c.wp P (Exit.then F (fun _ _ _ => False)) a w) (h2 : ∀ a' w', F a' w' → Q .normal a' w') : c.wp P Q a w :=
  Code.wp_mono (fun e a' w' h => by
    cases e with
    | normal => exact h2 a' w' h
    | _ => exact h.elim) h1
theorem var_six {w : World} {g : Nat} {t : TypeId} {a0 a1 a2 a3 a4 a5 : Value} (h : Var w g t #[a0, a1, a2, a3, a4, a5]) (x0 x1 x2 x3 x4 x5 : Value) :
    Var ((((((w.setCell ⟨g, 0, none⟩ x0).setCell ⟨g, 1, none⟩ x1).setCell ⟨g, 2, none⟩ x2).setCell ⟨g, 3, none⟩ x3).setCell ⟨g, 4, none⟩ x4).setCell ⟨g, 5, none⟩ x5) g t #[x0, x1, x2, x3, x4, x5] := (((((h.store 0 x0).store 1 x1).store 2 x2).store 3 x3).store 4 x4).store 5 x5
theorem below_six {n : Nat} {a w : World} {g : Nat} (h : Below n a w) (hg : n ≤ g) (x0 x1 x2 x3 x4 x5 : Value) : Below n a ((((((w.setCell ⟨g, 0, none⟩ x0).setCell ⟨g, 1, none⟩ x1).setCell ⟨g, 2, none⟩ x2).setCell ⟨g, 3, none⟩ x3).setCell ⟨g, 4, none⟩ x4).setCell ⟨g, 5, none⟩ x5) :=
  (((((h.setCell (p := ⟨g, 0, none⟩) hg x0).setCell (p := ⟨g, 1, none⟩) hg x1).setCell (p := ⟨g, 2, none⟩) hg x2).setCell (p := ⟨g, 3, none⟩) hg x3).setCell (p := ⟨g, 4, none⟩) hg x4).setCell (p := ⟨g, 5, none⟩) hg x5

/-- Not yet done. -/
def undone (l : List Bool) : Nat := (l.filter (fun b => !b)).length
theorem undone_set : ∀ (l : List Bool) (i : Nat), l[i]? = some false → undone (l.set i true) + 1 = undone l
  | [], i, h => by simp at h
  | b :: l, 0, h => by
    simp at h
    subst h
    simp [undone]
  | b :: l, i + 1, h => by
    have := undone_set l i (by simpa using h)
    cases b <;> simp [undone] at this ⊢ <;> omega
/-- A region in whatever order, by an invariant of what is done. -/
theorem wpAny_inv {P : Program} {md : Region.Mode} {ops : Array Oper} {Q : Exit → Act → World → Prop} (Inv : Array Bool → Act → World → Prop) (hstep : ∀ listed a w i (K : Act → World → Prop), Inv listed a w → i ∈ Region.ready md ops listed → (∀ a' w', Inv (listed.setIfInBounds i true) a' w' → K a' w') → wpOp P ops Q i K a w)
    (hdone : ∀ listed a w, Inv listed a w → Region.ready md ops listed = [] → Q .normal a w) : ∀ (fuel : Nat) (listed : Array Bool) (a : Act) (w : World), undone listed.toList = fuel → Inv listed a w → wpAny P md ops Q fuel listed a w
  | 0, listed, a, w, hf, h => by
    have hr : Region.ready md ops listed = [] := by
      rcases hl : Region.ready md ops listed with _ | ⟨j, l⟩
      · rfl
      · exfalso
        have hj := (mem_ready.1 (show j ∈ Region.ready md ops listed by rw [hl]; exact List.mem_cons_self ..)).1
        have h1 : listed.toList[j]? = some false := by
          rw [Array.getElem?_toList]
          cases hg : listed[j]? with
          | none => simp [hg] at hj
          | some b => simp [hg] at hj; rw [hj]
        have := undone_set _ _ h1
        omega
    exact ⟨hr, hdone _ _ _ h hr⟩
  | fuel + 1, listed, a, w, hf, h => ⟨fun hr => hdone _ _ _ h hr, fun i hi => hstep _ _ _ _ _ h hi (fun a' w' h' => wpAny_inv Inv hstep hdone fuel _ a' w' (by
      have hj := (mem_ready.1 hi).1
      have h1 : listed.toList[i]? = some false := by
        rw [Array.getElem?_toList]
        cases hg : listed[i]? with
        | none => simp [hg] at hj
        | some b => simp [hg] at hj; rw [hj]
      have := undone_set _ _ h1
      rw [Array.toList_setIfInBounds]
      omega) h')⟩

set_option maxHeartbeats 4000000 in
set_option maxRecDepth 100000 in
theorem one_reg (W : World) (F T : Nat) (f1 f2 t1 t2 : Bool) (fA fB tA tB : Option Addr) (fm fc fn fd tm tc tn td : Nat) (n1 d1 n2 d2 : Int)
    (kf0 : W.cell? ⟨F, 0, none⟩ = some (.bool f1)) (kf1 : W.cell? ⟨F, 1, none⟩ = some (.slice fA fm fc)) (kf2 : W.cell? ⟨F, 2, none⟩ = some (.bool f2)) (kf3 : W.cell? ⟨F, 3, none⟩ = some (.slice fB fn fd))
    (kt0 : W.cell? ⟨T, 0, none⟩ = some (.bool t1)) (kt1 : W.cell? ⟨T, 1, none⟩ = some (.slice tA tm tc)) (kt2 : W.cell? ⟨T, 2, none⟩ = some (.bool t2)) (kt3 : W.cell? ⟨T, 3, none⟩ = some (.slice tB tn td)) (zF : F < W.heap.size) (zT : T < W.heap.size)
    (HX : Hid (∀ W', Below W.heap.size W W' → Calls Try.prog 28 #[.agg #[.bool f1, .slice fA fm fc, .bool f2, .slice fB fn fd]] W' fun e w' => e = .returned (.agg #[.int .i64 n1, .int .i64 d1]) ∧ Below W'.heap.size W' w'))
    (HY : Hid (∀ W', Below W.heap.size W W' → Calls Try.prog 28 #[.agg #[.bool t1, .slice tA tm tc, .bool t2, .slice tB tn td]] W' fun e w' => e = .returned (.agg #[.int .i64 n2, .int .i64 d2]) ∧ Below W'.heap.size W' w'))
    (u0 u1 u2 u3 u4 u5 u6 u7 u8 u11 u12 u13 u14 u15 u16 u17 u18 u19 u20 u21 u22 u23 u24 u25 u26 u27 u28 u29 u30 u31 u32 u33 u34 u35 u36 u37 u38 u39 u40 u41 u42 u43 u44 u45 u46 u47 u48 u49 u50 : Value) :
    (regionO Try.f22 12).wp Try.prog (Exit.then (fun a' W' => ∃ M v42 v43 v44 v45 v46, a' = { tmps := #[u0, u1, u2, u3, u4, u5, u6, u7, u8, .pointer (some ⟨F, 0, none⟩), .pointer (some ⟨T, 0, none⟩), u11, .pointer (some ⟨M, 0, none⟩), u13, u14, u15, u16, u17, u18, u19, u20, u21, u22, u23, u24, u25, u26, u27, u28, u29, u30, u31, u32, u33, u34, u35, u36, u37, u38, u39, u40, u41, v42, v43, v44, v45, v46, u47, u48, u49, u50], defers := [] } ∧ Var W' M 30 #[.int .u8 2, .bool false, .int .i64 n1, .int .i64 d1, .int .i64 n2, .int .i64 d2] ∧ Below W.heap.size W W' ∧ W.heap.size ≤ M) (fun _ _ _ => False)) { tmps := #[u0, u1, u2, u3, u4, u5, u6, u7, u8, .pointer (some ⟨F, 0, none⟩), .pointer (some ⟨T, 0, none⟩), u11, u12, u13, u14, u15, u16, u17, u18, u19, u20, u21, u22, u23, u24, u25, u26, u27, u28, u29, u30, u31, u32, u33, u34, u35, u36, u37, u38, u39, u40, u41, u42, u43, u44, u45, u46, u47, u48, u49, u50], defers := [] } W := by
  show Code.wp _ (Code.region _ _ _) _ _ _
  refine wp_region_any (by kernel_rfl) ?_
  refine wpAny_inv (fun (b : Array Bool) a' w' => ∃ b0 b1 b2 b3 b4 b5 b6 : Bool, b = #[b0, b1, b2, b3, b4, b5, b6] ∧ ∃ v12 v42 v43 v44 v45 v46, a' = { tmps := #[u0, u1, u2, u3, u4, u5, u6, u7, u8, .pointer (some ⟨F, 0, none⟩), .pointer (some ⟨T, 0, none⟩), u11, v12, u13, u14, u15, u16, u17, u18, u19, u20, u21, u22, u23, u24, u25, u26, u27, u28, u29, u30, u31, u32, u33, u34, u35, u36, u37, u38, u39, u40, u41, v42, v43, v44, v45, v46, u47, u48, u49, u50], defers := [] } ∧ Below W.heap.size W w' ∧ (b0 = true → v42 = .agg #[.bool f1, .slice fA fm fc, .bool f2, .slice fB fn fd]) ∧ (b1 = true → v43 = .agg #[.int .i64 n1, .int .i64 d1]) ∧ (b2 = true → v44 = .agg #[.bool t1, .slice tA tm tc, .bool t2, .slice tB tn td]) ∧ (b3 = true → v45 = .agg #[.int .i64 n2, .int .i64 d2]) ∧ (b4 = true → v46 = .agg #[.int .u8 2, .bool false, .int .i64 n1, .int .i64 d1, .int .i64 n2, .int .i64 d2]) ∧ (b5 = true → ∃ M, v12 = .pointer (some ⟨M, 0, none⟩) ∧ W.heap.size ≤ M ∧ Var w' M 30 (if b6 = true then #[.int .u8 2, .bool false, .int .i64 n1, .int .i64 d1, .int .i64 n2, .int .i64 d2] else #[.int .u8 0, .bool false, .int .i64 0, .int .i64 0, .int .i64 0, .int .i64 0])) ∧ (b6 = true → b5 = true)) ?_ ?_ _ _ _ _ (by rfl) ?_
  · rintro listed a w i K ⟨b0, b1, b2, b3, b4, b5, b6, rfl, v12, v42, v43, v44, v45, v46, rfl, hB, h0, h1, h2, h3, h4, h5, h6⟩ hi hK
    obtain ⟨hun, o, ho, hdep⟩ := mem_ready.1 hi
    have j0 := (hB.cell (p := ⟨F, 0, none⟩) zF).trans kf0
    have j1 := (hB.cell (p := ⟨F, 1, none⟩) zF).trans kf1
    have j2 := (hB.cell (p := ⟨F, 2, none⟩) zF).trans kf2
    have j3 := (hB.cell (p := ⟨F, 3, none⟩) zF).trans kf3
    have l0 := (hB.cell (p := ⟨T, 0, none⟩) zT).trans kt0
    have l1 := (hB.cell (p := ⟨T, 1, none⟩) zT).trans kt1
    have l2 := (hB.cell (p := ⟨T, 2, none⟩) zT).trans kt2
    have l3 := (hB.cell (p := ⟨T, 3, none⟩) zT).trans kt3
    have HI := Lib.hid (And.intro h0 (And.intro h1 (And.intro h2 (And.intro h3 (And.intro h4 (And.intro h5 h6))))))
    have HBW := Lib.hid hB
    have HK := Lib.hid hK
    clear h0 h1 h2 h3 h4 h5 h6 hB hK hi
    rcases i with _ | _ | _ | _ | _ | _ | _ | i
    · unfold wpOp
      go_simp
      exact Or.inl (HK.out _ _ ⟨true, b1, b2, b3, b4, b5, b6, rfl, v12, _, v43, v44, v45, v46, rfl, HBW.out, fun _ => rfl, HI.out.2.1, HI.out.2.2.1, HI.out.2.2.2.1, HI.out.2.2.2.2.1, HI.out.2.2.2.2.2.1, HI.out.2.2.2.2.2.2⟩)
    · simp at ho
      subst ho
      simp [Region.binds] at hdep
      have e := HI.out.1 (show b0 = true by first | exact hdep | exact hdep.1 | exact hdep.2 | exact hdep.2.1 | exact hdep.2.2.1 | exact hdep.2.2.2.1 | exact hdep.2.2.2.2.1 | exact hdep.2.2.2.2.2.1)
      subst e
      unfold wpOp
      go_simp
      refine Or.inl ((HX.out _ HBW.out).mono ?_)
      rintro e wk ⟨rfl, hb⟩
      exact HK.out _ _ ⟨b0, true, b2, b3, b4, b5, b6, rfl, v12, _, _, v44, v45, v46, rfl, (HBW.out.trans (hb.mono HBW.out.size)), (fun _ => rfl), (fun _ => rfl), HI.out.2.2.1, HI.out.2.2.2.1, HI.out.2.2.2.2.1, (fun h => let ⟨M, e1, e2, e3⟩ := HI.out.2.2.2.2.2.1 h; ⟨M, e1, e2, e3.keep hb⟩), HI.out.2.2.2.2.2.2⟩
    · unfold wpOp
      go_simp
      exact Or.inl (HK.out _ _ ⟨b0, b1, true, b3, b4, b5, b6, rfl, v12, v42, v43, _, v45, v46, rfl, HBW.out, HI.out.1, HI.out.2.1, fun _ => rfl, HI.out.2.2.2.1, HI.out.2.2.2.2.1, HI.out.2.2.2.2.2.1, HI.out.2.2.2.2.2.2⟩)
    · simp at ho
      subst ho
      simp [Region.binds] at hdep
      have e := HI.out.2.2.1 (show b2 = true by first | exact hdep | exact hdep.1 | exact hdep.2 | exact hdep.2.1 | exact hdep.2.2.1 | exact hdep.2.2.2.1 | exact hdep.2.2.2.2.1 | exact hdep.2.2.2.2.2.1)
      subst e
      unfold wpOp
      go_simp
      refine Or.inl ((HY.out _ HBW.out).mono ?_)
      rintro e wk ⟨rfl, hb⟩
      exact HK.out _ _ ⟨b0, b1, b2, true, b4, b5, b6, rfl, v12, v42, v43, _, _, v46, rfl, (HBW.out.trans (hb.mono HBW.out.size)), HI.out.1, HI.out.2.1, (fun _ => rfl), (fun _ => rfl), HI.out.2.2.2.2.1, (fun h => let ⟨M, e1, e2, e3⟩ := HI.out.2.2.2.2.2.1 h; ⟨M, e1, e2, e3.keep hb⟩), HI.out.2.2.2.2.2.2⟩
    · simp at ho
      subst ho
      simp [Region.binds] at hdep
      have e := HI.out.2.1 (show b1 = true by first | exact hdep | exact hdep.1 | exact hdep.2 | exact hdep.2.1 | exact hdep.2.2.1 | exact hdep.2.2.2.1 | exact hdep.2.2.2.2.1 | exact hdep.2.2.2.2.2.1)
      have e' := HI.out.2.2.2.1 (show b3 = true by first | exact hdep | exact hdep.1 | exact hdep.2 | exact hdep.2.1 | exact hdep.2.2.1 | exact hdep.2.2.2.1 | exact hdep.2.2.2.2.1 | exact hdep.2.2.2.2.2.1)
      subst e e'
      unfold wpOp
      go_simp
      exact Or.inl (HK.out _ _ ⟨b0, b1, b2, b3, true, b5, b6, rfl, v12, v42, _, v44, _, _, rfl, HBW.out, HI.out.1, (fun _ => rfl), HI.out.2.2.1, (fun _ => rfl), (fun _ => rfl), HI.out.2.2.2.2.2.1, HI.out.2.2.2.2.2.2⟩)
    · have hb5 : b5 = false := by simpa using hun
      subst hb5
      have hb6 : b6 = false := by
        cases hb : b6
        · rfl
        · exact absurd (HI.out.2.2.2.2.2.2 hb) (by decide)
      subst hb6
      unfold wpOp
      go_simp
      exact Or.inl (HK.out _ _ ⟨b0, b1, b2, b3, b4, true, false, rfl, _, v42, v43, v44, v45, v46, rfl, (HBW.out.alloc HBW.out.size _), HI.out.1, HI.out.2.1, HI.out.2.2.1, HI.out.2.2.2.1, HI.out.2.2.2.2.1, (fun _ => ⟨w.heap.size, rfl, HBW.out.size, Var.new _ _ _⟩), (fun h => by cases h)⟩)
    · have hb6 : b6 = false := by simpa using hun
      subst hb6
      simp at ho
      subst ho
      simp [Region.binds] at hdep
      obtain ⟨M, rfl, hM, vM⟩ := HI.out.2.2.2.2.2.1 (show b5 = true by first | exact hdep | exact hdep.1 | exact hdep.2 | exact hdep.2.1 | exact hdep.2.2.1 | exact hdep.2.2.2.1 | exact hdep.2.2.2.2.1 | exact hdep.2.2.2.2.2.1)
      have e := HI.out.2.2.2.2.1 (show b4 = true by first | exact hdep | exact hdep.1 | exact hdep.2 | exact hdep.2.1 | exact hdep.2.2.1 | exact hdep.2.2.2.1 | exact hdep.2.2.2.2.1 | exact hdep.2.2.2.2.2.1)
      subst e
      have d5 := (show b5 = true by first | exact hdep | exact hdep.1 | exact hdep.2 | exact hdep.2.1 | exact hdep.2.2.1 | exact hdep.2.2.2.1 | exact hdep.2.2.2.2.1 | exact hdep.2.2.2.2.2.1)
      have vM' : Var w M 30 #[.int .u8 0, .bool false, .int .i64 0, .int .i64 0, .int .i64 0, .int .i64 0] := vM
      have m0 : w.cell? ⟨M, 0, none⟩ = some (.int .u8 0) := vM'.cell 0
      have g0 := vM'.free 0
      have m1 : w.cell? ⟨M, 1, none⟩ = some (.bool false) := vM'.cell 1
      have g1 := vM'.free 1
      have m2 : w.cell? ⟨M, 2, none⟩ = some (.int .i64 0) := vM'.cell 2
      have g2 := vM'.free 2
      have m3 : w.cell? ⟨M, 3, none⟩ = some (.int .i64 0) := vM'.cell 3
      have g3 := vM'.free 3
      have m4 : w.cell? ⟨M, 4, none⟩ = some (.int .i64 0) := vM'.cell 4
      have g4 := vM'.free 4
      have m5 : w.cell? ⟨M, 5, none⟩ = some (.int .i64 0) := vM'.cell 5
      have g5 := vM'.free 5
      have HVM := Lib.hid vM'
      clear vM vM'
      unfold wpOp
      go_simp
      exact Or.inl (HK.out _ _ ⟨b0, b1, b2, b3, b4, b5, true, rfl, _, v42, v43, v44, v45, _, rfl, (below_six HBW.out hM _ _ _ _ _ _), HI.out.1, HI.out.2.1, HI.out.2.2.1, HI.out.2.2.2.1, (fun _ => rfl), (fun _ => ⟨M, rfl, hM, var_six HVM.out _ _ _ _ _ _⟩), (fun _ => d5)⟩)
    · simp at ho
  · rintro listed a w ⟨b0, b1, b2, b3, b4, b5, b6, rfl, v12, v42, v43, v44, v45, v46, rfl, hB, h0, h1, h2, h3, h4, h5, h6⟩ hr
    have hall : b0 = true ∧ b1 = true ∧ b2 = true ∧ b3 = true ∧ b4 = true ∧ b5 = true ∧ b6 = true := by
      clear h0 h1 h2 h3 h4 h5 h6 hB HX HY kf0 kf1 kf2 kf3 kt0 kt1 kt2 kt3 zF zT
      revert hr
      cases b0 <;> cases b1 <;> cases b2 <;> cases b3 <;> cases b4 <;> cases b5 <;> cases b6
      all_goals first | (intro _; exact ⟨rfl, rfl, rfl, rfl, rfl, rfl, rfl⟩) | (intro hr; exact absurd hr (by decide +kernel))
    obtain ⟨rfl, rfl, rfl, rfl, rfl, rfl, rfl⟩ := hall
    obtain ⟨M, rfl, hM, vM⟩ := h5 rfl
    exact ⟨M, _, _, _, _, _, rfl, vM, hB, hM⟩
  · refine ⟨false, false, false, false, false, false, false, rfl, u12, u42, u43, u44, u45, u46, rfl, (Below.refl _ _).drew, ?_, ?_, ?_, ?_, ?_, ?_, ?_⟩ <;> (intro h; cases h)

end Go.Proofs.Ytpjgghakeaajbaa
