/-
  Boxes of fractions in a region that draws its order: what is known of a box, by how far the region is.
  The document's foot: its regions that draw their order. Printed by wip/tools/gen_foot.py.
  The document's At: its regions that draw their order. Printed by wip/tools/gen_foot.py.
  The document's Near: its regions that draw their order. Printed by wip/tools/gen_foot.py.
-/
import Derived.Test.YtpjgghakeaajbaaMeetQ
namespace Go.Proofs.Ytpjgghakeaajbaa
open Go.RowKit

/-- Where nothing is ready all is done (each operation waits for earlier ones alone, by what binds in this mode). -/
def earlierM (md : Region.Mode) (ops : Array Oper) : Bool := (List.range ops.size).all fun i => ((ops[i]?).map (·.after.all fun e => !Region.binds md e || decide (e.on < i))).getD true
theorem ready_nilM {md : Region.Mode} {ops : Array Oper} {listed : Array Bool} (hd : earlierM md ops = true) (hs : listed.size = ops.size) (hr : Region.ready md ops listed = []) : ∀ i, i < ops.size → listed.getD i true = true := by
  intro i
  induction i using Nat.strongRecOn with
  | _ i ih =>
    intro hi
    cases hb : listed.getD i true with
    | true => rfl
    | false =>
      exfalso
      have hm : i ∈ Region.ready md ops listed := by
        refine mem_ready.2 ⟨hb, ops[i], Array.getElem?_eq_getElem hi, fun e he hbd => ?_⟩
        unfold earlierM at hd
        have h1 := List.all_eq_true.1 hd i (List.mem_range.2 hi)
        rw [Array.getElem?_eq_getElem hi] at h1
        simp only [Option.map_some, Option.getD_some] at h1
        have h2' := Array.all_eq_true_iff_forall_mem.1 h1 e he
        rw [hbd] at h2'
        have h2 := of_decide_eq_true h2'
        have h3 := ih e.on h2 (by omega)
        have h4 : e.on < listed.size := by omega
        rw [Array.getD_eq_getD_getElem?, Array.getElem?_eq_getElem h4] at h3 ⊢
        exact h3
      rw [hr] at hm
      cases hm
/-- A new box of a fraction: nothing in it, or the fraction x. -/
def BoxQ (W w : World) (v : Value) (st : Bool) (x : Q) : Prop :=
  ∃ M, v = .pointer (some ⟨M, 0, none⟩) ∧ W.heap.size ≤ M ∧ if st = true then ∃ g1 gA gm gc g2 gB gn gd, Var w M 53 #[.bool g1, .slice gA gm gc, .bool g2, .slice gB gn gd] ∧ RatAt w (.agg #[.bool g1, .slice gA gm gc, .bool g2, .slice gB gn gd]) x else Var w M 53 #[.bool false, .slice none 0 0, .bool false, .slice none 0 0]
theorem BoxQ.keep {W w wk : World} {v : Value} {st : Bool} {x : Q} (h : BoxQ W w v st x) (hb : Below w.heap.size w wk) : BoxQ W wk v st x := by
  obtain ⟨M, e1, e2, e3⟩ := h
  refine ⟨M, e1, e2, ?_⟩
  cases st
  · exact Var.keep e3 hb
  · obtain ⟨g1, gA, gm, gc, g2, gB, gn, gd, k1, k2⟩ := e3
    exact ⟨g1, gA, gm, gc, g2, gB, gn, gd, k1.keep hb, k2.below hb⟩
theorem BoxQ.new {W w : World} (x : Q) (hs : W.heap.size ≤ w.heap.size) : BoxQ W (w.alloc (.cells #[.bool false, .slice none 0 0, .bool false, .slice none 0 0] 53)) (.pointer (some ⟨w.heap.size, 0, none⟩)) false x :=
  ⟨_, rfl, hs, Var.new _ _ _⟩
/-- The box is not yet filled. -/
theorem BoxQ.open {W w : World} {v : Value} {x : Q} (h : BoxQ W w v false x) : ∃ M, v = .pointer (some ⟨M, 0, none⟩) ∧ W.heap.size ≤ M ∧ Var w M 53 #[.bool false, .slice none 0 0, .bool false, .slice none 0 0] := h
theorem BoxQ.full {W w : World} {v : Value} {x : Q} (h : BoxQ W w v true x) : ∃ M g1 gA gm gc g2 gB gn gd, v = .pointer (some ⟨M, 0, none⟩) ∧ W.heap.size ≤ M ∧ Var w M 53 #[.bool g1, .slice gA gm gc, .bool g2, .slice gB gn gd] ∧ RatAt w (.agg #[.bool g1, .slice gA gm gc, .bool g2, .slice gB gn gd]) x := by
  obtain ⟨M, e1, e2, g1, gA, gm, gc, g2, gB, gn, gd, k1, k2⟩ := h
  exact ⟨M, g1, gA, gm, gc, g2, gB, gn, gd, e1, e2, k1, k2⟩
theorem BoxQ.fill {W w : World} {M : Nat} {a0 a1 a2 a3 : Value} {g1 g2 : Bool} {gA gB : Option Addr} {gm gc gn gd : Nat} {x : Q} (hV : Var w M 53 #[a0, a1, a2, a3]) (hM : W.heap.size ≤ M) (hR : RatAt w (.agg #[.bool g1, .slice gA gm gc, .bool g2, .slice gB gn gd]) x) :
    BoxQ W ((((w.setCell ⟨M, 0, none⟩ (.bool g1)).setCell ⟨M, 1, none⟩ (.slice gA gm gc)).setCell ⟨M, 2, none⟩ (.bool g2)).setCell ⟨M, 3, none⟩ (.slice gB gn gd)) (.pointer (some ⟨M, 0, none⟩)) true x :=
  ⟨M, rfl, hM, g1, gA, gm, gc, g2, gB, gn, gd, var_four hV _ _ _ _, hR.four hV (by decide) _ _ _ _⟩
/-- Another box is filled. -/
theorem BoxQ.far {W w : World} {v : Value} {st : Bool} {x : Q} {M : Nat} {cs : Array Value} (h : BoxQ W w v st x) (hV : Var w M 53 cs) (hv : v ≠ .pointer (some ⟨M, 0, none⟩)) (x0 x1 x2 x3 : Value) :
    BoxQ W ((((w.setCell ⟨M, 0, none⟩ x0).setCell ⟨M, 1, none⟩ x1).setCell ⟨M, 2, none⟩ x2).setCell ⟨M, 3, none⟩ x3) v st x := by
  obtain ⟨N, rfl, e2, e3⟩ := h
  have hN : N ≠ M := fun h => hv (by rw [h])
  refine ⟨N, rfl, e2, ?_⟩
  cases st
  · exact var_far4 e3 hN _ _ _ _
  · obtain ⟨g1, gA, gm, gc, g2, gB, gn, gd, k1, k2⟩ := e3
    exact ⟨g1, gA, gm, gc, g2, gB, gn, gd, var_far4 k1 hN _ _ _ _, k2.four hV (by decide) _ _ _ _⟩
/-- A new block is none of the boxes. -/
theorem BoxQ.fresh {W w : World} {v : Value} {st : Bool} {x : Q} (h : BoxQ W w v st x) : v ≠ .pointer (some ⟨w.heap.size, 0, none⟩) := by
  obtain ⟨N, rfl, e2, e3⟩ := h
  have hl : N < w.heap.size := by
    cases st
    · exact Var.lt e3
    · obtain ⟨g1, gA, gm, gc, g2, gB, gn, gd, k1, k2⟩ := e3
      exact k1.lt
  intro h
  injection h with h
  injection h with h
  injection h with h
  omega
/-- Two fractions, as a call answers them. -/
def TwoQ (w : World) (v : Value) (x y : Q) : Prop := ∃ u1 u2, v = .tuple #[u1, u2] ∧ RatAt w u1 x ∧ RatAt w u2 y
theorem TwoQ.below {w w' : World} {v : Value} {x y : Q} (h : TwoQ w v x y) (hb : Below w.heap.size w w') : TwoQ w' v x y := by
  obtain ⟨u1, u2, e, h1, h2⟩ := h
  exact ⟨u1, u2, e, h1.below hb, h2.below hb⟩
theorem TwoQ.four {w : World} {v : Value} {x y : Q} (h : TwoQ w v x y) {R : Nat} {T : TypeId} {cs : Array Value} (hV : Var w R T cs) (ht : T ≠ 91) (x0 x1 x2 x3 : Value) :
    TwoQ ((((w.setCell ⟨R, 0, none⟩ x0).setCell ⟨R, 1, none⟩ x1).setCell ⟨R, 2, none⟩ x2).setCell ⟨R, 3, none⟩ x3) v x y := by
  obtain ⟨u1, u2, e, h1, h2⟩ := h
  exact ⟨u1, u2, e, h1.four hV ht _ _ _ _, h2.four hV ht _ _ _ _⟩

set_option maxHeartbeats 8000000 in
set_option maxRecDepth 100000 in
theorem foot_reg7 (W : World) (Ux Uy Ox Oy : Nat) (x1 x2 x3 x4 : Q) (p1 p2 : Bool) (pA pB : Option Addr) (pm pc pn pd : Nat) (q1 q2 : Bool) (qA qB : Option Addr) (qm qc qn qd : Nat) (r1 r2 : Bool) (rA rB : Option Addr) (rm rc rn rd : Nat) (s1 s2 : Bool) (sA sB : Option Addr) (sm sc sn sd : Nat) (Hp : Hid (RatAt W (.agg #[.bool p1, .slice pA pm pc, .bool p2, .slice pB pn pd]) x1)) (Kp : Hid (QS 2 x1)) (Hq : Hid (RatAt W (.agg #[.bool q1, .slice qA qm qc, .bool q2, .slice qB qn qd]) x2)) (Kq : Hid (QS 2 x2)) (Hr : Hid (RatAt W (.agg #[.bool r1, .slice rA rm rc, .bool r2, .slice rB rn rd]) x3)) (Kr : Hid (QS 2 x3)) (Hs : Hid (RatAt W (.agg #[.bool s1, .slice sA sm sc, .bool s2, .slice sB sn sd]) x4)) (Ks : Hid (QS 2 x4))
    (kUx0 : W.cell? ⟨Ux, 0, none⟩ = some (.bool p1))
    (kUx1 : W.cell? ⟨Ux, 1, none⟩ = some (.slice pA pm pc))
    (kUx2 : W.cell? ⟨Ux, 2, none⟩ = some (.bool p2))
    (kUx3 : W.cell? ⟨Ux, 3, none⟩ = some (.slice pB pn pd))
    (zUx : Ux < W.heap.size)
    (kUy0 : W.cell? ⟨Uy, 0, none⟩ = some (.bool q1))
    (kUy1 : W.cell? ⟨Uy, 1, none⟩ = some (.slice qA qm qc))
    (kUy2 : W.cell? ⟨Uy, 2, none⟩ = some (.bool q2))
    (kUy3 : W.cell? ⟨Uy, 3, none⟩ = some (.slice qB qn qd))
    (zUy : Uy < W.heap.size)
    (kOx0 : W.cell? ⟨Ox, 0, none⟩ = some (.bool r1))
    (kOx1 : W.cell? ⟨Ox, 1, none⟩ = some (.slice rA rm rc))
    (kOx2 : W.cell? ⟨Ox, 2, none⟩ = some (.bool r2))
    (kOx3 : W.cell? ⟨Ox, 3, none⟩ = some (.slice rB rn rd))
    (zOx : Ox < W.heap.size)
    (kOy0 : W.cell? ⟨Oy, 0, none⟩ = some (.bool s1))
    (kOy1 : W.cell? ⟨Oy, 1, none⟩ = some (.slice sA sm sc))
    (kOy2 : W.cell? ⟨Oy, 2, none⟩ = some (.bool s2))
    (kOy3 : W.cell? ⟨Oy, 3, none⟩ = some (.slice sB sn sd))
    (zOy : Oy < W.heap.size)
    (u0 u1 u2 u3 u4 u5 u6 u11 u12 u13 u14 u15 u16 u17 u18 u19 u20 u21 u22 u23 u24 u25 u26 u27 u28 u29 u30 u31 u32 u33 u34 u35 u36 u37 u38 u39 u40 u41 u42 u43 u44 u45 u46 u47 u48 u49 u50 u51 u52 u53 u54 u55 u56 u57 u58 u59 u60 u61 u62 u63 u64 u65 u66 u67 u68 u69 u70 u71 u72 : Value) :
    (regionO Try.f39 7).wp Try.prog (Exit.then (fun a' W' => ∃ M11 g1_11 gA_11 gm_11 gc_11 g2_11 gB_11 gn_11 gd_11 v48 v49 v50 v51 v52 v53 v54 v55 v56 v57 v58 v59 v60 v61 v62, a' = { tmps := #[u0, u1, u2, u3, u4, u5, u6, .pointer (some ⟨Ux, 0, none⟩), .pointer (some ⟨Uy, 0, none⟩), .pointer (some ⟨Ox, 0, none⟩), .pointer (some ⟨Oy, 0, none⟩), .pointer (some ⟨M11, 0, none⟩), u12, u13, u14, u15, u16, u17, u18, u19, u20, u21, u22, u23, u24, u25, u26, u27, u28, u29, u30, u31, u32, u33, u34, u35, u36, u37, u38, u39, u40, u41, u42, u43, u44, u45, u46, u47, v48, v49, v50, v51, v52, v53, v54, v55, v56, v57, v58, v59, v60, v61, v62, u63, u64, u65, u66, u67, u68, u69, u70, u71, u72], defers := [] } ∧ Var W' M11 53 #[.bool g1_11, .slice gA_11 gm_11 gc_11, .bool g2_11, .slice gB_11 gn_11 gd_11] ∧ RatAt W' (.agg #[.bool g1_11, .slice gA_11 gm_11 gc_11, .bool g2_11, .slice gB_11 gn_11 gd_11]) (qquo (qadd (qmul (x1) (x3)) (qmul (x2) (x4))) (qadd (qmul (x1) (x1)) (qmul (x2) (x2)))) ∧ W.heap.size ≤ M11 ∧ Below W.heap.size W W') (fun _ _ _ => False)) { tmps := #[u0, u1, u2, u3, u4, u5, u6, .pointer (some ⟨Ux, 0, none⟩), .pointer (some ⟨Uy, 0, none⟩), .pointer (some ⟨Ox, 0, none⟩), .pointer (some ⟨Oy, 0, none⟩), u11, u12, u13, u14, u15, u16, u17, u18, u19, u20, u21, u22, u23, u24, u25, u26, u27, u28, u29, u30, u31, u32, u33, u34, u35, u36, u37, u38, u39, u40, u41, u42, u43, u44, u45, u46, u47, u48, u49, u50, u51, u52, u53, u54, u55, u56, u57, u58, u59, u60, u61, u62, u63, u64, u65, u66, u67, u68, u69, u70, u71, u72], defers := [] } W := by
  have KX1 : Hid (QS 4 (qmul (x1) (x3))) := Lib.hid (QS.mono (qs_mul (k := 2) (Kp.out.mono (show 2 ≤ 2 by decide)) (Kr.out.mono (show 2 ≤ 2 by decide))) (show 2 + 2 ≤ 4 by decide))
  have KX2 : Hid (QS 4 (qmul (x2) (x4))) := Lib.hid (QS.mono (qs_mul (k := 2) (Kq.out.mono (show 2 ≤ 2 by decide)) (Ks.out.mono (show 2 ≤ 2 by decide))) (show 2 + 2 ≤ 4 by decide))
  have KX3 : Hid (QS 9 (qadd (qmul (x1) (x3)) (qmul (x2) (x4)))) := Lib.hid (QS.mono (qs_add (k := 4) (KX1.out.mono (show 4 ≤ 4 by decide)) (KX2.out.mono (show 4 ≤ 4 by decide))) (show 4 + 4 + 1 ≤ 9 by decide))
  have KX4 : Hid (QS 4 (qmul (x1) (x1))) := Lib.hid (QS.mono (qs_mul (k := 2) (Kp.out.mono (show 2 ≤ 2 by decide)) (Kp.out.mono (show 2 ≤ 2 by decide))) (show 2 + 2 ≤ 4 by decide))
  have KX5 : Hid (QS 4 (qmul (x2) (x2))) := Lib.hid (QS.mono (qs_mul (k := 2) (Kq.out.mono (show 2 ≤ 2 by decide)) (Kq.out.mono (show 2 ≤ 2 by decide))) (show 2 + 2 ≤ 4 by decide))
  have KX6 : Hid (QS 9 (qadd (qmul (x1) (x1)) (qmul (x2) (x2)))) := Lib.hid (QS.mono (qs_add (k := 4) (KX4.out.mono (show 4 ≤ 4 by decide)) (KX5.out.mono (show 4 ≤ 4 by decide))) (show 4 + 4 + 1 ≤ 9 by decide))
  have KX7 : Hid (QS 18 (qquo (qadd (qmul (x1) (x3)) (qmul (x2) (x4))) (qadd (qmul (x1) (x1)) (qmul (x2) (x2))))) := Lib.hid (QS.mono (qs_quo (k := 9) (KX3.out.mono (show 9 ≤ 9 by decide)) (KX6.out.mono (show 9 ≤ 9 by decide))) (show 9 + 9 ≤ 18 by decide))
  show Code.wp _ (Code.region _ _ _) _ _ _
  refine wp_region_any (by kernel_rfl) ?_
  refine wpAny_inv (fun (b : Array Bool) a' w' => ∃ b0 b1 b2 b3 b4 b5 b6 b7 b8 b9 b10 b11 b12 b13 b14 b15 b16 : Bool, b = #[b0, b1, b2, b3, b4, b5, b6, b7, b8, b9, b10, b11, b12, b13, b14, b15, b16] ∧ ∃ v11 v48 v49 v50 v51 v52 v53 v54 v55 v56 v57 v58 v59 v60 v61 v62, a' = { tmps := #[u0, u1, u2, u3, u4, u5, u6, .pointer (some ⟨Ux, 0, none⟩), .pointer (some ⟨Uy, 0, none⟩), .pointer (some ⟨Ox, 0, none⟩), .pointer (some ⟨Oy, 0, none⟩), v11, u12, u13, u14, u15, u16, u17, u18, u19, u20, u21, u22, u23, u24, u25, u26, u27, u28, u29, u30, u31, u32, u33, u34, u35, u36, u37, u38, u39, u40, u41, u42, u43, u44, u45, u46, u47, v48, v49, v50, v51, v52, v53, v54, v55, v56, v57, v58, v59, v60, v61, v62, u63, u64, u65, u66, u67, u68, u69, u70, u71, u72], defers := [] } ∧ Below W.heap.size W w' ∧ (b0 = true → v48 = .agg #[.bool p1, .slice pA pm pc, .bool p2, .slice pB pn pd]) ∧ (b1 = true → v49 = .agg #[.bool r1, .slice rA rm rc, .bool r2, .slice rB rn rd]) ∧ (b2 = true → RatAt w' v50 (qmul (x1) (x3))) ∧ (b3 = true → v51 = .agg #[.bool q1, .slice qA qm qc, .bool q2, .slice qB qn qd]) ∧ (b4 = true → v52 = .agg #[.bool s1, .slice sA sm sc, .bool s2, .slice sB sn sd]) ∧ (b5 = true → RatAt w' v53 (qmul (x2) (x4))) ∧ (b6 = true → RatAt w' v54 (qadd (qmul (x1) (x3)) (qmul (x2) (x4)))) ∧ (b7 = true → v55 = .agg #[.bool p1, .slice pA pm pc, .bool p2, .slice pB pn pd]) ∧ (b8 = true → v56 = .agg #[.bool p1, .slice pA pm pc, .bool p2, .slice pB pn pd]) ∧ (b9 = true → RatAt w' v57 (qmul (x1) (x1))) ∧ (b10 = true → v58 = .agg #[.bool q1, .slice qA qm qc, .bool q2, .slice qB qn qd]) ∧ (b11 = true → v59 = .agg #[.bool q1, .slice qA qm qc, .bool q2, .slice qB qn qd]) ∧ (b12 = true → RatAt w' v60 (qmul (x2) (x2))) ∧ (b13 = true → RatAt w' v61 (qadd (qmul (x1) (x1)) (qmul (x2) (x2)))) ∧ (b14 = true → RatAt w' v62 (qquo (qadd (qmul (x1) (x3)) (qmul (x2) (x4))) (qadd (qmul (x1) (x1)) (qmul (x2) (x2))))) ∧ (b15 = true → BoxQ W w' v11 b16 (qquo (qadd (qmul (x1) (x3)) (qmul (x2) (x4))) (qadd (qmul (x1) (x1)) (qmul (x2) (x2))))) ∧ (b16 = true → b15 = true)) ?_ ?_ _ _ _ _ (by rfl) ?_
  · rintro listed a w i K ⟨b0, b1, b2, b3, b4, b5, b6, b7, b8, b9, b10, b11, b12, b13, b14, b15, b16, rfl, v11, v48, v49, v50, v51, v52, v53, v54, v55, v56, v57, v58, v59, v60, v61, v62, rfl, hB, h0, h1, h2, h3, h4, h5, h6, h7, h8, h9, h10, h11, h12, h13, h14, h15, h16⟩ hi hK
    obtain ⟨hun, o, ho, hdep⟩ := mem_ready.1 hi
    have jUx0 := (hB.cell (p := ⟨Ux, 0, none⟩) zUx).trans kUx0
    have jUx1 := (hB.cell (p := ⟨Ux, 1, none⟩) zUx).trans kUx1
    have jUx2 := (hB.cell (p := ⟨Ux, 2, none⟩) zUx).trans kUx2
    have jUx3 := (hB.cell (p := ⟨Ux, 3, none⟩) zUx).trans kUx3
    have jUy0 := (hB.cell (p := ⟨Uy, 0, none⟩) zUy).trans kUy0
    have jUy1 := (hB.cell (p := ⟨Uy, 1, none⟩) zUy).trans kUy1
    have jUy2 := (hB.cell (p := ⟨Uy, 2, none⟩) zUy).trans kUy2
    have jUy3 := (hB.cell (p := ⟨Uy, 3, none⟩) zUy).trans kUy3
    have jOx0 := (hB.cell (p := ⟨Ox, 0, none⟩) zOx).trans kOx0
    have jOx1 := (hB.cell (p := ⟨Ox, 1, none⟩) zOx).trans kOx1
    have jOx2 := (hB.cell (p := ⟨Ox, 2, none⟩) zOx).trans kOx2
    have jOx3 := (hB.cell (p := ⟨Ox, 3, none⟩) zOx).trans kOx3
    have jOy0 := (hB.cell (p := ⟨Oy, 0, none⟩) zOy).trans kOy0
    have jOy1 := (hB.cell (p := ⟨Oy, 1, none⟩) zOy).trans kOy1
    have jOy2 := (hB.cell (p := ⟨Oy, 2, none⟩) zOy).trans kOy2
    have jOy3 := (hB.cell (p := ⟨Oy, 3, none⟩) zOy).trans kOy3
    have HI := Lib.hid (And.intro h0 (And.intro h1 (And.intro h2 (And.intro h3 (And.intro h4 (And.intro h5 (And.intro h6 (And.intro h7 (And.intro h8 (And.intro h9 (And.intro h10 (And.intro h11 (And.intro h12 (And.intro h13 (And.intro h14 (And.intro h15 (h16)))))))))))))))))
    have HBW := Lib.hid hB
    have HK := Lib.hid hK
    clear h0 h1 h2 h3 h4 h5 h6 h7 h8 h9 h10 h11 h12 h13 h14 h15 h16 hB hK hi kUx0 kUx1 kUx2 kUx3 kUy0 kUy1 kUy2 kUy3 kOx0 kOx1 kOx2 kOx3 kOy0 kOy1 kOy2 kOy3
    rcases i with _ | _ | _ | _ | _ | _ | _ | _ | _ | _ | _ | _ | _ | _ | _ | _ | _ | i
    · simp at ho
      subst ho
      try simp [Region.binds] at hdep
      unfold wpOp
      go_simp
      exact Or.inl (HK.out _ _ ⟨true, b1, b2, b3, b4, b5, b6, b7, b8, b9, b10, b11, b12, b13, b14, b15, b16, rfl, v11, _, v49, v50, v51, v52, v53, v54, v55, v56, v57, v58, v59, v60, v61, v62, rfl, HBW.out, (fun _ => rfl), HI.out.2.1, HI.out.2.2.1, HI.out.2.2.2.1, HI.out.2.2.2.2.1, HI.out.2.2.2.2.2.1, HI.out.2.2.2.2.2.2.1, HI.out.2.2.2.2.2.2.2.1, HI.out.2.2.2.2.2.2.2.2.1, HI.out.2.2.2.2.2.2.2.2.2.1, HI.out.2.2.2.2.2.2.2.2.2.2.1, HI.out.2.2.2.2.2.2.2.2.2.2.2.1, HI.out.2.2.2.2.2.2.2.2.2.2.2.2.1, HI.out.2.2.2.2.2.2.2.2.2.2.2.2.2.1, HI.out.2.2.2.2.2.2.2.2.2.2.2.2.2.2.1, HI.out.2.2.2.2.2.2.2.2.2.2.2.2.2.2.2.1, HI.out.2.2.2.2.2.2.2.2.2.2.2.2.2.2.2.2⟩)
    · simp at ho
      subst ho
      try simp [Region.binds] at hdep
      unfold wpOp
      go_simp
      exact Or.inl (HK.out _ _ ⟨b0, true, b2, b3, b4, b5, b6, b7, b8, b9, b10, b11, b12, b13, b14, b15, b16, rfl, v11, v48, _, v50, v51, v52, v53, v54, v55, v56, v57, v58, v59, v60, v61, v62, rfl, HBW.out, HI.out.1, (fun _ => rfl), HI.out.2.2.1, HI.out.2.2.2.1, HI.out.2.2.2.2.1, HI.out.2.2.2.2.2.1, HI.out.2.2.2.2.2.2.1, HI.out.2.2.2.2.2.2.2.1, HI.out.2.2.2.2.2.2.2.2.1, HI.out.2.2.2.2.2.2.2.2.2.1, HI.out.2.2.2.2.2.2.2.2.2.2.1, HI.out.2.2.2.2.2.2.2.2.2.2.2.1, HI.out.2.2.2.2.2.2.2.2.2.2.2.2.1, HI.out.2.2.2.2.2.2.2.2.2.2.2.2.2.1, HI.out.2.2.2.2.2.2.2.2.2.2.2.2.2.2.1, HI.out.2.2.2.2.2.2.2.2.2.2.2.2.2.2.2.1, HI.out.2.2.2.2.2.2.2.2.2.2.2.2.2.2.2.2⟩)
    · simp at ho
      subst ho
      try simp [Region.binds] at hdep
      have q0 := HI.out.1 (show b0 = true by first | exact hdep | exact hdep.1 | exact hdep.2 | exact hdep.2.1 | exact hdep.2.2 | exact hdep.2.2.1 | exact hdep.2.2.2 | exact hdep.2.2.2.1 | exact hdep.2.2.2.2 | exact hdep.2.2.2.2.1)
      subst q0
      have q1 := HI.out.2.1 (show b1 = true by first | exact hdep | exact hdep.1 | exact hdep.2 | exact hdep.2.1 | exact hdep.2.2 | exact hdep.2.2.1 | exact hdep.2.2.2 | exact hdep.2.2.2.1 | exact hdep.2.2.2.2 | exact hdep.2.2.2.2.1)
      subst q1
      unfold wpOp
      go_simp
      refine Or.inl ((mul_q (Hp.out.below HBW.out) (Hr.out.below HBW.out) (Kp.out.mono (show 2 ≤ 2 by decide)) (Kr.out.mono (show 2 ≤ 2 by decide)) (by decide) _ (Below.refl _ _)).mono ?_)
      rintro e wk ⟨z, rfl, hz, hb⟩
      exact HK.out _ _ ⟨b0, b1, true, b3, b4, b5, b6, b7, b8, b9, b10, b11, b12, b13, b14, b15, b16, rfl, v11, _, _, _, v51, v52, v53, v54, v55, v56, v57, v58, v59, v60, v61, v62, rfl, (HBW.out.trans (hb.mono HBW.out.size)), (fun _ => rfl), (fun _ => rfl), (fun _ => hz), HI.out.2.2.2.1, HI.out.2.2.2.2.1, (fun h => (HI.out.2.2.2.2.2.1 h).below hb), (fun h => (HI.out.2.2.2.2.2.2.1 h).below hb), HI.out.2.2.2.2.2.2.2.1, HI.out.2.2.2.2.2.2.2.2.1, (fun h => (HI.out.2.2.2.2.2.2.2.2.2.1 h).below hb), HI.out.2.2.2.2.2.2.2.2.2.2.1, HI.out.2.2.2.2.2.2.2.2.2.2.2.1, (fun h => (HI.out.2.2.2.2.2.2.2.2.2.2.2.2.1 h).below hb), (fun h => (HI.out.2.2.2.2.2.2.2.2.2.2.2.2.2.1 h).below hb), (fun h => (HI.out.2.2.2.2.2.2.2.2.2.2.2.2.2.2.1 h).below hb), (fun h => (HI.out.2.2.2.2.2.2.2.2.2.2.2.2.2.2.2.1 h).keep hb), HI.out.2.2.2.2.2.2.2.2.2.2.2.2.2.2.2.2⟩
    · simp at ho
      subst ho
      try simp [Region.binds] at hdep
      unfold wpOp
      go_simp
      exact Or.inl (HK.out _ _ ⟨b0, b1, b2, true, b4, b5, b6, b7, b8, b9, b10, b11, b12, b13, b14, b15, b16, rfl, v11, v48, v49, v50, _, v52, v53, v54, v55, v56, v57, v58, v59, v60, v61, v62, rfl, HBW.out, HI.out.1, HI.out.2.1, HI.out.2.2.1, (fun _ => rfl), HI.out.2.2.2.2.1, HI.out.2.2.2.2.2.1, HI.out.2.2.2.2.2.2.1, HI.out.2.2.2.2.2.2.2.1, HI.out.2.2.2.2.2.2.2.2.1, HI.out.2.2.2.2.2.2.2.2.2.1, HI.out.2.2.2.2.2.2.2.2.2.2.1, HI.out.2.2.2.2.2.2.2.2.2.2.2.1, HI.out.2.2.2.2.2.2.2.2.2.2.2.2.1, HI.out.2.2.2.2.2.2.2.2.2.2.2.2.2.1, HI.out.2.2.2.2.2.2.2.2.2.2.2.2.2.2.1, HI.out.2.2.2.2.2.2.2.2.2.2.2.2.2.2.2.1, HI.out.2.2.2.2.2.2.2.2.2.2.2.2.2.2.2.2⟩)
    · simp at ho
      subst ho
      try simp [Region.binds] at hdep
      unfold wpOp
      go_simp
      exact Or.inl (HK.out _ _ ⟨b0, b1, b2, b3, true, b5, b6, b7, b8, b9, b10, b11, b12, b13, b14, b15, b16, rfl, v11, v48, v49, v50, v51, _, v53, v54, v55, v56, v57, v58, v59, v60, v61, v62, rfl, HBW.out, HI.out.1, HI.out.2.1, HI.out.2.2.1, HI.out.2.2.2.1, (fun _ => rfl), HI.out.2.2.2.2.2.1, HI.out.2.2.2.2.2.2.1, HI.out.2.2.2.2.2.2.2.1, HI.out.2.2.2.2.2.2.2.2.1, HI.out.2.2.2.2.2.2.2.2.2.1, HI.out.2.2.2.2.2.2.2.2.2.2.1, HI.out.2.2.2.2.2.2.2.2.2.2.2.1, HI.out.2.2.2.2.2.2.2.2.2.2.2.2.1, HI.out.2.2.2.2.2.2.2.2.2.2.2.2.2.1, HI.out.2.2.2.2.2.2.2.2.2.2.2.2.2.2.1, HI.out.2.2.2.2.2.2.2.2.2.2.2.2.2.2.2.1, HI.out.2.2.2.2.2.2.2.2.2.2.2.2.2.2.2.2⟩)
    · simp at ho
      subst ho
      try simp [Region.binds] at hdep
      have q3 := HI.out.2.2.2.1 (show b3 = true by first | exact hdep | exact hdep.1 | exact hdep.2 | exact hdep.2.1 | exact hdep.2.2 | exact hdep.2.2.1 | exact hdep.2.2.2 | exact hdep.2.2.2.1 | exact hdep.2.2.2.2 | exact hdep.2.2.2.2.1)
      subst q3
      have q4 := HI.out.2.2.2.2.1 (show b4 = true by first | exact hdep | exact hdep.1 | exact hdep.2 | exact hdep.2.1 | exact hdep.2.2 | exact hdep.2.2.1 | exact hdep.2.2.2 | exact hdep.2.2.2.1 | exact hdep.2.2.2.2 | exact hdep.2.2.2.2.1)
      subst q4
      unfold wpOp
      go_simp
      refine Or.inl ((mul_q (Hq.out.below HBW.out) (Hs.out.below HBW.out) (Kq.out.mono (show 2 ≤ 2 by decide)) (Ks.out.mono (show 2 ≤ 2 by decide)) (by decide) _ (Below.refl _ _)).mono ?_)
      rintro e wk ⟨z, rfl, hz, hb⟩
      exact HK.out _ _ ⟨b0, b1, b2, b3, b4, true, b6, b7, b8, b9, b10, b11, b12, b13, b14, b15, b16, rfl, v11, v48, v49, v50, _, _, _, v54, v55, v56, v57, v58, v59, v60, v61, v62, rfl, (HBW.out.trans (hb.mono HBW.out.size)), HI.out.1, HI.out.2.1, (fun h => (HI.out.2.2.1 h).below hb), (fun _ => rfl), (fun _ => rfl), (fun _ => hz), (fun h => (HI.out.2.2.2.2.2.2.1 h).below hb), HI.out.2.2.2.2.2.2.2.1, HI.out.2.2.2.2.2.2.2.2.1, (fun h => (HI.out.2.2.2.2.2.2.2.2.2.1 h).below hb), HI.out.2.2.2.2.2.2.2.2.2.2.1, HI.out.2.2.2.2.2.2.2.2.2.2.2.1, (fun h => (HI.out.2.2.2.2.2.2.2.2.2.2.2.2.1 h).below hb), (fun h => (HI.out.2.2.2.2.2.2.2.2.2.2.2.2.2.1 h).below hb), (fun h => (HI.out.2.2.2.2.2.2.2.2.2.2.2.2.2.2.1 h).below hb), (fun h => (HI.out.2.2.2.2.2.2.2.2.2.2.2.2.2.2.2.1 h).keep hb), HI.out.2.2.2.2.2.2.2.2.2.2.2.2.2.2.2.2⟩
    · simp at ho
      subst ho
      try simp [Region.binds] at hdep
      have R2 := Lib.hid (HI.out.2.2.1 (show b2 = true by first | exact hdep | exact hdep.1 | exact hdep.2 | exact hdep.2.1 | exact hdep.2.2 | exact hdep.2.2.1 | exact hdep.2.2.2 | exact hdep.2.2.2.1 | exact hdep.2.2.2.2 | exact hdep.2.2.2.2.1))
      have R5 := Lib.hid (HI.out.2.2.2.2.2.1 (show b5 = true by first | exact hdep | exact hdep.1 | exact hdep.2 | exact hdep.2.1 | exact hdep.2.2 | exact hdep.2.2.1 | exact hdep.2.2.2 | exact hdep.2.2.2.1 | exact hdep.2.2.2.2 | exact hdep.2.2.2.2.1))
      unfold wpOp
      go_simp
      refine Or.inl ((add_q R2.out R5.out (KX1.out.mono (show 4 ≤ 4 by decide)) (KX2.out.mono (show 4 ≤ 4 by decide)) (by decide) _ (Below.refl _ _)).mono ?_)
      rintro e wk ⟨z, rfl, hz, hb⟩
      exact HK.out _ _ ⟨b0, b1, b2, b3, b4, b5, true, b7, b8, b9, b10, b11, b12, b13, b14, b15, b16, rfl, v11, v48, v49, v50, v51, v52, v53, _, v55, v56, v57, v58, v59, v60, v61, v62, rfl, (HBW.out.trans (hb.mono HBW.out.size)), HI.out.1, HI.out.2.1, (fun h => (HI.out.2.2.1 h).below hb), HI.out.2.2.2.1, HI.out.2.2.2.2.1, (fun h => (HI.out.2.2.2.2.2.1 h).below hb), (fun _ => hz), HI.out.2.2.2.2.2.2.2.1, HI.out.2.2.2.2.2.2.2.2.1, (fun h => (HI.out.2.2.2.2.2.2.2.2.2.1 h).below hb), HI.out.2.2.2.2.2.2.2.2.2.2.1, HI.out.2.2.2.2.2.2.2.2.2.2.2.1, (fun h => (HI.out.2.2.2.2.2.2.2.2.2.2.2.2.1 h).below hb), (fun h => (HI.out.2.2.2.2.2.2.2.2.2.2.2.2.2.1 h).below hb), (fun h => (HI.out.2.2.2.2.2.2.2.2.2.2.2.2.2.2.1 h).below hb), (fun h => (HI.out.2.2.2.2.2.2.2.2.2.2.2.2.2.2.2.1 h).keep hb), HI.out.2.2.2.2.2.2.2.2.2.2.2.2.2.2.2.2⟩
    · simp at ho
      subst ho
      try simp [Region.binds] at hdep
      unfold wpOp
      go_simp
      exact Or.inl (HK.out _ _ ⟨b0, b1, b2, b3, b4, b5, b6, true, b8, b9, b10, b11, b12, b13, b14, b15, b16, rfl, v11, v48, v49, v50, v51, v52, v53, v54, _, v56, v57, v58, v59, v60, v61, v62, rfl, HBW.out, HI.out.1, HI.out.2.1, HI.out.2.2.1, HI.out.2.2.2.1, HI.out.2.2.2.2.1, HI.out.2.2.2.2.2.1, HI.out.2.2.2.2.2.2.1, (fun _ => rfl), HI.out.2.2.2.2.2.2.2.2.1, HI.out.2.2.2.2.2.2.2.2.2.1, HI.out.2.2.2.2.2.2.2.2.2.2.1, HI.out.2.2.2.2.2.2.2.2.2.2.2.1, HI.out.2.2.2.2.2.2.2.2.2.2.2.2.1, HI.out.2.2.2.2.2.2.2.2.2.2.2.2.2.1, HI.out.2.2.2.2.2.2.2.2.2.2.2.2.2.2.1, HI.out.2.2.2.2.2.2.2.2.2.2.2.2.2.2.2.1, HI.out.2.2.2.2.2.2.2.2.2.2.2.2.2.2.2.2⟩)
    · simp at ho
      subst ho
      try simp [Region.binds] at hdep
      unfold wpOp
      go_simp
      exact Or.inl (HK.out _ _ ⟨b0, b1, b2, b3, b4, b5, b6, b7, true, b9, b10, b11, b12, b13, b14, b15, b16, rfl, v11, v48, v49, v50, v51, v52, v53, v54, v55, _, v57, v58, v59, v60, v61, v62, rfl, HBW.out, HI.out.1, HI.out.2.1, HI.out.2.2.1, HI.out.2.2.2.1, HI.out.2.2.2.2.1, HI.out.2.2.2.2.2.1, HI.out.2.2.2.2.2.2.1, HI.out.2.2.2.2.2.2.2.1, (fun _ => rfl), HI.out.2.2.2.2.2.2.2.2.2.1, HI.out.2.2.2.2.2.2.2.2.2.2.1, HI.out.2.2.2.2.2.2.2.2.2.2.2.1, HI.out.2.2.2.2.2.2.2.2.2.2.2.2.1, HI.out.2.2.2.2.2.2.2.2.2.2.2.2.2.1, HI.out.2.2.2.2.2.2.2.2.2.2.2.2.2.2.1, HI.out.2.2.2.2.2.2.2.2.2.2.2.2.2.2.2.1, HI.out.2.2.2.2.2.2.2.2.2.2.2.2.2.2.2.2⟩)
    · simp at ho
      subst ho
      try simp [Region.binds] at hdep
      have q7 := HI.out.2.2.2.2.2.2.2.1 (show b7 = true by first | exact hdep | exact hdep.1 | exact hdep.2 | exact hdep.2.1 | exact hdep.2.2 | exact hdep.2.2.1 | exact hdep.2.2.2 | exact hdep.2.2.2.1 | exact hdep.2.2.2.2 | exact hdep.2.2.2.2.1)
      subst q7
      have q8 := HI.out.2.2.2.2.2.2.2.2.1 (show b8 = true by first | exact hdep | exact hdep.1 | exact hdep.2 | exact hdep.2.1 | exact hdep.2.2 | exact hdep.2.2.1 | exact hdep.2.2.2 | exact hdep.2.2.2.1 | exact hdep.2.2.2.2 | exact hdep.2.2.2.2.1)
      subst q8
      unfold wpOp
      go_simp
      refine Or.inl ((mul_q (Hp.out.below HBW.out) (Hp.out.below HBW.out) (Kp.out.mono (show 2 ≤ 2 by decide)) (Kp.out.mono (show 2 ≤ 2 by decide)) (by decide) _ (Below.refl _ _)).mono ?_)
      rintro e wk ⟨z, rfl, hz, hb⟩
      exact HK.out _ _ ⟨b0, b1, b2, b3, b4, b5, b6, b7, b8, true, b10, b11, b12, b13, b14, b15, b16, rfl, v11, v48, v49, v50, v51, v52, v53, v54, _, _, _, v58, v59, v60, v61, v62, rfl, (HBW.out.trans (hb.mono HBW.out.size)), HI.out.1, HI.out.2.1, (fun h => (HI.out.2.2.1 h).below hb), HI.out.2.2.2.1, HI.out.2.2.2.2.1, (fun h => (HI.out.2.2.2.2.2.1 h).below hb), (fun h => (HI.out.2.2.2.2.2.2.1 h).below hb), (fun _ => rfl), (fun _ => rfl), (fun _ => hz), HI.out.2.2.2.2.2.2.2.2.2.2.1, HI.out.2.2.2.2.2.2.2.2.2.2.2.1, (fun h => (HI.out.2.2.2.2.2.2.2.2.2.2.2.2.1 h).below hb), (fun h => (HI.out.2.2.2.2.2.2.2.2.2.2.2.2.2.1 h).below hb), (fun h => (HI.out.2.2.2.2.2.2.2.2.2.2.2.2.2.2.1 h).below hb), (fun h => (HI.out.2.2.2.2.2.2.2.2.2.2.2.2.2.2.2.1 h).keep hb), HI.out.2.2.2.2.2.2.2.2.2.2.2.2.2.2.2.2⟩
    · simp at ho
      subst ho
      try simp [Region.binds] at hdep
      unfold wpOp
      go_simp
      exact Or.inl (HK.out _ _ ⟨b0, b1, b2, b3, b4, b5, b6, b7, b8, b9, true, b11, b12, b13, b14, b15, b16, rfl, v11, v48, v49, v50, v51, v52, v53, v54, v55, v56, v57, _, v59, v60, v61, v62, rfl, HBW.out, HI.out.1, HI.out.2.1, HI.out.2.2.1, HI.out.2.2.2.1, HI.out.2.2.2.2.1, HI.out.2.2.2.2.2.1, HI.out.2.2.2.2.2.2.1, HI.out.2.2.2.2.2.2.2.1, HI.out.2.2.2.2.2.2.2.2.1, HI.out.2.2.2.2.2.2.2.2.2.1, (fun _ => rfl), HI.out.2.2.2.2.2.2.2.2.2.2.2.1, HI.out.2.2.2.2.2.2.2.2.2.2.2.2.1, HI.out.2.2.2.2.2.2.2.2.2.2.2.2.2.1, HI.out.2.2.2.2.2.2.2.2.2.2.2.2.2.2.1, HI.out.2.2.2.2.2.2.2.2.2.2.2.2.2.2.2.1, HI.out.2.2.2.2.2.2.2.2.2.2.2.2.2.2.2.2⟩)
    · simp at ho
      subst ho
      try simp [Region.binds] at hdep
      unfold wpOp
      go_simp
      exact Or.inl (HK.out _ _ ⟨b0, b1, b2, b3, b4, b5, b6, b7, b8, b9, b10, true, b12, b13, b14, b15, b16, rfl, v11, v48, v49, v50, v51, v52, v53, v54, v55, v56, v57, v58, _, v60, v61, v62, rfl, HBW.out, HI.out.1, HI.out.2.1, HI.out.2.2.1, HI.out.2.2.2.1, HI.out.2.2.2.2.1, HI.out.2.2.2.2.2.1, HI.out.2.2.2.2.2.2.1, HI.out.2.2.2.2.2.2.2.1, HI.out.2.2.2.2.2.2.2.2.1, HI.out.2.2.2.2.2.2.2.2.2.1, HI.out.2.2.2.2.2.2.2.2.2.2.1, (fun _ => rfl), HI.out.2.2.2.2.2.2.2.2.2.2.2.2.1, HI.out.2.2.2.2.2.2.2.2.2.2.2.2.2.1, HI.out.2.2.2.2.2.2.2.2.2.2.2.2.2.2.1, HI.out.2.2.2.2.2.2.2.2.2.2.2.2.2.2.2.1, HI.out.2.2.2.2.2.2.2.2.2.2.2.2.2.2.2.2⟩)
    · simp at ho
      subst ho
      try simp [Region.binds] at hdep
      have q10 := HI.out.2.2.2.2.2.2.2.2.2.2.1 (show b10 = true by first | exact hdep | exact hdep.1 | exact hdep.2 | exact hdep.2.1 | exact hdep.2.2 | exact hdep.2.2.1 | exact hdep.2.2.2 | exact hdep.2.2.2.1 | exact hdep.2.2.2.2 | exact hdep.2.2.2.2.1)
      subst q10
      have q11 := HI.out.2.2.2.2.2.2.2.2.2.2.2.1 (show b11 = true by first | exact hdep | exact hdep.1 | exact hdep.2 | exact hdep.2.1 | exact hdep.2.2 | exact hdep.2.2.1 | exact hdep.2.2.2 | exact hdep.2.2.2.1 | exact hdep.2.2.2.2 | exact hdep.2.2.2.2.1)
      subst q11
      unfold wpOp
      go_simp
      refine Or.inl ((mul_q (Hq.out.below HBW.out) (Hq.out.below HBW.out) (Kq.out.mono (show 2 ≤ 2 by decide)) (Kq.out.mono (show 2 ≤ 2 by decide)) (by decide) _ (Below.refl _ _)).mono ?_)
      rintro e wk ⟨z, rfl, hz, hb⟩
      exact HK.out _ _ ⟨b0, b1, b2, b3, b4, b5, b6, b7, b8, b9, b10, b11, true, b13, b14, b15, b16, rfl, v11, v48, v49, v50, v51, v52, v53, v54, v55, v56, v57, _, _, _, v61, v62, rfl, (HBW.out.trans (hb.mono HBW.out.size)), HI.out.1, HI.out.2.1, (fun h => (HI.out.2.2.1 h).below hb), HI.out.2.2.2.1, HI.out.2.2.2.2.1, (fun h => (HI.out.2.2.2.2.2.1 h).below hb), (fun h => (HI.out.2.2.2.2.2.2.1 h).below hb), HI.out.2.2.2.2.2.2.2.1, HI.out.2.2.2.2.2.2.2.2.1, (fun h => (HI.out.2.2.2.2.2.2.2.2.2.1 h).below hb), (fun _ => rfl), (fun _ => rfl), (fun _ => hz), (fun h => (HI.out.2.2.2.2.2.2.2.2.2.2.2.2.2.1 h).below hb), (fun h => (HI.out.2.2.2.2.2.2.2.2.2.2.2.2.2.2.1 h).below hb), (fun h => (HI.out.2.2.2.2.2.2.2.2.2.2.2.2.2.2.2.1 h).keep hb), HI.out.2.2.2.2.2.2.2.2.2.2.2.2.2.2.2.2⟩
    · simp at ho
      subst ho
      try simp [Region.binds] at hdep
      have R9 := Lib.hid (HI.out.2.2.2.2.2.2.2.2.2.1 (show b9 = true by first | exact hdep | exact hdep.1 | exact hdep.2 | exact hdep.2.1 | exact hdep.2.2 | exact hdep.2.2.1 | exact hdep.2.2.2 | exact hdep.2.2.2.1 | exact hdep.2.2.2.2 | exact hdep.2.2.2.2.1))
      have R12 := Lib.hid (HI.out.2.2.2.2.2.2.2.2.2.2.2.2.1 (show b12 = true by first | exact hdep | exact hdep.1 | exact hdep.2 | exact hdep.2.1 | exact hdep.2.2 | exact hdep.2.2.1 | exact hdep.2.2.2 | exact hdep.2.2.2.1 | exact hdep.2.2.2.2 | exact hdep.2.2.2.2.1))
      unfold wpOp
      go_simp
      refine Or.inl ((add_q R9.out R12.out (KX4.out.mono (show 4 ≤ 4 by decide)) (KX5.out.mono (show 4 ≤ 4 by decide)) (by decide) _ (Below.refl _ _)).mono ?_)
      rintro e wk ⟨z, rfl, hz, hb⟩
      exact HK.out _ _ ⟨b0, b1, b2, b3, b4, b5, b6, b7, b8, b9, b10, b11, b12, true, b14, b15, b16, rfl, v11, v48, v49, v50, v51, v52, v53, v54, v55, v56, v57, v58, v59, v60, _, v62, rfl, (HBW.out.trans (hb.mono HBW.out.size)), HI.out.1, HI.out.2.1, (fun h => (HI.out.2.2.1 h).below hb), HI.out.2.2.2.1, HI.out.2.2.2.2.1, (fun h => (HI.out.2.2.2.2.2.1 h).below hb), (fun h => (HI.out.2.2.2.2.2.2.1 h).below hb), HI.out.2.2.2.2.2.2.2.1, HI.out.2.2.2.2.2.2.2.2.1, (fun h => (HI.out.2.2.2.2.2.2.2.2.2.1 h).below hb), HI.out.2.2.2.2.2.2.2.2.2.2.1, HI.out.2.2.2.2.2.2.2.2.2.2.2.1, (fun h => (HI.out.2.2.2.2.2.2.2.2.2.2.2.2.1 h).below hb), (fun _ => hz), (fun h => (HI.out.2.2.2.2.2.2.2.2.2.2.2.2.2.2.1 h).below hb), (fun h => (HI.out.2.2.2.2.2.2.2.2.2.2.2.2.2.2.2.1 h).keep hb), HI.out.2.2.2.2.2.2.2.2.2.2.2.2.2.2.2.2⟩
    · simp at ho
      subst ho
      try simp [Region.binds] at hdep
      have R6 := Lib.hid (HI.out.2.2.2.2.2.2.1 (show b6 = true by first | exact hdep | exact hdep.1 | exact hdep.2 | exact hdep.2.1 | exact hdep.2.2 | exact hdep.2.2.1 | exact hdep.2.2.2 | exact hdep.2.2.2.1 | exact hdep.2.2.2.2 | exact hdep.2.2.2.2.1))
      have R13 := Lib.hid (HI.out.2.2.2.2.2.2.2.2.2.2.2.2.2.1 (show b13 = true by first | exact hdep | exact hdep.1 | exact hdep.2 | exact hdep.2.1 | exact hdep.2.2 | exact hdep.2.2.1 | exact hdep.2.2.2 | exact hdep.2.2.2.1 | exact hdep.2.2.2.2 | exact hdep.2.2.2.2.1))
      unfold wpOp
      go_simp
      refine Or.inl ((quo_q R6.out R13.out (KX3.out.mono (show 9 ≤ 9 by decide)) (KX6.out.mono (show 9 ≤ 9 by decide)) (by decide) _ (Below.refl _ _)).mono ?_)
      rintro e wk ⟨z, rfl, hz, hb⟩
      exact HK.out _ _ ⟨b0, b1, b2, b3, b4, b5, b6, b7, b8, b9, b10, b11, b12, b13, true, b15, b16, rfl, v11, v48, v49, v50, v51, v52, v53, v54, v55, v56, v57, v58, v59, v60, v61, _, rfl, (HBW.out.trans (hb.mono HBW.out.size)), HI.out.1, HI.out.2.1, (fun h => (HI.out.2.2.1 h).below hb), HI.out.2.2.2.1, HI.out.2.2.2.2.1, (fun h => (HI.out.2.2.2.2.2.1 h).below hb), (fun h => (HI.out.2.2.2.2.2.2.1 h).below hb), HI.out.2.2.2.2.2.2.2.1, HI.out.2.2.2.2.2.2.2.2.1, (fun h => (HI.out.2.2.2.2.2.2.2.2.2.1 h).below hb), HI.out.2.2.2.2.2.2.2.2.2.2.1, HI.out.2.2.2.2.2.2.2.2.2.2.2.1, (fun h => (HI.out.2.2.2.2.2.2.2.2.2.2.2.2.1 h).below hb), (fun h => (HI.out.2.2.2.2.2.2.2.2.2.2.2.2.2.1 h).below hb), (fun _ => hz), (fun h => (HI.out.2.2.2.2.2.2.2.2.2.2.2.2.2.2.2.1 h).keep hb), HI.out.2.2.2.2.2.2.2.2.2.2.2.2.2.2.2.2⟩
    · simp at ho
      subst ho
      try simp [Region.binds] at hdep
      have hb15 : b15 = false := by simpa using hun
      subst hb15
      have hb16 : b16 = false := by
        cases hb : b16
        · rfl
        · exact absurd (HI.out.2.2.2.2.2.2.2.2.2.2.2.2.2.2.2.2 hb) (by decide)
      subst hb16
      unfold wpOp
      go_simp
      exact Or.inl (HK.out _ _ ⟨b0, b1, b2, b3, b4, b5, b6, b7, b8, b9, b10, b11, b12, b13, b14, true, false, rfl, _, v48, v49, v50, v51, v52, v53, v54, v55, v56, v57, v58, v59, v60, v61, v62, rfl, (HBW.out.alloc HBW.out.size _), HI.out.1, HI.out.2.1, (fun h => (HI.out.2.2.1 h).below ((Below.refl _ _).alloc (Nat.le_refl _) _)), HI.out.2.2.2.1, HI.out.2.2.2.2.1, (fun h => (HI.out.2.2.2.2.2.1 h).below ((Below.refl _ _).alloc (Nat.le_refl _) _)), (fun h => (HI.out.2.2.2.2.2.2.1 h).below ((Below.refl _ _).alloc (Nat.le_refl _) _)), HI.out.2.2.2.2.2.2.2.1, HI.out.2.2.2.2.2.2.2.2.1, (fun h => (HI.out.2.2.2.2.2.2.2.2.2.1 h).below ((Below.refl _ _).alloc (Nat.le_refl _) _)), HI.out.2.2.2.2.2.2.2.2.2.2.1, HI.out.2.2.2.2.2.2.2.2.2.2.2.1, (fun h => (HI.out.2.2.2.2.2.2.2.2.2.2.2.2.1 h).below ((Below.refl _ _).alloc (Nat.le_refl _) _)), (fun h => (HI.out.2.2.2.2.2.2.2.2.2.2.2.2.2.1 h).below ((Below.refl _ _).alloc (Nat.le_refl _) _)), (fun h => (HI.out.2.2.2.2.2.2.2.2.2.2.2.2.2.2.1 h).below ((Below.refl _ _).alloc (Nat.le_refl _) _)), (fun _ => BoxQ.new _ HBW.out.size), (fun h => by cases h)⟩)
    · have hb16 : b16 = false := by simpa using hun
      subst hb16
      simp at ho
      subst ho
      try simp [Region.binds] at hdep
      obtain ⟨M, eM, hM, vM⟩ := (HI.out.2.2.2.2.2.2.2.2.2.2.2.2.2.2.2.1 (show b15 = true by first | exact hdep | exact hdep.1 | exact hdep.2 | exact hdep.2.1 | exact hdep.2.2 | exact hdep.2.2.1 | exact hdep.2.2.2 | exact hdep.2.2.2.1 | exact hdep.2.2.2.2 | exact hdep.2.2.2.2.1)).open
      subst eM
      have dal := (show b15 = true by first | exact hdep | exact hdep.1 | exact hdep.2 | exact hdep.2.1 | exact hdep.2.2 | exact hdep.2.2.1 | exact hdep.2.2.2 | exact hdep.2.2.2.1 | exact hdep.2.2.2.2 | exact hdep.2.2.2.2.1)
      obtain ⟨g1, gA, gm, gc, g2, gB, gn, gd, e', r1, r2⟩ := HI.out.2.2.2.2.2.2.2.2.2.2.2.2.2.2.1 (show b14 = true by first | exact hdep | exact hdep.1 | exact hdep.2 | exact hdep.2.1 | exact hdep.2.2 | exact hdep.2.2.1 | exact hdep.2.2.2 | exact hdep.2.2.2.1 | exact hdep.2.2.2.2 | exact hdep.2.2.2.2.1)
      subst e'
      have m0 : w.cell? ⟨M, 0, none⟩ = some (.bool false) := vM.cell 0
      have f0 := vM.free 0
      have m1 : w.cell? ⟨M, 1, none⟩ = some (.slice none 0 0) := vM.cell 1
      have f1 := vM.free 1
      have m2 : w.cell? ⟨M, 2, none⟩ = some (.bool false) := vM.cell 2
      have f2 := vM.free 2
      have m3 : w.cell? ⟨M, 3, none⟩ = some (.slice none 0 0) := vM.cell 3
      have f3 := vM.free 3
      have HVM := Lib.hid vM
      have HR := Lib.hid (rat_mk r1 r2)
      clear vM r1 r2
      unfold wpOp
      go_simp
      exact Or.inl (HK.out _ _ ⟨b0, b1, b2, b3, b4, b5, b6, b7, b8, b9, b10, b11, b12, b13, b14, b15, true, rfl, _, v48, v49, v50, v51, v52, v53, v54, v55, v56, v57, v58, v59, v60, v61, _, rfl, (below_four HBW.out hM _ _ _ _), HI.out.1, HI.out.2.1, (fun h => (HI.out.2.2.1 h).four HVM.out (by decide) _ _ _ _), HI.out.2.2.2.1, HI.out.2.2.2.2.1, (fun h => (HI.out.2.2.2.2.2.1 h).four HVM.out (by decide) _ _ _ _), (fun h => (HI.out.2.2.2.2.2.2.1 h).four HVM.out (by decide) _ _ _ _), HI.out.2.2.2.2.2.2.2.1, HI.out.2.2.2.2.2.2.2.2.1, (fun h => (HI.out.2.2.2.2.2.2.2.2.2.1 h).four HVM.out (by decide) _ _ _ _), HI.out.2.2.2.2.2.2.2.2.2.2.1, HI.out.2.2.2.2.2.2.2.2.2.2.2.1, (fun h => (HI.out.2.2.2.2.2.2.2.2.2.2.2.2.1 h).four HVM.out (by decide) _ _ _ _), (fun h => (HI.out.2.2.2.2.2.2.2.2.2.2.2.2.2.1 h).four HVM.out (by decide) _ _ _ _), (fun _ => HR.out.four HVM.out (by decide) _ _ _ _), (fun _ => BoxQ.fill HVM.out hM HR.out), (fun _ => dal)⟩)
    · simp at ho
  · rintro listed a w ⟨b0, b1, b2, b3, b4, b5, b6, b7, b8, b9, b10, b11, b12, b13, b14, b15, b16, rfl, v11, v48, v49, v50, v51, v52, v53, v54, v55, v56, v57, v58, v59, v60, v61, v62, rfl, hB, h0, h1, h2, h3, h4, h5, h6, h7, h8, h9, h10, h11, h12, h13, h14, h15, h16⟩ hr
    have hall := ready_nilM (by kernel_rfl) (by rfl) hr
    have t0 : b0 = true := hall 0 (by decide)
    have t1 : b1 = true := hall 1 (by decide)
    have t2 : b2 = true := hall 2 (by decide)
    have t3 : b3 = true := hall 3 (by decide)
    have t4 : b4 = true := hall 4 (by decide)
    have t5 : b5 = true := hall 5 (by decide)
    have t6 : b6 = true := hall 6 (by decide)
    have t7 : b7 = true := hall 7 (by decide)
    have t8 : b8 = true := hall 8 (by decide)
    have t9 : b9 = true := hall 9 (by decide)
    have t10 : b10 = true := hall 10 (by decide)
    have t11 : b11 = true := hall 11 (by decide)
    have t12 : b12 = true := hall 12 (by decide)
    have t13 : b13 = true := hall 13 (by decide)
    have t14 : b14 = true := hall 14 (by decide)
    have t15 : b15 = true := hall 15 (by decide)
    have t16 : b16 = true := hall 16 (by decide)
    subst t0 t1 t2 t3 t4 t5 t6 t7 t8 t9 t10 t11 t12 t13 t14 t15 t16
    obtain ⟨M11, g1_11, gA_11, gm_11, gc_11, g2_11, gB_11, gn_11, gd_11, eM11, hM11, vM11, rM11⟩ := (h15 rfl).full
    subst eM11
    exact ⟨M11, g1_11, gA_11, gm_11, gc_11, g2_11, gB_11, gn_11, gd_11, _, _, _, _, _, _, _, _, _, _, _, _, _, _, _, rfl, vM11, rM11, hM11, hB⟩
  · refine ⟨false, false, false, false, false, false, false, false, false, false, false, false, false, false, false, false, false, rfl, _, _, _, _, _, _, _, _, _, _, _, _, _, _, _, _, rfl, (Below.refl _ _).drew, ?_, ?_, ?_, ?_, ?_, ?_, ?_, ?_, ?_, ?_, ?_, ?_, ?_, ?_, ?_, ?_, ?_⟩ <;> (intro h; cases h)

set_option maxHeartbeats 8000000 in
set_option maxRecDepth 100000 in
theorem foot_reg10 (W : World) (T : Nat) (x : Q) (p1 p2 : Bool) (pA pB : Option Addr) (pm pc pn pd : Nat) (Hp : Hid (RatAt W (.agg #[.bool p1, .slice pA pm pc, .bool p2, .slice pB pn pd]) x)) (Kp : Hid (QS 18 x))
    (kT0 : W.cell? ⟨T, 0, none⟩ = some (.bool p1))
    (kT1 : W.cell? ⟨T, 1, none⟩ = some (.slice pA pm pc))
    (kT2 : W.cell? ⟨T, 2, none⟩ = some (.bool p2))
    (kT3 : W.cell? ⟨T, 3, none⟩ = some (.slice pB pn pd))
    (zT : T < W.heap.size)
    (u0 u1 u2 u3 u4 u5 u6 u7 u8 u9 u10 u12 u13 u14 u15 u16 u17 u18 u19 u20 u21 u22 u23 u24 u25 u26 u27 u28 u29 u30 u31 u32 u33 u34 u35 u36 u37 u38 u39 u40 u41 u42 u43 u44 u45 u46 u47 u48 u49 u50 u51 u52 u53 u54 u55 u56 u57 u58 u59 u60 u61 u62 u63 u64 u65 u66 u67 u68 u69 u70 u71 u72 : Value) :
    (regionO Try.f39 10).wp Try.prog (Exit.then (fun a' W' => ∃ v67 v68 v69, a' = { tmps := #[u0, u1, u2, u3, u4, u5, u6, u7, u8, u9, u10, .pointer (some ⟨T, 0, none⟩), u12, u13, u14, u15, u16, u17, u18, u19, u20, u21, u22, u23, u24, u25, u26, u27, u28, u29, u30, u31, u32, u33, u34, u35, u36, u37, u38, u39, u40, u41, u42, u43, u44, u45, u46, u47, u48, u49, u50, u51, u52, u53, u54, u55, u56, u57, u58, u59, u60, u61, u62, u63, u64, u65, u66, v67, v68, v69, .bool (decide (0 < qcmp (x) (qw (1)))), u71, u72], defers := [] } ∧ Below W.heap.size W W') (fun _ _ _ => False)) { tmps := #[u0, u1, u2, u3, u4, u5, u6, u7, u8, u9, u10, .pointer (some ⟨T, 0, none⟩), u12, u13, u14, u15, u16, u17, u18, u19, u20, u21, u22, u23, u24, u25, u26, u27, u28, u29, u30, u31, u32, u33, u34, u35, u36, u37, u38, u39, u40, u41, u42, u43, u44, u45, u46, u47, u48, u49, u50, u51, u52, u53, u54, u55, u56, u57, u58, u59, u60, u61, u62, u63, u64, u65, u66, u67, u68, u69, u70, u71, u72], defers := [] } W := by
  have KX1 : Hid (QS 2 (qw (1))) := Lib.hid (qs_w one_64)
  show Code.wp _ (Code.region _ _ _) _ _ _
  refine wp_region_any (by kernel_rfl) ?_
  refine wpAny_inv (fun (b : Array Bool) a' w' => ∃ b0 b1 b2 b3 : Bool, b = #[b0, b1, b2, b3] ∧ ∃ v67 v68 v69 v70, a' = { tmps := #[u0, u1, u2, u3, u4, u5, u6, u7, u8, u9, u10, .pointer (some ⟨T, 0, none⟩), u12, u13, u14, u15, u16, u17, u18, u19, u20, u21, u22, u23, u24, u25, u26, u27, u28, u29, u30, u31, u32, u33, u34, u35, u36, u37, u38, u39, u40, u41, u42, u43, u44, u45, u46, u47, u48, u49, u50, u51, u52, u53, u54, u55, u56, u57, u58, u59, u60, u61, u62, u63, u64, u65, u66, v67, v68, v69, v70, u71, u72], defers := [] } ∧ Below W.heap.size W w' ∧ (b0 = true → v67 = .agg #[.bool p1, .slice pA pm pc, .bool p2, .slice pB pn pd]) ∧ (b1 = true → RatAt w' v68 (qw (1))) ∧ (b2 = true → v69 = .int .i64 (qcmp (x) (qw (1)))) ∧ (b3 = true → v70 = .bool (decide (0 < qcmp (x) (qw (1)))))) ?_ ?_ _ _ _ _ (by rfl) ?_
  · rintro listed a w i K ⟨b0, b1, b2, b3, rfl, v67, v68, v69, v70, rfl, hB, h0, h1, h2, h3⟩ hi hK
    obtain ⟨hun, o, ho, hdep⟩ := mem_ready.1 hi
    have jT0 := (hB.cell (p := ⟨T, 0, none⟩) zT).trans kT0
    have jT1 := (hB.cell (p := ⟨T, 1, none⟩) zT).trans kT1
    have jT2 := (hB.cell (p := ⟨T, 2, none⟩) zT).trans kT2
    have jT3 := (hB.cell (p := ⟨T, 3, none⟩) zT).trans kT3
    have HI := Lib.hid (And.intro h0 (And.intro h1 (And.intro h2 (h3))))
    have HBW := Lib.hid hB
    have HK := Lib.hid hK
    clear h0 h1 h2 h3 hB hK hi kT0 kT1 kT2 kT3
    rcases i with _ | _ | _ | _ | i
    · simp at ho
      subst ho
      try simp [Region.binds] at hdep
      unfold wpOp
      go_simp
      exact Or.inl (HK.out _ _ ⟨true, b1, b2, b3, rfl, _, v68, v69, v70, rfl, HBW.out, (fun _ => rfl), HI.out.2.1, HI.out.2.2.1, HI.out.2.2.2⟩)
    · simp at ho
      subst ho
      try simp [Region.binds] at hdep
      unfold wpOp
      go_simp
      refine Or.inl ((whole_q (1) one_64 _).mono ?_)
      rintro e wk ⟨z, rfl, hz, hb⟩
      exact HK.out _ _ ⟨b0, true, b2, b3, rfl, v67, _, v69, v70, rfl, (HBW.out.trans (hb.mono HBW.out.size)), HI.out.1, (fun _ => hz), HI.out.2.2.1, HI.out.2.2.2⟩
    · simp at ho
      subst ho
      try simp [Region.binds] at hdep
      have q0 := HI.out.1 (show b0 = true by first | exact hdep | exact hdep.1 | exact hdep.2 | exact hdep.2.1 | exact hdep.2.2 | exact hdep.2.2.1 | exact hdep.2.2.2 | exact hdep.2.2.2.1 | exact hdep.2.2.2.2 | exact hdep.2.2.2.2.1)
      subst q0
      have R1 := Lib.hid (HI.out.2.1 (show b1 = true by first | exact hdep | exact hdep.1 | exact hdep.2 | exact hdep.2.1 | exact hdep.2.2 | exact hdep.2.2.1 | exact hdep.2.2.2 | exact hdep.2.2.2.1 | exact hdep.2.2.2.2 | exact hdep.2.2.2.2.1))
      unfold wpOp
      go_simp
      refine Or.inl ((cmp_q (Hp.out.below HBW.out) R1.out (Kp.out.mono (show 18 ≤ 18 by decide)) (KX1.out.mono (show 2 ≤ 18 by decide)) (by decide) _ (Below.refl _ _)).mono ?_)
      rintro e wk ⟨rfl, hb⟩
      exact HK.out _ _ ⟨b0, b1, true, b3, rfl, _, v68, _, v70, rfl, (HBW.out.trans (hb.mono HBW.out.size)), (fun _ => rfl), (fun h => (HI.out.2.1 h).below hb), (fun _ => rfl), HI.out.2.2.2⟩
    · simp at ho
      subst ho
      try simp [Region.binds] at hdep
      have q2 := HI.out.2.2.1 (show b2 = true by first | exact hdep | exact hdep.1 | exact hdep.2 | exact hdep.2.1 | exact hdep.2.2 | exact hdep.2.2.1 | exact hdep.2.2.2 | exact hdep.2.2.2.1 | exact hdep.2.2.2.2 | exact hdep.2.2.2.2.1)
      subst q2
      unfold wpOp
      go_simp
      exact Or.inl (HK.out _ _ ⟨b0, b1, b2, true, rfl, v67, v68, _, _, rfl, HBW.out, HI.out.1, HI.out.2.1, (fun _ => rfl), (fun _ => rfl)⟩)
    · simp at ho
  · rintro listed a w ⟨b0, b1, b2, b3, rfl, v67, v68, v69, v70, rfl, hB, h0, h1, h2, h3⟩ hr
    have hall := ready_nilM (by kernel_rfl) (by rfl) hr
    have t0 : b0 = true := hall 0 (by decide)
    have t1 : b1 = true := hall 1 (by decide)
    have t2 : b2 = true := hall 2 (by decide)
    have t3 : b3 = true := hall 3 (by decide)
    subst t0 t1 t2 t3
    have qw70 := h3 rfl
    subst qw70
    exact ⟨_, _, _, rfl, hB⟩
  · refine ⟨false, false, false, false, rfl, _, _, _, _, rfl, (Below.refl _ _).drew, ?_, ?_, ?_, ?_⟩ <;> (intro h; cases h)

set_option maxHeartbeats 8000000 in
set_option maxRecDepth 100000 in
theorem at_reg1 (W : World) (A B T : Nat) (c1 c2 d1 d2 : Int) (x : Q) (p1 p2 : Bool) (pA pB : Option Addr) (pm pc pn pd : Nat) (Hp : Hid (RatAt W (.agg #[.bool p1, .slice pA pm pc, .bool p2, .slice pB pn pd]) x)) (Kp : Hid (QS 18 x)) (e1 : IntKind.i64.wrap c1 = c1) (e2 : IntKind.i64.wrap d1 = d1) (e3 : IntKind.i64.wrap (d1 - c1) = d1 - c1) (n1 : I64 c1) (n2 : I64 (d1 - c1))
    (kA0 : W.cell? ⟨A, 0, none⟩ = some (.int .i32 c1))
    (kA1 : W.cell? ⟨A, 1, none⟩ = some (.int .i32 c2))
    (zA : A < W.heap.size)
    (kB0 : W.cell? ⟨B, 0, none⟩ = some (.int .i32 d1))
    (kB1 : W.cell? ⟨B, 1, none⟩ = some (.int .i32 d2))
    (zB : B < W.heap.size)
    (kT0 : W.cell? ⟨T, 0, none⟩ = some (.bool p1))
    (kT1 : W.cell? ⟨T, 1, none⟩ = some (.slice pA pm pc))
    (kT2 : W.cell? ⟨T, 2, none⟩ = some (.bool p2))
    (kT3 : W.cell? ⟨T, 3, none⟩ = some (.slice pB pn pd))
    (zT : T < W.heap.size)
    (u0 u1 u2 u6 u7 u8 u9 u10 u11 u12 u13 u14 u15 u16 u17 u18 u19 u20 u21 u22 u23 u24 u25 u26 u27 u28 u29 u30 u31 u32 u33 u34 u35 u36 u37 u38 u39 u40 u41 : Value) :
    (regionO Try.f40 1).wp Try.prog (Exit.then (fun a' W' => ∃ M8 g1_8 gA_8 gm_8 gc_8 g2_8 gB_8 gn_8 gd_8 v10 v11 v12 v13 v14 v15 v16 v17 v18 v19 v20 v21 v22 v23 v24, a' = { tmps := #[u0, u1, u2, .pointer (some ⟨A, 0, none⟩), .pointer (some ⟨B, 0, none⟩), .pointer (some ⟨T, 0, none⟩), u6, u7, .pointer (some ⟨M8, 0, none⟩), u9, v10, v11, v12, v13, v14, v15, v16, v17, v18, v19, v20, v21, v22, v23, v24, u25, u26, u27, u28, u29, u30, u31, u32, u33, u34, u35, u36, u37, u38, u39, u40, u41], defers := [] } ∧ Var W' M8 53 #[.bool g1_8, .slice gA_8 gm_8 gc_8, .bool g2_8, .slice gB_8 gn_8 gd_8] ∧ RatAt W' (.agg #[.bool g1_8, .slice gA_8 gm_8 gc_8, .bool g2_8, .slice gB_8 gn_8 gd_8]) (qadd (qw (c1)) (qmul (x) (qw (d1 - c1)))) ∧ W.heap.size ≤ M8 ∧ Below W.heap.size W W') (fun _ _ _ => False)) { tmps := #[u0, u1, u2, .pointer (some ⟨A, 0, none⟩), .pointer (some ⟨B, 0, none⟩), .pointer (some ⟨T, 0, none⟩), u6, u7, u8, u9, u10, u11, u12, u13, u14, u15, u16, u17, u18, u19, u20, u21, u22, u23, u24, u25, u26, u27, u28, u29, u30, u31, u32, u33, u34, u35, u36, u37, u38, u39, u40, u41], defers := [] } W := by
  have KX1 : Hid (QS 2 (qw (c1))) := Lib.hid (qs_w n1)
  have KX2 : Hid (QS 2 (qw (d1 - c1))) := Lib.hid (qs_w n2)
  have KX3 : Hid (QS 36 (qmul (x) (qw (d1 - c1)))) := Lib.hid (QS.mono (qs_mul (k := 18) (Kp.out.mono (show 18 ≤ 18 by decide)) (KX2.out.mono (show 2 ≤ 18 by decide))) (show 18 + 18 ≤ 36 by decide))
  have KX4 : Hid (QS 73 (qadd (qw (c1)) (qmul (x) (qw (d1 - c1))))) := Lib.hid (QS.mono (qs_add (k := 36) (KX1.out.mono (show 2 ≤ 36 by decide)) (KX3.out.mono (show 36 ≤ 36 by decide))) (show 36 + 36 + 1 ≤ 73 by decide))
  show Code.wp _ (Code.region _ _ _) _ _ _
  refine wp_region_any (by kernel_rfl) ?_
  refine wpAny_inv (fun (b : Array Bool) a' w' => ∃ b0 b1 b2 b3 b4 b5 b6 b7 b8 b9 b10 b11 b12 b13 b14 b15 b16 : Bool, b = #[b0, b1, b2, b3, b4, b5, b6, b7, b8, b9, b10, b11, b12, b13, b14, b15, b16] ∧ ∃ v8 v10 v11 v12 v13 v14 v15 v16 v17 v18 v19 v20 v21 v22 v23 v24, a' = { tmps := #[u0, u1, u2, .pointer (some ⟨A, 0, none⟩), .pointer (some ⟨B, 0, none⟩), .pointer (some ⟨T, 0, none⟩), u6, u7, v8, u9, v10, v11, v12, v13, v14, v15, v16, v17, v18, v19, v20, v21, v22, v23, v24, u25, u26, u27, u28, u29, u30, u31, u32, u33, u34, u35, u36, u37, u38, u39, u40, u41], defers := [] } ∧ Below W.heap.size W w' ∧ (b0 = true → v10 = .pointer (some ⟨A, 0, none⟩)) ∧ (b1 = true → v11 = .int .i32 (c1)) ∧ (b2 = true → v12 = .int .i64 (c1)) ∧ (b3 = true → RatAt w' v13 (qw (c1))) ∧ (b4 = true → v14 = .agg #[.bool p1, .slice pA pm pc, .bool p2, .slice pB pn pd]) ∧ (b5 = true → v15 = .pointer (some ⟨B, 0, none⟩)) ∧ (b6 = true → v16 = .int .i32 (d1)) ∧ (b7 = true → v17 = .int .i64 (d1)) ∧ (b8 = true → v18 = .pointer (some ⟨A, 0, none⟩)) ∧ (b9 = true → v19 = .int .i32 (c1)) ∧ (b10 = true → v20 = .int .i64 (c1)) ∧ (b11 = true → v21 = .int .i64 (d1 - c1)) ∧ (b12 = true → RatAt w' v22 (qw (d1 - c1))) ∧ (b13 = true → RatAt w' v23 (qmul (x) (qw (d1 - c1)))) ∧ (b14 = true → RatAt w' v24 (qadd (qw (c1)) (qmul (x) (qw (d1 - c1))))) ∧ (b15 = true → BoxQ W w' v8 b16 (qadd (qw (c1)) (qmul (x) (qw (d1 - c1))))) ∧ (b16 = true → b15 = true)) ?_ ?_ _ _ _ _ (by rfl) ?_
  · rintro listed a w i K ⟨b0, b1, b2, b3, b4, b5, b6, b7, b8, b9, b10, b11, b12, b13, b14, b15, b16, rfl, v8, v10, v11, v12, v13, v14, v15, v16, v17, v18, v19, v20, v21, v22, v23, v24, rfl, hB, h0, h1, h2, h3, h4, h5, h6, h7, h8, h9, h10, h11, h12, h13, h14, h15, h16⟩ hi hK
    obtain ⟨hun, o, ho, hdep⟩ := mem_ready.1 hi
    have jA0 := (hB.cell (p := ⟨A, 0, none⟩) zA).trans kA0
    have jA1 := (hB.cell (p := ⟨A, 1, none⟩) zA).trans kA1
    have jB0 := (hB.cell (p := ⟨B, 0, none⟩) zB).trans kB0
    have jB1 := (hB.cell (p := ⟨B, 1, none⟩) zB).trans kB1
    have jT0 := (hB.cell (p := ⟨T, 0, none⟩) zT).trans kT0
    have jT1 := (hB.cell (p := ⟨T, 1, none⟩) zT).trans kT1
    have jT2 := (hB.cell (p := ⟨T, 2, none⟩) zT).trans kT2
    have jT3 := (hB.cell (p := ⟨T, 3, none⟩) zT).trans kT3
    have HI := Lib.hid (And.intro h0 (And.intro h1 (And.intro h2 (And.intro h3 (And.intro h4 (And.intro h5 (And.intro h6 (And.intro h7 (And.intro h8 (And.intro h9 (And.intro h10 (And.intro h11 (And.intro h12 (And.intro h13 (And.intro h14 (And.intro h15 (h16)))))))))))))))))
    have HBW := Lib.hid hB
    have HK := Lib.hid hK
    clear h0 h1 h2 h3 h4 h5 h6 h7 h8 h9 h10 h11 h12 h13 h14 h15 h16 hB hK hi kA0 kA1 kB0 kB1 kT0 kT1 kT2 kT3
    rcases i with _ | _ | _ | _ | _ | _ | _ | _ | _ | _ | _ | _ | _ | _ | _ | _ | _ | i
    · simp at ho
      subst ho
      try simp [Region.binds] at hdep
      unfold wpOp
      go_simp
      exact Or.inl (HK.out _ _ ⟨true, b1, b2, b3, b4, b5, b6, b7, b8, b9, b10, b11, b12, b13, b14, b15, b16, rfl, v8, _, v11, v12, v13, v14, v15, v16, v17, v18, v19, v20, v21, v22, v23, v24, rfl, HBW.out, (fun _ => rfl), HI.out.2.1, HI.out.2.2.1, HI.out.2.2.2.1, HI.out.2.2.2.2.1, HI.out.2.2.2.2.2.1, HI.out.2.2.2.2.2.2.1, HI.out.2.2.2.2.2.2.2.1, HI.out.2.2.2.2.2.2.2.2.1, HI.out.2.2.2.2.2.2.2.2.2.1, HI.out.2.2.2.2.2.2.2.2.2.2.1, HI.out.2.2.2.2.2.2.2.2.2.2.2.1, HI.out.2.2.2.2.2.2.2.2.2.2.2.2.1, HI.out.2.2.2.2.2.2.2.2.2.2.2.2.2.1, HI.out.2.2.2.2.2.2.2.2.2.2.2.2.2.2.1, HI.out.2.2.2.2.2.2.2.2.2.2.2.2.2.2.2.1, HI.out.2.2.2.2.2.2.2.2.2.2.2.2.2.2.2.2⟩)
    · simp at ho
      subst ho
      try simp [Region.binds] at hdep
      have q0 := HI.out.1 (show b0 = true by first | exact hdep | exact hdep.1 | exact hdep.2 | exact hdep.2.1 | exact hdep.2.2 | exact hdep.2.2.1 | exact hdep.2.2.2 | exact hdep.2.2.2.1 | exact hdep.2.2.2.2 | exact hdep.2.2.2.2.1)
      subst q0
      unfold wpOp
      go_simp
      exact Or.inl (HK.out _ _ ⟨b0, true, b2, b3, b4, b5, b6, b7, b8, b9, b10, b11, b12, b13, b14, b15, b16, rfl, v8, _, _, v12, v13, v14, v15, v16, v17, v18, v19, v20, v21, v22, v23, v24, rfl, HBW.out, (fun _ => rfl), (fun _ => rfl), HI.out.2.2.1, HI.out.2.2.2.1, HI.out.2.2.2.2.1, HI.out.2.2.2.2.2.1, HI.out.2.2.2.2.2.2.1, HI.out.2.2.2.2.2.2.2.1, HI.out.2.2.2.2.2.2.2.2.1, HI.out.2.2.2.2.2.2.2.2.2.1, HI.out.2.2.2.2.2.2.2.2.2.2.1, HI.out.2.2.2.2.2.2.2.2.2.2.2.1, HI.out.2.2.2.2.2.2.2.2.2.2.2.2.1, HI.out.2.2.2.2.2.2.2.2.2.2.2.2.2.1, HI.out.2.2.2.2.2.2.2.2.2.2.2.2.2.2.1, HI.out.2.2.2.2.2.2.2.2.2.2.2.2.2.2.2.1, HI.out.2.2.2.2.2.2.2.2.2.2.2.2.2.2.2.2⟩)
    · simp at ho
      subst ho
      try simp [Region.binds] at hdep
      have q1 := HI.out.2.1 (show b1 = true by first | exact hdep | exact hdep.1 | exact hdep.2 | exact hdep.2.1 | exact hdep.2.2 | exact hdep.2.2.1 | exact hdep.2.2.2 | exact hdep.2.2.2.1 | exact hdep.2.2.2.2 | exact hdep.2.2.2.2.1)
      subst q1
      unfold wpOp
      go_simp
      exact Or.inl (HK.out _ _ ⟨b0, b1, true, b3, b4, b5, b6, b7, b8, b9, b10, b11, b12, b13, b14, b15, b16, rfl, v8, v10, _, _, v13, v14, v15, v16, v17, v18, v19, v20, v21, v22, v23, v24, rfl, HBW.out, HI.out.1, (fun _ => rfl), (fun _ => rfl), HI.out.2.2.2.1, HI.out.2.2.2.2.1, HI.out.2.2.2.2.2.1, HI.out.2.2.2.2.2.2.1, HI.out.2.2.2.2.2.2.2.1, HI.out.2.2.2.2.2.2.2.2.1, HI.out.2.2.2.2.2.2.2.2.2.1, HI.out.2.2.2.2.2.2.2.2.2.2.1, HI.out.2.2.2.2.2.2.2.2.2.2.2.1, HI.out.2.2.2.2.2.2.2.2.2.2.2.2.1, HI.out.2.2.2.2.2.2.2.2.2.2.2.2.2.1, HI.out.2.2.2.2.2.2.2.2.2.2.2.2.2.2.1, HI.out.2.2.2.2.2.2.2.2.2.2.2.2.2.2.2.1, HI.out.2.2.2.2.2.2.2.2.2.2.2.2.2.2.2.2⟩)
    · simp at ho
      subst ho
      try simp [Region.binds] at hdep
      have q2 := HI.out.2.2.1 (show b2 = true by first | exact hdep | exact hdep.1 | exact hdep.2 | exact hdep.2.1 | exact hdep.2.2 | exact hdep.2.2.1 | exact hdep.2.2.2 | exact hdep.2.2.2.1 | exact hdep.2.2.2.2 | exact hdep.2.2.2.2.1)
      subst q2
      unfold wpOp
      go_simp
      refine Or.inl ((whole_q (c1) n1 _).mono ?_)
      rintro e wk ⟨z, rfl, hz, hb⟩
      exact HK.out _ _ ⟨b0, b1, b2, true, b4, b5, b6, b7, b8, b9, b10, b11, b12, b13, b14, b15, b16, rfl, v8, v10, v11, _, _, v14, v15, v16, v17, v18, v19, v20, v21, v22, v23, v24, rfl, (HBW.out.trans (hb.mono HBW.out.size)), HI.out.1, HI.out.2.1, (fun _ => rfl), (fun _ => hz), HI.out.2.2.2.2.1, HI.out.2.2.2.2.2.1, HI.out.2.2.2.2.2.2.1, HI.out.2.2.2.2.2.2.2.1, HI.out.2.2.2.2.2.2.2.2.1, HI.out.2.2.2.2.2.2.2.2.2.1, HI.out.2.2.2.2.2.2.2.2.2.2.1, HI.out.2.2.2.2.2.2.2.2.2.2.2.1, (fun h => (HI.out.2.2.2.2.2.2.2.2.2.2.2.2.1 h).below hb), (fun h => (HI.out.2.2.2.2.2.2.2.2.2.2.2.2.2.1 h).below hb), (fun h => (HI.out.2.2.2.2.2.2.2.2.2.2.2.2.2.2.1 h).below hb), (fun h => (HI.out.2.2.2.2.2.2.2.2.2.2.2.2.2.2.2.1 h).keep hb), HI.out.2.2.2.2.2.2.2.2.2.2.2.2.2.2.2.2⟩
    · simp at ho
      subst ho
      try simp [Region.binds] at hdep
      unfold wpOp
      go_simp
      exact Or.inl (HK.out _ _ ⟨b0, b1, b2, b3, true, b5, b6, b7, b8, b9, b10, b11, b12, b13, b14, b15, b16, rfl, v8, v10, v11, v12, v13, _, v15, v16, v17, v18, v19, v20, v21, v22, v23, v24, rfl, HBW.out, HI.out.1, HI.out.2.1, HI.out.2.2.1, HI.out.2.2.2.1, (fun _ => rfl), HI.out.2.2.2.2.2.1, HI.out.2.2.2.2.2.2.1, HI.out.2.2.2.2.2.2.2.1, HI.out.2.2.2.2.2.2.2.2.1, HI.out.2.2.2.2.2.2.2.2.2.1, HI.out.2.2.2.2.2.2.2.2.2.2.1, HI.out.2.2.2.2.2.2.2.2.2.2.2.1, HI.out.2.2.2.2.2.2.2.2.2.2.2.2.1, HI.out.2.2.2.2.2.2.2.2.2.2.2.2.2.1, HI.out.2.2.2.2.2.2.2.2.2.2.2.2.2.2.1, HI.out.2.2.2.2.2.2.2.2.2.2.2.2.2.2.2.1, HI.out.2.2.2.2.2.2.2.2.2.2.2.2.2.2.2.2⟩)
    · simp at ho
      subst ho
      try simp [Region.binds] at hdep
      unfold wpOp
      go_simp
      exact Or.inl (HK.out _ _ ⟨b0, b1, b2, b3, b4, true, b6, b7, b8, b9, b10, b11, b12, b13, b14, b15, b16, rfl, v8, v10, v11, v12, v13, v14, _, v16, v17, v18, v19, v20, v21, v22, v23, v24, rfl, HBW.out, HI.out.1, HI.out.2.1, HI.out.2.2.1, HI.out.2.2.2.1, HI.out.2.2.2.2.1, (fun _ => rfl), HI.out.2.2.2.2.2.2.1, HI.out.2.2.2.2.2.2.2.1, HI.out.2.2.2.2.2.2.2.2.1, HI.out.2.2.2.2.2.2.2.2.2.1, HI.out.2.2.2.2.2.2.2.2.2.2.1, HI.out.2.2.2.2.2.2.2.2.2.2.2.1, HI.out.2.2.2.2.2.2.2.2.2.2.2.2.1, HI.out.2.2.2.2.2.2.2.2.2.2.2.2.2.1, HI.out.2.2.2.2.2.2.2.2.2.2.2.2.2.2.1, HI.out.2.2.2.2.2.2.2.2.2.2.2.2.2.2.2.1, HI.out.2.2.2.2.2.2.2.2.2.2.2.2.2.2.2.2⟩)
    · simp at ho
      subst ho
      try simp [Region.binds] at hdep
      have q5 := HI.out.2.2.2.2.2.1 (show b5 = true by first | exact hdep | exact hdep.1 | exact hdep.2 | exact hdep.2.1 | exact hdep.2.2 | exact hdep.2.2.1 | exact hdep.2.2.2 | exact hdep.2.2.2.1 | exact hdep.2.2.2.2 | exact hdep.2.2.2.2.1)
      subst q5
      unfold wpOp
      go_simp
      exact Or.inl (HK.out _ _ ⟨b0, b1, b2, b3, b4, b5, true, b7, b8, b9, b10, b11, b12, b13, b14, b15, b16, rfl, v8, v10, v11, v12, v13, v14, _, _, v17, v18, v19, v20, v21, v22, v23, v24, rfl, HBW.out, HI.out.1, HI.out.2.1, HI.out.2.2.1, HI.out.2.2.2.1, HI.out.2.2.2.2.1, (fun _ => rfl), (fun _ => rfl), HI.out.2.2.2.2.2.2.2.1, HI.out.2.2.2.2.2.2.2.2.1, HI.out.2.2.2.2.2.2.2.2.2.1, HI.out.2.2.2.2.2.2.2.2.2.2.1, HI.out.2.2.2.2.2.2.2.2.2.2.2.1, HI.out.2.2.2.2.2.2.2.2.2.2.2.2.1, HI.out.2.2.2.2.2.2.2.2.2.2.2.2.2.1, HI.out.2.2.2.2.2.2.2.2.2.2.2.2.2.2.1, HI.out.2.2.2.2.2.2.2.2.2.2.2.2.2.2.2.1, HI.out.2.2.2.2.2.2.2.2.2.2.2.2.2.2.2.2⟩)
    · simp at ho
      subst ho
      try simp [Region.binds] at hdep
      have q6 := HI.out.2.2.2.2.2.2.1 (show b6 = true by first | exact hdep | exact hdep.1 | exact hdep.2 | exact hdep.2.1 | exact hdep.2.2 | exact hdep.2.2.1 | exact hdep.2.2.2 | exact hdep.2.2.2.1 | exact hdep.2.2.2.2 | exact hdep.2.2.2.2.1)
      subst q6
      unfold wpOp
      go_simp
      exact Or.inl (HK.out _ _ ⟨b0, b1, b2, b3, b4, b5, b6, true, b8, b9, b10, b11, b12, b13, b14, b15, b16, rfl, v8, v10, v11, v12, v13, v14, v15, _, _, v18, v19, v20, v21, v22, v23, v24, rfl, HBW.out, HI.out.1, HI.out.2.1, HI.out.2.2.1, HI.out.2.2.2.1, HI.out.2.2.2.2.1, HI.out.2.2.2.2.2.1, (fun _ => rfl), (fun _ => rfl), HI.out.2.2.2.2.2.2.2.2.1, HI.out.2.2.2.2.2.2.2.2.2.1, HI.out.2.2.2.2.2.2.2.2.2.2.1, HI.out.2.2.2.2.2.2.2.2.2.2.2.1, HI.out.2.2.2.2.2.2.2.2.2.2.2.2.1, HI.out.2.2.2.2.2.2.2.2.2.2.2.2.2.1, HI.out.2.2.2.2.2.2.2.2.2.2.2.2.2.2.1, HI.out.2.2.2.2.2.2.2.2.2.2.2.2.2.2.2.1, HI.out.2.2.2.2.2.2.2.2.2.2.2.2.2.2.2.2⟩)
    · simp at ho
      subst ho
      try simp [Region.binds] at hdep
      unfold wpOp
      go_simp
      exact Or.inl (HK.out _ _ ⟨b0, b1, b2, b3, b4, b5, b6, b7, true, b9, b10, b11, b12, b13, b14, b15, b16, rfl, v8, v10, v11, v12, v13, v14, v15, v16, v17, _, v19, v20, v21, v22, v23, v24, rfl, HBW.out, HI.out.1, HI.out.2.1, HI.out.2.2.1, HI.out.2.2.2.1, HI.out.2.2.2.2.1, HI.out.2.2.2.2.2.1, HI.out.2.2.2.2.2.2.1, HI.out.2.2.2.2.2.2.2.1, (fun _ => rfl), HI.out.2.2.2.2.2.2.2.2.2.1, HI.out.2.2.2.2.2.2.2.2.2.2.1, HI.out.2.2.2.2.2.2.2.2.2.2.2.1, HI.out.2.2.2.2.2.2.2.2.2.2.2.2.1, HI.out.2.2.2.2.2.2.2.2.2.2.2.2.2.1, HI.out.2.2.2.2.2.2.2.2.2.2.2.2.2.2.1, HI.out.2.2.2.2.2.2.2.2.2.2.2.2.2.2.2.1, HI.out.2.2.2.2.2.2.2.2.2.2.2.2.2.2.2.2⟩)
    · simp at ho
      subst ho
      try simp [Region.binds] at hdep
      have q8 := HI.out.2.2.2.2.2.2.2.2.1 (show b8 = true by first | exact hdep | exact hdep.1 | exact hdep.2 | exact hdep.2.1 | exact hdep.2.2 | exact hdep.2.2.1 | exact hdep.2.2.2 | exact hdep.2.2.2.1 | exact hdep.2.2.2.2 | exact hdep.2.2.2.2.1)
      subst q8
      unfold wpOp
      go_simp
      exact Or.inl (HK.out _ _ ⟨b0, b1, b2, b3, b4, b5, b6, b7, b8, true, b10, b11, b12, b13, b14, b15, b16, rfl, v8, v10, v11, v12, v13, v14, v15, v16, v17, _, _, v20, v21, v22, v23, v24, rfl, HBW.out, HI.out.1, HI.out.2.1, HI.out.2.2.1, HI.out.2.2.2.1, HI.out.2.2.2.2.1, HI.out.2.2.2.2.2.1, HI.out.2.2.2.2.2.2.1, HI.out.2.2.2.2.2.2.2.1, (fun _ => rfl), (fun _ => rfl), HI.out.2.2.2.2.2.2.2.2.2.2.1, HI.out.2.2.2.2.2.2.2.2.2.2.2.1, HI.out.2.2.2.2.2.2.2.2.2.2.2.2.1, HI.out.2.2.2.2.2.2.2.2.2.2.2.2.2.1, HI.out.2.2.2.2.2.2.2.2.2.2.2.2.2.2.1, HI.out.2.2.2.2.2.2.2.2.2.2.2.2.2.2.2.1, HI.out.2.2.2.2.2.2.2.2.2.2.2.2.2.2.2.2⟩)
    · simp at ho
      subst ho
      try simp [Region.binds] at hdep
      have q9 := HI.out.2.2.2.2.2.2.2.2.2.1 (show b9 = true by first | exact hdep | exact hdep.1 | exact hdep.2 | exact hdep.2.1 | exact hdep.2.2 | exact hdep.2.2.1 | exact hdep.2.2.2 | exact hdep.2.2.2.1 | exact hdep.2.2.2.2 | exact hdep.2.2.2.2.1)
      subst q9
      unfold wpOp
      go_simp
      exact Or.inl (HK.out _ _ ⟨b0, b1, b2, b3, b4, b5, b6, b7, b8, b9, true, b11, b12, b13, b14, b15, b16, rfl, v8, v10, v11, v12, v13, v14, v15, v16, v17, v18, _, _, v21, v22, v23, v24, rfl, HBW.out, HI.out.1, HI.out.2.1, HI.out.2.2.1, HI.out.2.2.2.1, HI.out.2.2.2.2.1, HI.out.2.2.2.2.2.1, HI.out.2.2.2.2.2.2.1, HI.out.2.2.2.2.2.2.2.1, HI.out.2.2.2.2.2.2.2.2.1, (fun _ => rfl), (fun _ => rfl), HI.out.2.2.2.2.2.2.2.2.2.2.2.1, HI.out.2.2.2.2.2.2.2.2.2.2.2.2.1, HI.out.2.2.2.2.2.2.2.2.2.2.2.2.2.1, HI.out.2.2.2.2.2.2.2.2.2.2.2.2.2.2.1, HI.out.2.2.2.2.2.2.2.2.2.2.2.2.2.2.2.1, HI.out.2.2.2.2.2.2.2.2.2.2.2.2.2.2.2.2⟩)
    · simp at ho
      subst ho
      try simp [Region.binds] at hdep
      have q7 := HI.out.2.2.2.2.2.2.2.1 (show b7 = true by first | exact hdep | exact hdep.1 | exact hdep.2 | exact hdep.2.1 | exact hdep.2.2 | exact hdep.2.2.1 | exact hdep.2.2.2 | exact hdep.2.2.2.1 | exact hdep.2.2.2.2 | exact hdep.2.2.2.2.1)
      subst q7
      have q10 := HI.out.2.2.2.2.2.2.2.2.2.2.1 (show b10 = true by first | exact hdep | exact hdep.1 | exact hdep.2 | exact hdep.2.1 | exact hdep.2.2 | exact hdep.2.2.1 | exact hdep.2.2.2 | exact hdep.2.2.2.1 | exact hdep.2.2.2.2 | exact hdep.2.2.2.2.1)
      subst q10
      unfold wpOp
      go_simp
      exact Or.inl (HK.out _ _ ⟨b0, b1, b2, b3, b4, b5, b6, b7, b8, b9, b10, true, b12, b13, b14, b15, b16, rfl, v8, v10, v11, v12, v13, v14, v15, v16, _, v18, v19, _, _, v22, v23, v24, rfl, HBW.out, HI.out.1, HI.out.2.1, HI.out.2.2.1, HI.out.2.2.2.1, HI.out.2.2.2.2.1, HI.out.2.2.2.2.2.1, HI.out.2.2.2.2.2.2.1, (fun _ => rfl), HI.out.2.2.2.2.2.2.2.2.1, HI.out.2.2.2.2.2.2.2.2.2.1, (fun _ => rfl), (fun _ => rfl), HI.out.2.2.2.2.2.2.2.2.2.2.2.2.1, HI.out.2.2.2.2.2.2.2.2.2.2.2.2.2.1, HI.out.2.2.2.2.2.2.2.2.2.2.2.2.2.2.1, HI.out.2.2.2.2.2.2.2.2.2.2.2.2.2.2.2.1, HI.out.2.2.2.2.2.2.2.2.2.2.2.2.2.2.2.2⟩)
    · simp at ho
      subst ho
      try simp [Region.binds] at hdep
      have q11 := HI.out.2.2.2.2.2.2.2.2.2.2.2.1 (show b11 = true by first | exact hdep | exact hdep.1 | exact hdep.2 | exact hdep.2.1 | exact hdep.2.2 | exact hdep.2.2.1 | exact hdep.2.2.2 | exact hdep.2.2.2.1 | exact hdep.2.2.2.2 | exact hdep.2.2.2.2.1)
      subst q11
      unfold wpOp
      go_simp
      refine Or.inl ((whole_q (d1 - c1) n2 _).mono ?_)
      rintro e wk ⟨z, rfl, hz, hb⟩
      exact HK.out _ _ ⟨b0, b1, b2, b3, b4, b5, b6, b7, b8, b9, b10, b11, true, b13, b14, b15, b16, rfl, v8, v10, v11, v12, v13, v14, v15, v16, v17, v18, v19, v20, _, _, v23, v24, rfl, (HBW.out.trans (hb.mono HBW.out.size)), HI.out.1, HI.out.2.1, HI.out.2.2.1, (fun h => (HI.out.2.2.2.1 h).below hb), HI.out.2.2.2.2.1, HI.out.2.2.2.2.2.1, HI.out.2.2.2.2.2.2.1, HI.out.2.2.2.2.2.2.2.1, HI.out.2.2.2.2.2.2.2.2.1, HI.out.2.2.2.2.2.2.2.2.2.1, HI.out.2.2.2.2.2.2.2.2.2.2.1, (fun _ => rfl), (fun _ => hz), (fun h => (HI.out.2.2.2.2.2.2.2.2.2.2.2.2.2.1 h).below hb), (fun h => (HI.out.2.2.2.2.2.2.2.2.2.2.2.2.2.2.1 h).below hb), (fun h => (HI.out.2.2.2.2.2.2.2.2.2.2.2.2.2.2.2.1 h).keep hb), HI.out.2.2.2.2.2.2.2.2.2.2.2.2.2.2.2.2⟩
    · simp at ho
      subst ho
      try simp [Region.binds] at hdep
      have q4 := HI.out.2.2.2.2.1 (show b4 = true by first | exact hdep | exact hdep.1 | exact hdep.2 | exact hdep.2.1 | exact hdep.2.2 | exact hdep.2.2.1 | exact hdep.2.2.2 | exact hdep.2.2.2.1 | exact hdep.2.2.2.2 | exact hdep.2.2.2.2.1)
      subst q4
      have R12 := Lib.hid (HI.out.2.2.2.2.2.2.2.2.2.2.2.2.1 (show b12 = true by first | exact hdep | exact hdep.1 | exact hdep.2 | exact hdep.2.1 | exact hdep.2.2 | exact hdep.2.2.1 | exact hdep.2.2.2 | exact hdep.2.2.2.1 | exact hdep.2.2.2.2 | exact hdep.2.2.2.2.1))
      unfold wpOp
      go_simp
      refine Or.inl ((mul_q (Hp.out.below HBW.out) R12.out (Kp.out.mono (show 18 ≤ 18 by decide)) (KX2.out.mono (show 2 ≤ 18 by decide)) (by decide) _ (Below.refl _ _)).mono ?_)
      rintro e wk ⟨z, rfl, hz, hb⟩
      exact HK.out _ _ ⟨b0, b1, b2, b3, b4, b5, b6, b7, b8, b9, b10, b11, b12, true, b14, b15, b16, rfl, v8, v10, v11, v12, v13, _, v15, v16, v17, v18, v19, v20, v21, v22, _, v24, rfl, (HBW.out.trans (hb.mono HBW.out.size)), HI.out.1, HI.out.2.1, HI.out.2.2.1, (fun h => (HI.out.2.2.2.1 h).below hb), (fun _ => rfl), HI.out.2.2.2.2.2.1, HI.out.2.2.2.2.2.2.1, HI.out.2.2.2.2.2.2.2.1, HI.out.2.2.2.2.2.2.2.2.1, HI.out.2.2.2.2.2.2.2.2.2.1, HI.out.2.2.2.2.2.2.2.2.2.2.1, HI.out.2.2.2.2.2.2.2.2.2.2.2.1, (fun h => (HI.out.2.2.2.2.2.2.2.2.2.2.2.2.1 h).below hb), (fun _ => hz), (fun h => (HI.out.2.2.2.2.2.2.2.2.2.2.2.2.2.2.1 h).below hb), (fun h => (HI.out.2.2.2.2.2.2.2.2.2.2.2.2.2.2.2.1 h).keep hb), HI.out.2.2.2.2.2.2.2.2.2.2.2.2.2.2.2.2⟩
    · simp at ho
      subst ho
      try simp [Region.binds] at hdep
      have R3 := Lib.hid (HI.out.2.2.2.1 (show b3 = true by first | exact hdep | exact hdep.1 | exact hdep.2 | exact hdep.2.1 | exact hdep.2.2 | exact hdep.2.2.1 | exact hdep.2.2.2 | exact hdep.2.2.2.1 | exact hdep.2.2.2.2 | exact hdep.2.2.2.2.1))
      have R13 := Lib.hid (HI.out.2.2.2.2.2.2.2.2.2.2.2.2.2.1 (show b13 = true by first | exact hdep | exact hdep.1 | exact hdep.2 | exact hdep.2.1 | exact hdep.2.2 | exact hdep.2.2.1 | exact hdep.2.2.2 | exact hdep.2.2.2.1 | exact hdep.2.2.2.2 | exact hdep.2.2.2.2.1))
      unfold wpOp
      go_simp
      refine Or.inl ((add_q R3.out R13.out (KX1.out.mono (show 2 ≤ 36 by decide)) (KX3.out.mono (show 36 ≤ 36 by decide)) (by decide) _ (Below.refl _ _)).mono ?_)
      rintro e wk ⟨z, rfl, hz, hb⟩
      exact HK.out _ _ ⟨b0, b1, b2, b3, b4, b5, b6, b7, b8, b9, b10, b11, b12, b13, true, b15, b16, rfl, v8, v10, v11, v12, v13, v14, v15, v16, v17, v18, v19, v20, v21, v22, v23, _, rfl, (HBW.out.trans (hb.mono HBW.out.size)), HI.out.1, HI.out.2.1, HI.out.2.2.1, (fun h => (HI.out.2.2.2.1 h).below hb), HI.out.2.2.2.2.1, HI.out.2.2.2.2.2.1, HI.out.2.2.2.2.2.2.1, HI.out.2.2.2.2.2.2.2.1, HI.out.2.2.2.2.2.2.2.2.1, HI.out.2.2.2.2.2.2.2.2.2.1, HI.out.2.2.2.2.2.2.2.2.2.2.1, HI.out.2.2.2.2.2.2.2.2.2.2.2.1, (fun h => (HI.out.2.2.2.2.2.2.2.2.2.2.2.2.1 h).below hb), (fun h => (HI.out.2.2.2.2.2.2.2.2.2.2.2.2.2.1 h).below hb), (fun _ => hz), (fun h => (HI.out.2.2.2.2.2.2.2.2.2.2.2.2.2.2.2.1 h).keep hb), HI.out.2.2.2.2.2.2.2.2.2.2.2.2.2.2.2.2⟩
    · simp at ho
      subst ho
      try simp [Region.binds] at hdep
      have hb15 : b15 = false := by simpa using hun
      subst hb15
      have hb16 : b16 = false := by
        cases hb : b16
        · rfl
        · exact absurd (HI.out.2.2.2.2.2.2.2.2.2.2.2.2.2.2.2.2 hb) (by decide)
      subst hb16
      unfold wpOp
      go_simp
      exact Or.inl (HK.out _ _ ⟨b0, b1, b2, b3, b4, b5, b6, b7, b8, b9, b10, b11, b12, b13, b14, true, false, rfl, _, v10, v11, v12, v13, v14, v15, v16, v17, v18, v19, v20, v21, v22, v23, v24, rfl, (HBW.out.alloc HBW.out.size _), HI.out.1, HI.out.2.1, HI.out.2.2.1, (fun h => (HI.out.2.2.2.1 h).below ((Below.refl _ _).alloc (Nat.le_refl _) _)), HI.out.2.2.2.2.1, HI.out.2.2.2.2.2.1, HI.out.2.2.2.2.2.2.1, HI.out.2.2.2.2.2.2.2.1, HI.out.2.2.2.2.2.2.2.2.1, HI.out.2.2.2.2.2.2.2.2.2.1, HI.out.2.2.2.2.2.2.2.2.2.2.1, HI.out.2.2.2.2.2.2.2.2.2.2.2.1, (fun h => (HI.out.2.2.2.2.2.2.2.2.2.2.2.2.1 h).below ((Below.refl _ _).alloc (Nat.le_refl _) _)), (fun h => (HI.out.2.2.2.2.2.2.2.2.2.2.2.2.2.1 h).below ((Below.refl _ _).alloc (Nat.le_refl _) _)), (fun h => (HI.out.2.2.2.2.2.2.2.2.2.2.2.2.2.2.1 h).below ((Below.refl _ _).alloc (Nat.le_refl _) _)), (fun _ => BoxQ.new _ HBW.out.size), (fun h => by cases h)⟩)
    · have hb16 : b16 = false := by simpa using hun
      subst hb16
      simp at ho
      subst ho
      try simp [Region.binds] at hdep
      obtain ⟨M, eM, hM, vM⟩ := (HI.out.2.2.2.2.2.2.2.2.2.2.2.2.2.2.2.1 (show b15 = true by first | exact hdep | exact hdep.1 | exact hdep.2 | exact hdep.2.1 | exact hdep.2.2 | exact hdep.2.2.1 | exact hdep.2.2.2 | exact hdep.2.2.2.1 | exact hdep.2.2.2.2 | exact hdep.2.2.2.2.1)).open
      subst eM
      have dal := (show b15 = true by first | exact hdep | exact hdep.1 | exact hdep.2 | exact hdep.2.1 | exact hdep.2.2 | exact hdep.2.2.1 | exact hdep.2.2.2 | exact hdep.2.2.2.1 | exact hdep.2.2.2.2 | exact hdep.2.2.2.2.1)
      obtain ⟨g1, gA, gm, gc, g2, gB, gn, gd, e', r1, r2⟩ := HI.out.2.2.2.2.2.2.2.2.2.2.2.2.2.2.1 (show b14 = true by first | exact hdep | exact hdep.1 | exact hdep.2 | exact hdep.2.1 | exact hdep.2.2 | exact hdep.2.2.1 | exact hdep.2.2.2 | exact hdep.2.2.2.1 | exact hdep.2.2.2.2 | exact hdep.2.2.2.2.1)
      subst e'
      have m0 : w.cell? ⟨M, 0, none⟩ = some (.bool false) := vM.cell 0
      have f0 := vM.free 0
      have m1 : w.cell? ⟨M, 1, none⟩ = some (.slice none 0 0) := vM.cell 1
      have f1 := vM.free 1
      have m2 : w.cell? ⟨M, 2, none⟩ = some (.bool false) := vM.cell 2
      have f2 := vM.free 2
      have m3 : w.cell? ⟨M, 3, none⟩ = some (.slice none 0 0) := vM.cell 3
      have f3 := vM.free 3
      have HVM := Lib.hid vM
      have HR := Lib.hid (rat_mk r1 r2)
      clear vM r1 r2
      unfold wpOp
      go_simp
      exact Or.inl (HK.out _ _ ⟨b0, b1, b2, b3, b4, b5, b6, b7, b8, b9, b10, b11, b12, b13, b14, b15, true, rfl, _, v10, v11, v12, v13, v14, v15, v16, v17, v18, v19, v20, v21, v22, v23, _, rfl, (below_four HBW.out hM _ _ _ _), HI.out.1, HI.out.2.1, HI.out.2.2.1, (fun h => (HI.out.2.2.2.1 h).four HVM.out (by decide) _ _ _ _), HI.out.2.2.2.2.1, HI.out.2.2.2.2.2.1, HI.out.2.2.2.2.2.2.1, HI.out.2.2.2.2.2.2.2.1, HI.out.2.2.2.2.2.2.2.2.1, HI.out.2.2.2.2.2.2.2.2.2.1, HI.out.2.2.2.2.2.2.2.2.2.2.1, HI.out.2.2.2.2.2.2.2.2.2.2.2.1, (fun h => (HI.out.2.2.2.2.2.2.2.2.2.2.2.2.1 h).four HVM.out (by decide) _ _ _ _), (fun h => (HI.out.2.2.2.2.2.2.2.2.2.2.2.2.2.1 h).four HVM.out (by decide) _ _ _ _), (fun _ => HR.out.four HVM.out (by decide) _ _ _ _), (fun _ => BoxQ.fill HVM.out hM HR.out), (fun _ => dal)⟩)
    · simp at ho
  · rintro listed a w ⟨b0, b1, b2, b3, b4, b5, b6, b7, b8, b9, b10, b11, b12, b13, b14, b15, b16, rfl, v8, v10, v11, v12, v13, v14, v15, v16, v17, v18, v19, v20, v21, v22, v23, v24, rfl, hB, h0, h1, h2, h3, h4, h5, h6, h7, h8, h9, h10, h11, h12, h13, h14, h15, h16⟩ hr
    have hall := ready_nilM (by kernel_rfl) (by rfl) hr
    have t0 : b0 = true := hall 0 (by decide)
    have t1 : b1 = true := hall 1 (by decide)
    have t2 : b2 = true := hall 2 (by decide)
    have t3 : b3 = true := hall 3 (by decide)
    have t4 : b4 = true := hall 4 (by decide)
    have t5 : b5 = true := hall 5 (by decide)
    have t6 : b6 = true := hall 6 (by decide)
    have t7 : b7 = true := hall 7 (by decide)
    have t8 : b8 = true := hall 8 (by decide)
    have t9 : b9 = true := hall 9 (by decide)
    have t10 : b10 = true := hall 10 (by decide)
    have t11 : b11 = true := hall 11 (by decide)
    have t12 : b12 = true := hall 12 (by decide)
    have t13 : b13 = true := hall 13 (by decide)
    have t14 : b14 = true := hall 14 (by decide)
    have t15 : b15 = true := hall 15 (by decide)
    have t16 : b16 = true := hall 16 (by decide)
    subst t0 t1 t2 t3 t4 t5 t6 t7 t8 t9 t10 t11 t12 t13 t14 t15 t16
    obtain ⟨M8, g1_8, gA_8, gm_8, gc_8, g2_8, gB_8, gn_8, gd_8, eM8, hM8, vM8, rM8⟩ := (h15 rfl).full
    subst eM8
    exact ⟨M8, g1_8, gA_8, gm_8, gc_8, g2_8, gB_8, gn_8, gd_8, _, _, _, _, _, _, _, _, _, _, _, _, _, _, _, rfl, vM8, rM8, hM8, hB⟩
  · refine ⟨false, false, false, false, false, false, false, false, false, false, false, false, false, false, false, false, false, rfl, _, _, _, _, _, _, _, _, _, _, _, _, _, _, _, _, rfl, (Below.refl _ _).drew, ?_, ?_, ?_, ?_, ?_, ?_, ?_, ?_, ?_, ?_, ?_, ?_, ?_, ?_, ?_, ?_, ?_⟩ <;> (intro h; cases h)

set_option maxHeartbeats 8000000 in
set_option maxRecDepth 100000 in
theorem at_reg2 (W : World) (A B T : Nat) (c1 c2 d1 d2 : Int) (x : Q) (p1 p2 : Bool) (pA pB : Option Addr) (pm pc pn pd : Nat) (Hp : Hid (RatAt W (.agg #[.bool p1, .slice pA pm pc, .bool p2, .slice pB pn pd]) x)) (Kp : Hid (QS 18 x)) (e1 : IntKind.i64.wrap c2 = c2) (e2 : IntKind.i64.wrap d2 = d2) (e3 : IntKind.i64.wrap (d2 - c2) = d2 - c2) (n1 : I64 c2) (n2 : I64 (d2 - c2))
    (kA0 : W.cell? ⟨A, 0, none⟩ = some (.int .i32 c1))
    (kA1 : W.cell? ⟨A, 1, none⟩ = some (.int .i32 c2))
    (zA : A < W.heap.size)
    (kB0 : W.cell? ⟨B, 0, none⟩ = some (.int .i32 d1))
    (kB1 : W.cell? ⟨B, 1, none⟩ = some (.int .i32 d2))
    (zB : B < W.heap.size)
    (kT0 : W.cell? ⟨T, 0, none⟩ = some (.bool p1))
    (kT1 : W.cell? ⟨T, 1, none⟩ = some (.slice pA pm pc))
    (kT2 : W.cell? ⟨T, 2, none⟩ = some (.bool p2))
    (kT3 : W.cell? ⟨T, 3, none⟩ = some (.slice pB pn pd))
    (zT : T < W.heap.size)
    (u0 u1 u2 u6 u7 u8 u9 u10 u11 u12 u13 u14 u15 u16 u17 u18 u19 u20 u21 u22 u23 u24 u25 u26 u27 u28 u29 u30 u31 u32 u33 u34 u35 u36 u37 u38 u39 u40 u41 : Value) :
    (regionO Try.f40 2).wp Try.prog (Exit.then (fun a' W' => ∃ M9 g1_9 gA_9 gm_9 gc_9 g2_9 gB_9 gn_9 gd_9 v25 v26 v27 v28 v29 v30 v31 v32 v33 v34 v35 v36 v37 v38 v39, a' = { tmps := #[u0, u1, u2, .pointer (some ⟨A, 0, none⟩), .pointer (some ⟨B, 0, none⟩), .pointer (some ⟨T, 0, none⟩), u6, u7, u8, .pointer (some ⟨M9, 0, none⟩), u10, u11, u12, u13, u14, u15, u16, u17, u18, u19, u20, u21, u22, u23, u24, v25, v26, v27, v28, v29, v30, v31, v32, v33, v34, v35, v36, v37, v38, v39, u40, u41], defers := [] } ∧ Var W' M9 53 #[.bool g1_9, .slice gA_9 gm_9 gc_9, .bool g2_9, .slice gB_9 gn_9 gd_9] ∧ RatAt W' (.agg #[.bool g1_9, .slice gA_9 gm_9 gc_9, .bool g2_9, .slice gB_9 gn_9 gd_9]) (qadd (qw (c2)) (qmul (x) (qw (d2 - c2)))) ∧ W.heap.size ≤ M9 ∧ Below W.heap.size W W') (fun _ _ _ => False)) { tmps := #[u0, u1, u2, .pointer (some ⟨A, 0, none⟩), .pointer (some ⟨B, 0, none⟩), .pointer (some ⟨T, 0, none⟩), u6, u7, u8, u9, u10, u11, u12, u13, u14, u15, u16, u17, u18, u19, u20, u21, u22, u23, u24, u25, u26, u27, u28, u29, u30, u31, u32, u33, u34, u35, u36, u37, u38, u39, u40, u41], defers := [] } W := by
  have KX1 : Hid (QS 2 (qw (c2))) := Lib.hid (qs_w n1)
  have KX2 : Hid (QS 2 (qw (d2 - c2))) := Lib.hid (qs_w n2)
  have KX3 : Hid (QS 36 (qmul (x) (qw (d2 - c2)))) := Lib.hid (QS.mono (qs_mul (k := 18) (Kp.out.mono (show 18 ≤ 18 by decide)) (KX2.out.mono (show 2 ≤ 18 by decide))) (show 18 + 18 ≤ 36 by decide))
  have KX4 : Hid (QS 73 (qadd (qw (c2)) (qmul (x) (qw (d2 - c2))))) := Lib.hid (QS.mono (qs_add (k := 36) (KX1.out.mono (show 2 ≤ 36 by decide)) (KX3.out.mono (show 36 ≤ 36 by decide))) (show 36 + 36 + 1 ≤ 73 by decide))
  show Code.wp _ (Code.region _ _ _) _ _ _
  refine wp_region_any (by kernel_rfl) ?_
  refine wpAny_inv (fun (b : Array Bool) a' w' => ∃ b0 b1 b2 b3 b4 b5 b6 b7 b8 b9 b10 b11 b12 b13 b14 b15 b16 : Bool, b = #[b0, b1, b2, b3, b4, b5, b6, b7, b8, b9, b10, b11, b12, b13, b14, b15, b16] ∧ ∃ v9 v25 v26 v27 v28 v29 v30 v31 v32 v33 v34 v35 v36 v37 v38 v39, a' = { tmps := #[u0, u1, u2, .pointer (some ⟨A, 0, none⟩), .pointer (some ⟨B, 0, none⟩), .pointer (some ⟨T, 0, none⟩), u6, u7, u8, v9, u10, u11, u12, u13, u14, u15, u16, u17, u18, u19, u20, u21, u22, u23, u24, v25, v26, v27, v28, v29, v30, v31, v32, v33, v34, v35, v36, v37, v38, v39, u40, u41], defers := [] } ∧ Below W.heap.size W w' ∧ (b0 = true → v25 = .pointer (some ⟨A, 1, none⟩)) ∧ (b1 = true → v26 = .int .i32 (c2)) ∧ (b2 = true → v27 = .int .i64 (c2)) ∧ (b3 = true → RatAt w' v28 (qw (c2))) ∧ (b4 = true → v29 = .agg #[.bool p1, .slice pA pm pc, .bool p2, .slice pB pn pd]) ∧ (b5 = true → v30 = .pointer (some ⟨B, 1, none⟩)) ∧ (b6 = true → v31 = .int .i32 (d2)) ∧ (b7 = true → v32 = .int .i64 (d2)) ∧ (b8 = true → v33 = .pointer (some ⟨A, 1, none⟩)) ∧ (b9 = true → v34 = .int .i32 (c2)) ∧ (b10 = true → v35 = .int .i64 (c2)) ∧ (b11 = true → v36 = .int .i64 (d2 - c2)) ∧ (b12 = true → RatAt w' v37 (qw (d2 - c2))) ∧ (b13 = true → RatAt w' v38 (qmul (x) (qw (d2 - c2)))) ∧ (b14 = true → RatAt w' v39 (qadd (qw (c2)) (qmul (x) (qw (d2 - c2))))) ∧ (b15 = true → BoxQ W w' v9 b16 (qadd (qw (c2)) (qmul (x) (qw (d2 - c2))))) ∧ (b16 = true → b15 = true)) ?_ ?_ _ _ _ _ (by rfl) ?_
  · rintro listed a w i K ⟨b0, b1, b2, b3, b4, b5, b6, b7, b8, b9, b10, b11, b12, b13, b14, b15, b16, rfl, v9, v25, v26, v27, v28, v29, v30, v31, v32, v33, v34, v35, v36, v37, v38, v39, rfl, hB, h0, h1, h2, h3, h4, h5, h6, h7, h8, h9, h10, h11, h12, h13, h14, h15, h16⟩ hi hK
    obtain ⟨hun, o, ho, hdep⟩ := mem_ready.1 hi
    have jA0 := (hB.cell (p := ⟨A, 0, none⟩) zA).trans kA0
    have jA1 := (hB.cell (p := ⟨A, 1, none⟩) zA).trans kA1
    have jB0 := (hB.cell (p := ⟨B, 0, none⟩) zB).trans kB0
    have jB1 := (hB.cell (p := ⟨B, 1, none⟩) zB).trans kB1
    have jT0 := (hB.cell (p := ⟨T, 0, none⟩) zT).trans kT0
    have jT1 := (hB.cell (p := ⟨T, 1, none⟩) zT).trans kT1
    have jT2 := (hB.cell (p := ⟨T, 2, none⟩) zT).trans kT2
    have jT3 := (hB.cell (p := ⟨T, 3, none⟩) zT).trans kT3
    have HI := Lib.hid (And.intro h0 (And.intro h1 (And.intro h2 (And.intro h3 (And.intro h4 (And.intro h5 (And.intro h6 (And.intro h7 (And.intro h8 (And.intro h9 (And.intro h10 (And.intro h11 (And.intro h12 (And.intro h13 (And.intro h14 (And.intro h15 (h16)))))))))))))))))
    have HBW := Lib.hid hB
    have HK := Lib.hid hK
    clear h0 h1 h2 h3 h4 h5 h6 h7 h8 h9 h10 h11 h12 h13 h14 h15 h16 hB hK hi kA0 kA1 kB0 kB1 kT0 kT1 kT2 kT3
    rcases i with _ | _ | _ | _ | _ | _ | _ | _ | _ | _ | _ | _ | _ | _ | _ | _ | _ | i
    · simp at ho
      subst ho
      try simp [Region.binds] at hdep
      unfold wpOp
      go_simp
      exact Or.inl (HK.out _ _ ⟨true, b1, b2, b3, b4, b5, b6, b7, b8, b9, b10, b11, b12, b13, b14, b15, b16, rfl, v9, _, v26, v27, v28, v29, v30, v31, v32, v33, v34, v35, v36, v37, v38, v39, rfl, HBW.out, (fun _ => rfl), HI.out.2.1, HI.out.2.2.1, HI.out.2.2.2.1, HI.out.2.2.2.2.1, HI.out.2.2.2.2.2.1, HI.out.2.2.2.2.2.2.1, HI.out.2.2.2.2.2.2.2.1, HI.out.2.2.2.2.2.2.2.2.1, HI.out.2.2.2.2.2.2.2.2.2.1, HI.out.2.2.2.2.2.2.2.2.2.2.1, HI.out.2.2.2.2.2.2.2.2.2.2.2.1, HI.out.2.2.2.2.2.2.2.2.2.2.2.2.1, HI.out.2.2.2.2.2.2.2.2.2.2.2.2.2.1, HI.out.2.2.2.2.2.2.2.2.2.2.2.2.2.2.1, HI.out.2.2.2.2.2.2.2.2.2.2.2.2.2.2.2.1, HI.out.2.2.2.2.2.2.2.2.2.2.2.2.2.2.2.2⟩)
    · simp at ho
      subst ho
      try simp [Region.binds] at hdep
      have q0 := HI.out.1 (show b0 = true by first | exact hdep | exact hdep.1 | exact hdep.2 | exact hdep.2.1 | exact hdep.2.2 | exact hdep.2.2.1 | exact hdep.2.2.2 | exact hdep.2.2.2.1 | exact hdep.2.2.2.2 | exact hdep.2.2.2.2.1)
      subst q0
      unfold wpOp
      go_simp
      exact Or.inl (HK.out _ _ ⟨b0, true, b2, b3, b4, b5, b6, b7, b8, b9, b10, b11, b12, b13, b14, b15, b16, rfl, v9, _, _, v27, v28, v29, v30, v31, v32, v33, v34, v35, v36, v37, v38, v39, rfl, HBW.out, (fun _ => rfl), (fun _ => rfl), HI.out.2.2.1, HI.out.2.2.2.1, HI.out.2.2.2.2.1, HI.out.2.2.2.2.2.1, HI.out.2.2.2.2.2.2.1, HI.out.2.2.2.2.2.2.2.1, HI.out.2.2.2.2.2.2.2.2.1, HI.out.2.2.2.2.2.2.2.2.2.1, HI.out.2.2.2.2.2.2.2.2.2.2.1, HI.out.2.2.2.2.2.2.2.2.2.2.2.1, HI.out.2.2.2.2.2.2.2.2.2.2.2.2.1, HI.out.2.2.2.2.2.2.2.2.2.2.2.2.2.1, HI.out.2.2.2.2.2.2.2.2.2.2.2.2.2.2.1, HI.out.2.2.2.2.2.2.2.2.2.2.2.2.2.2.2.1, HI.out.2.2.2.2.2.2.2.2.2.2.2.2.2.2.2.2⟩)
    · simp at ho
      subst ho
      try simp [Region.binds] at hdep
      have q1 := HI.out.2.1 (show b1 = true by first | exact hdep | exact hdep.1 | exact hdep.2 | exact hdep.2.1 | exact hdep.2.2 | exact hdep.2.2.1 | exact hdep.2.2.2 | exact hdep.2.2.2.1 | exact hdep.2.2.2.2 | exact hdep.2.2.2.2.1)
      subst q1
      unfold wpOp
      go_simp
      exact Or.inl (HK.out _ _ ⟨b0, b1, true, b3, b4, b5, b6, b7, b8, b9, b10, b11, b12, b13, b14, b15, b16, rfl, v9, v25, _, _, v28, v29, v30, v31, v32, v33, v34, v35, v36, v37, v38, v39, rfl, HBW.out, HI.out.1, (fun _ => rfl), (fun _ => rfl), HI.out.2.2.2.1, HI.out.2.2.2.2.1, HI.out.2.2.2.2.2.1, HI.out.2.2.2.2.2.2.1, HI.out.2.2.2.2.2.2.2.1, HI.out.2.2.2.2.2.2.2.2.1, HI.out.2.2.2.2.2.2.2.2.2.1, HI.out.2.2.2.2.2.2.2.2.2.2.1, HI.out.2.2.2.2.2.2.2.2.2.2.2.1, HI.out.2.2.2.2.2.2.2.2.2.2.2.2.1, HI.out.2.2.2.2.2.2.2.2.2.2.2.2.2.1, HI.out.2.2.2.2.2.2.2.2.2.2.2.2.2.2.1, HI.out.2.2.2.2.2.2.2.2.2.2.2.2.2.2.2.1, HI.out.2.2.2.2.2.2.2.2.2.2.2.2.2.2.2.2⟩)
    · simp at ho
      subst ho
      try simp [Region.binds] at hdep
      have q2 := HI.out.2.2.1 (show b2 = true by first | exact hdep | exact hdep.1 | exact hdep.2 | exact hdep.2.1 | exact hdep.2.2 | exact hdep.2.2.1 | exact hdep.2.2.2 | exact hdep.2.2.2.1 | exact hdep.2.2.2.2 | exact hdep.2.2.2.2.1)
      subst q2
      unfold wpOp
      go_simp
      refine Or.inl ((whole_q (c2) n1 _).mono ?_)
      rintro e wk ⟨z, rfl, hz, hb⟩
      exact HK.out _ _ ⟨b0, b1, b2, true, b4, b5, b6, b7, b8, b9, b10, b11, b12, b13, b14, b15, b16, rfl, v9, v25, v26, _, _, v29, v30, v31, v32, v33, v34, v35, v36, v37, v38, v39, rfl, (HBW.out.trans (hb.mono HBW.out.size)), HI.out.1, HI.out.2.1, (fun _ => rfl), (fun _ => hz), HI.out.2.2.2.2.1, HI.out.2.2.2.2.2.1, HI.out.2.2.2.2.2.2.1, HI.out.2.2.2.2.2.2.2.1, HI.out.2.2.2.2.2.2.2.2.1, HI.out.2.2.2.2.2.2.2.2.2.1, HI.out.2.2.2.2.2.2.2.2.2.2.1, HI.out.2.2.2.2.2.2.2.2.2.2.2.1, (fun h => (HI.out.2.2.2.2.2.2.2.2.2.2.2.2.1 h).below hb), (fun h => (HI.out.2.2.2.2.2.2.2.2.2.2.2.2.2.1 h).below hb), (fun h => (HI.out.2.2.2.2.2.2.2.2.2.2.2.2.2.2.1 h).below hb), (fun h => (HI.out.2.2.2.2.2.2.2.2.2.2.2.2.2.2.2.1 h).keep hb), HI.out.2.2.2.2.2.2.2.2.2.2.2.2.2.2.2.2⟩
    · simp at ho
      subst ho
      try simp [Region.binds] at hdep
      unfold wpOp
      go_simp
      exact Or.inl (HK.out _ _ ⟨b0, b1, b2, b3, true, b5, b6, b7, b8, b9, b10, b11, b12, b13, b14, b15, b16, rfl, v9, v25, v26, v27, v28, _, v30, v31, v32, v33, v34, v35, v36, v37, v38, v39, rfl, HBW.out, HI.out.1, HI.out.2.1, HI.out.2.2.1, HI.out.2.2.2.1, (fun _ => rfl), HI.out.2.2.2.2.2.1, HI.out.2.2.2.2.2.2.1, HI.out.2.2.2.2.2.2.2.1, HI.out.2.2.2.2.2.2.2.2.1, HI.out.2.2.2.2.2.2.2.2.2.1, HI.out.2.2.2.2.2.2.2.2.2.2.1, HI.out.2.2.2.2.2.2.2.2.2.2.2.1, HI.out.2.2.2.2.2.2.2.2.2.2.2.2.1, HI.out.2.2.2.2.2.2.2.2.2.2.2.2.2.1, HI.out.2.2.2.2.2.2.2.2.2.2.2.2.2.2.1, HI.out.2.2.2.2.2.2.2.2.2.2.2.2.2.2.2.1, HI.out.2.2.2.2.2.2.2.2.2.2.2.2.2.2.2.2⟩)
    · simp at ho
      subst ho
      try simp [Region.binds] at hdep
      unfold wpOp
      go_simp
      exact Or.inl (HK.out _ _ ⟨b0, b1, b2, b3, b4, true, b6, b7, b8, b9, b10, b11, b12, b13, b14, b15, b16, rfl, v9, v25, v26, v27, v28, v29, _, v31, v32, v33, v34, v35, v36, v37, v38, v39, rfl, HBW.out, HI.out.1, HI.out.2.1, HI.out.2.2.1, HI.out.2.2.2.1, HI.out.2.2.2.2.1, (fun _ => rfl), HI.out.2.2.2.2.2.2.1, HI.out.2.2.2.2.2.2.2.1, HI.out.2.2.2.2.2.2.2.2.1, HI.out.2.2.2.2.2.2.2.2.2.1, HI.out.2.2.2.2.2.2.2.2.2.2.1, HI.out.2.2.2.2.2.2.2.2.2.2.2.1, HI.out.2.2.2.2.2.2.2.2.2.2.2.2.1, HI.out.2.2.2.2.2.2.2.2.2.2.2.2.2.1, HI.out.2.2.2.2.2.2.2.2.2.2.2.2.2.2.1, HI.out.2.2.2.2.2.2.2.2.2.2.2.2.2.2.2.1, HI.out.2.2.2.2.2.2.2.2.2.2.2.2.2.2.2.2⟩)
    · simp at ho
      subst ho
      try simp [Region.binds] at hdep
      have q5 := HI.out.2.2.2.2.2.1 (show b5 = true by first | exact hdep | exact hdep.1 | exact hdep.2 | exact hdep.2.1 | exact hdep.2.2 | exact hdep.2.2.1 | exact hdep.2.2.2 | exact hdep.2.2.2.1 | exact hdep.2.2.2.2 | exact hdep.2.2.2.2.1)
      subst q5
      unfold wpOp
      go_simp
      exact Or.inl (HK.out _ _ ⟨b0, b1, b2, b3, b4, b5, true, b7, b8, b9, b10, b11, b12, b13, b14, b15, b16, rfl, v9, v25, v26, v27, v28, v29, _, _, v32, v33, v34, v35, v36, v37, v38, v39, rfl, HBW.out, HI.out.1, HI.out.2.1, HI.out.2.2.1, HI.out.2.2.2.1, HI.out.2.2.2.2.1, (fun _ => rfl), (fun _ => rfl), HI.out.2.2.2.2.2.2.2.1, HI.out.2.2.2.2.2.2.2.2.1, HI.out.2.2.2.2.2.2.2.2.2.1, HI.out.2.2.2.2.2.2.2.2.2.2.1, HI.out.2.2.2.2.2.2.2.2.2.2.2.1, HI.out.2.2.2.2.2.2.2.2.2.2.2.2.1, HI.out.2.2.2.2.2.2.2.2.2.2.2.2.2.1, HI.out.2.2.2.2.2.2.2.2.2.2.2.2.2.2.1, HI.out.2.2.2.2.2.2.2.2.2.2.2.2.2.2.2.1, HI.out.2.2.2.2.2.2.2.2.2.2.2.2.2.2.2.2⟩)
    · simp at ho
      subst ho
      try simp [Region.binds] at hdep
      have q6 := HI.out.2.2.2.2.2.2.1 (show b6 = true by first | exact hdep | exact hdep.1 | exact hdep.2 | exact hdep.2.1 | exact hdep.2.2 | exact hdep.2.2.1 | exact hdep.2.2.2 | exact hdep.2.2.2.1 | exact hdep.2.2.2.2 | exact hdep.2.2.2.2.1)
      subst q6
      unfold wpOp
      go_simp
      exact Or.inl (HK.out _ _ ⟨b0, b1, b2, b3, b4, b5, b6, true, b8, b9, b10, b11, b12, b13, b14, b15, b16, rfl, v9, v25, v26, v27, v28, v29, v30, _, _, v33, v34, v35, v36, v37, v38, v39, rfl, HBW.out, HI.out.1, HI.out.2.1, HI.out.2.2.1, HI.out.2.2.2.1, HI.out.2.2.2.2.1, HI.out.2.2.2.2.2.1, (fun _ => rfl), (fun _ => rfl), HI.out.2.2.2.2.2.2.2.2.1, HI.out.2.2.2.2.2.2.2.2.2.1, HI.out.2.2.2.2.2.2.2.2.2.2.1, HI.out.2.2.2.2.2.2.2.2.2.2.2.1, HI.out.2.2.2.2.2.2.2.2.2.2.2.2.1, HI.out.2.2.2.2.2.2.2.2.2.2.2.2.2.1, HI.out.2.2.2.2.2.2.2.2.2.2.2.2.2.2.1, HI.out.2.2.2.2.2.2.2.2.2.2.2.2.2.2.2.1, HI.out.2.2.2.2.2.2.2.2.2.2.2.2.2.2.2.2⟩)
    · simp at ho
      subst ho
      try simp [Region.binds] at hdep
      unfold wpOp
      go_simp
      exact Or.inl (HK.out _ _ ⟨b0, b1, b2, b3, b4, b5, b6, b7, true, b9, b10, b11, b12, b13, b14, b15, b16, rfl, v9, v25, v26, v27, v28, v29, v30, v31, v32, _, v34, v35, v36, v37, v38, v39, rfl, HBW.out, HI.out.1, HI.out.2.1, HI.out.2.2.1, HI.out.2.2.2.1, HI.out.2.2.2.2.1, HI.out.2.2.2.2.2.1, HI.out.2.2.2.2.2.2.1, HI.out.2.2.2.2.2.2.2.1, (fun _ => rfl), HI.out.2.2.2.2.2.2.2.2.2.1, HI.out.2.2.2.2.2.2.2.2.2.2.1, HI.out.2.2.2.2.2.2.2.2.2.2.2.1, HI.out.2.2.2.2.2.2.2.2.2.2.2.2.1, HI.out.2.2.2.2.2.2.2.2.2.2.2.2.2.1, HI.out.2.2.2.2.2.2.2.2.2.2.2.2.2.2.1, HI.out.2.2.2.2.2.2.2.2.2.2.2.2.2.2.2.1, HI.out.2.2.2.2.2.2.2.2.2.2.2.2.2.2.2.2⟩)
    · simp at ho
      subst ho
      try simp [Region.binds] at hdep
      have q8 := HI.out.2.2.2.2.2.2.2.2.1 (show b8 = true by first | exact hdep | exact hdep.1 | exact hdep.2 | exact hdep.2.1 | exact hdep.2.2 | exact hdep.2.2.1 | exact hdep.2.2.2 | exact hdep.2.2.2.1 | exact hdep.2.2.2.2 | exact hdep.2.2.2.2.1)
      subst q8
      unfold wpOp
      go_simp
      exact Or.inl (HK.out _ _ ⟨b0, b1, b2, b3, b4, b5, b6, b7, b8, true, b10, b11, b12, b13, b14, b15, b16, rfl, v9, v25, v26, v27, v28, v29, v30, v31, v32, _, _, v35, v36, v37, v38, v39, rfl, HBW.out, HI.out.1, HI.out.2.1, HI.out.2.2.1, HI.out.2.2.2.1, HI.out.2.2.2.2.1, HI.out.2.2.2.2.2.1, HI.out.2.2.2.2.2.2.1, HI.out.2.2.2.2.2.2.2.1, (fun _ => rfl), (fun _ => rfl), HI.out.2.2.2.2.2.2.2.2.2.2.1, HI.out.2.2.2.2.2.2.2.2.2.2.2.1, HI.out.2.2.2.2.2.2.2.2.2.2.2.2.1, HI.out.2.2.2.2.2.2.2.2.2.2.2.2.2.1, HI.out.2.2.2.2.2.2.2.2.2.2.2.2.2.2.1, HI.out.2.2.2.2.2.2.2.2.2.2.2.2.2.2.2.1, HI.out.2.2.2.2.2.2.2.2.2.2.2.2.2.2.2.2⟩)
    · simp at ho
      subst ho
      try simp [Region.binds] at hdep
      have q9 := HI.out.2.2.2.2.2.2.2.2.2.1 (show b9 = true by first | exact hdep | exact hdep.1 | exact hdep.2 | exact hdep.2.1 | exact hdep.2.2 | exact hdep.2.2.1 | exact hdep.2.2.2 | exact hdep.2.2.2.1 | exact hdep.2.2.2.2 | exact hdep.2.2.2.2.1)
      subst q9
      unfold wpOp
      go_simp
      exact Or.inl (HK.out _ _ ⟨b0, b1, b2, b3, b4, b5, b6, b7, b8, b9, true, b11, b12, b13, b14, b15, b16, rfl, v9, v25, v26, v27, v28, v29, v30, v31, v32, v33, _, _, v36, v37, v38, v39, rfl, HBW.out, HI.out.1, HI.out.2.1, HI.out.2.2.1, HI.out.2.2.2.1, HI.out.2.2.2.2.1, HI.out.2.2.2.2.2.1, HI.out.2.2.2.2.2.2.1, HI.out.2.2.2.2.2.2.2.1, HI.out.2.2.2.2.2.2.2.2.1, (fun _ => rfl), (fun _ => rfl), HI.out.2.2.2.2.2.2.2.2.2.2.2.1, HI.out.2.2.2.2.2.2.2.2.2.2.2.2.1, HI.out.2.2.2.2.2.2.2.2.2.2.2.2.2.1, HI.out.2.2.2.2.2.2.2.2.2.2.2.2.2.2.1, HI.out.2.2.2.2.2.2.2.2.2.2.2.2.2.2.2.1, HI.out.2.2.2.2.2.2.2.2.2.2.2.2.2.2.2.2⟩)
    · simp at ho
      subst ho
      try simp [Region.binds] at hdep
      have q7 := HI.out.2.2.2.2.2.2.2.1 (show b7 = true by first | exact hdep | exact hdep.1 | exact hdep.2 | exact hdep.2.1 | exact hdep.2.2 | exact hdep.2.2.1 | exact hdep.2.2.2 | exact hdep.2.2.2.1 | exact hdep.2.2.2.2 | exact hdep.2.2.2.2.1)
      subst q7
      have q10 := HI.out.2.2.2.2.2.2.2.2.2.2.1 (show b10 = true by first | exact hdep | exact hdep.1 | exact hdep.2 | exact hdep.2.1 | exact hdep.2.2 | exact hdep.2.2.1 | exact hdep.2.2.2 | exact hdep.2.2.2.1 | exact hdep.2.2.2.2 | exact hdep.2.2.2.2.1)
      subst q10
      unfold wpOp
      go_simp
      exact Or.inl (HK.out _ _ ⟨b0, b1, b2, b3, b4, b5, b6, b7, b8, b9, b10, true, b12, b13, b14, b15, b16, rfl, v9, v25, v26, v27, v28, v29, v30, v31, _, v33, v34, _, _, v37, v38, v39, rfl, HBW.out, HI.out.1, HI.out.2.1, HI.out.2.2.1, HI.out.2.2.2.1, HI.out.2.2.2.2.1, HI.out.2.2.2.2.2.1, HI.out.2.2.2.2.2.2.1, (fun _ => rfl), HI.out.2.2.2.2.2.2.2.2.1, HI.out.2.2.2.2.2.2.2.2.2.1, (fun _ => rfl), (fun _ => rfl), HI.out.2.2.2.2.2.2.2.2.2.2.2.2.1, HI.out.2.2.2.2.2.2.2.2.2.2.2.2.2.1, HI.out.2.2.2.2.2.2.2.2.2.2.2.2.2.2.1, HI.out.2.2.2.2.2.2.2.2.2.2.2.2.2.2.2.1, HI.out.2.2.2.2.2.2.2.2.2.2.2.2.2.2.2.2⟩)
    · simp at ho
      subst ho
      try simp [Region.binds] at hdep
      have q11 := HI.out.2.2.2.2.2.2.2.2.2.2.2.1 (show b11 = true by first | exact hdep | exact hdep.1 | exact hdep.2 | exact hdep.2.1 | exact hdep.2.2 | exact hdep.2.2.1 | exact hdep.2.2.2 | exact hdep.2.2.2.1 | exact hdep.2.2.2.2 | exact hdep.2.2.2.2.1)
      subst q11
      unfold wpOp
      go_simp
      refine Or.inl ((whole_q (d2 - c2) n2 _).mono ?_)
      rintro e wk ⟨z, rfl, hz, hb⟩
      exact HK.out _ _ ⟨b0, b1, b2, b3, b4, b5, b6, b7, b8, b9, b10, b11, true, b13, b14, b15, b16, rfl, v9, v25, v26, v27, v28, v29, v30, v31, v32, v33, v34, v35, _, _, v38, v39, rfl, (HBW.out.trans (hb.mono HBW.out.size)), HI.out.1, HI.out.2.1, HI.out.2.2.1, (fun h => (HI.out.2.2.2.1 h).below hb), HI.out.2.2.2.2.1, HI.out.2.2.2.2.2.1, HI.out.2.2.2.2.2.2.1, HI.out.2.2.2.2.2.2.2.1, HI.out.2.2.2.2.2.2.2.2.1, HI.out.2.2.2.2.2.2.2.2.2.1, HI.out.2.2.2.2.2.2.2.2.2.2.1, (fun _ => rfl), (fun _ => hz), (fun h => (HI.out.2.2.2.2.2.2.2.2.2.2.2.2.2.1 h).below hb), (fun h => (HI.out.2.2.2.2.2.2.2.2.2.2.2.2.2.2.1 h).below hb), (fun h => (HI.out.2.2.2.2.2.2.2.2.2.2.2.2.2.2.2.1 h).keep hb), HI.out.2.2.2.2.2.2.2.2.2.2.2.2.2.2.2.2⟩
    · simp at ho
      subst ho
      try simp [Region.binds] at hdep
      have q4 := HI.out.2.2.2.2.1 (show b4 = true by first | exact hdep | exact hdep.1 | exact hdep.2 | exact hdep.2.1 | exact hdep.2.2 | exact hdep.2.2.1 | exact hdep.2.2.2 | exact hdep.2.2.2.1 | exact hdep.2.2.2.2 | exact hdep.2.2.2.2.1)
      subst q4
      have R12 := Lib.hid (HI.out.2.2.2.2.2.2.2.2.2.2.2.2.1 (show b12 = true by first | exact hdep | exact hdep.1 | exact hdep.2 | exact hdep.2.1 | exact hdep.2.2 | exact hdep.2.2.1 | exact hdep.2.2.2 | exact hdep.2.2.2.1 | exact hdep.2.2.2.2 | exact hdep.2.2.2.2.1))
      unfold wpOp
      go_simp
      refine Or.inl ((mul_q (Hp.out.below HBW.out) R12.out (Kp.out.mono (show 18 ≤ 18 by decide)) (KX2.out.mono (show 2 ≤ 18 by decide)) (by decide) _ (Below.refl _ _)).mono ?_)
      rintro e wk ⟨z, rfl, hz, hb⟩
      exact HK.out _ _ ⟨b0, b1, b2, b3, b4, b5, b6, b7, b8, b9, b10, b11, b12, true, b14, b15, b16, rfl, v9, v25, v26, v27, v28, _, v30, v31, v32, v33, v34, v35, v36, v37, _, v39, rfl, (HBW.out.trans (hb.mono HBW.out.size)), HI.out.1, HI.out.2.1, HI.out.2.2.1, (fun h => (HI.out.2.2.2.1 h).below hb), (fun _ => rfl), HI.out.2.2.2.2.2.1, HI.out.2.2.2.2.2.2.1, HI.out.2.2.2.2.2.2.2.1, HI.out.2.2.2.2.2.2.2.2.1, HI.out.2.2.2.2.2.2.2.2.2.1, HI.out.2.2.2.2.2.2.2.2.2.2.1, HI.out.2.2.2.2.2.2.2.2.2.2.2.1, (fun h => (HI.out.2.2.2.2.2.2.2.2.2.2.2.2.1 h).below hb), (fun _ => hz), (fun h => (HI.out.2.2.2.2.2.2.2.2.2.2.2.2.2.2.1 h).below hb), (fun h => (HI.out.2.2.2.2.2.2.2.2.2.2.2.2.2.2.2.1 h).keep hb), HI.out.2.2.2.2.2.2.2.2.2.2.2.2.2.2.2.2⟩
    · simp at ho
      subst ho
      try simp [Region.binds] at hdep
      have R3 := Lib.hid (HI.out.2.2.2.1 (show b3 = true by first | exact hdep | exact hdep.1 | exact hdep.2 | exact hdep.2.1 | exact hdep.2.2 | exact hdep.2.2.1 | exact hdep.2.2.2 | exact hdep.2.2.2.1 | exact hdep.2.2.2.2 | exact hdep.2.2.2.2.1))
      have R13 := Lib.hid (HI.out.2.2.2.2.2.2.2.2.2.2.2.2.2.1 (show b13 = true by first | exact hdep | exact hdep.1 | exact hdep.2 | exact hdep.2.1 | exact hdep.2.2 | exact hdep.2.2.1 | exact hdep.2.2.2 | exact hdep.2.2.2.1 | exact hdep.2.2.2.2 | exact hdep.2.2.2.2.1))
      unfold wpOp
      go_simp
      refine Or.inl ((add_q R3.out R13.out (KX1.out.mono (show 2 ≤ 36 by decide)) (KX3.out.mono (show 36 ≤ 36 by decide)) (by decide) _ (Below.refl _ _)).mono ?_)
      rintro e wk ⟨z, rfl, hz, hb⟩
      exact HK.out _ _ ⟨b0, b1, b2, b3, b4, b5, b6, b7, b8, b9, b10, b11, b12, b13, true, b15, b16, rfl, v9, v25, v26, v27, v28, v29, v30, v31, v32, v33, v34, v35, v36, v37, v38, _, rfl, (HBW.out.trans (hb.mono HBW.out.size)), HI.out.1, HI.out.2.1, HI.out.2.2.1, (fun h => (HI.out.2.2.2.1 h).below hb), HI.out.2.2.2.2.1, HI.out.2.2.2.2.2.1, HI.out.2.2.2.2.2.2.1, HI.out.2.2.2.2.2.2.2.1, HI.out.2.2.2.2.2.2.2.2.1, HI.out.2.2.2.2.2.2.2.2.2.1, HI.out.2.2.2.2.2.2.2.2.2.2.1, HI.out.2.2.2.2.2.2.2.2.2.2.2.1, (fun h => (HI.out.2.2.2.2.2.2.2.2.2.2.2.2.1 h).below hb), (fun h => (HI.out.2.2.2.2.2.2.2.2.2.2.2.2.2.1 h).below hb), (fun _ => hz), (fun h => (HI.out.2.2.2.2.2.2.2.2.2.2.2.2.2.2.2.1 h).keep hb), HI.out.2.2.2.2.2.2.2.2.2.2.2.2.2.2.2.2⟩
    · simp at ho
      subst ho
      try simp [Region.binds] at hdep
      have hb15 : b15 = false := by simpa using hun
      subst hb15
      have hb16 : b16 = false := by
        cases hb : b16
        · rfl
        · exact absurd (HI.out.2.2.2.2.2.2.2.2.2.2.2.2.2.2.2.2 hb) (by decide)
      subst hb16
      unfold wpOp
      go_simp
      exact Or.inl (HK.out _ _ ⟨b0, b1, b2, b3, b4, b5, b6, b7, b8, b9, b10, b11, b12, b13, b14, true, false, rfl, _, v25, v26, v27, v28, v29, v30, v31, v32, v33, v34, v35, v36, v37, v38, v39, rfl, (HBW.out.alloc HBW.out.size _), HI.out.1, HI.out.2.1, HI.out.2.2.1, (fun h => (HI.out.2.2.2.1 h).below ((Below.refl _ _).alloc (Nat.le_refl _) _)), HI.out.2.2.2.2.1, HI.out.2.2.2.2.2.1, HI.out.2.2.2.2.2.2.1, HI.out.2.2.2.2.2.2.2.1, HI.out.2.2.2.2.2.2.2.2.1, HI.out.2.2.2.2.2.2.2.2.2.1, HI.out.2.2.2.2.2.2.2.2.2.2.1, HI.out.2.2.2.2.2.2.2.2.2.2.2.1, (fun h => (HI.out.2.2.2.2.2.2.2.2.2.2.2.2.1 h).below ((Below.refl _ _).alloc (Nat.le_refl _) _)), (fun h => (HI.out.2.2.2.2.2.2.2.2.2.2.2.2.2.1 h).below ((Below.refl _ _).alloc (Nat.le_refl _) _)), (fun h => (HI.out.2.2.2.2.2.2.2.2.2.2.2.2.2.2.1 h).below ((Below.refl _ _).alloc (Nat.le_refl _) _)), (fun _ => BoxQ.new _ HBW.out.size), (fun h => by cases h)⟩)
    · have hb16 : b16 = false := by simpa using hun
      subst hb16
      simp at ho
      subst ho
      try simp [Region.binds] at hdep
      obtain ⟨M, eM, hM, vM⟩ := (HI.out.2.2.2.2.2.2.2.2.2.2.2.2.2.2.2.1 (show b15 = true by first | exact hdep | exact hdep.1 | exact hdep.2 | exact hdep.2.1 | exact hdep.2.2 | exact hdep.2.2.1 | exact hdep.2.2.2 | exact hdep.2.2.2.1 | exact hdep.2.2.2.2 | exact hdep.2.2.2.2.1)).open
      subst eM
      have dal := (show b15 = true by first | exact hdep | exact hdep.1 | exact hdep.2 | exact hdep.2.1 | exact hdep.2.2 | exact hdep.2.2.1 | exact hdep.2.2.2 | exact hdep.2.2.2.1 | exact hdep.2.2.2.2 | exact hdep.2.2.2.2.1)
      obtain ⟨g1, gA, gm, gc, g2, gB, gn, gd, e', r1, r2⟩ := HI.out.2.2.2.2.2.2.2.2.2.2.2.2.2.2.1 (show b14 = true by first | exact hdep | exact hdep.1 | exact hdep.2 | exact hdep.2.1 | exact hdep.2.2 | exact hdep.2.2.1 | exact hdep.2.2.2 | exact hdep.2.2.2.1 | exact hdep.2.2.2.2 | exact hdep.2.2.2.2.1)
      subst e'
      have m0 : w.cell? ⟨M, 0, none⟩ = some (.bool false) := vM.cell 0
      have f0 := vM.free 0
      have m1 : w.cell? ⟨M, 1, none⟩ = some (.slice none 0 0) := vM.cell 1
      have f1 := vM.free 1
      have m2 : w.cell? ⟨M, 2, none⟩ = some (.bool false) := vM.cell 2
      have f2 := vM.free 2
      have m3 : w.cell? ⟨M, 3, none⟩ = some (.slice none 0 0) := vM.cell 3
      have f3 := vM.free 3
      have HVM := Lib.hid vM
      have HR := Lib.hid (rat_mk r1 r2)
      clear vM r1 r2
      unfold wpOp
      go_simp
      exact Or.inl (HK.out _ _ ⟨b0, b1, b2, b3, b4, b5, b6, b7, b8, b9, b10, b11, b12, b13, b14, b15, true, rfl, _, v25, v26, v27, v28, v29, v30, v31, v32, v33, v34, v35, v36, v37, v38, _, rfl, (below_four HBW.out hM _ _ _ _), HI.out.1, HI.out.2.1, HI.out.2.2.1, (fun h => (HI.out.2.2.2.1 h).four HVM.out (by decide) _ _ _ _), HI.out.2.2.2.2.1, HI.out.2.2.2.2.2.1, HI.out.2.2.2.2.2.2.1, HI.out.2.2.2.2.2.2.2.1, HI.out.2.2.2.2.2.2.2.2.1, HI.out.2.2.2.2.2.2.2.2.2.1, HI.out.2.2.2.2.2.2.2.2.2.2.1, HI.out.2.2.2.2.2.2.2.2.2.2.2.1, (fun h => (HI.out.2.2.2.2.2.2.2.2.2.2.2.2.1 h).four HVM.out (by decide) _ _ _ _), (fun h => (HI.out.2.2.2.2.2.2.2.2.2.2.2.2.2.1 h).four HVM.out (by decide) _ _ _ _), (fun _ => HR.out.four HVM.out (by decide) _ _ _ _), (fun _ => BoxQ.fill HVM.out hM HR.out), (fun _ => dal)⟩)
    · simp at ho
  · rintro listed a w ⟨b0, b1, b2, b3, b4, b5, b6, b7, b8, b9, b10, b11, b12, b13, b14, b15, b16, rfl, v9, v25, v26, v27, v28, v29, v30, v31, v32, v33, v34, v35, v36, v37, v38, v39, rfl, hB, h0, h1, h2, h3, h4, h5, h6, h7, h8, h9, h10, h11, h12, h13, h14, h15, h16⟩ hr
    have hall := ready_nilM (by kernel_rfl) (by rfl) hr
    have t0 : b0 = true := hall 0 (by decide)
    have t1 : b1 = true := hall 1 (by decide)
    have t2 : b2 = true := hall 2 (by decide)
    have t3 : b3 = true := hall 3 (by decide)
    have t4 : b4 = true := hall 4 (by decide)
    have t5 : b5 = true := hall 5 (by decide)
    have t6 : b6 = true := hall 6 (by decide)
    have t7 : b7 = true := hall 7 (by decide)
    have t8 : b8 = true := hall 8 (by decide)
    have t9 : b9 = true := hall 9 (by decide)
    have t10 : b10 = true := hall 10 (by decide)
    have t11 : b11 = true := hall 11 (by decide)
    have t12 : b12 = true := hall 12 (by decide)
    have t13 : b13 = true := hall 13 (by decide)
    have t14 : b14 = true := hall 14 (by decide)
    have t15 : b15 = true := hall 15 (by decide)
    have t16 : b16 = true := hall 16 (by decide)
    subst t0 t1 t2 t3 t4 t5 t6 t7 t8 t9 t10 t11 t12 t13 t14 t15 t16
    obtain ⟨M9, g1_9, gA_9, gm_9, gc_9, g2_9, gB_9, gn_9, gd_9, eM9, hM9, vM9, rM9⟩ := (h15 rfl).full
    subst eM9
    exact ⟨M9, g1_9, gA_9, gm_9, gc_9, g2_9, gB_9, gn_9, gd_9, _, _, _, _, _, _, _, _, _, _, _, _, _, _, _, rfl, vM9, rM9, hM9, hB⟩
  · refine ⟨false, false, false, false, false, false, false, false, false, false, false, false, false, false, false, false, false, rfl, _, _, _, _, _, _, _, _, _, _, _, _, _, _, _, _, rfl, (Below.refl _ _).drew, ?_, ?_, ?_, ?_, ?_, ?_, ?_, ?_, ?_, ?_, ?_, ?_, ?_, ?_, ?_, ?_, ?_⟩ <;> (intro h; cases h)

set_option maxHeartbeats 8000000 in
set_option maxRecDepth 100000 in
theorem near_reg3 (W : World) (P A B : Nat) (o1 o2 c1 c2 d1 d2 : Int) (t x y : Q) (HF : Hid (∀ W', Calls Try.prog 39 #[.agg #[.int .i32 o1, .int .i32 o2], .agg #[.int .i32 c1, .int .i32 c2], .agg #[.int .i32 d1, .int .i32 d2]] W' fun e w' => ∃ z, e = .returned z ∧ RatAt w' z t ∧ Below W'.heap.size W' w')) (HA : Hid (∀ W' v, RatAt W' v t → Calls Try.prog 40 #[.agg #[.int .i32 c1, .int .i32 c2], .agg #[.int .i32 d1, .int .i32 d2], v] W' fun e w' => ∃ z1 z2, e = .returned (.tuple #[z1, z2]) ∧ RatAt w' z1 x ∧ RatAt w' z2 y ∧ Below W'.heap.size W' w'))
    (kP0 : W.cell? ⟨P, 0, none⟩ = some (.int .i32 o1))
    (kP1 : W.cell? ⟨P, 1, none⟩ = some (.int .i32 o2))
    (zP : P < W.heap.size)
    (kA0 : W.cell? ⟨A, 0, none⟩ = some (.int .i32 c1))
    (kA1 : W.cell? ⟨A, 1, none⟩ = some (.int .i32 c2))
    (zA : A < W.heap.size)
    (kB0 : W.cell? ⟨B, 0, none⟩ = some (.int .i32 d1))
    (kB1 : W.cell? ⟨B, 1, none⟩ = some (.int .i32 d2))
    (zB : B < W.heap.size)
    (u0 u1 u2 u3 u7 u8 u9 u10 u11 u12 u13 u14 u15 u16 u17 u18 u19 u20 u21 u22 u23 u24 u25 u26 u27 u28 u29 u30 u31 u32 u33 u34 u35 u36 u37 u38 u39 u40 u41 u42 u43 u44 u45 u46 u47 u48 u49 u50 u51 u52 u53 u54 u55 u56 u57 u58 u59 u60 u61 u62 u63 u64 u65 u66 u67 : Value) :
    (regionO Try.f17 3).wp Try.prog (Exit.then (fun a' W' => ∃ M9 g1_9 gA_9 gm_9 gc_9 g2_9 gB_9 gn_9 gd_9 M10 g1_10 gA_10 gm_10 gc_10 g2_10 gB_10 gn_10 gd_10 v31 v32 v33 v34 v35 v36 v37 v38 v39 v40, a' = { tmps := #[u0, u1, u2, u3, .pointer (some ⟨P, 0, none⟩), .pointer (some ⟨A, 0, none⟩), .pointer (some ⟨B, 0, none⟩), u7, u8, .pointer (some ⟨M9, 0, none⟩), .pointer (some ⟨M10, 0, none⟩), u11, u12, u13, u14, u15, u16, u17, u18, u19, u20, u21, u22, u23, u24, u25, u26, u27, u28, u29, u30, v31, v32, v33, v34, v35, v36, v37, v38, v39, v40, u41, u42, u43, u44, u45, u46, u47, u48, u49, u50, u51, u52, u53, u54, u55, u56, u57, u58, u59, u60, u61, u62, u63, u64, u65, u66, u67], defers := [] } ∧ Var W' M9 53 #[.bool g1_9, .slice gA_9 gm_9 gc_9, .bool g2_9, .slice gB_9 gn_9 gd_9] ∧ RatAt W' (.agg #[.bool g1_9, .slice gA_9 gm_9 gc_9, .bool g2_9, .slice gB_9 gn_9 gd_9]) (x) ∧ W.heap.size ≤ M9 ∧ Var W' M10 53 #[.bool g1_10, .slice gA_10 gm_10 gc_10, .bool g2_10, .slice gB_10 gn_10 gd_10] ∧ RatAt W' (.agg #[.bool g1_10, .slice gA_10 gm_10 gc_10, .bool g2_10, .slice gB_10 gn_10 gd_10]) (y) ∧ W.heap.size ≤ M10 ∧ M9 ≠ M10 ∧ Below W.heap.size W W') (fun _ _ _ => False)) { tmps := #[u0, u1, u2, u3, .pointer (some ⟨P, 0, none⟩), .pointer (some ⟨A, 0, none⟩), .pointer (some ⟨B, 0, none⟩), u7, u8, u9, u10, u11, u12, u13, u14, u15, u16, u17, u18, u19, u20, u21, u22, u23, u24, u25, u26, u27, u28, u29, u30, u31, u32, u33, u34, u35, u36, u37, u38, u39, u40, u41, u42, u43, u44, u45, u46, u47, u48, u49, u50, u51, u52, u53, u54, u55, u56, u57, u58, u59, u60, u61, u62, u63, u64, u65, u66, u67], defers := [] } W := by
  show Code.wp _ (Code.region _ _ _) _ _ _
  refine wp_region_any (by kernel_rfl) ?_
  refine wpAny_inv (fun (b : Array Bool) a' w' => ∃ b0 b1 b2 b3 b4 b5 b6 b7 b8 b9 b10 b11 b12 b13 : Bool, b = #[b0, b1, b2, b3, b4, b5, b6, b7, b8, b9, b10, b11, b12, b13] ∧ ∃ v9 v10 v31 v32 v33 v34 v35 v36 v37 v38 v39 v40, a' = { tmps := #[u0, u1, u2, u3, .pointer (some ⟨P, 0, none⟩), .pointer (some ⟨A, 0, none⟩), .pointer (some ⟨B, 0, none⟩), u7, u8, v9, v10, u11, u12, u13, u14, u15, u16, u17, u18, u19, u20, u21, u22, u23, u24, u25, u26, u27, u28, u29, u30, v31, v32, v33, v34, v35, v36, v37, v38, v39, v40, u41, u42, u43, u44, u45, u46, u47, u48, u49, u50, u51, u52, u53, u54, u55, u56, u57, u58, u59, u60, u61, u62, u63, u64, u65, u66, u67], defers := [] } ∧ Below W.heap.size W w' ∧ (b0 = true → v32 = .agg #[.int .i32 c1, .int .i32 c2]) ∧ (b1 = true → v33 = .agg #[.int .i32 d1, .int .i32 d2]) ∧ (b2 = true → v34 = .agg #[.int .i32 o1, .int .i32 o2]) ∧ (b3 = true → v35 = .agg #[.int .i32 c1, .int .i32 c2]) ∧ (b4 = true → v36 = .agg #[.int .i32 d1, .int .i32 d2]) ∧ (b5 = true → RatAt w' v37 (t)) ∧ (b6 = true → TwoQ w' v38 (x) (y)) ∧ (b7 = true → TwoQ w' v31 (x) (y)) ∧ (b8 = true → RatAt w' v39 (x)) ∧ (b9 = true → RatAt w' v40 (y)) ∧ (b10 = true → BoxQ W w' v9 b12 (x)) ∧ (b11 = true → BoxQ W w' v10 b13 (y)) ∧ (b12 = true → b10 = true) ∧ (b13 = true → b11 = true) ∧ (b10 = true → b11 = true → v9 ≠ v10)) ?_ ?_ _ _ _ _ (by rfl) ?_
  · rintro listed a w i K ⟨b0, b1, b2, b3, b4, b5, b6, b7, b8, b9, b10, b11, b12, b13, rfl, v9, v10, v31, v32, v33, v34, v35, v36, v37, v38, v39, v40, rfl, hB, h0, h1, h2, h3, h4, h5, h6, h7, h8, h9, h10, h11, h12, h13, h14⟩ hi hK
    obtain ⟨hun, o, ho, hdep⟩ := mem_ready.1 hi
    have jP0 := (hB.cell (p := ⟨P, 0, none⟩) zP).trans kP0
    have jP1 := (hB.cell (p := ⟨P, 1, none⟩) zP).trans kP1
    have jA0 := (hB.cell (p := ⟨A, 0, none⟩) zA).trans kA0
    have jA1 := (hB.cell (p := ⟨A, 1, none⟩) zA).trans kA1
    have jB0 := (hB.cell (p := ⟨B, 0, none⟩) zB).trans kB0
    have jB1 := (hB.cell (p := ⟨B, 1, none⟩) zB).trans kB1
    have HI := Lib.hid (And.intro h0 (And.intro h1 (And.intro h2 (And.intro h3 (And.intro h4 (And.intro h5 (And.intro h6 (And.intro h7 (And.intro h8 (And.intro h9 (And.intro h10 (And.intro h11 (And.intro h12 (And.intro h13 (h14)))))))))))))))
    have HBW := Lib.hid hB
    have HK := Lib.hid hK
    clear h0 h1 h2 h3 h4 h5 h6 h7 h8 h9 h10 h11 h12 h13 h14 hB hK hi kP0 kP1 kA0 kA1 kB0 kB1
    rcases i with _ | _ | _ | _ | _ | _ | _ | _ | _ | _ | _ | _ | _ | _ | i
    · simp at ho
      subst ho
      try simp [Region.binds] at hdep
      unfold wpOp
      go_simp
      exact Or.inl (HK.out _ _ ⟨true, b1, b2, b3, b4, b5, b6, b7, b8, b9, b10, b11, b12, b13, rfl, v9, v10, v31, _, v33, v34, v35, v36, v37, v38, v39, v40, rfl, HBW.out, (fun _ => rfl), HI.out.2.1, HI.out.2.2.1, HI.out.2.2.2.1, HI.out.2.2.2.2.1, HI.out.2.2.2.2.2.1, HI.out.2.2.2.2.2.2.1, HI.out.2.2.2.2.2.2.2.1, HI.out.2.2.2.2.2.2.2.2.1, HI.out.2.2.2.2.2.2.2.2.2.1, HI.out.2.2.2.2.2.2.2.2.2.2.1, HI.out.2.2.2.2.2.2.2.2.2.2.2.1, HI.out.2.2.2.2.2.2.2.2.2.2.2.2.1, HI.out.2.2.2.2.2.2.2.2.2.2.2.2.2.1, HI.out.2.2.2.2.2.2.2.2.2.2.2.2.2.2⟩)
    · simp at ho
      subst ho
      try simp [Region.binds] at hdep
      unfold wpOp
      go_simp
      exact Or.inl (HK.out _ _ ⟨b0, true, b2, b3, b4, b5, b6, b7, b8, b9, b10, b11, b12, b13, rfl, v9, v10, v31, v32, _, v34, v35, v36, v37, v38, v39, v40, rfl, HBW.out, HI.out.1, (fun _ => rfl), HI.out.2.2.1, HI.out.2.2.2.1, HI.out.2.2.2.2.1, HI.out.2.2.2.2.2.1, HI.out.2.2.2.2.2.2.1, HI.out.2.2.2.2.2.2.2.1, HI.out.2.2.2.2.2.2.2.2.1, HI.out.2.2.2.2.2.2.2.2.2.1, HI.out.2.2.2.2.2.2.2.2.2.2.1, HI.out.2.2.2.2.2.2.2.2.2.2.2.1, HI.out.2.2.2.2.2.2.2.2.2.2.2.2.1, HI.out.2.2.2.2.2.2.2.2.2.2.2.2.2.1, HI.out.2.2.2.2.2.2.2.2.2.2.2.2.2.2⟩)
    · simp at ho
      subst ho
      try simp [Region.binds] at hdep
      unfold wpOp
      go_simp
      exact Or.inl (HK.out _ _ ⟨b0, b1, true, b3, b4, b5, b6, b7, b8, b9, b10, b11, b12, b13, rfl, v9, v10, v31, v32, v33, _, v35, v36, v37, v38, v39, v40, rfl, HBW.out, HI.out.1, HI.out.2.1, (fun _ => rfl), HI.out.2.2.2.1, HI.out.2.2.2.2.1, HI.out.2.2.2.2.2.1, HI.out.2.2.2.2.2.2.1, HI.out.2.2.2.2.2.2.2.1, HI.out.2.2.2.2.2.2.2.2.1, HI.out.2.2.2.2.2.2.2.2.2.1, HI.out.2.2.2.2.2.2.2.2.2.2.1, HI.out.2.2.2.2.2.2.2.2.2.2.2.1, HI.out.2.2.2.2.2.2.2.2.2.2.2.2.1, HI.out.2.2.2.2.2.2.2.2.2.2.2.2.2.1, HI.out.2.2.2.2.2.2.2.2.2.2.2.2.2.2⟩)
    · simp at ho
      subst ho
      try simp [Region.binds] at hdep
      unfold wpOp
      go_simp
      exact Or.inl (HK.out _ _ ⟨b0, b1, b2, true, b4, b5, b6, b7, b8, b9, b10, b11, b12, b13, rfl, v9, v10, v31, v32, v33, v34, _, v36, v37, v38, v39, v40, rfl, HBW.out, HI.out.1, HI.out.2.1, HI.out.2.2.1, (fun _ => rfl), HI.out.2.2.2.2.1, HI.out.2.2.2.2.2.1, HI.out.2.2.2.2.2.2.1, HI.out.2.2.2.2.2.2.2.1, HI.out.2.2.2.2.2.2.2.2.1, HI.out.2.2.2.2.2.2.2.2.2.1, HI.out.2.2.2.2.2.2.2.2.2.2.1, HI.out.2.2.2.2.2.2.2.2.2.2.2.1, HI.out.2.2.2.2.2.2.2.2.2.2.2.2.1, HI.out.2.2.2.2.2.2.2.2.2.2.2.2.2.1, HI.out.2.2.2.2.2.2.2.2.2.2.2.2.2.2⟩)
    · simp at ho
      subst ho
      try simp [Region.binds] at hdep
      unfold wpOp
      go_simp
      exact Or.inl (HK.out _ _ ⟨b0, b1, b2, b3, true, b5, b6, b7, b8, b9, b10, b11, b12, b13, rfl, v9, v10, v31, v32, v33, v34, v35, _, v37, v38, v39, v40, rfl, HBW.out, HI.out.1, HI.out.2.1, HI.out.2.2.1, HI.out.2.2.2.1, (fun _ => rfl), HI.out.2.2.2.2.2.1, HI.out.2.2.2.2.2.2.1, HI.out.2.2.2.2.2.2.2.1, HI.out.2.2.2.2.2.2.2.2.1, HI.out.2.2.2.2.2.2.2.2.2.1, HI.out.2.2.2.2.2.2.2.2.2.2.1, HI.out.2.2.2.2.2.2.2.2.2.2.2.1, HI.out.2.2.2.2.2.2.2.2.2.2.2.2.1, HI.out.2.2.2.2.2.2.2.2.2.2.2.2.2.1, HI.out.2.2.2.2.2.2.2.2.2.2.2.2.2.2⟩)
    · simp at ho
      subst ho
      try simp [Region.binds] at hdep
      have q2 := HI.out.2.2.1 (show b2 = true by first | exact hdep | exact hdep.1 | exact hdep.2 | exact hdep.2.1 | exact hdep.2.2 | exact hdep.2.2.1 | exact hdep.2.2.2 | exact hdep.2.2.2.1 | exact hdep.2.2.2.2 | exact hdep.2.2.2.2.1)
      subst q2
      have q3 := HI.out.2.2.2.1 (show b3 = true by first | exact hdep | exact hdep.1 | exact hdep.2 | exact hdep.2.1 | exact hdep.2.2 | exact hdep.2.2.1 | exact hdep.2.2.2 | exact hdep.2.2.2.1 | exact hdep.2.2.2.2 | exact hdep.2.2.2.2.1)
      subst q3
      have q4 := HI.out.2.2.2.2.1 (show b4 = true by first | exact hdep | exact hdep.1 | exact hdep.2 | exact hdep.2.1 | exact hdep.2.2 | exact hdep.2.2.1 | exact hdep.2.2.2 | exact hdep.2.2.2.1 | exact hdep.2.2.2.2 | exact hdep.2.2.2.2.1)
      subst q4
      unfold wpOp
      go_simp
      refine Or.inl ((HF.out _).mono ?_)
      rintro e wk ⟨z, rfl, hz, hb⟩
      exact HK.out _ _ ⟨b0, b1, b2, b3, b4, true, b6, b7, b8, b9, b10, b11, b12, b13, rfl, v9, v10, v31, v32, v33, _, _, _, _, v38, v39, v40, rfl, (HBW.out.trans (hb.mono HBW.out.size)), HI.out.1, HI.out.2.1, (fun _ => rfl), (fun _ => rfl), (fun _ => rfl), (fun _ => hz), (fun h => (HI.out.2.2.2.2.2.2.1 h).below hb), (fun h => (HI.out.2.2.2.2.2.2.2.1 h).below hb), (fun h => (HI.out.2.2.2.2.2.2.2.2.1 h).below hb), (fun h => (HI.out.2.2.2.2.2.2.2.2.2.1 h).below hb), (fun h => (HI.out.2.2.2.2.2.2.2.2.2.2.1 h).keep hb), (fun h => (HI.out.2.2.2.2.2.2.2.2.2.2.2.1 h).keep hb), HI.out.2.2.2.2.2.2.2.2.2.2.2.2.1, HI.out.2.2.2.2.2.2.2.2.2.2.2.2.2.1, HI.out.2.2.2.2.2.2.2.2.2.2.2.2.2.2⟩
    · simp at ho
      subst ho
      try simp [Region.binds] at hdep
      have q0 := HI.out.1 (show b0 = true by first | exact hdep | exact hdep.1 | exact hdep.2 | exact hdep.2.1 | exact hdep.2.2 | exact hdep.2.2.1 | exact hdep.2.2.2 | exact hdep.2.2.2.1 | exact hdep.2.2.2.2 | exact hdep.2.2.2.2.1)
      subst q0
      have q1 := HI.out.2.1 (show b1 = true by first | exact hdep | exact hdep.1 | exact hdep.2 | exact hdep.2.1 | exact hdep.2.2 | exact hdep.2.2.1 | exact hdep.2.2.2 | exact hdep.2.2.2.1 | exact hdep.2.2.2.2 | exact hdep.2.2.2.2.1)
      subst q1
      have R5 := Lib.hid (HI.out.2.2.2.2.2.1 (show b5 = true by first | exact hdep | exact hdep.1 | exact hdep.2 | exact hdep.2.1 | exact hdep.2.2 | exact hdep.2.2.1 | exact hdep.2.2.2 | exact hdep.2.2.2.1 | exact hdep.2.2.2.2 | exact hdep.2.2.2.2.1))
      unfold wpOp
      go_simp
      refine Or.inl ((HA.out _ _ R5.out).mono ?_)
      rintro e wk ⟨z1, z2, rfl, hz1, hz2, hb⟩
      exact HK.out _ _ ⟨b0, b1, b2, b3, b4, b5, true, b7, b8, b9, b10, b11, b12, b13, rfl, v9, v10, v31, _, _, v34, v35, v36, v37, _, v39, v40, rfl, (HBW.out.trans (hb.mono HBW.out.size)), (fun _ => rfl), (fun _ => rfl), HI.out.2.2.1, HI.out.2.2.2.1, HI.out.2.2.2.2.1, (fun h => (HI.out.2.2.2.2.2.1 h).below hb), (fun _ => ⟨z1, z2, rfl, hz1, hz2⟩), (fun h => (HI.out.2.2.2.2.2.2.2.1 h).below hb), (fun h => (HI.out.2.2.2.2.2.2.2.2.1 h).below hb), (fun h => (HI.out.2.2.2.2.2.2.2.2.2.1 h).below hb), (fun h => (HI.out.2.2.2.2.2.2.2.2.2.2.1 h).keep hb), (fun h => (HI.out.2.2.2.2.2.2.2.2.2.2.2.1 h).keep hb), HI.out.2.2.2.2.2.2.2.2.2.2.2.2.1, HI.out.2.2.2.2.2.2.2.2.2.2.2.2.2.1, HI.out.2.2.2.2.2.2.2.2.2.2.2.2.2.2⟩
    · simp at ho
      subst ho
      try simp [Region.binds] at hdep
      have r6 := HI.out.2.2.2.2.2.2.1 (show b6 = true by first | exact hdep | exact hdep.1 | exact hdep.2 | exact hdep.2.1 | exact hdep.2.2 | exact hdep.2.2.1 | exact hdep.2.2.2 | exact hdep.2.2.2.1 | exact hdep.2.2.2.2 | exact hdep.2.2.2.2.1)
      unfold wpOp
      go_simp
      exact Or.inl (HK.out _ _ ⟨b0, b1, b2, b3, b4, b5, b6, true, b8, b9, b10, b11, b12, b13, rfl, v9, v10, _, v32, v33, v34, v35, v36, v37, v38, v39, v40, rfl, HBW.out, HI.out.1, HI.out.2.1, HI.out.2.2.1, HI.out.2.2.2.1, HI.out.2.2.2.2.1, HI.out.2.2.2.2.2.1, HI.out.2.2.2.2.2.2.1, (fun _ => r6), HI.out.2.2.2.2.2.2.2.2.1, HI.out.2.2.2.2.2.2.2.2.2.1, HI.out.2.2.2.2.2.2.2.2.2.2.1, HI.out.2.2.2.2.2.2.2.2.2.2.2.1, HI.out.2.2.2.2.2.2.2.2.2.2.2.2.1, HI.out.2.2.2.2.2.2.2.2.2.2.2.2.2.1, HI.out.2.2.2.2.2.2.2.2.2.2.2.2.2.2⟩)
    · simp at ho
      subst ho
      try simp [Region.binds] at hdep
      obtain ⟨x1, x2, ex, rx1, rx2⟩ := HI.out.2.2.2.2.2.2.2.1 (show b7 = true by first | exact hdep | exact hdep.1 | exact hdep.2 | exact hdep.2.1 | exact hdep.2.2 | exact hdep.2.2.1 | exact hdep.2.2.2 | exact hdep.2.2.2.1 | exact hdep.2.2.2.2 | exact hdep.2.2.2.2.1)
      subst ex
      have RX := Lib.hid (And.intro rx1 rx2)
      clear rx1 rx2
      unfold wpOp
      go_simp
      exact Or.inl (HK.out _ _ ⟨b0, b1, b2, b3, b4, b5, b6, b7, true, b9, b10, b11, b12, b13, rfl, v9, v10, _, v32, v33, v34, v35, v36, v37, v38, _, v40, rfl, HBW.out, HI.out.1, HI.out.2.1, HI.out.2.2.1, HI.out.2.2.2.1, HI.out.2.2.2.2.1, HI.out.2.2.2.2.2.1, HI.out.2.2.2.2.2.2.1, (fun _ => ⟨x1, x2, rfl, RX.out.1, RX.out.2⟩), (fun _ => RX.out.1), HI.out.2.2.2.2.2.2.2.2.2.1, HI.out.2.2.2.2.2.2.2.2.2.2.1, HI.out.2.2.2.2.2.2.2.2.2.2.2.1, HI.out.2.2.2.2.2.2.2.2.2.2.2.2.1, HI.out.2.2.2.2.2.2.2.2.2.2.2.2.2.1, HI.out.2.2.2.2.2.2.2.2.2.2.2.2.2.2⟩)
    · simp at ho
      subst ho
      try simp [Region.binds] at hdep
      obtain ⟨x1, x2, ex, rx1, rx2⟩ := HI.out.2.2.2.2.2.2.2.1 (show b7 = true by first | exact hdep | exact hdep.1 | exact hdep.2 | exact hdep.2.1 | exact hdep.2.2 | exact hdep.2.2.1 | exact hdep.2.2.2 | exact hdep.2.2.2.1 | exact hdep.2.2.2.2 | exact hdep.2.2.2.2.1)
      subst ex
      have RX := Lib.hid (And.intro rx1 rx2)
      clear rx1 rx2
      unfold wpOp
      go_simp
      exact Or.inl (HK.out _ _ ⟨b0, b1, b2, b3, b4, b5, b6, b7, b8, true, b10, b11, b12, b13, rfl, v9, v10, _, v32, v33, v34, v35, v36, v37, v38, v39, _, rfl, HBW.out, HI.out.1, HI.out.2.1, HI.out.2.2.1, HI.out.2.2.2.1, HI.out.2.2.2.2.1, HI.out.2.2.2.2.2.1, HI.out.2.2.2.2.2.2.1, (fun _ => ⟨x1, x2, rfl, RX.out.1, RX.out.2⟩), HI.out.2.2.2.2.2.2.2.2.1, (fun _ => RX.out.2), HI.out.2.2.2.2.2.2.2.2.2.2.1, HI.out.2.2.2.2.2.2.2.2.2.2.2.1, HI.out.2.2.2.2.2.2.2.2.2.2.2.2.1, HI.out.2.2.2.2.2.2.2.2.2.2.2.2.2.1, HI.out.2.2.2.2.2.2.2.2.2.2.2.2.2.2⟩)
    · simp at ho
      subst ho
      try simp [Region.binds] at hdep
      have hb10 : b10 = false := by simpa using hun
      subst hb10
      have hb12 : b12 = false := by
        cases hb : b12
        · rfl
        · exact absurd (HI.out.2.2.2.2.2.2.2.2.2.2.2.2.1 hb) (by decide)
      subst hb12
      unfold wpOp
      go_simp
      exact Or.inl (HK.out _ _ ⟨b0, b1, b2, b3, b4, b5, b6, b7, b8, b9, true, b11, false, b13, rfl, _, v10, v31, v32, v33, v34, v35, v36, v37, v38, v39, v40, rfl, (HBW.out.alloc HBW.out.size _), HI.out.1, HI.out.2.1, HI.out.2.2.1, HI.out.2.2.2.1, HI.out.2.2.2.2.1, (fun h => (HI.out.2.2.2.2.2.1 h).below ((Below.refl _ _).alloc (Nat.le_refl _) _)), (fun h => (HI.out.2.2.2.2.2.2.1 h).below ((Below.refl _ _).alloc (Nat.le_refl _) _)), (fun h => (HI.out.2.2.2.2.2.2.2.1 h).below ((Below.refl _ _).alloc (Nat.le_refl _) _)), (fun h => (HI.out.2.2.2.2.2.2.2.2.1 h).below ((Below.refl _ _).alloc (Nat.le_refl _) _)), (fun h => (HI.out.2.2.2.2.2.2.2.2.2.1 h).below ((Below.refl _ _).alloc (Nat.le_refl _) _)), (fun _ => BoxQ.new _ HBW.out.size), (fun h => (HI.out.2.2.2.2.2.2.2.2.2.2.2.1 h).keep ((Below.refl _ _).alloc (Nat.le_refl _) _)), (fun h => by cases h), HI.out.2.2.2.2.2.2.2.2.2.2.2.2.2.1, (fun _ h h' => (HI.out.2.2.2.2.2.2.2.2.2.2.2.1 h).fresh h'.symm)⟩)
    · simp at ho
      subst ho
      try simp [Region.binds] at hdep
      have hb11 : b11 = false := by simpa using hun
      subst hb11
      have hb13 : b13 = false := by
        cases hb : b13
        · rfl
        · exact absurd (HI.out.2.2.2.2.2.2.2.2.2.2.2.2.2.1 hb) (by decide)
      subst hb13
      unfold wpOp
      go_simp
      exact Or.inl (HK.out _ _ ⟨b0, b1, b2, b3, b4, b5, b6, b7, b8, b9, b10, true, b12, false, rfl, v9, _, v31, v32, v33, v34, v35, v36, v37, v38, v39, v40, rfl, (HBW.out.alloc HBW.out.size _), HI.out.1, HI.out.2.1, HI.out.2.2.1, HI.out.2.2.2.1, HI.out.2.2.2.2.1, (fun h => (HI.out.2.2.2.2.2.1 h).below ((Below.refl _ _).alloc (Nat.le_refl _) _)), (fun h => (HI.out.2.2.2.2.2.2.1 h).below ((Below.refl _ _).alloc (Nat.le_refl _) _)), (fun h => (HI.out.2.2.2.2.2.2.2.1 h).below ((Below.refl _ _).alloc (Nat.le_refl _) _)), (fun h => (HI.out.2.2.2.2.2.2.2.2.1 h).below ((Below.refl _ _).alloc (Nat.le_refl _) _)), (fun h => (HI.out.2.2.2.2.2.2.2.2.2.1 h).below ((Below.refl _ _).alloc (Nat.le_refl _) _)), (fun h => (HI.out.2.2.2.2.2.2.2.2.2.2.1 h).keep ((Below.refl _ _).alloc (Nat.le_refl _) _)), (fun _ => BoxQ.new _ HBW.out.size), HI.out.2.2.2.2.2.2.2.2.2.2.2.2.1, (fun h => by cases h), (fun h _ h' => (HI.out.2.2.2.2.2.2.2.2.2.2.1 h).fresh h')⟩)
    · have hb12 : b12 = false := by simpa using hun
      subst hb12
      simp at ho
      subst ho
      try simp [Region.binds] at hdep
      obtain ⟨M, eM, hM, vM⟩ := (HI.out.2.2.2.2.2.2.2.2.2.2.1 (show b10 = true by first | exact hdep | exact hdep.1 | exact hdep.2 | exact hdep.2.1 | exact hdep.2.2 | exact hdep.2.2.1 | exact hdep.2.2.2 | exact hdep.2.2.2.1 | exact hdep.2.2.2.2 | exact hdep.2.2.2.2.1)).open
      subst eM
      have dal := (show b10 = true by first | exact hdep | exact hdep.1 | exact hdep.2 | exact hdep.2.1 | exact hdep.2.2 | exact hdep.2.2.1 | exact hdep.2.2.2 | exact hdep.2.2.2.1 | exact hdep.2.2.2.2 | exact hdep.2.2.2.2.1)
      obtain ⟨g1, gA, gm, gc, g2, gB, gn, gd, e', r1, r2⟩ := HI.out.2.2.2.2.2.2.2.2.1 (show b8 = true by first | exact hdep | exact hdep.1 | exact hdep.2 | exact hdep.2.1 | exact hdep.2.2 | exact hdep.2.2.1 | exact hdep.2.2.2 | exact hdep.2.2.2.1 | exact hdep.2.2.2.2 | exact hdep.2.2.2.2.1)
      subst e'
      have m0 : w.cell? ⟨M, 0, none⟩ = some (.bool false) := vM.cell 0
      have f0 := vM.free 0
      have m1 : w.cell? ⟨M, 1, none⟩ = some (.slice none 0 0) := vM.cell 1
      have f1 := vM.free 1
      have m2 : w.cell? ⟨M, 2, none⟩ = some (.bool false) := vM.cell 2
      have f2 := vM.free 2
      have m3 : w.cell? ⟨M, 3, none⟩ = some (.slice none 0 0) := vM.cell 3
      have f3 := vM.free 3
      have HVM := Lib.hid vM
      have HR := Lib.hid (rat_mk r1 r2)
      clear vM r1 r2
      unfold wpOp
      go_simp
      exact Or.inl (HK.out _ _ ⟨b0, b1, b2, b3, b4, b5, b6, b7, b8, b9, b10, b11, true, b13, rfl, _, v10, v31, v32, v33, v34, v35, v36, v37, v38, _, v40, rfl, (below_four HBW.out hM _ _ _ _), HI.out.1, HI.out.2.1, HI.out.2.2.1, HI.out.2.2.2.1, HI.out.2.2.2.2.1, (fun h => (HI.out.2.2.2.2.2.1 h).four HVM.out (by decide) _ _ _ _), (fun h => (HI.out.2.2.2.2.2.2.1 h).four HVM.out (by decide) _ _ _ _), (fun h => (HI.out.2.2.2.2.2.2.2.1 h).four HVM.out (by decide) _ _ _ _), (fun _ => HR.out.four HVM.out (by decide) _ _ _ _), (fun h => (HI.out.2.2.2.2.2.2.2.2.2.1 h).four HVM.out (by decide) _ _ _ _), (fun _ => BoxQ.fill HVM.out hM HR.out), (fun h => BoxQ.far (HI.out.2.2.2.2.2.2.2.2.2.2.2.1 h) HVM.out (Ne.symm (HI.out.2.2.2.2.2.2.2.2.2.2.2.2.2.2 dal h)) _ _ _ _), (fun _ => dal), HI.out.2.2.2.2.2.2.2.2.2.2.2.2.2.1, HI.out.2.2.2.2.2.2.2.2.2.2.2.2.2.2⟩)
    · have hb13 : b13 = false := by simpa using hun
      subst hb13
      simp at ho
      subst ho
      try simp [Region.binds] at hdep
      obtain ⟨M, eM, hM, vM⟩ := (HI.out.2.2.2.2.2.2.2.2.2.2.2.1 (show b11 = true by first | exact hdep | exact hdep.1 | exact hdep.2 | exact hdep.2.1 | exact hdep.2.2 | exact hdep.2.2.1 | exact hdep.2.2.2 | exact hdep.2.2.2.1 | exact hdep.2.2.2.2 | exact hdep.2.2.2.2.1)).open
      subst eM
      have dal := (show b11 = true by first | exact hdep | exact hdep.1 | exact hdep.2 | exact hdep.2.1 | exact hdep.2.2 | exact hdep.2.2.1 | exact hdep.2.2.2 | exact hdep.2.2.2.1 | exact hdep.2.2.2.2 | exact hdep.2.2.2.2.1)
      obtain ⟨g1, gA, gm, gc, g2, gB, gn, gd, e', r1, r2⟩ := HI.out.2.2.2.2.2.2.2.2.2.1 (show b9 = true by first | exact hdep | exact hdep.1 | exact hdep.2 | exact hdep.2.1 | exact hdep.2.2 | exact hdep.2.2.1 | exact hdep.2.2.2 | exact hdep.2.2.2.1 | exact hdep.2.2.2.2 | exact hdep.2.2.2.2.1)
      subst e'
      have m0 : w.cell? ⟨M, 0, none⟩ = some (.bool false) := vM.cell 0
      have f0 := vM.free 0
      have m1 : w.cell? ⟨M, 1, none⟩ = some (.slice none 0 0) := vM.cell 1
      have f1 := vM.free 1
      have m2 : w.cell? ⟨M, 2, none⟩ = some (.bool false) := vM.cell 2
      have f2 := vM.free 2
      have m3 : w.cell? ⟨M, 3, none⟩ = some (.slice none 0 0) := vM.cell 3
      have f3 := vM.free 3
      have HVM := Lib.hid vM
      have HR := Lib.hid (rat_mk r1 r2)
      clear vM r1 r2
      unfold wpOp
      go_simp
      exact Or.inl (HK.out _ _ ⟨b0, b1, b2, b3, b4, b5, b6, b7, b8, b9, b10, b11, b12, true, rfl, v9, _, v31, v32, v33, v34, v35, v36, v37, v38, v39, _, rfl, (below_four HBW.out hM _ _ _ _), HI.out.1, HI.out.2.1, HI.out.2.2.1, HI.out.2.2.2.1, HI.out.2.2.2.2.1, (fun h => (HI.out.2.2.2.2.2.1 h).four HVM.out (by decide) _ _ _ _), (fun h => (HI.out.2.2.2.2.2.2.1 h).four HVM.out (by decide) _ _ _ _), (fun h => (HI.out.2.2.2.2.2.2.2.1 h).four HVM.out (by decide) _ _ _ _), (fun h => (HI.out.2.2.2.2.2.2.2.2.1 h).four HVM.out (by decide) _ _ _ _), (fun _ => HR.out.four HVM.out (by decide) _ _ _ _), (fun h => BoxQ.far (HI.out.2.2.2.2.2.2.2.2.2.2.1 h) HVM.out (HI.out.2.2.2.2.2.2.2.2.2.2.2.2.2.2 h dal) _ _ _ _), (fun _ => BoxQ.fill HVM.out hM HR.out), HI.out.2.2.2.2.2.2.2.2.2.2.2.2.1, (fun _ => dal), HI.out.2.2.2.2.2.2.2.2.2.2.2.2.2.2⟩)
    · simp at ho
  · rintro listed a w ⟨b0, b1, b2, b3, b4, b5, b6, b7, b8, b9, b10, b11, b12, b13, rfl, v9, v10, v31, v32, v33, v34, v35, v36, v37, v38, v39, v40, rfl, hB, h0, h1, h2, h3, h4, h5, h6, h7, h8, h9, h10, h11, h12, h13, h14⟩ hr
    have hall := ready_nilM (by kernel_rfl) (by rfl) hr
    have t0 : b0 = true := hall 0 (by decide)
    have t1 : b1 = true := hall 1 (by decide)
    have t2 : b2 = true := hall 2 (by decide)
    have t3 : b3 = true := hall 3 (by decide)
    have t4 : b4 = true := hall 4 (by decide)
    have t5 : b5 = true := hall 5 (by decide)
    have t6 : b6 = true := hall 6 (by decide)
    have t7 : b7 = true := hall 7 (by decide)
    have t8 : b8 = true := hall 8 (by decide)
    have t9 : b9 = true := hall 9 (by decide)
    have t10 : b10 = true := hall 10 (by decide)
    have t11 : b11 = true := hall 11 (by decide)
    have t12 : b12 = true := hall 12 (by decide)
    have t13 : b13 = true := hall 13 (by decide)
    subst t0 t1 t2 t3 t4 t5 t6 t7 t8 t9 t10 t11 t12 t13
    obtain ⟨M9, g1_9, gA_9, gm_9, gc_9, g2_9, gB_9, gn_9, gd_9, eM9, hM9, vM9, rM9⟩ := (h10 rfl).full
    obtain ⟨M10, g1_10, gA_10, gm_10, gc_10, g2_10, gB_10, gn_10, gd_10, eM10, hM10, vM10, rM10⟩ := (h11 rfl).full
    have ne0 : M9 ≠ M10 := fun h => h14 rfl rfl (by rw [eM9, eM10, h])
    subst eM9
    subst eM10
    exact ⟨M9, g1_9, gA_9, gm_9, gc_9, g2_9, gB_9, gn_9, gd_9, M10, g1_10, gA_10, gm_10, gc_10, g2_10, gB_10, gn_10, gd_10, _, _, _, _, _, _, _, _, _, _, rfl, vM9, rM9, hM9, vM10, rM10, hM10, ne0, hB⟩
  · refine ⟨false, false, false, false, false, false, false, false, false, false, false, false, false, false, rfl, _, _, _, _, _, _, _, _, _, _, _, _, rfl, (Below.refl _ _).drew, ?_, ?_, ?_, ?_, ?_, ?_, ?_, ?_, ?_, ?_, ?_, ?_, ?_, ?_, ?_⟩ <;> (intro h; cases h)

set_option maxHeartbeats 8000000 in
set_option maxRecDepth 100000 in
theorem near_reg4 (W : World) (P T : Nat) (o1 o2 : Int) (x : Q) (q1 q2 : Bool) (qA qB : Option Addr) (qm qc qn qd : Nat) (Hq : Hid (RatAt W (.agg #[.bool q1, .slice qA qm qc, .bool q2, .slice qB qn qd]) x)) (Kq : Hid (QS 73 x)) (e1 : IntKind.i64.wrap o1 = o1) (n1 : I64 o1)
    (kP0 : W.cell? ⟨P, 0, none⟩ = some (.int .i32 o1))
    (kP1 : W.cell? ⟨P, 1, none⟩ = some (.int .i32 o2))
    (zP : P < W.heap.size)
    (kT0 : W.cell? ⟨T, 0, none⟩ = some (.bool q1))
    (kT1 : W.cell? ⟨T, 1, none⟩ = some (.slice qA qm qc))
    (kT2 : W.cell? ⟨T, 2, none⟩ = some (.bool q2))
    (kT3 : W.cell? ⟨T, 3, none⟩ = some (.slice qB qn qd))
    (zT : T < W.heap.size)
    (u0 u1 u2 u3 u5 u6 u7 u8 u10 u11 u12 u13 u14 u15 u16 u17 u18 u19 u20 u21 u22 u23 u24 u25 u26 u27 u28 u29 u30 u31 u32 u33 u34 u35 u36 u37 u38 u39 u40 u41 u42 u43 u44 u45 u46 u47 u48 u49 u50 u51 u52 u53 u54 u55 u56 u57 u58 u59 u60 u61 u62 u63 u64 u65 u66 u67 : Value) :
    (regionO Try.f17 4).wp Try.prog (Exit.then (fun a' W' => ∃ M11 g1_11 gA_11 gm_11 gc_11 g2_11 gB_11 gn_11 gd_11 v41 v42 v43 v44 v45 v46, a' = { tmps := #[u0, u1, u2, u3, .pointer (some ⟨P, 0, none⟩), u5, u6, u7, u8, .pointer (some ⟨T, 0, none⟩), u10, .pointer (some ⟨M11, 0, none⟩), u12, u13, u14, u15, u16, u17, u18, u19, u20, u21, u22, u23, u24, u25, u26, u27, u28, u29, u30, u31, u32, u33, u34, u35, u36, u37, u38, u39, u40, v41, v42, v43, v44, v45, v46, u47, u48, u49, u50, u51, u52, u53, u54, u55, u56, u57, u58, u59, u60, u61, u62, u63, u64, u65, u66, u67], defers := [] } ∧ Var W' M11 53 #[.bool g1_11, .slice gA_11 gm_11 gc_11, .bool g2_11, .slice gB_11 gn_11 gd_11] ∧ RatAt W' (.agg #[.bool g1_11, .slice gA_11 gm_11 gc_11, .bool g2_11, .slice gB_11 gn_11 gd_11]) (qsub (qw (o1)) (x)) ∧ W.heap.size ≤ M11 ∧ Below W.heap.size W W') (fun _ _ _ => False)) { tmps := #[u0, u1, u2, u3, .pointer (some ⟨P, 0, none⟩), u5, u6, u7, u8, .pointer (some ⟨T, 0, none⟩), u10, u11, u12, u13, u14, u15, u16, u17, u18, u19, u20, u21, u22, u23, u24, u25, u26, u27, u28, u29, u30, u31, u32, u33, u34, u35, u36, u37, u38, u39, u40, u41, u42, u43, u44, u45, u46, u47, u48, u49, u50, u51, u52, u53, u54, u55, u56, u57, u58, u59, u60, u61, u62, u63, u64, u65, u66, u67], defers := [] } W := by
  have KX1 : Hid (QS 2 (qw (o1))) := Lib.hid (qs_w n1)
  have KX2 : Hid (QS 147 (qsub (qw (o1)) (x))) := Lib.hid (QS.mono (qs_sub (k := 73) (KX1.out.mono (show 2 ≤ 73 by decide)) (Kq.out.mono (show 73 ≤ 73 by decide))) (show 73 + 73 + 1 ≤ 147 by decide))
  show Code.wp _ (Code.region _ _ _) _ _ _
  refine wp_region_any (by kernel_rfl) ?_
  refine wpAny_inv (fun (b : Array Bool) a' w' => ∃ b0 b1 b2 b3 b4 b5 b6 b7 : Bool, b = #[b0, b1, b2, b3, b4, b5, b6, b7] ∧ ∃ v11 v41 v42 v43 v44 v45 v46, a' = { tmps := #[u0, u1, u2, u3, .pointer (some ⟨P, 0, none⟩), u5, u6, u7, u8, .pointer (some ⟨T, 0, none⟩), u10, v11, u12, u13, u14, u15, u16, u17, u18, u19, u20, u21, u22, u23, u24, u25, u26, u27, u28, u29, u30, u31, u32, u33, u34, u35, u36, u37, u38, u39, u40, v41, v42, v43, v44, v45, v46, u47, u48, u49, u50, u51, u52, u53, u54, u55, u56, u57, u58, u59, u60, u61, u62, u63, u64, u65, u66, u67], defers := [] } ∧ Below W.heap.size W w' ∧ (b0 = true → v41 = .pointer (some ⟨P, 0, none⟩)) ∧ (b1 = true → v42 = .int .i32 (o1)) ∧ (b2 = true → v43 = .int .i64 (o1)) ∧ (b3 = true → RatAt w' v44 (qw (o1))) ∧ (b4 = true → v45 = .agg #[.bool q1, .slice qA qm qc, .bool q2, .slice qB qn qd]) ∧ (b5 = true → RatAt w' v46 (qsub (qw (o1)) (x))) ∧ (b6 = true → BoxQ W w' v11 b7 (qsub (qw (o1)) (x))) ∧ (b7 = true → b6 = true)) ?_ ?_ _ _ _ _ (by rfl) ?_
  · rintro listed a w i K ⟨b0, b1, b2, b3, b4, b5, b6, b7, rfl, v11, v41, v42, v43, v44, v45, v46, rfl, hB, h0, h1, h2, h3, h4, h5, h6, h7⟩ hi hK
    obtain ⟨hun, o, ho, hdep⟩ := mem_ready.1 hi
    have jP0 := (hB.cell (p := ⟨P, 0, none⟩) zP).trans kP0
    have jP1 := (hB.cell (p := ⟨P, 1, none⟩) zP).trans kP1
    have jT0 := (hB.cell (p := ⟨T, 0, none⟩) zT).trans kT0
    have jT1 := (hB.cell (p := ⟨T, 1, none⟩) zT).trans kT1
    have jT2 := (hB.cell (p := ⟨T, 2, none⟩) zT).trans kT2
    have jT3 := (hB.cell (p := ⟨T, 3, none⟩) zT).trans kT3
    have HI := Lib.hid (And.intro h0 (And.intro h1 (And.intro h2 (And.intro h3 (And.intro h4 (And.intro h5 (And.intro h6 (h7))))))))
    have HBW := Lib.hid hB
    have HK := Lib.hid hK
    clear h0 h1 h2 h3 h4 h5 h6 h7 hB hK hi kP0 kP1 kT0 kT1 kT2 kT3
    rcases i with _ | _ | _ | _ | _ | _ | _ | _ | i
    · simp at ho
      subst ho
      try simp [Region.binds] at hdep
      unfold wpOp
      go_simp
      exact Or.inl (HK.out _ _ ⟨true, b1, b2, b3, b4, b5, b6, b7, rfl, v11, _, v42, v43, v44, v45, v46, rfl, HBW.out, (fun _ => rfl), HI.out.2.1, HI.out.2.2.1, HI.out.2.2.2.1, HI.out.2.2.2.2.1, HI.out.2.2.2.2.2.1, HI.out.2.2.2.2.2.2.1, HI.out.2.2.2.2.2.2.2⟩)
    · simp at ho
      subst ho
      try simp [Region.binds] at hdep
      have q0 := HI.out.1 (show b0 = true by first | exact hdep | exact hdep.1 | exact hdep.2 | exact hdep.2.1 | exact hdep.2.2 | exact hdep.2.2.1 | exact hdep.2.2.2 | exact hdep.2.2.2.1 | exact hdep.2.2.2.2 | exact hdep.2.2.2.2.1)
      subst q0
      unfold wpOp
      go_simp
      exact Or.inl (HK.out _ _ ⟨b0, true, b2, b3, b4, b5, b6, b7, rfl, v11, _, _, v43, v44, v45, v46, rfl, HBW.out, (fun _ => rfl), (fun _ => rfl), HI.out.2.2.1, HI.out.2.2.2.1, HI.out.2.2.2.2.1, HI.out.2.2.2.2.2.1, HI.out.2.2.2.2.2.2.1, HI.out.2.2.2.2.2.2.2⟩)
    · simp at ho
      subst ho
      try simp [Region.binds] at hdep
      have q1 := HI.out.2.1 (show b1 = true by first | exact hdep | exact hdep.1 | exact hdep.2 | exact hdep.2.1 | exact hdep.2.2 | exact hdep.2.2.1 | exact hdep.2.2.2 | exact hdep.2.2.2.1 | exact hdep.2.2.2.2 | exact hdep.2.2.2.2.1)
      subst q1
      unfold wpOp
      go_simp
      exact Or.inl (HK.out _ _ ⟨b0, b1, true, b3, b4, b5, b6, b7, rfl, v11, v41, _, _, v44, v45, v46, rfl, HBW.out, HI.out.1, (fun _ => rfl), (fun _ => rfl), HI.out.2.2.2.1, HI.out.2.2.2.2.1, HI.out.2.2.2.2.2.1, HI.out.2.2.2.2.2.2.1, HI.out.2.2.2.2.2.2.2⟩)
    · simp at ho
      subst ho
      try simp [Region.binds] at hdep
      have q2 := HI.out.2.2.1 (show b2 = true by first | exact hdep | exact hdep.1 | exact hdep.2 | exact hdep.2.1 | exact hdep.2.2 | exact hdep.2.2.1 | exact hdep.2.2.2 | exact hdep.2.2.2.1 | exact hdep.2.2.2.2 | exact hdep.2.2.2.2.1)
      subst q2
      unfold wpOp
      go_simp
      refine Or.inl ((whole_q (o1) n1 _).mono ?_)
      rintro e wk ⟨z, rfl, hz, hb⟩
      exact HK.out _ _ ⟨b0, b1, b2, true, b4, b5, b6, b7, rfl, v11, v41, v42, _, _, v45, v46, rfl, (HBW.out.trans (hb.mono HBW.out.size)), HI.out.1, HI.out.2.1, (fun _ => rfl), (fun _ => hz), HI.out.2.2.2.2.1, (fun h => (HI.out.2.2.2.2.2.1 h).below hb), (fun h => (HI.out.2.2.2.2.2.2.1 h).keep hb), HI.out.2.2.2.2.2.2.2⟩
    · simp at ho
      subst ho
      try simp [Region.binds] at hdep
      unfold wpOp
      go_simp
      exact Or.inl (HK.out _ _ ⟨b0, b1, b2, b3, true, b5, b6, b7, rfl, v11, v41, v42, v43, v44, _, v46, rfl, HBW.out, HI.out.1, HI.out.2.1, HI.out.2.2.1, HI.out.2.2.2.1, (fun _ => rfl), HI.out.2.2.2.2.2.1, HI.out.2.2.2.2.2.2.1, HI.out.2.2.2.2.2.2.2⟩)
    · simp at ho
      subst ho
      try simp [Region.binds] at hdep
      have q4 := HI.out.2.2.2.2.1 (show b4 = true by first | exact hdep | exact hdep.1 | exact hdep.2 | exact hdep.2.1 | exact hdep.2.2 | exact hdep.2.2.1 | exact hdep.2.2.2 | exact hdep.2.2.2.1 | exact hdep.2.2.2.2 | exact hdep.2.2.2.2.1)
      subst q4
      have R3 := Lib.hid (HI.out.2.2.2.1 (show b3 = true by first | exact hdep | exact hdep.1 | exact hdep.2 | exact hdep.2.1 | exact hdep.2.2 | exact hdep.2.2.1 | exact hdep.2.2.2 | exact hdep.2.2.2.1 | exact hdep.2.2.2.2 | exact hdep.2.2.2.2.1))
      unfold wpOp
      go_simp
      refine Or.inl ((sub_q R3.out (Hq.out.below HBW.out) (KX1.out.mono (show 2 ≤ 73 by decide)) (Kq.out.mono (show 73 ≤ 73 by decide)) (by decide) _ (Below.refl _ _)).mono ?_)
      rintro e wk ⟨z, rfl, hz, hb⟩
      exact HK.out _ _ ⟨b0, b1, b2, b3, b4, true, b6, b7, rfl, v11, v41, v42, v43, v44, _, _, rfl, (HBW.out.trans (hb.mono HBW.out.size)), HI.out.1, HI.out.2.1, HI.out.2.2.1, (fun h => (HI.out.2.2.2.1 h).below hb), (fun _ => rfl), (fun _ => hz), (fun h => (HI.out.2.2.2.2.2.2.1 h).keep hb), HI.out.2.2.2.2.2.2.2⟩
    · simp at ho
      subst ho
      try simp [Region.binds] at hdep
      have hb6 : b6 = false := by simpa using hun
      subst hb6
      have hb7 : b7 = false := by
        cases hb : b7
        · rfl
        · exact absurd (HI.out.2.2.2.2.2.2.2 hb) (by decide)
      subst hb7
      unfold wpOp
      go_simp
      exact Or.inl (HK.out _ _ ⟨b0, b1, b2, b3, b4, b5, true, false, rfl, _, v41, v42, v43, v44, v45, v46, rfl, (HBW.out.alloc HBW.out.size _), HI.out.1, HI.out.2.1, HI.out.2.2.1, (fun h => (HI.out.2.2.2.1 h).below ((Below.refl _ _).alloc (Nat.le_refl _) _)), HI.out.2.2.2.2.1, (fun h => (HI.out.2.2.2.2.2.1 h).below ((Below.refl _ _).alloc (Nat.le_refl _) _)), (fun _ => BoxQ.new _ HBW.out.size), (fun h => by cases h)⟩)
    · have hb7 : b7 = false := by simpa using hun
      subst hb7
      simp at ho
      subst ho
      try simp [Region.binds] at hdep
      obtain ⟨M, eM, hM, vM⟩ := (HI.out.2.2.2.2.2.2.1 (show b6 = true by first | exact hdep | exact hdep.1 | exact hdep.2 | exact hdep.2.1 | exact hdep.2.2 | exact hdep.2.2.1 | exact hdep.2.2.2 | exact hdep.2.2.2.1 | exact hdep.2.2.2.2 | exact hdep.2.2.2.2.1)).open
      subst eM
      have dal := (show b6 = true by first | exact hdep | exact hdep.1 | exact hdep.2 | exact hdep.2.1 | exact hdep.2.2 | exact hdep.2.2.1 | exact hdep.2.2.2 | exact hdep.2.2.2.1 | exact hdep.2.2.2.2 | exact hdep.2.2.2.2.1)
      obtain ⟨g1, gA, gm, gc, g2, gB, gn, gd, e', r1, r2⟩ := HI.out.2.2.2.2.2.1 (show b5 = true by first | exact hdep | exact hdep.1 | exact hdep.2 | exact hdep.2.1 | exact hdep.2.2 | exact hdep.2.2.1 | exact hdep.2.2.2 | exact hdep.2.2.2.1 | exact hdep.2.2.2.2 | exact hdep.2.2.2.2.1)
      subst e'
      have m0 : w.cell? ⟨M, 0, none⟩ = some (.bool false) := vM.cell 0
      have f0 := vM.free 0
      have m1 : w.cell? ⟨M, 1, none⟩ = some (.slice none 0 0) := vM.cell 1
      have f1 := vM.free 1
      have m2 : w.cell? ⟨M, 2, none⟩ = some (.bool false) := vM.cell 2
      have f2 := vM.free 2
      have m3 : w.cell? ⟨M, 3, none⟩ = some (.slice none 0 0) := vM.cell 3
      have f3 := vM.free 3
      have HVM := Lib.hid vM
      have HR := Lib.hid (rat_mk r1 r2)
      clear vM r1 r2
      unfold wpOp
      go_simp
      exact Or.inl (HK.out _ _ ⟨b0, b1, b2, b3, b4, b5, b6, true, rfl, _, v41, v42, v43, v44, v45, _, rfl, (below_four HBW.out hM _ _ _ _), HI.out.1, HI.out.2.1, HI.out.2.2.1, (fun h => (HI.out.2.2.2.1 h).four HVM.out (by decide) _ _ _ _), HI.out.2.2.2.2.1, (fun _ => HR.out.four HVM.out (by decide) _ _ _ _), (fun _ => BoxQ.fill HVM.out hM HR.out), (fun _ => dal)⟩)
    · simp at ho
  · rintro listed a w ⟨b0, b1, b2, b3, b4, b5, b6, b7, rfl, v11, v41, v42, v43, v44, v45, v46, rfl, hB, h0, h1, h2, h3, h4, h5, h6, h7⟩ hr
    have hall := ready_nilM (by kernel_rfl) (by rfl) hr
    have t0 : b0 = true := hall 0 (by decide)
    have t1 : b1 = true := hall 1 (by decide)
    have t2 : b2 = true := hall 2 (by decide)
    have t3 : b3 = true := hall 3 (by decide)
    have t4 : b4 = true := hall 4 (by decide)
    have t5 : b5 = true := hall 5 (by decide)
    have t6 : b6 = true := hall 6 (by decide)
    have t7 : b7 = true := hall 7 (by decide)
    subst t0 t1 t2 t3 t4 t5 t6 t7
    obtain ⟨M11, g1_11, gA_11, gm_11, gc_11, g2_11, gB_11, gn_11, gd_11, eM11, hM11, vM11, rM11⟩ := (h6 rfl).full
    subst eM11
    exact ⟨M11, g1_11, gA_11, gm_11, gc_11, g2_11, gB_11, gn_11, gd_11, _, _, _, _, _, _, rfl, vM11, rM11, hM11, hB⟩
  · refine ⟨false, false, false, false, false, false, false, false, rfl, _, _, _, _, _, _, _, rfl, (Below.refl _ _).drew, ?_, ?_, ?_, ?_, ?_, ?_, ?_, ?_⟩ <;> (intro h; cases h)

set_option maxHeartbeats 8000000 in
set_option maxRecDepth 100000 in
theorem near_reg5 (W : World) (P T : Nat) (o1 o2 : Int) (x : Q) (q1 q2 : Bool) (qA qB : Option Addr) (qm qc qn qd : Nat) (Hq : Hid (RatAt W (.agg #[.bool q1, .slice qA qm qc, .bool q2, .slice qB qn qd]) x)) (Kq : Hid (QS 73 x)) (e1 : IntKind.i64.wrap o2 = o2) (n1 : I64 o2)
    (kP0 : W.cell? ⟨P, 0, none⟩ = some (.int .i32 o1))
    (kP1 : W.cell? ⟨P, 1, none⟩ = some (.int .i32 o2))
    (zP : P < W.heap.size)
    (kT0 : W.cell? ⟨T, 0, none⟩ = some (.bool q1))
    (kT1 : W.cell? ⟨T, 1, none⟩ = some (.slice qA qm qc))
    (kT2 : W.cell? ⟨T, 2, none⟩ = some (.bool q2))
    (kT3 : W.cell? ⟨T, 3, none⟩ = some (.slice qB qn qd))
    (zT : T < W.heap.size)
    (u0 u1 u2 u3 u5 u6 u7 u8 u9 u11 u12 u13 u14 u15 u16 u17 u18 u19 u20 u21 u22 u23 u24 u25 u26 u27 u28 u29 u30 u31 u32 u33 u34 u35 u36 u37 u38 u39 u40 u41 u42 u43 u44 u45 u46 u47 u48 u49 u50 u51 u52 u53 u54 u55 u56 u57 u58 u59 u60 u61 u62 u63 u64 u65 u66 u67 : Value) :
    (regionO Try.f17 5).wp Try.prog (Exit.then (fun a' W' => ∃ M12 g1_12 gA_12 gm_12 gc_12 g2_12 gB_12 gn_12 gd_12 v47 v48 v49 v50 v51 v52, a' = { tmps := #[u0, u1, u2, u3, .pointer (some ⟨P, 0, none⟩), u5, u6, u7, u8, u9, .pointer (some ⟨T, 0, none⟩), u11, .pointer (some ⟨M12, 0, none⟩), u13, u14, u15, u16, u17, u18, u19, u20, u21, u22, u23, u24, u25, u26, u27, u28, u29, u30, u31, u32, u33, u34, u35, u36, u37, u38, u39, u40, u41, u42, u43, u44, u45, u46, v47, v48, v49, v50, v51, v52, u53, u54, u55, u56, u57, u58, u59, u60, u61, u62, u63, u64, u65, u66, u67], defers := [] } ∧ Var W' M12 53 #[.bool g1_12, .slice gA_12 gm_12 gc_12, .bool g2_12, .slice gB_12 gn_12 gd_12] ∧ RatAt W' (.agg #[.bool g1_12, .slice gA_12 gm_12 gc_12, .bool g2_12, .slice gB_12 gn_12 gd_12]) (qsub (qw (o2)) (x)) ∧ W.heap.size ≤ M12 ∧ Below W.heap.size W W') (fun _ _ _ => False)) { tmps := #[u0, u1, u2, u3, .pointer (some ⟨P, 0, none⟩), u5, u6, u7, u8, u9, .pointer (some ⟨T, 0, none⟩), u11, u12, u13, u14, u15, u16, u17, u18, u19, u20, u21, u22, u23, u24, u25, u26, u27, u28, u29, u30, u31, u32, u33, u34, u35, u36, u37, u38, u39, u40, u41, u42, u43, u44, u45, u46, u47, u48, u49, u50, u51, u52, u53, u54, u55, u56, u57, u58, u59, u60, u61, u62, u63, u64, u65, u66, u67], defers := [] } W := by
  have KX1 : Hid (QS 2 (qw (o2))) := Lib.hid (qs_w n1)
  have KX2 : Hid (QS 147 (qsub (qw (o2)) (x))) := Lib.hid (QS.mono (qs_sub (k := 73) (KX1.out.mono (show 2 ≤ 73 by decide)) (Kq.out.mono (show 73 ≤ 73 by decide))) (show 73 + 73 + 1 ≤ 147 by decide))
  show Code.wp _ (Code.region _ _ _) _ _ _
  refine wp_region_any (by kernel_rfl) ?_
  refine wpAny_inv (fun (b : Array Bool) a' w' => ∃ b0 b1 b2 b3 b4 b5 b6 b7 : Bool, b = #[b0, b1, b2, b3, b4, b5, b6, b7] ∧ ∃ v12 v47 v48 v49 v50 v51 v52, a' = { tmps := #[u0, u1, u2, u3, .pointer (some ⟨P, 0, none⟩), u5, u6, u7, u8, u9, .pointer (some ⟨T, 0, none⟩), u11, v12, u13, u14, u15, u16, u17, u18, u19, u20, u21, u22, u23, u24, u25, u26, u27, u28, u29, u30, u31, u32, u33, u34, u35, u36, u37, u38, u39, u40, u41, u42, u43, u44, u45, u46, v47, v48, v49, v50, v51, v52, u53, u54, u55, u56, u57, u58, u59, u60, u61, u62, u63, u64, u65, u66, u67], defers := [] } ∧ Below W.heap.size W w' ∧ (b0 = true → v47 = .pointer (some ⟨P, 1, none⟩)) ∧ (b1 = true → v48 = .int .i32 (o2)) ∧ (b2 = true → v49 = .int .i64 (o2)) ∧ (b3 = true → RatAt w' v50 (qw (o2))) ∧ (b4 = true → v51 = .agg #[.bool q1, .slice qA qm qc, .bool q2, .slice qB qn qd]) ∧ (b5 = true → RatAt w' v52 (qsub (qw (o2)) (x))) ∧ (b6 = true → BoxQ W w' v12 b7 (qsub (qw (o2)) (x))) ∧ (b7 = true → b6 = true)) ?_ ?_ _ _ _ _ (by rfl) ?_
  · rintro listed a w i K ⟨b0, b1, b2, b3, b4, b5, b6, b7, rfl, v12, v47, v48, v49, v50, v51, v52, rfl, hB, h0, h1, h2, h3, h4, h5, h6, h7⟩ hi hK
    obtain ⟨hun, o, ho, hdep⟩ := mem_ready.1 hi
    have jP0 := (hB.cell (p := ⟨P, 0, none⟩) zP).trans kP0
    have jP1 := (hB.cell (p := ⟨P, 1, none⟩) zP).trans kP1
    have jT0 := (hB.cell (p := ⟨T, 0, none⟩) zT).trans kT0
    have jT1 := (hB.cell (p := ⟨T, 1, none⟩) zT).trans kT1
    have jT2 := (hB.cell (p := ⟨T, 2, none⟩) zT).trans kT2
    have jT3 := (hB.cell (p := ⟨T, 3, none⟩) zT).trans kT3
    have HI := Lib.hid (And.intro h0 (And.intro h1 (And.intro h2 (And.intro h3 (And.intro h4 (And.intro h5 (And.intro h6 (h7))))))))
    have HBW := Lib.hid hB
    have HK := Lib.hid hK
    clear h0 h1 h2 h3 h4 h5 h6 h7 hB hK hi kP0 kP1 kT0 kT1 kT2 kT3
    rcases i with _ | _ | _ | _ | _ | _ | _ | _ | i
    · simp at ho
      subst ho
      try simp [Region.binds] at hdep
      unfold wpOp
      go_simp
      exact Or.inl (HK.out _ _ ⟨true, b1, b2, b3, b4, b5, b6, b7, rfl, v12, _, v48, v49, v50, v51, v52, rfl, HBW.out, (fun _ => rfl), HI.out.2.1, HI.out.2.2.1, HI.out.2.2.2.1, HI.out.2.2.2.2.1, HI.out.2.2.2.2.2.1, HI.out.2.2.2.2.2.2.1, HI.out.2.2.2.2.2.2.2⟩)
    · simp at ho
      subst ho
      try simp [Region.binds] at hdep
      have q0 := HI.out.1 (show b0 = true by first | exact hdep | exact hdep.1 | exact hdep.2 | exact hdep.2.1 | exact hdep.2.2 | exact hdep.2.2.1 | exact hdep.2.2.2 | exact hdep.2.2.2.1 | exact hdep.2.2.2.2 | exact hdep.2.2.2.2.1)
      subst q0
      unfold wpOp
      go_simp
      exact Or.inl (HK.out _ _ ⟨b0, true, b2, b3, b4, b5, b6, b7, rfl, v12, _, _, v49, v50, v51, v52, rfl, HBW.out, (fun _ => rfl), (fun _ => rfl), HI.out.2.2.1, HI.out.2.2.2.1, HI.out.2.2.2.2.1, HI.out.2.2.2.2.2.1, HI.out.2.2.2.2.2.2.1, HI.out.2.2.2.2.2.2.2⟩)
    · simp at ho
      subst ho
      try simp [Region.binds] at hdep
      have q1 := HI.out.2.1 (show b1 = true by first | exact hdep | exact hdep.1 | exact hdep.2 | exact hdep.2.1 | exact hdep.2.2 | exact hdep.2.2.1 | exact hdep.2.2.2 | exact hdep.2.2.2.1 | exact hdep.2.2.2.2 | exact hdep.2.2.2.2.1)
      subst q1
      unfold wpOp
      go_simp
      exact Or.inl (HK.out _ _ ⟨b0, b1, true, b3, b4, b5, b6, b7, rfl, v12, v47, _, _, v50, v51, v52, rfl, HBW.out, HI.out.1, (fun _ => rfl), (fun _ => rfl), HI.out.2.2.2.1, HI.out.2.2.2.2.1, HI.out.2.2.2.2.2.1, HI.out.2.2.2.2.2.2.1, HI.out.2.2.2.2.2.2.2⟩)
    · simp at ho
      subst ho
      try simp [Region.binds] at hdep
      have q2 := HI.out.2.2.1 (show b2 = true by first | exact hdep | exact hdep.1 | exact hdep.2 | exact hdep.2.1 | exact hdep.2.2 | exact hdep.2.2.1 | exact hdep.2.2.2 | exact hdep.2.2.2.1 | exact hdep.2.2.2.2 | exact hdep.2.2.2.2.1)
      subst q2
      unfold wpOp
      go_simp
      refine Or.inl ((whole_q (o2) n1 _).mono ?_)
      rintro e wk ⟨z, rfl, hz, hb⟩
      exact HK.out _ _ ⟨b0, b1, b2, true, b4, b5, b6, b7, rfl, v12, v47, v48, _, _, v51, v52, rfl, (HBW.out.trans (hb.mono HBW.out.size)), HI.out.1, HI.out.2.1, (fun _ => rfl), (fun _ => hz), HI.out.2.2.2.2.1, (fun h => (HI.out.2.2.2.2.2.1 h).below hb), (fun h => (HI.out.2.2.2.2.2.2.1 h).keep hb), HI.out.2.2.2.2.2.2.2⟩
    · simp at ho
      subst ho
      try simp [Region.binds] at hdep
      unfold wpOp
      go_simp
      exact Or.inl (HK.out _ _ ⟨b0, b1, b2, b3, true, b5, b6, b7, rfl, v12, v47, v48, v49, v50, _, v52, rfl, HBW.out, HI.out.1, HI.out.2.1, HI.out.2.2.1, HI.out.2.2.2.1, (fun _ => rfl), HI.out.2.2.2.2.2.1, HI.out.2.2.2.2.2.2.1, HI.out.2.2.2.2.2.2.2⟩)
    · simp at ho
      subst ho
      try simp [Region.binds] at hdep
      have q4 := HI.out.2.2.2.2.1 (show b4 = true by first | exact hdep | exact hdep.1 | exact hdep.2 | exact hdep.2.1 | exact hdep.2.2 | exact hdep.2.2.1 | exact hdep.2.2.2 | exact hdep.2.2.2.1 | exact hdep.2.2.2.2 | exact hdep.2.2.2.2.1)
      subst q4
      have R3 := Lib.hid (HI.out.2.2.2.1 (show b3 = true by first | exact hdep | exact hdep.1 | exact hdep.2 | exact hdep.2.1 | exact hdep.2.2 | exact hdep.2.2.1 | exact hdep.2.2.2 | exact hdep.2.2.2.1 | exact hdep.2.2.2.2 | exact hdep.2.2.2.2.1))
      unfold wpOp
      go_simp
      refine Or.inl ((sub_q R3.out (Hq.out.below HBW.out) (KX1.out.mono (show 2 ≤ 73 by decide)) (Kq.out.mono (show 73 ≤ 73 by decide)) (by decide) _ (Below.refl _ _)).mono ?_)
      rintro e wk ⟨z, rfl, hz, hb⟩
      exact HK.out _ _ ⟨b0, b1, b2, b3, b4, true, b6, b7, rfl, v12, v47, v48, v49, v50, _, _, rfl, (HBW.out.trans (hb.mono HBW.out.size)), HI.out.1, HI.out.2.1, HI.out.2.2.1, (fun h => (HI.out.2.2.2.1 h).below hb), (fun _ => rfl), (fun _ => hz), (fun h => (HI.out.2.2.2.2.2.2.1 h).keep hb), HI.out.2.2.2.2.2.2.2⟩
    · simp at ho
      subst ho
      try simp [Region.binds] at hdep
      have hb6 : b6 = false := by simpa using hun
      subst hb6
      have hb7 : b7 = false := by
        cases hb : b7
        · rfl
        · exact absurd (HI.out.2.2.2.2.2.2.2 hb) (by decide)
      subst hb7
      unfold wpOp
      go_simp
      exact Or.inl (HK.out _ _ ⟨b0, b1, b2, b3, b4, b5, true, false, rfl, _, v47, v48, v49, v50, v51, v52, rfl, (HBW.out.alloc HBW.out.size _), HI.out.1, HI.out.2.1, HI.out.2.2.1, (fun h => (HI.out.2.2.2.1 h).below ((Below.refl _ _).alloc (Nat.le_refl _) _)), HI.out.2.2.2.2.1, (fun h => (HI.out.2.2.2.2.2.1 h).below ((Below.refl _ _).alloc (Nat.le_refl _) _)), (fun _ => BoxQ.new _ HBW.out.size), (fun h => by cases h)⟩)
    · have hb7 : b7 = false := by simpa using hun
      subst hb7
      simp at ho
      subst ho
      try simp [Region.binds] at hdep
      obtain ⟨M, eM, hM, vM⟩ := (HI.out.2.2.2.2.2.2.1 (show b6 = true by first | exact hdep | exact hdep.1 | exact hdep.2 | exact hdep.2.1 | exact hdep.2.2 | exact hdep.2.2.1 | exact hdep.2.2.2 | exact hdep.2.2.2.1 | exact hdep.2.2.2.2 | exact hdep.2.2.2.2.1)).open
      subst eM
      have dal := (show b6 = true by first | exact hdep | exact hdep.1 | exact hdep.2 | exact hdep.2.1 | exact hdep.2.2 | exact hdep.2.2.1 | exact hdep.2.2.2 | exact hdep.2.2.2.1 | exact hdep.2.2.2.2 | exact hdep.2.2.2.2.1)
      obtain ⟨g1, gA, gm, gc, g2, gB, gn, gd, e', r1, r2⟩ := HI.out.2.2.2.2.2.1 (show b5 = true by first | exact hdep | exact hdep.1 | exact hdep.2 | exact hdep.2.1 | exact hdep.2.2 | exact hdep.2.2.1 | exact hdep.2.2.2 | exact hdep.2.2.2.1 | exact hdep.2.2.2.2 | exact hdep.2.2.2.2.1)
      subst e'
      have m0 : w.cell? ⟨M, 0, none⟩ = some (.bool false) := vM.cell 0
      have f0 := vM.free 0
      have m1 : w.cell? ⟨M, 1, none⟩ = some (.slice none 0 0) := vM.cell 1
      have f1 := vM.free 1
      have m2 : w.cell? ⟨M, 2, none⟩ = some (.bool false) := vM.cell 2
      have f2 := vM.free 2
      have m3 : w.cell? ⟨M, 3, none⟩ = some (.slice none 0 0) := vM.cell 3
      have f3 := vM.free 3
      have HVM := Lib.hid vM
      have HR := Lib.hid (rat_mk r1 r2)
      clear vM r1 r2
      unfold wpOp
      go_simp
      exact Or.inl (HK.out _ _ ⟨b0, b1, b2, b3, b4, b5, b6, true, rfl, _, v47, v48, v49, v50, v51, _, rfl, (below_four HBW.out hM _ _ _ _), HI.out.1, HI.out.2.1, HI.out.2.2.1, (fun h => (HI.out.2.2.2.1 h).four HVM.out (by decide) _ _ _ _), HI.out.2.2.2.2.1, (fun _ => HR.out.four HVM.out (by decide) _ _ _ _), (fun _ => BoxQ.fill HVM.out hM HR.out), (fun _ => dal)⟩)
    · simp at ho
  · rintro listed a w ⟨b0, b1, b2, b3, b4, b5, b6, b7, rfl, v12, v47, v48, v49, v50, v51, v52, rfl, hB, h0, h1, h2, h3, h4, h5, h6, h7⟩ hr
    have hall := ready_nilM (by kernel_rfl) (by rfl) hr
    have t0 : b0 = true := hall 0 (by decide)
    have t1 : b1 = true := hall 1 (by decide)
    have t2 : b2 = true := hall 2 (by decide)
    have t3 : b3 = true := hall 3 (by decide)
    have t4 : b4 = true := hall 4 (by decide)
    have t5 : b5 = true := hall 5 (by decide)
    have t6 : b6 = true := hall 6 (by decide)
    have t7 : b7 = true := hall 7 (by decide)
    subst t0 t1 t2 t3 t4 t5 t6 t7
    obtain ⟨M12, g1_12, gA_12, gm_12, gc_12, g2_12, gB_12, gn_12, gd_12, eM12, hM12, vM12, rM12⟩ := (h6 rfl).full
    subst eM12
    exact ⟨M12, g1_12, gA_12, gm_12, gc_12, g2_12, gB_12, gn_12, gd_12, _, _, _, _, _, _, rfl, vM12, rM12, hM12, hB⟩
  · refine ⟨false, false, false, false, false, false, false, false, rfl, _, _, _, _, _, _, _, rfl, (Below.refl _ _).drew, ?_, ?_, ?_, ?_, ?_, ?_, ?_, ?_⟩ <;> (intro h; cases h)

set_option maxHeartbeats 8000000 in
set_option maxRecDepth 100000 in
theorem near_reg6 (W : World) (S T : Nat) (x y : Q) (p1 p2 : Bool) (pA pB : Option Addr) (pm pc pn pd : Nat) (q1 q2 : Bool) (qA qB : Option Addr) (qm qc qn qd : Nat) (Hp : Hid (RatAt W (.agg #[.bool p1, .slice pA pm pc, .bool p2, .slice pB pn pd]) x)) (Kp : Hid (QS 147 x)) (Hq : Hid (RatAt W (.agg #[.bool q1, .slice qA qm qc, .bool q2, .slice qB qn qd]) y)) (Kq : Hid (QS 147 y))
    (kS0 : W.cell? ⟨S, 0, none⟩ = some (.bool p1))
    (kS1 : W.cell? ⟨S, 1, none⟩ = some (.slice pA pm pc))
    (kS2 : W.cell? ⟨S, 2, none⟩ = some (.bool p2))
    (kS3 : W.cell? ⟨S, 3, none⟩ = some (.slice pB pn pd))
    (zS : S < W.heap.size)
    (kT0 : W.cell? ⟨T, 0, none⟩ = some (.bool q1))
    (kT1 : W.cell? ⟨T, 1, none⟩ = some (.slice qA qm qc))
    (kT2 : W.cell? ⟨T, 2, none⟩ = some (.bool q2))
    (kT3 : W.cell? ⟨T, 3, none⟩ = some (.slice qB qn qd))
    (zT : T < W.heap.size)
    (u0 u1 u2 u3 u4 u5 u6 u7 u8 u9 u10 u13 u14 u15 u16 u17 u18 u19 u20 u21 u22 u23 u24 u25 u26 u27 u28 u29 u30 u31 u32 u33 u34 u35 u36 u37 u38 u39 u40 u41 u42 u43 u44 u45 u46 u47 u48 u49 u50 u51 u52 u53 u54 u55 u56 u57 u58 u59 u60 u61 u62 u63 u64 u65 u66 u67 : Value) :
    (regionO Try.f17 6).wp Try.prog (Exit.then (fun a' W' => ∃ M13 g1_13 gA_13 gm_13 gc_13 g2_13 gB_13 gn_13 gd_13 v53 v54 v55 v56 v57 v58 v59, a' = { tmps := #[u0, u1, u2, u3, u4, u5, u6, u7, u8, u9, u10, .pointer (some ⟨S, 0, none⟩), .pointer (some ⟨T, 0, none⟩), .pointer (some ⟨M13, 0, none⟩), u14, u15, u16, u17, u18, u19, u20, u21, u22, u23, u24, u25, u26, u27, u28, u29, u30, u31, u32, u33, u34, u35, u36, u37, u38, u39, u40, u41, u42, u43, u44, u45, u46, u47, u48, u49, u50, u51, u52, v53, v54, v55, v56, v57, v58, v59, u60, u61, u62, u63, u64, u65, u66, u67], defers := [] } ∧ Var W' M13 53 #[.bool g1_13, .slice gA_13 gm_13 gc_13, .bool g2_13, .slice gB_13 gn_13 gd_13] ∧ RatAt W' (.agg #[.bool g1_13, .slice gA_13 gm_13 gc_13, .bool g2_13, .slice gB_13 gn_13 gd_13]) (qadd (qmul (x) (x)) (qmul (y) (y))) ∧ W.heap.size ≤ M13 ∧ Below W.heap.size W W') (fun _ _ _ => False)) { tmps := #[u0, u1, u2, u3, u4, u5, u6, u7, u8, u9, u10, .pointer (some ⟨S, 0, none⟩), .pointer (some ⟨T, 0, none⟩), u13, u14, u15, u16, u17, u18, u19, u20, u21, u22, u23, u24, u25, u26, u27, u28, u29, u30, u31, u32, u33, u34, u35, u36, u37, u38, u39, u40, u41, u42, u43, u44, u45, u46, u47, u48, u49, u50, u51, u52, u53, u54, u55, u56, u57, u58, u59, u60, u61, u62, u63, u64, u65, u66, u67], defers := [] } W := by
  have KX1 : Hid (QS 294 (qmul (x) (x))) := Lib.hid (QS.mono (qs_mul (k := 147) (Kp.out.mono (show 147 ≤ 147 by decide)) (Kp.out.mono (show 147 ≤ 147 by decide))) (show 147 + 147 ≤ 294 by decide))
  have KX2 : Hid (QS 294 (qmul (y) (y))) := Lib.hid (QS.mono (qs_mul (k := 147) (Kq.out.mono (show 147 ≤ 147 by decide)) (Kq.out.mono (show 147 ≤ 147 by decide))) (show 147 + 147 ≤ 294 by decide))
  have KX3 : Hid (QS 589 (qadd (qmul (x) (x)) (qmul (y) (y)))) := Lib.hid (QS.mono (qs_add (k := 294) (KX1.out.mono (show 294 ≤ 294 by decide)) (KX2.out.mono (show 294 ≤ 294 by decide))) (show 294 + 294 + 1 ≤ 589 by decide))
  show Code.wp _ (Code.region _ _ _) _ _ _
  refine wp_region_any (by kernel_rfl) ?_
  refine wpAny_inv (fun (b : Array Bool) a' w' => ∃ b0 b1 b2 b3 b4 b5 b6 b7 b8 : Bool, b = #[b0, b1, b2, b3, b4, b5, b6, b7, b8] ∧ ∃ v13 v53 v54 v55 v56 v57 v58 v59, a' = { tmps := #[u0, u1, u2, u3, u4, u5, u6, u7, u8, u9, u10, .pointer (some ⟨S, 0, none⟩), .pointer (some ⟨T, 0, none⟩), v13, u14, u15, u16, u17, u18, u19, u20, u21, u22, u23, u24, u25, u26, u27, u28, u29, u30, u31, u32, u33, u34, u35, u36, u37, u38, u39, u40, u41, u42, u43, u44, u45, u46, u47, u48, u49, u50, u51, u52, v53, v54, v55, v56, v57, v58, v59, u60, u61, u62, u63, u64, u65, u66, u67], defers := [] } ∧ Below W.heap.size W w' ∧ (b0 = true → v53 = .agg #[.bool p1, .slice pA pm pc, .bool p2, .slice pB pn pd]) ∧ (b1 = true → v54 = .agg #[.bool p1, .slice pA pm pc, .bool p2, .slice pB pn pd]) ∧ (b2 = true → RatAt w' v55 (qmul (x) (x))) ∧ (b3 = true → v56 = .agg #[.bool q1, .slice qA qm qc, .bool q2, .slice qB qn qd]) ∧ (b4 = true → v57 = .agg #[.bool q1, .slice qA qm qc, .bool q2, .slice qB qn qd]) ∧ (b5 = true → RatAt w' v58 (qmul (y) (y))) ∧ (b6 = true → RatAt w' v59 (qadd (qmul (x) (x)) (qmul (y) (y)))) ∧ (b7 = true → BoxQ W w' v13 b8 (qadd (qmul (x) (x)) (qmul (y) (y)))) ∧ (b8 = true → b7 = true)) ?_ ?_ _ _ _ _ (by rfl) ?_
  · rintro listed a w i K ⟨b0, b1, b2, b3, b4, b5, b6, b7, b8, rfl, v13, v53, v54, v55, v56, v57, v58, v59, rfl, hB, h0, h1, h2, h3, h4, h5, h6, h7, h8⟩ hi hK
    obtain ⟨hun, o, ho, hdep⟩ := mem_ready.1 hi
    have jS0 := (hB.cell (p := ⟨S, 0, none⟩) zS).trans kS0
    have jS1 := (hB.cell (p := ⟨S, 1, none⟩) zS).trans kS1
    have jS2 := (hB.cell (p := ⟨S, 2, none⟩) zS).trans kS2
    have jS3 := (hB.cell (p := ⟨S, 3, none⟩) zS).trans kS3
    have jT0 := (hB.cell (p := ⟨T, 0, none⟩) zT).trans kT0
    have jT1 := (hB.cell (p := ⟨T, 1, none⟩) zT).trans kT1
    have jT2 := (hB.cell (p := ⟨T, 2, none⟩) zT).trans kT2
    have jT3 := (hB.cell (p := ⟨T, 3, none⟩) zT).trans kT3
    have HI := Lib.hid (And.intro h0 (And.intro h1 (And.intro h2 (And.intro h3 (And.intro h4 (And.intro h5 (And.intro h6 (And.intro h7 (h8)))))))))
    have HBW := Lib.hid hB
    have HK := Lib.hid hK
    clear h0 h1 h2 h3 h4 h5 h6 h7 h8 hB hK hi kS0 kS1 kS2 kS3 kT0 kT1 kT2 kT3
    rcases i with _ | _ | _ | _ | _ | _ | _ | _ | _ | i
    · simp at ho
      subst ho
      try simp [Region.binds] at hdep
      unfold wpOp
      go_simp
      exact Or.inl (HK.out _ _ ⟨true, b1, b2, b3, b4, b5, b6, b7, b8, rfl, v13, _, v54, v55, v56, v57, v58, v59, rfl, HBW.out, (fun _ => rfl), HI.out.2.1, HI.out.2.2.1, HI.out.2.2.2.1, HI.out.2.2.2.2.1, HI.out.2.2.2.2.2.1, HI.out.2.2.2.2.2.2.1, HI.out.2.2.2.2.2.2.2.1, HI.out.2.2.2.2.2.2.2.2⟩)
    · simp at ho
      subst ho
      try simp [Region.binds] at hdep
      unfold wpOp
      go_simp
      exact Or.inl (HK.out _ _ ⟨b0, true, b2, b3, b4, b5, b6, b7, b8, rfl, v13, v53, _, v55, v56, v57, v58, v59, rfl, HBW.out, HI.out.1, (fun _ => rfl), HI.out.2.2.1, HI.out.2.2.2.1, HI.out.2.2.2.2.1, HI.out.2.2.2.2.2.1, HI.out.2.2.2.2.2.2.1, HI.out.2.2.2.2.2.2.2.1, HI.out.2.2.2.2.2.2.2.2⟩)
    · simp at ho
      subst ho
      try simp [Region.binds] at hdep
      have q0 := HI.out.1 (show b0 = true by first | exact hdep | exact hdep.1 | exact hdep.2 | exact hdep.2.1 | exact hdep.2.2 | exact hdep.2.2.1 | exact hdep.2.2.2 | exact hdep.2.2.2.1 | exact hdep.2.2.2.2 | exact hdep.2.2.2.2.1)
      subst q0
      have q1 := HI.out.2.1 (show b1 = true by first | exact hdep | exact hdep.1 | exact hdep.2 | exact hdep.2.1 | exact hdep.2.2 | exact hdep.2.2.1 | exact hdep.2.2.2 | exact hdep.2.2.2.1 | exact hdep.2.2.2.2 | exact hdep.2.2.2.2.1)
      subst q1
      unfold wpOp
      go_simp
      refine Or.inl ((mul_q (Hp.out.below HBW.out) (Hp.out.below HBW.out) (Kp.out.mono (show 147 ≤ 147 by decide)) (Kp.out.mono (show 147 ≤ 147 by decide)) (by decide) _ (Below.refl _ _)).mono ?_)
      rintro e wk ⟨z, rfl, hz, hb⟩
      exact HK.out _ _ ⟨b0, b1, true, b3, b4, b5, b6, b7, b8, rfl, v13, _, _, _, v56, v57, v58, v59, rfl, (HBW.out.trans (hb.mono HBW.out.size)), (fun _ => rfl), (fun _ => rfl), (fun _ => hz), HI.out.2.2.2.1, HI.out.2.2.2.2.1, (fun h => (HI.out.2.2.2.2.2.1 h).below hb), (fun h => (HI.out.2.2.2.2.2.2.1 h).below hb), (fun h => (HI.out.2.2.2.2.2.2.2.1 h).keep hb), HI.out.2.2.2.2.2.2.2.2⟩
    · simp at ho
      subst ho
      try simp [Region.binds] at hdep
      unfold wpOp
      go_simp
      exact Or.inl (HK.out _ _ ⟨b0, b1, b2, true, b4, b5, b6, b7, b8, rfl, v13, v53, v54, v55, _, v57, v58, v59, rfl, HBW.out, HI.out.1, HI.out.2.1, HI.out.2.2.1, (fun _ => rfl), HI.out.2.2.2.2.1, HI.out.2.2.2.2.2.1, HI.out.2.2.2.2.2.2.1, HI.out.2.2.2.2.2.2.2.1, HI.out.2.2.2.2.2.2.2.2⟩)
    · simp at ho
      subst ho
      try simp [Region.binds] at hdep
      unfold wpOp
      go_simp
      exact Or.inl (HK.out _ _ ⟨b0, b1, b2, b3, true, b5, b6, b7, b8, rfl, v13, v53, v54, v55, v56, _, v58, v59, rfl, HBW.out, HI.out.1, HI.out.2.1, HI.out.2.2.1, HI.out.2.2.2.1, (fun _ => rfl), HI.out.2.2.2.2.2.1, HI.out.2.2.2.2.2.2.1, HI.out.2.2.2.2.2.2.2.1, HI.out.2.2.2.2.2.2.2.2⟩)
    · simp at ho
      subst ho
      try simp [Region.binds] at hdep
      have q3 := HI.out.2.2.2.1 (show b3 = true by first | exact hdep | exact hdep.1 | exact hdep.2 | exact hdep.2.1 | exact hdep.2.2 | exact hdep.2.2.1 | exact hdep.2.2.2 | exact hdep.2.2.2.1 | exact hdep.2.2.2.2 | exact hdep.2.2.2.2.1)
      subst q3
      have q4 := HI.out.2.2.2.2.1 (show b4 = true by first | exact hdep | exact hdep.1 | exact hdep.2 | exact hdep.2.1 | exact hdep.2.2 | exact hdep.2.2.1 | exact hdep.2.2.2 | exact hdep.2.2.2.1 | exact hdep.2.2.2.2 | exact hdep.2.2.2.2.1)
      subst q4
      unfold wpOp
      go_simp
      refine Or.inl ((mul_q (Hq.out.below HBW.out) (Hq.out.below HBW.out) (Kq.out.mono (show 147 ≤ 147 by decide)) (Kq.out.mono (show 147 ≤ 147 by decide)) (by decide) _ (Below.refl _ _)).mono ?_)
      rintro e wk ⟨z, rfl, hz, hb⟩
      exact HK.out _ _ ⟨b0, b1, b2, b3, b4, true, b6, b7, b8, rfl, v13, v53, v54, v55, _, _, _, v59, rfl, (HBW.out.trans (hb.mono HBW.out.size)), HI.out.1, HI.out.2.1, (fun h => (HI.out.2.2.1 h).below hb), (fun _ => rfl), (fun _ => rfl), (fun _ => hz), (fun h => (HI.out.2.2.2.2.2.2.1 h).below hb), (fun h => (HI.out.2.2.2.2.2.2.2.1 h).keep hb), HI.out.2.2.2.2.2.2.2.2⟩
    · simp at ho
      subst ho
      try simp [Region.binds] at hdep
      have R2 := Lib.hid (HI.out.2.2.1 (show b2 = true by first | exact hdep | exact hdep.1 | exact hdep.2 | exact hdep.2.1 | exact hdep.2.2 | exact hdep.2.2.1 | exact hdep.2.2.2 | exact hdep.2.2.2.1 | exact hdep.2.2.2.2 | exact hdep.2.2.2.2.1))
      have R5 := Lib.hid (HI.out.2.2.2.2.2.1 (show b5 = true by first | exact hdep | exact hdep.1 | exact hdep.2 | exact hdep.2.1 | exact hdep.2.2 | exact hdep.2.2.1 | exact hdep.2.2.2 | exact hdep.2.2.2.1 | exact hdep.2.2.2.2 | exact hdep.2.2.2.2.1))
      unfold wpOp
      go_simp
      refine Or.inl ((add_q R2.out R5.out (KX1.out.mono (show 294 ≤ 294 by decide)) (KX2.out.mono (show 294 ≤ 294 by decide)) (by decide) _ (Below.refl _ _)).mono ?_)
      rintro e wk ⟨z, rfl, hz, hb⟩
      exact HK.out _ _ ⟨b0, b1, b2, b3, b4, b5, true, b7, b8, rfl, v13, v53, v54, v55, v56, v57, v58, _, rfl, (HBW.out.trans (hb.mono HBW.out.size)), HI.out.1, HI.out.2.1, (fun h => (HI.out.2.2.1 h).below hb), HI.out.2.2.2.1, HI.out.2.2.2.2.1, (fun h => (HI.out.2.2.2.2.2.1 h).below hb), (fun _ => hz), (fun h => (HI.out.2.2.2.2.2.2.2.1 h).keep hb), HI.out.2.2.2.2.2.2.2.2⟩
    · simp at ho
      subst ho
      try simp [Region.binds] at hdep
      have hb7 : b7 = false := by simpa using hun
      subst hb7
      have hb8 : b8 = false := by
        cases hb : b8
        · rfl
        · exact absurd (HI.out.2.2.2.2.2.2.2.2 hb) (by decide)
      subst hb8
      unfold wpOp
      go_simp
      exact Or.inl (HK.out _ _ ⟨b0, b1, b2, b3, b4, b5, b6, true, false, rfl, _, v53, v54, v55, v56, v57, v58, v59, rfl, (HBW.out.alloc HBW.out.size _), HI.out.1, HI.out.2.1, (fun h => (HI.out.2.2.1 h).below ((Below.refl _ _).alloc (Nat.le_refl _) _)), HI.out.2.2.2.1, HI.out.2.2.2.2.1, (fun h => (HI.out.2.2.2.2.2.1 h).below ((Below.refl _ _).alloc (Nat.le_refl _) _)), (fun h => (HI.out.2.2.2.2.2.2.1 h).below ((Below.refl _ _).alloc (Nat.le_refl _) _)), (fun _ => BoxQ.new _ HBW.out.size), (fun h => by cases h)⟩)
    · have hb8 : b8 = false := by simpa using hun
      subst hb8
      simp at ho
      subst ho
      try simp [Region.binds] at hdep
      obtain ⟨M, eM, hM, vM⟩ := (HI.out.2.2.2.2.2.2.2.1 (show b7 = true by first | exact hdep | exact hdep.1 | exact hdep.2 | exact hdep.2.1 | exact hdep.2.2 | exact hdep.2.2.1 | exact hdep.2.2.2 | exact hdep.2.2.2.1 | exact hdep.2.2.2.2 | exact hdep.2.2.2.2.1)).open
      subst eM
      have dal := (show b7 = true by first | exact hdep | exact hdep.1 | exact hdep.2 | exact hdep.2.1 | exact hdep.2.2 | exact hdep.2.2.1 | exact hdep.2.2.2 | exact hdep.2.2.2.1 | exact hdep.2.2.2.2 | exact hdep.2.2.2.2.1)
      obtain ⟨g1, gA, gm, gc, g2, gB, gn, gd, e', r1, r2⟩ := HI.out.2.2.2.2.2.2.1 (show b6 = true by first | exact hdep | exact hdep.1 | exact hdep.2 | exact hdep.2.1 | exact hdep.2.2 | exact hdep.2.2.1 | exact hdep.2.2.2 | exact hdep.2.2.2.1 | exact hdep.2.2.2.2 | exact hdep.2.2.2.2.1)
      subst e'
      have m0 : w.cell? ⟨M, 0, none⟩ = some (.bool false) := vM.cell 0
      have f0 := vM.free 0
      have m1 : w.cell? ⟨M, 1, none⟩ = some (.slice none 0 0) := vM.cell 1
      have f1 := vM.free 1
      have m2 : w.cell? ⟨M, 2, none⟩ = some (.bool false) := vM.cell 2
      have f2 := vM.free 2
      have m3 : w.cell? ⟨M, 3, none⟩ = some (.slice none 0 0) := vM.cell 3
      have f3 := vM.free 3
      have HVM := Lib.hid vM
      have HR := Lib.hid (rat_mk r1 r2)
      clear vM r1 r2
      unfold wpOp
      go_simp
      exact Or.inl (HK.out _ _ ⟨b0, b1, b2, b3, b4, b5, b6, b7, true, rfl, _, v53, v54, v55, v56, v57, v58, _, rfl, (below_four HBW.out hM _ _ _ _), HI.out.1, HI.out.2.1, (fun h => (HI.out.2.2.1 h).four HVM.out (by decide) _ _ _ _), HI.out.2.2.2.1, HI.out.2.2.2.2.1, (fun h => (HI.out.2.2.2.2.2.1 h).four HVM.out (by decide) _ _ _ _), (fun _ => HR.out.four HVM.out (by decide) _ _ _ _), (fun _ => BoxQ.fill HVM.out hM HR.out), (fun _ => dal)⟩)
    · simp at ho
  · rintro listed a w ⟨b0, b1, b2, b3, b4, b5, b6, b7, b8, rfl, v13, v53, v54, v55, v56, v57, v58, v59, rfl, hB, h0, h1, h2, h3, h4, h5, h6, h7, h8⟩ hr
    have hall := ready_nilM (by kernel_rfl) (by rfl) hr
    have t0 : b0 = true := hall 0 (by decide)
    have t1 : b1 = true := hall 1 (by decide)
    have t2 : b2 = true := hall 2 (by decide)
    have t3 : b3 = true := hall 3 (by decide)
    have t4 : b4 = true := hall 4 (by decide)
    have t5 : b5 = true := hall 5 (by decide)
    have t6 : b6 = true := hall 6 (by decide)
    have t7 : b7 = true := hall 7 (by decide)
    have t8 : b8 = true := hall 8 (by decide)
    subst t0 t1 t2 t3 t4 t5 t6 t7 t8
    obtain ⟨M13, g1_13, gA_13, gm_13, gc_13, g2_13, gB_13, gn_13, gd_13, eM13, hM13, vM13, rM13⟩ := (h7 rfl).full
    subst eM13
    exact ⟨M13, g1_13, gA_13, gm_13, gc_13, g2_13, gB_13, gn_13, gd_13, _, _, _, _, _, _, _, rfl, vM13, rM13, hM13, hB⟩
  · refine ⟨false, false, false, false, false, false, false, false, false, rfl, _, _, _, _, _, _, _, _, rfl, (Below.refl _ _).drew, ?_, ?_, ?_, ?_, ?_, ?_, ?_, ?_, ?_⟩ <;> (intro h; cases h)

set_option maxHeartbeats 8000000 in
set_option maxRecDepth 100000 in
theorem near_reg7 (W : World) (T : Nat) (r : Int) (x : Q) (q1 q2 : Bool) (qA qB : Option Addr) (qm qc qn qd : Nat) (Hq : Hid (RatAt W (.agg #[.bool q1, .slice qA qm qc, .bool q2, .slice qB qn qd]) x)) (Kq : Hid (QS 589 x)) (n1 : I64 r)
    (kT0 : W.cell? ⟨T, 0, none⟩ = some (.bool q1))
    (kT1 : W.cell? ⟨T, 1, none⟩ = some (.slice qA qm qc))
    (kT2 : W.cell? ⟨T, 2, none⟩ = some (.bool q2))
    (kT3 : W.cell? ⟨T, 3, none⟩ = some (.slice qB qn qd))
    (zT : T < W.heap.size)
    (u0 u1 u2 u4 u5 u6 u7 u9 u10 u11 u12 u14 u15 u16 u17 u18 u19 u20 u21 u22 u23 u24 u25 u26 u27 u28 u29 u30 u31 u32 u33 u34 u35 u36 u37 u38 u39 u40 u41 u42 u43 u44 u45 u46 u47 u48 u49 u50 u51 u52 u53 u54 u55 u56 u57 u58 u59 u60 u61 u62 u63 u64 u65 u66 u67 : Value) :
    (regionO Try.f17 7).wp Try.prog (Exit.then (fun a' W' => ∃ v60 v61 v62 v63 v64 v65 v66 v67, a' = { tmps := #[u0, u1, u2, .int .i64 (r), u4, u5, u6, u7, .bool (decide (qcmp (x) (qmul (qw (r)) (qw (r))) ≤ 0)), u9, u10, u11, u12, .pointer (some ⟨T, 0, none⟩), u14, u15, u16, u17, u18, u19, u20, u21, u22, u23, u24, u25, u26, u27, u28, u29, u30, u31, u32, u33, u34, u35, u36, u37, u38, u39, u40, u41, u42, u43, u44, u45, u46, u47, u48, u49, u50, u51, u52, u53, u54, u55, u56, u57, u58, u59, v60, v61, v62, v63, v64, v65, v66, v67], defers := [] } ∧ Below W.heap.size W W') (fun _ _ _ => False)) { tmps := #[u0, u1, u2, .int .i64 (r), u4, u5, u6, u7, .bool (false), u9, u10, u11, u12, .pointer (some ⟨T, 0, none⟩), u14, u15, u16, u17, u18, u19, u20, u21, u22, u23, u24, u25, u26, u27, u28, u29, u30, u31, u32, u33, u34, u35, u36, u37, u38, u39, u40, u41, u42, u43, u44, u45, u46, u47, u48, u49, u50, u51, u52, u53, u54, u55, u56, u57, u58, u59, u60, u61, u62, u63, u64, u65, u66, u67], defers := [] } W := by
  have KX1 : Hid (QS 2 (qw (r))) := Lib.hid (qs_w n1)
  have KX2 : Hid (QS 2 (qw (r))) := Lib.hid (qs_w n1)
  have KX3 : Hid (QS 4 (qmul (qw (r)) (qw (r)))) := Lib.hid (QS.mono (qs_mul (k := 2) (KX1.out.mono (show 2 ≤ 2 by decide)) (KX2.out.mono (show 2 ≤ 2 by decide))) (show 2 + 2 ≤ 4 by decide))
  show Code.wp _ (Code.region _ _ _) _ _ _
  refine wp_region_any (by kernel_rfl) ?_
  refine wpAny_inv (fun (b : Array Bool) a' w' => ∃ b0 b1 b2 b3 b4 b5 b6 b7 b8 : Bool, b = #[b0, b1, b2, b3, b4, b5, b6, b7, b8] ∧ ∃ v8 v60 v61 v62 v63 v64 v65 v66 v67, a' = { tmps := #[u0, u1, u2, .int .i64 (r), u4, u5, u6, u7, v8, u9, u10, u11, u12, .pointer (some ⟨T, 0, none⟩), u14, u15, u16, u17, u18, u19, u20, u21, u22, u23, u24, u25, u26, u27, u28, u29, u30, u31, u32, u33, u34, u35, u36, u37, u38, u39, u40, u41, u42, u43, u44, u45, u46, u47, u48, u49, u50, u51, u52, u53, u54, u55, u56, u57, u58, u59, v60, v61, v62, v63, v64, v65, v66, v67], defers := [] } ∧ Below W.heap.size W w' ∧ (b0 = true → v60 = .agg #[.bool q1, .slice qA qm qc, .bool q2, .slice qB qn qd]) ∧ (b1 = true → v61 = .int .i64 (r)) ∧ (b2 = true → RatAt w' v62 (qw (r))) ∧ (b3 = true → v63 = .int .i64 (r)) ∧ (b4 = true → RatAt w' v64 (qw (r))) ∧ (b5 = true → RatAt w' v65 (qmul (qw (r)) (qw (r)))) ∧ (b6 = true → v66 = .int .i64 (qcmp (x) (qmul (qw (r)) (qw (r))))) ∧ (b7 = true → v67 = .bool (decide (qcmp (x) (qmul (qw (r)) (qw (r))) ≤ 0))) ∧ (b8 = true → v8 = .bool (decide (qcmp (x) (qmul (qw (r)) (qw (r))) ≤ 0)))) ?_ ?_ _ _ _ _ (by rfl) ?_
  · rintro listed a w i K ⟨b0, b1, b2, b3, b4, b5, b6, b7, b8, rfl, v8, v60, v61, v62, v63, v64, v65, v66, v67, rfl, hB, h0, h1, h2, h3, h4, h5, h6, h7, h8⟩ hi hK
    obtain ⟨hun, o, ho, hdep⟩ := mem_ready.1 hi
    have jT0 := (hB.cell (p := ⟨T, 0, none⟩) zT).trans kT0
    have jT1 := (hB.cell (p := ⟨T, 1, none⟩) zT).trans kT1
    have jT2 := (hB.cell (p := ⟨T, 2, none⟩) zT).trans kT2
    have jT3 := (hB.cell (p := ⟨T, 3, none⟩) zT).trans kT3
    have HI := Lib.hid (And.intro h0 (And.intro h1 (And.intro h2 (And.intro h3 (And.intro h4 (And.intro h5 (And.intro h6 (And.intro h7 (h8)))))))))
    have HBW := Lib.hid hB
    have HK := Lib.hid hK
    clear h0 h1 h2 h3 h4 h5 h6 h7 h8 hB hK hi kT0 kT1 kT2 kT3
    rcases i with _ | _ | _ | _ | _ | _ | _ | _ | _ | i
    · simp at ho
      subst ho
      try simp [Region.binds] at hdep
      unfold wpOp
      go_simp
      exact Or.inl (HK.out _ _ ⟨true, b1, b2, b3, b4, b5, b6, b7, b8, rfl, v8, _, v61, v62, v63, v64, v65, v66, v67, rfl, HBW.out, (fun _ => rfl), HI.out.2.1, HI.out.2.2.1, HI.out.2.2.2.1, HI.out.2.2.2.2.1, HI.out.2.2.2.2.2.1, HI.out.2.2.2.2.2.2.1, HI.out.2.2.2.2.2.2.2.1, HI.out.2.2.2.2.2.2.2.2⟩)
    · simp at ho
      subst ho
      try simp [Region.binds] at hdep
      unfold wpOp
      go_simp
      exact Or.inl (HK.out _ _ ⟨b0, true, b2, b3, b4, b5, b6, b7, b8, rfl, v8, v60, _, v62, v63, v64, v65, v66, v67, rfl, HBW.out, HI.out.1, (fun _ => rfl), HI.out.2.2.1, HI.out.2.2.2.1, HI.out.2.2.2.2.1, HI.out.2.2.2.2.2.1, HI.out.2.2.2.2.2.2.1, HI.out.2.2.2.2.2.2.2.1, HI.out.2.2.2.2.2.2.2.2⟩)
    · simp at ho
      subst ho
      try simp [Region.binds] at hdep
      have q1 := HI.out.2.1 (show b1 = true by first | exact hdep | exact hdep.1 | exact hdep.2 | exact hdep.2.1 | exact hdep.2.2 | exact hdep.2.2.1 | exact hdep.2.2.2 | exact hdep.2.2.2.1 | exact hdep.2.2.2.2 | exact hdep.2.2.2.2.1)
      subst q1
      unfold wpOp
      go_simp
      refine Or.inl ((whole_q (r) n1 _).mono ?_)
      rintro e wk ⟨z, rfl, hz, hb⟩
      exact HK.out _ _ ⟨b0, b1, true, b3, b4, b5, b6, b7, b8, rfl, v8, v60, _, _, v63, v64, v65, v66, v67, rfl, (HBW.out.trans (hb.mono HBW.out.size)), HI.out.1, (fun _ => rfl), (fun _ => hz), HI.out.2.2.2.1, (fun h => (HI.out.2.2.2.2.1 h).below hb), (fun h => (HI.out.2.2.2.2.2.1 h).below hb), HI.out.2.2.2.2.2.2.1, HI.out.2.2.2.2.2.2.2.1, HI.out.2.2.2.2.2.2.2.2⟩
    · simp at ho
      subst ho
      try simp [Region.binds] at hdep
      unfold wpOp
      go_simp
      exact Or.inl (HK.out _ _ ⟨b0, b1, b2, true, b4, b5, b6, b7, b8, rfl, v8, v60, v61, v62, _, v64, v65, v66, v67, rfl, HBW.out, HI.out.1, HI.out.2.1, HI.out.2.2.1, (fun _ => rfl), HI.out.2.2.2.2.1, HI.out.2.2.2.2.2.1, HI.out.2.2.2.2.2.2.1, HI.out.2.2.2.2.2.2.2.1, HI.out.2.2.2.2.2.2.2.2⟩)
    · simp at ho
      subst ho
      try simp [Region.binds] at hdep
      have q3 := HI.out.2.2.2.1 (show b3 = true by first | exact hdep | exact hdep.1 | exact hdep.2 | exact hdep.2.1 | exact hdep.2.2 | exact hdep.2.2.1 | exact hdep.2.2.2 | exact hdep.2.2.2.1 | exact hdep.2.2.2.2 | exact hdep.2.2.2.2.1)
      subst q3
      unfold wpOp
      go_simp
      refine Or.inl ((whole_q (r) n1 _).mono ?_)
      rintro e wk ⟨z, rfl, hz, hb⟩
      exact HK.out _ _ ⟨b0, b1, b2, b3, true, b5, b6, b7, b8, rfl, v8, v60, v61, v62, _, _, v65, v66, v67, rfl, (HBW.out.trans (hb.mono HBW.out.size)), HI.out.1, HI.out.2.1, (fun h => (HI.out.2.2.1 h).below hb), (fun _ => rfl), (fun _ => hz), (fun h => (HI.out.2.2.2.2.2.1 h).below hb), HI.out.2.2.2.2.2.2.1, HI.out.2.2.2.2.2.2.2.1, HI.out.2.2.2.2.2.2.2.2⟩
    · simp at ho
      subst ho
      try simp [Region.binds] at hdep
      have R2 := Lib.hid (HI.out.2.2.1 (show b2 = true by first | exact hdep | exact hdep.1 | exact hdep.2 | exact hdep.2.1 | exact hdep.2.2 | exact hdep.2.2.1 | exact hdep.2.2.2 | exact hdep.2.2.2.1 | exact hdep.2.2.2.2 | exact hdep.2.2.2.2.1))
      have R4 := Lib.hid (HI.out.2.2.2.2.1 (show b4 = true by first | exact hdep | exact hdep.1 | exact hdep.2 | exact hdep.2.1 | exact hdep.2.2 | exact hdep.2.2.1 | exact hdep.2.2.2 | exact hdep.2.2.2.1 | exact hdep.2.2.2.2 | exact hdep.2.2.2.2.1))
      unfold wpOp
      go_simp
      refine Or.inl ((mul_q R2.out R4.out (KX1.out.mono (show 2 ≤ 2 by decide)) (KX2.out.mono (show 2 ≤ 2 by decide)) (by decide) _ (Below.refl _ _)).mono ?_)
      rintro e wk ⟨z, rfl, hz, hb⟩
      exact HK.out _ _ ⟨b0, b1, b2, b3, b4, true, b6, b7, b8, rfl, v8, v60, v61, v62, v63, v64, _, v66, v67, rfl, (HBW.out.trans (hb.mono HBW.out.size)), HI.out.1, HI.out.2.1, (fun h => (HI.out.2.2.1 h).below hb), HI.out.2.2.2.1, (fun h => (HI.out.2.2.2.2.1 h).below hb), (fun _ => hz), HI.out.2.2.2.2.2.2.1, HI.out.2.2.2.2.2.2.2.1, HI.out.2.2.2.2.2.2.2.2⟩
    · simp at ho
      subst ho
      try simp [Region.binds] at hdep
      have q0 := HI.out.1 (show b0 = true by first | exact hdep | exact hdep.1 | exact hdep.2 | exact hdep.2.1 | exact hdep.2.2 | exact hdep.2.2.1 | exact hdep.2.2.2 | exact hdep.2.2.2.1 | exact hdep.2.2.2.2 | exact hdep.2.2.2.2.1)
      subst q0
      have R5 := Lib.hid (HI.out.2.2.2.2.2.1 (show b5 = true by first | exact hdep | exact hdep.1 | exact hdep.2 | exact hdep.2.1 | exact hdep.2.2 | exact hdep.2.2.1 | exact hdep.2.2.2 | exact hdep.2.2.2.1 | exact hdep.2.2.2.2 | exact hdep.2.2.2.2.1))
      unfold wpOp
      go_simp
      refine Or.inl ((cmp_q (Hq.out.below HBW.out) R5.out (Kq.out.mono (show 589 ≤ 589 by decide)) (KX3.out.mono (show 4 ≤ 589 by decide)) (by decide) _ (Below.refl _ _)).mono ?_)
      rintro e wk ⟨rfl, hb⟩
      exact HK.out _ _ ⟨b0, b1, b2, b3, b4, b5, true, b7, b8, rfl, v8, _, v61, v62, v63, v64, v65, _, v67, rfl, (HBW.out.trans (hb.mono HBW.out.size)), (fun _ => rfl), HI.out.2.1, (fun h => (HI.out.2.2.1 h).below hb), HI.out.2.2.2.1, (fun h => (HI.out.2.2.2.2.1 h).below hb), (fun h => (HI.out.2.2.2.2.2.1 h).below hb), (fun _ => rfl), HI.out.2.2.2.2.2.2.2.1, HI.out.2.2.2.2.2.2.2.2⟩
    · simp at ho
      subst ho
      try simp [Region.binds] at hdep
      have q6 := HI.out.2.2.2.2.2.2.1 (show b6 = true by first | exact hdep | exact hdep.1 | exact hdep.2 | exact hdep.2.1 | exact hdep.2.2 | exact hdep.2.2.1 | exact hdep.2.2.2 | exact hdep.2.2.2.1 | exact hdep.2.2.2.2 | exact hdep.2.2.2.2.1)
      subst q6
      unfold wpOp
      go_simp
      exact Or.inl (HK.out _ _ ⟨b0, b1, b2, b3, b4, b5, b6, true, b8, rfl, v8, v60, v61, v62, v63, v64, v65, _, _, rfl, HBW.out, HI.out.1, HI.out.2.1, HI.out.2.2.1, HI.out.2.2.2.1, HI.out.2.2.2.2.1, HI.out.2.2.2.2.2.1, (fun _ => rfl), (fun _ => rfl), HI.out.2.2.2.2.2.2.2.2⟩)
    · simp at ho
      subst ho
      try simp [Region.binds] at hdep
      have q7 := HI.out.2.2.2.2.2.2.2.1 (show b7 = true by first | exact hdep | exact hdep.1 | exact hdep.2 | exact hdep.2.1 | exact hdep.2.2 | exact hdep.2.2.1 | exact hdep.2.2.2 | exact hdep.2.2.2.1 | exact hdep.2.2.2.2 | exact hdep.2.2.2.2.1)
      subst q7
      unfold wpOp
      go_simp
      exact Or.inl (HK.out _ _ ⟨b0, b1, b2, b3, b4, b5, b6, b7, true, rfl, _, v60, v61, v62, v63, v64, v65, v66, _, rfl, HBW.out, HI.out.1, HI.out.2.1, HI.out.2.2.1, HI.out.2.2.2.1, HI.out.2.2.2.2.1, HI.out.2.2.2.2.2.1, HI.out.2.2.2.2.2.2.1, (fun _ => rfl), (fun _ => rfl)⟩)
    · simp at ho
  · rintro listed a w ⟨b0, b1, b2, b3, b4, b5, b6, b7, b8, rfl, v8, v60, v61, v62, v63, v64, v65, v66, v67, rfl, hB, h0, h1, h2, h3, h4, h5, h6, h7, h8⟩ hr
    have hall := ready_nilM (by kernel_rfl) (by rfl) hr
    have t0 : b0 = true := hall 0 (by decide)
    have t1 : b1 = true := hall 1 (by decide)
    have t2 : b2 = true := hall 2 (by decide)
    have t3 : b3 = true := hall 3 (by decide)
    have t4 : b4 = true := hall 4 (by decide)
    have t5 : b5 = true := hall 5 (by decide)
    have t6 : b6 = true := hall 6 (by decide)
    have t7 : b7 = true := hall 7 (by decide)
    have t8 : b8 = true := hall 8 (by decide)
    subst t0 t1 t2 t3 t4 t5 t6 t7 t8
    have qw8 := h8 rfl
    subst qw8
    exact ⟨_, _, _, _, _, _, _, _, rfl, hB⟩
  · refine ⟨false, false, false, false, false, false, false, false, false, rfl, _, _, _, _, _, _, _, _, _, rfl, (Below.refl _ _).drew, ?_, ?_, ?_, ?_, ?_, ?_, ?_, ?_, ?_⟩ <;> (intro h; cases h)

end Go.Proofs.Ytpjgghakeaajbaa
