/-
  A range over a ring's edges whose rounds write two blocks.
  The law's own look at the edges: they are those of the list as it was. Printed by wip/tools/gen_edge6.py.
  The law's own look at the edges, walked. Printed by wip/tools/gen_edge6.py from edge6.part.
-/
import Derived.Test.YthbndilnobjjgaaEdges
import Derived.Test.YthbndilnobjjgaaMarks
import Derived.Test.YthbndilnobjjgaaArea
import Derived.Test.YthbndilnobjjgaaSame6
namespace Go.Proofs.Ythbndilnobjjgaa
section
open Go.RowKit Go.Shelf
attribute [local go_sem] Oper.semAt_some

/-- What a round keeps: every cell of a block below n, but for blocks B and B'. -/
def Ky (B B' n : Nat) (W W' : World) : Prop := W.heap.size ≤ W'.heap.size ∧ ∀ b o, b < n → b ≠ B → b ≠ B' → W'.cell? ⟨b, o, none⟩ = W.cell? ⟨b, o, none⟩
theorem Ky.refl (B B' n : Nat) (W : World) : Ky B B' n W W := ⟨Nat.le_refl _, fun _ _ _ _ _ => rfl⟩
theorem Ky.trans {B B' n : Nat} {W W' W'' : World} (h : Ky B B' n W W') (k : Ky B B' n W' W'') : Ky B B' n W W'' := ⟨Nat.le_trans h.1 k.1, fun b o hb hB hB' => (k.2 b o hb hB hB').trans (h.2 b o hb hB hB')⟩
theorem Ky.below {B B' n m : Nat} {W W' : World} (h : Below m W W') (hn : n ≤ m) : Ky B B' n W W' := ⟨h.size, fun b o hb _ _ => h.cell (p := ⟨b, o, none⟩) (by show b < m; omega)⟩
theorem ky_t {B B' n : Nat} {A C D : World} (h : Ky B B' n A C) (k : Ky B B' n C D) : Ky B B' n A D := h.trans k
theorem ky_b {B B' n : Nat} {w : World} (hn : n ≤ w.heap.size) (W : World) (l : Nat) (o o' : Obj) (hl : w.heap.size ≤ l) (h : W.heap[l]? = some o) (h1 : o.isCells = false) (h2 : o.isWalk = false) : Ky B B' n W (W.putObj l o') := Ky.below (belowK_b hn W l o o' hl h h1 h2) (Nat.le_refl _)
theorem ky_set {B B' n b : Nat} {W : World} {o : Nat} {v : Value} (hb : b = B ∨ b = B') : Ky B B' n W (W.setCell ⟨b, o, none⟩ v) :=
  ⟨Nat.le_of_eq (World.size_setCell _ _ _).symm, fun c o' _ h1 h2 => World.cell?_of_block (w := W) (Below.heap_setCell _ _ _ c (by rcases hb with h | h <;> (intro e; have e' : c = b := e; omega)))⟩

set_option maxRecDepth 100000 in
set_option maxHeartbeats 2000000 in
theorem edges1_iny (F : Fence) (n : Nat) (hF : F.fn 51) (hro : F.round = none) (hn : 1 ≤ n) (l Bs B B' n₀ b off cap : Nat) (ps : List Pt) (m : Nat) (hm : ps.length = m) (hreach : m * 8 ≤ 140737488355328) (hb : b < n₀) (hbB : b ≠ B) (hbB' : b ≠ B') (hs : Bs < n₀) (hsB : Bs ≠ B) (hsB' : Bs ≠ B') (J Jx : Nat → World → Prop)
    {N₁ : Nat} (hJ : AbidesFrom N₁ J)
    (hY : ∀ k W, J k W → k < m → YieldAt F (n - 1) Try.prog l #[.agg #[.int .i32 (sid ps k).1.1, .int .i32 (sid ps k).1.2], .agg #[.int .i32 (sid ps k).2.1, .int .i32 (sid ps k).2.2]] W fun e W' =>
      (e = .returned (.bool true) ∧ J (k + 1) W' ∧ Ky B B' n₀ W W') ∨ (e = .returned (.bool false) ∧ Jx (k + 1) W'))
    (W : World) (hn₀ : n₀ ≤ W.heap.size) (hBs : W.cell? ⟨Bs, 0, none⟩ = some (.slice (some ⟨b, off, none⟩) m cap)) (hc : ∀ j, j < m → W.cell? ⟨b, off + j * 2, none⟩ = some (.int .i32 (gp ps j).1) ∧ W.cell? ⟨b, off + j * 2 + 1, none⟩ = some (.int .i32 (gp ps j).2)) (h0 : J 0 W) :
    CallsIn F n Try.prog 51 #[.func (.yield l) #[] #[], .pointer (some ⟨Bs, 0, none⟩)] W fun e W' => (∃ v, e = .returned v) ∧
      (J m W' ∨ (∃ k, k ≤ m ∧ Jx k W')) := by
  refine callsIn_of_wp Try.func51 rfl hF ?_ hro
  simp only [Try.ntmps51, List.size_toArray, List.length_cons, List.length_nil, Nat.reduceAdd, Nat.reduceSub, Array.replicate_succ, Array.replicate_zero, List.push_toArray, List.append_toArray, List.nil_append, List.cons_append]
  gi_wp2
  gi_loopw [7] (fun i wr => ∃ k : Nat, k ≤ m ∧ i = .int .i64 k ∧ J k wr ∧ Ky B B' n₀ W wr)
    (fun i _ => m - (intOf i).toNat)
  case atStart => exact ⟨0, Nat.zero_le _, rfl, h0, Ky.refl _ _ _ _⟩
  case round =>
    obtain ⟨k, hk, rfl, hJs, hKw⟩ := hrel
    have hnx := hKw.2
    have hnz : n₀ ≤ wr.heap.size := Nat.le_trans hn₀ hKw.1
    by_cases hlt : k < m
    · have c1 := (hnx b (off + k * 2) hb hbB hbB').trans (hc k hlt).1
      have c2 := (hnx b (off + k * 2 + 1) hb hbB hbB').trans (hc k hlt).2
      have cs := (hnx Bs 0 hs hsB hsB').trans hBs
      have hmx : Try.prog.follows .mixedOrders = true := by kernel_rfl
      gi_wp2
      refine wpIn_gen (fun W1 hW1 => ?_)
      have hB1 : Below wr.heap.size wr W1 := by rw [← hW1]; exact (Below.refl _ _).alloc (Nat.le_refl _) _
      have keep : ∀ b o, b < n₀ → W1.cell? ⟨b, o, none⟩ = wr.cell? ⟨b, o, none⟩ := fun b o h => hB1.cell (p := ⟨b, o, none⟩) (by show b < wr.heap.size; omega)
      have hk1 : (k + 1) % m < m := Nat.mod_lt _ (by omega)
      have d0 : W1.cell? ⟨wr.heap.size, 0, none⟩ = some (.int .i32 (gp ps k).1) := by rw [← hW1]; simp
      have d1 : W1.cell? ⟨wr.heap.size, 1, none⟩ = some (.int .i32 (gp ps k).2) := by rw [← hW1]; simp
      have ds : W1.cell? ⟨Bs, 0, none⟩ = some (.slice (some ⟨b, off, none⟩) m cap) := (keep _ _ hs).trans cs
      have e1 := ((keep _ _ hb).trans ((hnx b (off + (k + 1) % m * 2) hb hbB hbB').trans (hc _ hk1).1) : W1.cell? _ = _)
      have e2 := ((keep _ _ hb).trans ((hnx b (off + (k + 1) % m * 2 + 1) hb hbB hbB').trans (hc _ hk1).2) : W1.cell? _ = _)
      have hz1 : ((m : Int) == 0) = false := by rw [beq_eq_false_iff_ne]; omega
      have hz2 : ¬ (m : Int) = 0 := by omega
      have hz3 : ¬ m = 0 := by omega
      have hmod := mod_int (k := k) (m := m) (by omega)
      have hwr : IntKind.i64.wrap ((k : Int) + 1) = (k : Int) + 1 := by simp only [IntKind.wrap, IntKind.signed, IntKind.bits]; simp; omega
      have hJ1 : ∀ j, J k (W1.drewN j) := fun j => by
        have hg1 : wr.grownBy W1 none := by rw [← hW1]; exact World.grownBy_alloc wr _ none
        have hg2 : W1.grownBy (W1.drewN j) none := ⟨rfl, rfl, rfl, Nat.le_refl _, fun _ _ _ => rfl⟩
        exact hJ _ _ _ _ (hJ _ _ _ _ hJs hg1 (fun r e => by cases e)) hg2 (fun r e => by cases e)
      have hKx : ∀ j W3, Ky B B' n₀ (W1.drewN j) W3 → Ky B B' n₀ W W3 := fun j W3 h => hKw.trans ((Ky.below (hB1.trans ⟨rfl, rfl, rfl, Nat.le_refl _, fun _ _ => rfl⟩) hnz).trans h)
      obtain ⟨q, hq⟩ : ∃ q, (k + 1) % m = q := ⟨_, rfl⟩
      have hsid : sid ps k = (gp ps k, gp ps q) := by unfold sid; rw [hm, hq]
      rw [hq] at hmod hk1 e1 e2
      have hqI : (q : Int) < (m : Int) := by omega
      clear hq hm hW1 keep hc hnx hJs c1 c2 cs h0 hBs hKw
      refine wpIn_region_tail 10 hro (by kernel_rfl) (by kernel_rfl) ?_
      simp only [List.take_succ_cons, List.take_zero, List.drop_succ_cons, List.drop_zero]
      repeat (quiet_step_in (skip))
      refine wpQuietIn_nil ?_
      rintro _ ⟨nq, rfl⟩
      obtain ⟨fn, tmps, assign, body, hy, hR⟩ := hY k (W1.drewN nq) (hJ1 nq) hlt
      rw [hsid] at hy
      dsimp only at hy
      gi_wp2
      refine hR.mono ?_
      rintro e W3 (⟨rfl, hJ3, hk3⟩ | ⟨rfl, hJx3⟩)
      · have hk4 := hKx _ _ hk3
        gi_wp2
        go_roundw
        case rel => exact ⟨k + 1, by omega, by simp, hJ3, hk4⟩
        case measure => simp [intOf]; omega
      · gi_wp2
        refine bodyPost_ret (results_none rfl _ _ _) rfl ?_
        exact ⟨⟨_, rfl⟩, .inr ⟨k + 1, by omega, hJx3⟩⟩
    · obtain rfl : m = k := by omega
      gi_wp2
      go_end0
      exact ⟨⟨_, rfl⟩, .inl hJs⟩

theorem edges_stopsy (F : Fence) (n : Nat) (hF : F.fn 51) (hro : F.round = none) (hn : 1 ≤ n) (Bs B B' m n₀ : Nat) (sv : Value) (ps : List Pt) (hps : ∀ p ∈ ps, IPt p) (hreach : ps.length * 8 ≤ 140737488355328) (w : World) (hn₀ : n₀ ≤ w.heap.size)
    (hs : Bs < n₀) (hsB : Bs ≠ B) (hsB' : Bs ≠ B') (hB : m ≤ B) (hB' : m ≤ B') (hm : m ≤ n₀)
    (hc : w.cell? ⟨Bs, 0, none⟩ = some sv) (hI : PtsAt m w sv ps) :
    SeqStopsK F n Try.prog 51 #[.pointer (some ⟨Bs, 0, none⟩)] ePt (Ky B B' n₀) (fun ys => ys = upto (sdS ps hps) ps.length) (fun pre => ∃ k, k ≤ ps.length ∧ pre = upto (sdS ps hps) k) ps.length w := fun l J Jx W hW hJ _ hY h0 => by
  have hc' := (hW.cell (p := ⟨Bs, 0, none⟩) (by show Bs < w.heap.size; omega)).trans hc
  have hmw : m ≤ w.heap.size := by omega
  rcases hI.below (hW.mono hmw) with ⟨⟨A0, c0, rfl⟩, rfl⟩ | ⟨b, off, cap, rfl, hb, hcs⟩
  · exact (edges1_nil_in F n hF hro l Bs (J []) W A0 c0 hc' h0).mono fun e W' ⟨he, hj⟩ => ⟨he, .inl ⟨_, rfl, hj⟩⟩
  · refine (edges1_iny F n hF hro hn l Bs B B' n₀ b off cap ps _ rfl hreach (by omega) (by omega) (by omega) hs hsB hsB' (fun k => J (upto (sdS ps hps) k)) (fun k => Jx (upto (sdS ps hps) k)) (fun k => hJ (upto (sdS ps hps) k)) (fun k W1 h hk => ?_) W (Nat.le_trans hn₀ hW.size) hc' hcs h0).mono ?_
    · have := hY _ (sdS ps hps k) W1 h (by rw [upto_length]; exact hk)
      rw [← upto_succ] at this
      exact this
    · rintro e W' ⟨he, hj | ⟨k, hk, hj⟩⟩
      · exact ⟨he, .inl ⟨_, rfl, hj⟩⟩
      · exact ⟨he, .inr ⟨_, ⟨k, hk, rfl⟩, hj⟩⟩
/-- A range over a ring's edges: a round is told which edge it meets. -/
theorem edges_told (n : Nat) (hn : 1 ≤ n) (Bs B B' m n₀ : Nat) (sv : Value) (ps : List Pt) (hps : ∀ p ∈ ps, IPt p) (hreach : ps.length * 8 ≤ 140737488355328) (w : World) (hn₀ : n₀ ≤ w.heap.size)
    (hs : Bs < n₀) (hsB : Bs ≠ B) (hsB' : Bs ≠ B') (hB : m ≤ B) (hB' : m ≤ B') (hm : m ≤ n₀)
    (hc : w.cell? ⟨Bs, 0, none⟩ = some sv) (hI : PtsAt m w sv ps) :
    SeqTold n Try.prog 51 #[.pointer (some ⟨Bs, 0, none⟩)] ePt (fun pre x _ => x = sdS ps hps pre.length ∧ pre.length < ps.length) (Ky B B' n₀) (fun ys => ys = upto (sdS ps hps) ps.length) (fun pre => ∃ k, k ≤ ps.length ∧ pre = upto (sdS ps hps) k) w := fun l J Jx W hW hJ _ hY h0 => by
  have hc' := (hW.cell (p := ⟨Bs, 0, none⟩) (by show Bs < w.heap.size; omega)).trans hc
  have hmw : m ≤ w.heap.size := by omega
  rcases hI.below (hW.mono hmw) with ⟨⟨A0, c0, rfl⟩, rfl⟩ | ⟨b, off, cap, rfl, hb, hcs⟩
  · exact (edges1_nil_in Fence.wide n trivial rfl l Bs (J []) W A0 c0 hc' h0).mono fun e W' ⟨he, hj⟩ => ⟨he, .inl ⟨_, rfl, hj⟩⟩
  · refine (edges1_iny Fence.wide n trivial rfl hn l Bs B B' n₀ b off cap ps _ rfl hreach (by omega) (by omega) (by omega) hs hsB hsB' (fun k => J (upto (sdS ps hps) k)) (fun k => Jx (upto (sdS ps hps) k)) (fun k => hJ (upto (sdS ps hps) k)) (fun k W1 h hk => ?_) W (Nat.le_trans hn₀ hW.size) hc' hcs h0).mono ?_
    · have := hY _ (sdS ps hps k) W1 h ⟨by rw [upto_length], by rw [upto_length]; exact hk⟩
      rw [← upto_succ] at this
      exact this
    · rintro e W' ⟨he, hj | ⟨k, hk, hj⟩⟩
      · exact ⟨he, .inl ⟨_, rfl, hj⟩⟩
      · exact ⟨he, .inr ⟨_, ⟨k, hk, rfl⟩, hj⟩⟩
end

section
open Go.RowKit Go.Shelf
attribute [local go_sem] Oper.semAt_some wideA_fn
attribute [local simp] wideA_fn

set_option maxRecDepth 100000 in
set_option maxHeartbeats 4000000 in
/-- The region that holds an edge against the list. -/
theorem edge6_reg (l k : Nat) (V : World) (Vb OK N X Y b off L c j q : Nat) (x1 x2 y1 y2 : Int)
    (cOK : V.cell? ⟨OK, 0, none⟩ = some (.bool true)) (fOK : V.frozen? ⟨OK, 0, none⟩ = false) (cN : V.cell? ⟨N, 0, none⟩ = some (.int .i64 (j : Int))) (cV : V.cell? ⟨Vb, 0, none⟩ = some (.slice (some ⟨b, off, none⟩) L c))
    (cX0 : V.cell? ⟨X, 0, none⟩ = some (.int .i32 x1)) (cX1 : V.cell? ⟨X, 1, none⟩ = some (.int .i32 x2)) (cY0 : V.cell? ⟨Y, 0, none⟩ = some (.int .i32 y1)) (cY1 : V.cell? ⟨Y, 1, none⟩ = some (.int .i32 y2))
    (ca0 : V.cell? ⟨b, off + j * 2, none⟩ = some (.int .i32 x1)) (ca1 : V.cell? ⟨b, off + j * 2 + 1, none⟩ = some (.int .i32 x2)) (cb0 : V.cell? ⟨b, off + q * 2, none⟩ = some (.int .i32 y1)) (cb1 : V.cell? ⟨b, off + q * 2 + 1, none⟩ = some (.int .i32 y2))
    (zOK : OK < V.heap.size) (zN : N < V.heap.size) (zV : Vb < V.heap.size) (zX : X < V.heap.size) (zY : Y < V.heap.size) (zb : b < V.heap.size)
    (_hd : decide ((j : Int) < (L : Int)) = true) (hjL : (j : Int) < (L : Int)) (_hjn : j < L) (hqL : (q : Int) < (L : Int)) (_hqn : q < L) (hw : IntKind.i64.wrap ((j : Int) + 1) = (j : Int) + 1) (hmod : ((j : Int) + 1).tmod (L : Int) = (q : Int)) (_hwq : IntKind.i64.wrap (q : Int) = (q : Int)) (_hz1 : ((L : Int) == 0) = false) (_hz2 : ¬ (L : Int) = 0) (hz3 : ¬ L = 0)
    (u0 u1 u2 u4 u5 u6 u8 u12 u13 u14 u15 u16 u17 u18 u19 u20 u21 u22 u23 u24 u25 u26 u27 u28 u29 u30 u31 u32 u33 u34 u35 u36 u37 u38 u39 u40 u41 u42 u43 u44 u45 u46 u47 u48 u49 u50 u51 u52 u53 u54 u55 u56 u57 u58 u59 u60 u61 u62 u63 u64 u65 u66 u67 u68 u69 u70 u71 u72 u73 u74 u75 u76 u77 u78 u79 u80 u81 u82 u83 u84 u85 u86 u87 u88 u89 u90 : Value) :
    (regionC Try.f24 15).wpIn (Fence.wide.inRound l) k Try.prog (fun e a' W => e = .normal ∧ (∃ v34 v35 v36 v37 v38 v39 v40 v41 v42 v43 v44 v45 v46 v47 v48 v49 v50 v51 v52 v53 v54 v55 v56 v57 v58 v59 v60, a' = { tmps := #[u0, u1, u2, .pointer (some ⟨Vb, 0, none⟩), u4, u5, u6, .pointer (some ⟨OK, 0, none⟩), u8, .pointer (some ⟨N, 0, none⟩), .pointer (some ⟨X, 0, none⟩), .pointer (some ⟨Y, 0, none⟩), u12, u13, u14, u15, u16, u17, u18, u19, u20, u21, u22, u23, u24, u25, u26, u27, u28, u29, u30, u31, u32, u33, v34, v35, v36, v37, v38, v39, v40, v41, v42, v43, v44, v45, v46, v47, v48, v49, v50, v51, v52, v53, v54, v55, v56, v57, v58, v59, v60, u61, u62, u63, u64, u65, u66, u67, u68, u69, u70, u71, u72, u73, u74, u75, u76, u77, u78, u79, u80, u81, u82, u83, u84, u85, u86, u87, u88, u89, u90], defers := [] }) ∧ ∃ V1, Below V.heap.size V V1 ∧ W = V1.setCell ⟨OK, 0, none⟩ (.bool true)) { tmps := #[u0, u1, u2, .pointer (some ⟨Vb, 0, none⟩), u4, u5, u6, .pointer (some ⟨OK, 0, none⟩), u8, .pointer (some ⟨N, 0, none⟩), .pointer (some ⟨X, 0, none⟩), .pointer (some ⟨Y, 0, none⟩), u12, u13, u14, u15, u16, u17, u18, u19, u20, u21, u22, u23, u24, u25, u26, u27, u28, u29, u30, u31, u32, u33, u34, u35, u36, u37, u38, u39, u40, u41, u42, u43, u44, u45, u46, u47, u48, u49, u50, u51, u52, u53, u54, u55, u56, u57, u58, u59, u60, u61, u62, u63, u64, u65, u66, u67, u68, u69, u70, u71, u72, u73, u74, u75, u76, u77, u78, u79, u80, u81, u82, u83, u84, u85, u86, u87, u88, u89, u90], defers := [] } V := by
  have hmx : Try.prog.follows .mixedOrders = true := by kernel_rfl
  have hq := @wd_cell V
  show Code.wpIn _ _ _ (Code.region _ _ _) _ _ _
  refine wpIn_round_wd_tail 27 (by kernel_rfl) (by kernel_rfl) (by kernel_rfl) ?_
  simp only [List.take_succ_cons, List.take_zero, List.drop_succ_cons, List.drop_zero]
  repeat (gi_big_quiet_step (fail))
  refine wpQuietIn_nil ?_
  rintro W1 ⟨⟨wx, hb1⟩, hwx⟩
  obtain rfl : W1 = wx := hwx
  obtain ⟨ce, fr⟩ := bcell hb1
  have fR1 := (fr OK 0 zOK).trans fOK
  have c0 := (ce OK 0 zOK).trans cOK
  clear fr ce hq
  gi_wp2
  exact ⟨W1, hb1, rfl⟩
end

section
open Go.RowKit Go.Shelf
attribute [local go_sem] Oper.semAt_some wideA_fn
attribute [local simp] wideA_fn

/-- The first k points and the marks behind the list are as they were. -/
def RoomK (W : World) (g : Nat) (ps : List Pt) (k : Nat) : Prop := ∃ cs, Var W g 28 cs ∧ cs.size = (ps.length + 9) * 2 ∧ ∀ j, (j < k ∨ ps.length ≤ j) → j < ps.length + 9 → cs[j * 2]? = some (.int .i32 (romP ps j).1) ∧ cs[j * 2 + 1]? = some (.int .i32 (romP ps j).2)
section
variable {W W' : World} {g k : Nat} {ps : List Pt}
theorem RoomAt.k0 (h : RoomAt W g ps) : RoomK W g ps 0 := by
  obtain ⟨cs, h1, h2, h3⟩ := h
  exact ⟨cs, h1, h2, fun j _ hj => h3 j hj⟩
theorem RoomK.done (h : RoomK W g ps ps.length) : RoomAt W g ps := by
  obtain ⟨cs, h1, h2, h3⟩ := h
  exact ⟨cs, h1, h2, fun j hj => h3 j (by omega) hj⟩
theorem RoomK.lt (h : RoomK W g ps k) : g < W.heap.size := by obtain ⟨cs, h1, _⟩ := h; exact h1.lt
theorem RoomK.turn {S : Nat → Prop} (h : RoomK W g ps k) (ht : Turn S W W') (hg : ¬ S g) : RoomK W' g ps k := by obtain ⟨cs, h1, h2⟩ := h; exact ⟨cs, h1.turn ht hg, h2⟩
theorem RoomK.cell (h : RoomK W g ps k) {j : Nat} (hj : j < ps.length + 9) : (∃ v, W.cell? ⟨g, j * 2, none⟩ = some v) ∧ (∃ v, W.cell? ⟨g, j * 2 + 1, none⟩ = some v) ∧ W.frozen? ⟨g, j * 2, none⟩ = false ∧ W.frozen? ⟨g, j * 2 + 1, none⟩ = false := by
  obtain ⟨cs, h1, h2, _⟩ := h
  exact ⟨⟨_, (h1.cell _).trans (Array.getElem?_eq_getElem (by omega))⟩, ⟨_, (h1.cell _).trans (Array.getElem?_eq_getElem (by omega))⟩, h1.free _, h1.free _⟩
theorem set_two {cs : Array Value} {i j : Nat} (h : i ≠ j) (x y : Value) : ((cs.setIfInBounds (i * 2) x).setIfInBounds (i * 2 + 1) y)[j * 2]? = cs[j * 2]? ∧ ((cs.setIfInBounds (i * 2) x).setIfInBounds (i * 2 + 1) y)[j * 2 + 1]? = cs[j * 2 + 1]? := by
  simp only [Array.getElem?_setIfInBounds]
  constructor
  · rw [if_neg (by omega), if_neg (by omega)]
  · rw [if_neg (by omega), if_neg (by omega)]
theorem RoomK.any (h : RoomK W g ps 0) {i : Nat} (hi : i < ps.length) (x y : Value) : RoomK ((W.setCell ⟨g, i * 2, none⟩ x).setCell ⟨g, i * 2 + 1, none⟩ y) g ps 0 := by
  obtain ⟨cs, h1, h2, h3⟩ := h
  refine ⟨_, (h1.store _ _).store _ _, by simp [h2], fun j hj hj2 => ?_⟩
  obtain ⟨e1, e2⟩ := set_two (cs := cs) (i := i) (j := j) (by omega) x y
  rw [e1, e2]
  exact h3 j hj hj2
theorem RoomK.put (h : RoomK W g ps k) (hk : k < ps.length) : RoomK ((W.setCell ⟨g, k * 2, none⟩ (.int .i32 (gp ps k).1)).setCell ⟨g, k * 2 + 1, none⟩ (.int .i32 (gp ps k).2)) g ps (k + 1) := by
  obtain ⟨cs, h1, h2, h3⟩ := h
  refine ⟨_, (h1.store _ _).store _ _, by simp [h2], fun j hj hj2 => ?_⟩
  by_cases e : j = k
  · subst e
    have hr : romP ps j = gp ps j := by unfold romP; rw [if_pos hk]
    rw [hr]
    simp only [Array.getElem?_setIfInBounds, Array.size_setIfInBounds]
    constructor
    · rw [if_neg (by omega), if_pos trivial, if_pos (by omega)]
    · rw [if_pos trivial, if_pos (by omega)]
  · obtain ⟨e1, e2⟩ := set_two (cs := cs) (i := k) (j := j) (fun h => e h.symm) (.int .i32 (gp ps k).1) (.int .i32 (gp ps k).2)
    rw [e1, e2]
    exact h3 j (by omega) hj2
theorem turn_two {g i : Nat} {x y : Value} (h : Turn (· = g) W W') : Turn (· = g) W ((W'.setCell ⟨g, i * 2, none⟩ x).setCell ⟨g, i * 2 + 1, none⟩ y) :=
  Turn.set (Turn.set h (p := ⟨g, i * 2, none⟩) rfl x) (p := ⟨g, i * 2 + 1, none⟩) rfl y
end
theorem pts_turn {S : Nat → Prop} {M : Nat} {W W' : World} {sv : Value} {ps : List Pt} (h : PtsAt M W sv ps) (ht : Turn S W W') (hs : ∀ k, S k → M ≤ k) (hM : M ≤ W.heap.size) : PtsAt M W' sv ps := h.below (ht.below hs hM)

theorem w64_6 {z : Int} (h : -9223372036854775808 ≤ z ∧ z ≤ 9223372036854775807) : IntKind.i64.wrap z = z := by
  simp only [IntKind.wrap, IntKind.signed, IntKind.bits]
  simp
  omega
/-- What holds at the heads of the two rounds. -/
structure Mid6 (w : World) (S Vb OK g mm m3 L : Nat) (Ac : Option Addr) (cc : Nat) (sv : Value) (ps : List Pt) (Ds : List Nat) (U : World) : Prop where
  s : Boxed U S 23 (.slice Ac L cc)
  p : PtsAt m3 U (.slice Ac L cc) ps
  vb : Boxed U Vb 23 sv
  v : PtsAt mm U sv ps
  ok : Boxed U OK 4 (.bool true)
  gm : RoomK U g ps 0
  b : Below g w U
  z : m3 ≤ OK ∧ S < m3 ∧ Vb < m3 ∧ g < m3 ∧ mm ≤ g ∧ g ≠ S ∧ g ≠ Vb
  d : ∀ D ∈ Ds, OK < D ∧ U.heap[D]? = some (.deferred (some []))
  n : Ds.Nodup
section
variable {w U U' : World} {S Vb OK g mm m3 L N : Nat} {Ac : Option Addr} {cc : Nat} {sv : Value} {ps : List Pt} {Ds : List Nat}
theorem Mid6.turn (h : Mid6 w S Vb OK g mm m3 L Ac cc sv ps Ds U) (ht : Turn (fun b => b = OK ∨ b = N) U U') (hN : OK < N) (hd : ∀ D ∈ Ds, D ≠ N) (hok : Boxed U' OK 4 (.bool true)) : Mid6 w S Vb OK g mm m3 L Ac cc sv ps Ds U' := by
  obtain ⟨z1, z2, z3, z4, z5, z6, z7⟩ := h.z
  have hl := h.ok.lt
  have bx : ∀ {B : Nat} {t : TypeId} {v : Value}, B < m3 → Boxed U B t v → Boxed U' B t v := fun hB hb => (ht.block _ hb.lt (by omega)).trans hb
  refine ⟨bx z2 h.s, pts_turn h.p ht (fun k hk => by omega) (by omega), bx z3 h.vb, pts_turn h.v ht (fun k hk => by omega) (by omega), hok, h.gm.turn ht (by omega), h.b.trans (ht.below (fun k hk => by omega) (by omega)), h.z, fun D hD => ?_, h.n⟩
  obtain ⟨d1, d2⟩ := h.d D hD
  have dl : D < U.heap.size := (Array.getElem?_eq_some_iff.1 d2).1
  have dn := hd D hD
  exact ⟨d1, (ht.block D dl (by omega)).trans d2⟩
theorem Mid6.more (h : Mid6 w S Vb OK g mm m3 L Ac cc sv ps Ds U) {D : Nat} (hD : OK < D) (hn : D ∉ Ds) (hd : U.heap[D]? = some (.deferred (some []))) : Mid6 w S Vb OK g mm m3 L Ac cc sv ps (D :: Ds) U :=
  ⟨h.s, h.p, h.vb, h.v, h.ok, h.gm, h.b, h.z, fun D' hD' => by
    rcases List.mem_cons.1 hD' with rfl | h'
    · exact ⟨hD, hd⟩
    · exact h.d D' h', List.nodup_cons.2 ⟨hn, h.n⟩⟩
end
set_option maxRecDepth 100000 in
theorem fr6_ex (g L Vb S OK : Nat) (r : Int) {x1 x2 x4 x6 x9 x10 x11 x12 x13 x14 x15 x16 x17 x18 x19 x20 x21 x22 x23 x24 x25 x26 x27 x28 x29 x30 x31 x32 x33 x34 x35 x36 x37 x38 x39 x40 x41 x42 x43 x44 x45 x46 x47 x48 x49 x50 x51 x52 x53 x54 x55 x56 x57 x58 x59 x60 x61 x62 x63 x64 x65 x66 x67 x68 x69 x70 x71 x72 x73 x74 x75 x76 x77 x78 x79 x80 x81 x82 x83 x84 x85 x86 x87 x88 x89 x90 : Value} {ds : List Deferred} :
    ∃ u : Nat → Value, ({ tmps := #[.slice (some ⟨g, 0, none⟩) L (L + 9), x1, x2, .pointer (some ⟨Vb, 0, none⟩), x4, .func (.func 51) #[] #[.pointer (some ⟨S, 0, none⟩)], x6, .pointer (some ⟨OK, 0, none⟩), .int .i64 r, x9, x10, x11, x12, x13, x14, x15, x16, x17, x18, x19, x20, x21, x22, x23, x24, x25, x26, x27, x28, x29, x30, x31, x32, x33, x34, x35, x36, x37, x38, x39, x40, x41, x42, x43, x44, x45, x46, x47, x48, x49, x50, x51, x52, x53, x54, x55, x56, x57, x58, x59, x60, x61, x62, x63, x64, x65, x66, x67, x68, x69, x70, x71, x72, x73, x74, x75, x76, x77, x78, x79, x80, x81, x82, x83, x84, x85, x86, x87, x88, x89, x90], defers := ds } : Act) = { tmps := #[.slice (some ⟨g, 0, none⟩) L (L + 9), u 1, u 2, .pointer (some ⟨Vb, 0, none⟩), u 4, .func (.func 51) #[] #[.pointer (some ⟨S, 0, none⟩)], u 6, .pointer (some ⟨OK, 0, none⟩), .int .i64 r, u 9, u 10, u 11, u 12, u 13, u 14, u 15, u 16, u 17, u 18, u 19, u 20, u 21, u 22, u 23, u 24, u 25, u 26, u 27, u 28, u 29, u 30, u 31, u 32, u 33, u 34, u 35, u 36, u 37, u 38, u 39, u 40, u 41, u 42, u 43, u 44, u 45, u 46, u 47, u 48, u 49, u 50, u 51, u 52, u 53, u 54, u 55, u 56, u 57, u 58, u 59, u 60, u 61, u 62, u 63, u 64, u 65, u 66, u 67, u 68, u 69, u 70, u 71, u 72, u 73, u 74, u 75, u 76, u 77, u 78, u 79, u 80, u 81, u 82, u 83, u 84, u 85, u 86, u 87, u 88, u 89, u 90], defers := ds } :=
  ⟨fun i => (#[undef, x1, x2, undef, x4, undef, x6, undef, undef, x9, x10, x11, x12, x13, x14, x15, x16, x17, x18, x19, x20, x21, x22, x23, x24, x25, x26, x27, x28, x29, x30, x31, x32, x33, x34, x35, x36, x37, x38, x39, x40, x41, x42, x43, x44, x45, x46, x47, x48, x49, x50, x51, x52, x53, x54, x55, x56, x57, x58, x59, x60, x61, x62, x63, x64, x65, x66, x67, x68, x69, x70, x71, x72, x73, x74, x75, x76, x77, x78, x79, x80, x81, x82, x83, x84, x85, x86, x87, x88, x89, x90] : Array Value).getD i undef, rfl⟩

set_option maxRecDepth 100000 in
set_option maxHeartbeats 8000000 in
theorem edges6_any (ps : List Pt) (hps : ∀ p ∈ ps, IPt p) (g mm : Nat) (sv : Value) (hreach : ps.length * 8 ≤ 140737488355328) (w : World) (hm : mm ≤ w.heap.size) (hmg : mm ≤ g) (hI : PtsAt mm w sv ps) (hR : RoomAt w g ps) :
    Calls Try.prog 24 #[.slice (some ⟨g, 0, none⟩) ps.length (ps.length + 9), sv] w fun e w' => e = .returned (.bool true) ∧ RoomAt w' g ps ∧ Below g w w' := by
  have zg := hR.lt
  have ED := Lib.hid (fun W (h : Below w.heap.size w W) => edges_any ps w.heap.size (some ⟨g, 0, none⟩) (ps.length + 9) W (hR.pts.below h) h.size (by omega) (fun _ h => by cases h))
  obtain ⟨L, hL⟩ : ∃ L, ps.length = L := ⟨_, rfl⟩
  obtain ⟨A, c, rfl⟩ : ∃ A c, sv = .slice A L c := by
    rcases hI with ⟨⟨A, c, rfl⟩, rfl⟩ | ⟨b, off, cap, rfl, _⟩
    · exact ⟨A, c, by rw [← hL]; rfl⟩
    · exact ⟨_, _, by rw [hL]⟩
  rw [hL] at ED hreach ⊢
  have hLI : (L : Int) ≤ 17592186044416 := by omega
  have HL := Lib.hid (And.intro hL (And.intro hps (And.intro hI hR)))
  clear hL hps hI hR
  refine (callsIn_wide (n := 6)).1 ?_
  have h1 : 1 ≤ 6 := by omega
  refine callsIn_of_wp_marks Try.func24 rfl trivial ?_ rfl
  simp only [Try.ntmps24, List.size_toArray, List.length_cons, List.length_nil, Nat.reduceAdd, Nat.reduceSub, Array.replicate_succ, Array.replicate_zero, List.push_toArray, List.append_toArray, List.nil_append, List.cons_append]
  refine wpIn_wide.2 ?_
  have hnil : ∀ S W, (binOp .eql 54 (.func (.func 51) #[] #[.pointer (some ⟨S, 0, none⟩)]) .nilFunc : Sem Value).run Try.prog W = .ok (.bool false) W := fun _ _ => rfl
  go_upto_region 1 with fail
  refine wp_gen (fun W hW => ?_)
  have bV : Hid (Boxed W w.heap.size 23 (.slice A L c)) := Lib.hid (by rw [hW]; exact Boxed.new _ _ _)
  have HB : Hid (Below w.heap.size w W) := Lib.hid (by rw [hW]; go_grown)
  obtain ⟨Vb, hVb⟩ : ∃ Q, w.heap.size = Q := ⟨_, rfl⟩
  rw [hVb] at bV ⊢
  clear hW
  go_wp2_with fail
  refine (ED.out W HB.out).mono ?_
  rintro e w3 ⟨A', c', rfl, bS, hPN, hb3⟩
  have bV3 := boxed_below hb3 bV.out.lt bV.out
  have zV := bV.out.lt
  obtain ⟨S, hS⟩ : ∃ S, W.heap.size = S := ⟨_, rfl⟩
  rw [hS] at bS hPN zV ⊢
  have hB3 := HB.out.trans (hb3.mono HB.out.size)
  have zS := bS.lt
  have hP3 := hPN g (by have := HB.out.size; omega)
  have zs : mm ≤ w.heap.size := hm
  have HB3 := Lib.hid (And.intro bS (And.intro hP3 (And.intro bV3 (And.intro (HL.out.2.2.1.below (hB3.mono hm)) (And.intro (HL.out.2.2.2.keep hB3) hB3)))))
  have zgS : g < S ∧ g < Vb ∧ Vb < S := by have := HB.out.size; omega
  clear bS hPN hb3 bV3 hB3 hP3 ED HB bV hVb hS
  go_wp2_with fail
  go_loopw [6] (fun i wr => ∃ k : Nat, k ≤ L ∧ i = .int .i64 (k : Int) ∧ RoomK wr g ps 0 ∧ Turn (· = g) w3 wr) (fun i _ => L - (intOf i).toNat)
  case atStart => exact ⟨0, Nat.zero_le _, rfl, HB3.out.2.2.2.2.1.k0, Turn.refl _ _⟩
  case round =>
    obtain ⟨k, hk, rfl, hrm, hT⟩ := hrel
    rcases Nat.lt_or_ge k L with hlt | hge
    · have hkI : (k : Int) < (L : Int) := by omega
      obtain ⟨⟨v0, c0⟩, ⟨v1, c1⟩, f0, f1⟩ := hrm.cell (j := k) (by rw [HL.out.1]; omega)
      have zr := hrm.lt
      have H := Lib.hid (And.intro (hrm.any (i := k) (by rw [HL.out.1]; exact hlt) (.int .i32 (-5)) (.int .i32 (-5))) (turn_two (i := k) (x := .int .i32 (-5)) (y := .int .i32 (-5)) hT))
      clear hrm hT
      go_wp2_with fail
      go_roundw
      case rel => exact ⟨k + 1, by omega, by simp, H.out.1, H.out.2⟩
      case measure => simp [intOf]; omega
    · have hdk : decide ((k : Int) < (L : Int)) = false := by simp; omega
      have hdn : decide (k < L) = false := by simp; omega
      obtain ⟨b1, hPg, b3, b4, b5, b6⟩ := HB3.out
      have hM0 : Hid (∀ U, Below wr.heap.size wr U → Boxed U wr.heap.size 4 (.bool true) → Mid6 w S Vb wr.heap.size g mm w3.heap.size L A' c' (.slice A L c) ps [] U) := Lib.hid (fun U hU hok => by
        have ht := hT.trans (Turn.of_below hU)
        have hz := hT.size
        refine ⟨(ht.block _ b1.lt (by omega)).trans b1, ?_, (ht.block _ b3.lt (by omega)).trans b3, pts_turn b4 ht (fun k hk => by omega) (by omega), hok, hrm.turn (S := fun _ => False) (Turn.of_below hU) (fun h => h), (b6.mono (by omega)).trans (ht.below (fun k hk => by omega) (by omega)), by omega, (by intro D hD; cases hD), List.nodup_nil⟩
        rcases hPg with h | ⟨b, off, cap, e, hb, hne, hc⟩
        · exact .inl h
        · exact .inr ⟨b, off, cap, e, hb, fun j hj => ⟨(World.cell?_of_block (ht.block b hb hne)).trans (hc j hj).1, (World.cell?_of_block (ht.block b hb hne)).trans (hc j hj).2⟩⟩)
      have hz := hT.size
      have zO : w3.heap.size ≤ wr.heap.size := hz
      clear b1 hPg b3 b4 b5 b6 hrm hT HB3
      go_wp2_with fail
      refine wp_gen (fun V0 hV0 => ?_)
      have HM : Hid (Mid6 w S Vb wr.heap.size g mm w3.heap.size L A' c' (.slice A L c) ps [] V0) := Lib.hid (hM0.out V0 (by rw [hV0]; go_grown) (by rw [hV0]; exact Boxed.new _ _ _))
      clear hV0 hM0
      obtain ⟨OK, hOK⟩ : ∃ z, wr.heap.size = z := ⟨_, rfl⟩
      obtain ⟨m3, hm3⟩ : ∃ z, w3.heap.size = z := ⟨_, rfl⟩
      rw [hOK, hm3] at HM
      rw [hOK]
      clear hOK hm3 hz zO hdk hdn hge hk
      refine wp_loop_ghost_k (fun m a V => ∃ (r : Nat) (Ds : List Nat) (u : Nat → Value), r + m = 2 ∧ a = { tmps := #[.slice (some ⟨g, 0, none⟩) L (L + 9), u 1, u 2, .pointer (some ⟨Vb, 0, none⟩), u 4, .func (.func 51) #[] #[.pointer (some ⟨S, 0, none⟩)], u 6, .pointer (some ⟨OK, 0, none⟩), .int .i64 (r : Int), u 9, u 10, u 11, u 12, u 13, u 14, u 15, u 16, u 17, u 18, u 19, u 20, u 21, u 22, u 23, u 24, u 25, u 26, u 27, u 28, u 29, u 30, u 31, u 32, u 33, u 34, u 35, u 36, u 37, u 38, u 39, u 40, u 41, u 42, u 43, u 44, u 45, u 46, u 47, u 48, u 49, u 50, u 51, u 52, u 53, u 54, u 55, u 56, u 57, u 58, u 59, u 60, u 61, u 62, u 63, u 64, u 65, u 66, u 67, u 68, u 69, u 70, u 71, u 72, u 73, u 74, u 75, u 76, u 77, u 78, u 79, u 80, u 81, u 82, u 83, u 84, u 85, u 86, u 87, u 88, u 89, u 90], defers := Ds.map markD } ∧ Mid6 w S Vb OK g mm m3 L A' c' (.slice A L c) ps Ds V) 2 ?_ ?_
      · obtain ⟨u, hu⟩ := fr6_ex g L Vb S OK 0
        exact ⟨0, [], u, rfl, hu, HM.out⟩
      · rintro m _ V ⟨r, Ds, u, hr, rfl, hM⟩ J K hJ hK
        clear HM
        obtain ⟨y1, y2, y3, y4, y5, y6, y7⟩ := hM.z
        have yO := hM.ok.lt
        rcases Nat.lt_or_ge r 2 with hlt | hge
        · have hrI : (r : Int) < 2 := by omega
          have HV := Lib.hid hM
          clear hM
          go_upto_region 13 with fail
          refine wp_gen (fun W1 hW1 => ?_)
          have hb1 : Below V.heap.size V W1 := by rw [hW1]; go_grown
          have vN1 : Boxed W1 V.heap.size 3 (.int .i64 0) := by rw [hW1]; exact Boxed.new _ _ _
          obtain ⟨N, hN⟩ : ∃ z, V.heap.size = z := ⟨_, rfl⟩
          have hM1 : Mid6 w S Vb OK g mm m3 L A' c' (.slice A L c) ps Ds W1 := HV.out.turn (N := V.heap.size) (Turn.of_below hb1) yO (fun D hD e => by have := (Array.getElem?_eq_some_iff.1 (HV.out.d D hD).2).1; omega) (boxed_below hb1 HV.out.ok.lt HV.out.ok)
          have hdl : Hid (∀ D ∈ Ds, D < N) := Lib.hid (fun D hD => by rw [← hN]; exact (Array.getElem?_eq_some_iff.1 (HV.out.d D hD).2).1)
          rw [hN] at vN1 hb1 yO ⊢
          have zN1 := vN1.lt
          have hseq := edges_told 5 (by omega) S OK N m3 W1.heap.size (.slice A' L c') ps HL.out.2.1 (by rw [HL.out.1]; omega) W1 (Nat.le_refl _) (by omega) (by omega) (by omega) y1 (by omega) (by omega) hM1.s.cell hM1.p
          have H1 := Lib.hid (And.intro hM1 (And.intro vN1 hseq))
          clear hW1 vN1 hb1 hseq hM1 HV hN
          go_wp2_with fail
          refine (wpIn_wide (n := 6)).1 ?_
          refine wpIn_rangeFunc_told (by omega) (gf := 51) (lb := #[.pointer (some ⟨S, 0, none⟩)]) rfl (enters_of Try.func51 (by kernel_rfl) rfl)
            H1.out.2.2 ky_t (ky_b (Nat.le_refl _)) (Below.refl _ _) (fun _ => rfl)
            (fun pre U => (Boxed U OK 4 (.bool true) ∧ Boxed U N 3 (.int .i64 (pre.length : Int))) ∧ Turn (fun b => b = OK ∨ b = N) W1 U)
            (fun _ _ _ => False)
            (OwnFrom.and (OwnFrom.and (Go.Own.from (boxed_own OK _ (fun _ => .bool true)) _) (Go.Own.from (boxed_own N _ (fun pre : List Sd => .int .i64 (pre.length : Int))) _)) (ownFrom_turn (Nat.le_refl _)))
            (fun c => ownFrom_pure _ _)
            ⟨⟨H1.out.1.ok, H1.out.2.1⟩, Turn.refl _ _⟩
            (fun pre x a' U => (x = sdS ps HL.out.2.1 pre.length ∧ pre.length < ps.length) ∧ ∃ X Y, (N < X ∧ Two U X 28 x.1.1) ∧ (N < Y ∧ Two U Y 28 x.1.2) ∧ a' = { tmps := #[.slice (some ⟨g, 0, none⟩) L (L + 9), u 1, u 2, .pointer (some ⟨Vb, 0, none⟩), u 4, .func (.func 51) #[] #[.pointer (some ⟨S, 0, none⟩)], u 6, .pointer (some ⟨OK, 0, none⟩), .int .i64 (r : Int), .pointer (some ⟨N, 0, none⟩), .pointer (some ⟨X, 0, none⟩), .pointer (some ⟨Y, 0, none⟩), u 12, u 13, u 14, u 15, u 16, u 17, u 18, u 19, u 20, u 21, u 22, u 23, u 24, u 25, u 26, .int .i64 (r : Int), .bool true, u 29, u 30, .func (.func 51) #[] #[.pointer (some ⟨S, 0, none⟩)], .agg #[.int .i32 x.1.1.1, .int .i32 x.1.1.2], .agg #[.int .i32 x.1.2.1, .int .i32 x.1.2.2], u 34, u 35, u 36, u 37, u 38, u 39, u 40, u 41, u 42, u 43, u 44, u 45, u 46, u 47, u 48, u 49, u 50, u 51, u 52, u 53, u 54, u 55, u 56, u 57, u 58, u 59, u 60, u 61, u 62, u 63, u 64, u 65, u 66, u 67, u 68, u 69, u 70, u 71, u 72, u 73, u 74, u 75, u 76, u 77, u 78, u 79, u 80, u 81, u 82, u 83, u 84, u 85, u 86, u 87, u 88, u 89, u 90], defers := [] })
            (fun pre x a' _ U U' row hs hg hr => by
              obtain ⟨h0, X, Y, ⟨k1, k2⟩, ⟨k3, k4⟩, k5⟩ := hs
              exact ⟨h0, X, Y, ⟨k1, two_own X 28 (fun (_ : Unit) => x.1.1) () U U' row k2 hg (fun r e => (hr r e).2)⟩, ⟨k3, two_own Y 28 (fun (_ : Unit) => x.1.2) () U U' row k4 hg (fun r e => (hr r e).2)⟩, k5⟩)
            ?assign ?body ?done ?stop
          case assign =>
            rintro l1 pre x U K ⟨⟨bO, bN⟩, hT⟩ hok hK
            have hz := hT.size
            have HOK := Lib.hid hok
            clear hok
            unfold ePt
            gi_wp2
            refine hK _ _ (((KeepsOthers.alloc _ _).trans (KeepsOthers.alloc _ _)).from _) (Ky.below (((Below.refl _ U).alloc (Nat.le_refl _) _).alloc (by simp) _) hz) ⟨⟨(bO.alloc _).alloc _, (bN.alloc _).alloc _⟩, (hT.alloc _).alloc _⟩ ⟨HOK.out, U.heap.size, U.heap.size + 1, ⟨by omega, (Two.new U 28 x.1.1).alloc _⟩, ⟨by omega, ?_⟩, rfl⟩
            have := Two.new (U.alloc (.cells #[.int .i32 x.1.1.1, .int .i32 x.1.1.2] 28)) 28 x.1.2
            rw [World.size_alloc] at this
            exact this
          case body =>
            rintro l1 pre x a' U hl1 ⟨⟨bO, bN⟩, hT⟩ ⟨⟨rfl, hlp⟩, X, Y, ⟨hX, bX⟩, ⟨hY, bY⟩, rfl⟩
            obtain ⟨j, hj⟩ : ∃ j, pre.length = j := ⟨_, rfl⟩
            rw [HL.out.1] at hlp
            rw [hj] at bN hlp bX bY ⊢
            have hsid : (sdS ps HL.out.2.1 j).1 = (gp ps j, gp ps ((j + 1) % L)) := by show sid ps j = _; unfold sid; rw [HL.out.1]
            rw [hsid] at bX bY ⊢
            dsimp only at bX bY ⊢
            obtain ⟨q, hq⟩ : ∃ q, (j + 1) % L = q := ⟨_, rfl⟩
            have hqL : q < L := by rw [← hq]; exact Nat.mod_lt _ (by omega)
            have hmod := mod_int (k := j) (m := L) (by omega)
            rw [hq] at bY hmod ⊢
            have hwr : IntKind.i64.wrap ((j : Int) + 1) = (j : Int) + 1 := w64_6 (by omega)
            have hwq : IntKind.i64.wrap (q : Int) = (q : Int) := by
              have : (q : Int) < L := by omega
              exact w64_6 ⟨by omega, by omega⟩
            have hMU : Mid6 w S Vb OK g mm m3 L A' c' (.slice A L c) ps Ds U := H1.out.1.turn hT (by omega) (fun D hD e => by have := hdl.out D hD; omega) bO
            obtain ⟨b, off, rfl, hb, hcs⟩ : ∃ b off, A = some ⟨b, off, none⟩ ∧ b < mm ∧ ∀ j, j < L → U.cell? ⟨b, off + j * 2, none⟩ = some (.int .i32 (gp ps j).1) ∧ U.cell? ⟨b, off + j * 2 + 1, none⟩ = some (.int .i32 (gp ps j).2) := by
              rcases hMU.v with ⟨_, h⟩ | ⟨b, off, cap, e, hb, hc⟩
              · have := HL.out.1; rw [h] at this; simp at this; omega
              · injection e with e1 _ _
                exact ⟨b, off, e1, hb, fun j hj => hc j (by rw [HL.out.1]; exact hj)⟩
            obtain ⟨ca0, ca1⟩ := hcs j hlp
            obtain ⟨cb0, cb1⟩ := hcs q hqL
            obtain ⟨⟨x1, x2⟩, hx⟩ : ∃ x, gp ps j = x := ⟨_, rfl⟩
            obtain ⟨⟨y1', y2'⟩, hy⟩ : ∃ x, gp ps q = x := ⟨_, rfl⟩
            rw [hx] at ca0 ca1 bX ⊢
            rw [hy] at cb0 cb1 bY ⊢
            dsimp only at ca0 ca1 cb0 cb1 bX bY ⊢
            have cOK : U.cell? ⟨OK, 0, none⟩ = some (.bool true) := bO.cell
            have fOK : U.frozen? ⟨OK, 0, none⟩ = false := bO.frozen
            have cN : U.cell? ⟨N, 0, none⟩ = some (.int .i64 (j : Int)) := bN.cell
            have fN : U.frozen? ⟨N, 0, none⟩ = false := bN.frozen
            have cV : U.cell? ⟨Vb, 0, none⟩ = some (.slice (some ⟨b, off, none⟩) L c) := hMU.vb.cell
            have zO := bO.lt
            have zNU := bN.lt
            have zX := bX.lt
            have zY := bY.lt
            have zVb := hMU.vb.lt
            have zbU : b < U.heap.size := by omega
            have hz1 : ((L : Int) == 0) = false := by rw [beq_eq_false_iff_ne]; omega
            have hzT := hT.size
            have HB := Lib.hid (And.intro bO (And.intro bN (And.intro hT hj)))
            have bX0 := bX.c0
            have bX1 := bX.c1
            have bY0 := bY.c0
            have bY1 := bY.c1
            dsimp only at bX0 bX1 bY0 bY1
            clear hsid hq hx hy hMU hcs bO bN hT hj H1 bX bY
            gi_wp2
            refine wpIn_mono (edge6_reg l1 _ U Vb OK N X Y b off L c j q x1 x2 y1' y2' cOK fOK cN cV bX0 bX1 bY0 bY1 ca0 ca1 cb0 cb1 zO zNU zVb zX zY zbU (by simp; omega) (by omega) hlp (by omega) hqL hwr hmod hwq hz1 (by omega) (by omega) _ _ _ _ _ _ _ _ _ _ _ _ _ _ _ _ _ _ _ _ _ _ _ _ _ _ _ _ _ _ _ _ _ _ _ _ _ _ _ _ _ _ _ _ _ _ _ _ _ _ _ _ _ _ _ _ _ _ _ _ _ _ _ _ _ _ _ _ _ _ _ _ _ _ _ _ _ _ _ _ _ _ _ _ _ _) ?_
            rintro e a' W' ⟨rfl, ⟨v34, v35, v36, v37, v38, v39, v40, v41, v42, v43, v44, v45, v46, v47, v48, v49, v50, v51, v52, v53, v54, v55, v56, v57, v58, v59, v60, rfl⟩, V1, hb1, rfl⟩
            have cN2 : V1.cell? ⟨N, 0, none⟩ = some (.int .i64 (j : Int)) := (hb1.cell (p := ⟨N, 0, none⟩) zNU).trans cN
            have fN2 : V1.frozen? ⟨N, 0, none⟩ = false := (hb1.frozen (p := ⟨N, 0, none⟩) zNU).trans fN
            have cV2 : V1.cell? ⟨Vb, 0, none⟩ = some (.slice (some ⟨b, off, none⟩) L c) := (hb1.cell (p := ⟨Vb, 0, none⟩) zVb).trans cV
            have zN2 : N < V1.heap.size := by have := hb1.size; omega
            have hNO : ¬ N = OK := by omega
            have hVO : ¬ Vb = OK := by omega
            have hON : ¬ OK = N := by omega
            have zVN : ¬ Vb = N := by omega
            have hgt : decide ((L : Int) < (j : Int) + 1) = false := by simp; omega
            have HW := Lib.hid hb1
            clear hb1 cOK fOK cN fN cV bX0 bX1 bY0 bY1 ca0 ca1 cb0 cb1 hmod hwq hz1
            gi_wp2
            obtain ⟨bO, bN, hT, hj⟩ := HB.out
            have hb1 := HW.out
            have bN1 := boxed_below hb1 bN.lt bN
            have bO1 := boxed_below hb1 bO.lt bO
            have hlen : (((pre ++ [sdS ps HL.out.2.1 j]).length : Nat) : Int) = (j : Int) + 1 := by rw [List.length_append, hj]; simp
            refine ⟨?_, ?_, ⟨?_, ?_⟩, ?_⟩
            · exact (keepsFrom_below hb1).trans (((KeepsOthers.setCell V1 ⟨OK, 0, none⟩ (.bool true)).trans (KeepsOthers.setCell _ ⟨N, 0, none⟩ _)).from _)
            · refine ky_t (Ky.below hb1 (by omega)) (ky_t (ky_set (.inl rfl)) (ky_set (.inr rfl)))
            · exact Boxed.other (bO1.set (.bool true)) hON _
            · rw [hlen]
              exact Boxed.set _ (Boxed.other bN1 hNO (.bool true))
            · exact (hT.trans (Turn.of_below hb1)).trans (Turn.set (Turn.set (Turn.refl (fun b => b = OK ∨ b = N) V1) (p := ⟨OK, 0, none⟩) (.inl rfl) (.bool true)) (p := ⟨N, 0, none⟩) (.inr rfl) _)
          case done =>
            rintro D ys U hD rfl ⟨⟨bO, bN⟩, hT⟩ hKD
            have hys : (upto (sdS ps HL.out.2.1) ps.length).length = L := by rw [upto_length, HL.out.1]
            rw [hys] at bN
            have hMU : Mid6 w S Vb OK g mm m3 L A' c' (.slice A L c) ps (D :: Ds) U := (H1.out.1.turn hT (by omega) (fun D hD e => by have := hdl.out D hD; omega) bO).more (D := D) (by omega) (fun h => by have := hdl.out D h; omega) hKD
            have cOK : U.cell? ⟨OK, 0, none⟩ = some (.bool true) := bO.cell
            have fOK : U.frozen? ⟨OK, 0, none⟩ = false := bO.frozen
            have cN : U.cell? ⟨N, 0, none⟩ = some (.int .i64 (L : Int)) := bN.cell
            have cV : U.cell? ⟨Vb, 0, none⟩ = some (.slice A L c) := hMU.vb.cell
            have zO := bO.lt
            have zNU := bN.lt
            have zVb := hMU.vb.lt
            have zDU : D < U.heap.size := (Array.getElem?_eq_some_iff.1 hKD).1
            have zWU := hT.size
            have HU := Lib.hid (And.intro hMU bN)
            clear hMU bO bN hT hKD H1 hys
            go_wp2_with fail
            have hdl2 : Hid (∀ D' ∈ D :: Ds, D' < U.heap.size) := Lib.hid (fun D' hD' => (Array.getElem?_eq_some_iff.1 (HU.out.1.d D' hD').2).1)
            have hM2 : Mid6 w S Vb OK g mm m3 L A' c' (.slice A L c) ps (D :: Ds) (U.setCell ⟨OK, 0, none⟩ (.bool true)) := HU.out.1.turn (N := U.heap.size) (Turn.set (Turn.refl (fun b => b = OK ∨ b = U.heap.size) U) (p := ⟨OK, 0, none⟩) (.inl rfl) (.bool true)) (by omega) (fun D' hD' e => by have := hdl2.out D' hD'; omega) (HU.out.1.ok.set _)
            have hz2 : (U.setCell ⟨OK, 0, none⟩ (.bool true)).heap.size = U.heap.size := World.size_setCell _ _ _
            obtain ⟨Z0, hZ0⟩ : ∃ Z, U.setCell ⟨OK, 0, none⟩ (.bool true) = Z := ⟨_, rfl⟩
            rw [hZ0] at hM2 hz2
            rw [hZ0]
            have hseq := edges_told 5 (by omega) S OK N m3 Z0.heap.size (.slice A' L c') ps HL.out.2.1 (by rw [HL.out.1]; omega) Z0 (Nat.le_refl _) (by omega) (by omega) (by omega) y1 (by omega) (by omega) hM2.s.cell hM2.p
            have H2 := Lib.hid (And.intro hM2 hseq)
            clear hM2 hseq HU hZ0 cOK fOK cN cV
            refine (wpIn_wide (n := 6)).1 ?_
            refine wpIn_rangeFunc_told (by omega) (gf := 51) (lb := #[.pointer (some ⟨S, 0, none⟩)]) rfl (enters_of Try.func51 (by kernel_rfl) rfl)
              H2.out.2 ky_t (ky_b (Nat.le_refl _)) (Below.refl _ _) (fun _ => rfl)
              (fun pre Z => Below Z0.heap.size Z0 Z)
              (fun c pre Z => c = Code.exit 6 ∧ Below Z0.heap.size Z0 Z)
              (ownFrom_below (Nat.le_refl _) (Nat.le_refl _))
              (fun c => OwnFrom.and (ownFrom_pure _ _) (ownFrom_below (Nat.le_refl _) (Nat.le_refl _)))
              (Below.refl _ _)
              (fun pre x a' Z => True)
              (fun pre x a' => ownFrom_pure _ _)
              ?assign2 ?body2 ?done2 ?stop2
            case assign2 =>
              rintro l2 pre x Z K hI _ hK
              unfold ePt
              gi_wp2
              exact hK _ _ (KeepsFrom.refl _ _) (Ky.refl _ _ _ _) hI trivial
            case body2 =>
              rintro l2 pre x a' Z hl2 hI _
              gi_wp2
              exact ⟨KeepsFrom.refl _ _, rfl, hI⟩
            case done2 =>
              rintro D2 xs Z hD2 _ hI hKD
              have hMZ : Mid6 w S Vb OK g mm m3 L A' c' (.slice A L c) ps (D2 :: D :: Ds) Z := (H2.out.1.turn (N := Z0.heap.size) (Turn.of_below hI) (by omega) (fun D' hD' e => by have := hdl2.out D' hD'; omega) (boxed_below hI H2.out.1.ok.lt H2.out.1.ok)).more (D := D2) (by omega) (fun h => by have := hdl2.out D2 h; omega) hKD
              clear H2
              go_wp2_with fail
              refine Handed.intro (m - 1) (by omega) (hJ _ _ _ ?_)
              obtain ⟨u', hu'⟩ := fr6_ex g L Vb S OK ((r + 1 : Nat) : Int)
              exact ⟨r + 1, D2 :: D :: Ds, u', by omega, hu', hMZ⟩
            case stop2 =>
              rintro D2 c pre Z hD2 _ ⟨rfl, hI⟩ hKD
              have hMZ : Mid6 w S Vb OK g mm m3 L A' c' (.slice A L c) ps (D2 :: D :: Ds) Z := (H2.out.1.turn (N := Z0.heap.size) (Turn.of_below hI) (by omega) (fun D' hD' e => by have := hdl2.out D' hD'; omega) (boxed_below hI H2.out.1.ok.lt H2.out.1.ok)).more (D := D2) (by omega) (fun h => by have := hdl2.out D2 h; omega) hKD
              clear H2
              refine wpIn_wide.2 ?_
              go_wp2_with fail
              refine Handed.intro (m - 1) (by omega) (hJ _ _ _ ?_)
              obtain ⟨u', hu'⟩ := fr6_ex g L Vb S OK ((r + 1 : Nat) : Int)
              exact ⟨r + 1, D2 :: D :: Ds, u', by omega, hu', hMZ⟩
          case stop =>
            rintro D c pre U hD _ hF hKD
            exact hF.elim
        · have hrI : ¬ (r : Int) < 2 := by omega
          have hdr : decide ((r : Int) < 2) = false := by simp; omega
          have HV := Lib.hid hM
          clear hM
          go_wp2_with fail
          go_loopw [12] (fun i wr => ∃ k : Nat, k ≤ L ∧ i = .int .i64 (k : Int) ∧ RoomK wr g ps k ∧ Turn (· = g) V wr) (fun i _ => L - (intOf i).toNat)
          case atStart => exact ⟨0, Nat.zero_le _, rfl, HV.out.gm, Turn.refl _ _⟩
          case round =>
            obtain ⟨k, hk, rfl, hrm, hT⟩ := hrel
            have bVr : Boxed wr Vb 23 (.slice A L c) := (hT.block Vb HV.out.vb.lt (by omega)).trans HV.out.vb
            have cV := bVr.cell
            have zVr := bVr.lt
            clear bVr
            rcases Nat.lt_or_ge k L with hlt | hge2
            · have hkI : (k : Int) < (L : Int) := by omega
              obtain ⟨⟨v0, c0⟩, ⟨v1, c1⟩, f0, f1⟩ := hrm.cell (j := k) (by rw [HL.out.1]; omega)
              have zr := hrm.lt
              obtain ⟨b, off, rfl, hb, hcs⟩ : ∃ b off, A = some ⟨b, off, none⟩ ∧ b < mm ∧ ∀ j, j < L → wr.cell? ⟨b, off + j * 2, none⟩ = some (.int .i32 (gp ps j).1) ∧ wr.cell? ⟨b, off + j * 2 + 1, none⟩ = some (.int .i32 (gp ps j).2) := by
                rcases pts_turn HV.out.v hT (fun k hk => by omega) (by omega) with ⟨_, h⟩ | ⟨b, off, cap, e, hb, hc⟩
                · have := HL.out.1; rw [h] at this; simp at this; omega
                · injection e with e1 _ _
                  exact ⟨b, off, e1, hb, fun j hj => hc j (by rw [HL.out.1]; exact hj)⟩
              obtain ⟨ca0, ca1⟩ := hcs k hlt
              have H := Lib.hid (And.intro (hrm.put (by rw [HL.out.1]; exact hlt)) (turn_two (i := k) (x := .int .i32 (gp ps k).1) (y := .int .i32 (gp ps k).2) hT))
              obtain ⟨⟨x1, x2⟩, hx⟩ : ∃ x, gp ps k = x := ⟨_, rfl⟩
              rw [hx] at ca0 ca1 H
              dsimp only at ca0 ca1 H
              clear hrm hT hcs hx
              go_wp2_with fail
              go_roundw
              case rel => exact ⟨k + 1, by omega, by simp, H.out.1, H.out.2⟩
              case measure => simp [intOf]; omega
            · have hkI : ¬ (k : Int) < (L : Int) := by omega
              obtain rfl : k = L := by omega
              have bO : Boxed wr OK 4 (.bool true) := (hT.block OK HV.out.ok.lt (by omega)).trans HV.out.ok
              have cOK := bO.cell
              have H := Lib.hid (And.intro bO (And.intro (RoomK.done (by rw [HL.out.1]; exact hrm)) hT))
              clear bO hrm hT
              go_wp2_with fail
              refine leaves_markD (B := OK) Ds _ HV.out.n (fun D hD => ⟨by have := (HV.out.d D hD).1; omega, ?_⟩) (fun w' hb hk => ?_)
              · have hd := HV.out.d D hD
                exact (H.out.2.2.block D (Array.getElem?_eq_some_iff.1 hd.2).1 (by have := hd.1; omega)).trans hd.2
              · refine ⟨.bool true, ?_, rfl, ?_, ?_⟩
                · simp [results, Try.f24, go_sem]
                · obtain ⟨cs, h1, h2⟩ := H.out.2.1
                  exact ⟨cs, hk _ _ _ _ h1, h2⟩
                · exact (HV.out.b.trans (H.out.2.2.below (fun k hk => by omega) (by omega))).trans (hb.mono (by omega))
end

end Go.Proofs.Ythbndilnobjjgaa
