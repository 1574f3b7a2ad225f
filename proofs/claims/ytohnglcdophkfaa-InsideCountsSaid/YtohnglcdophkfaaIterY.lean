/-
  The iterator inside.sides where a round writes two blocks; and the sums over a ring's sides. Printed by wip/tools/gen_itery.py.
  inside.Counts' two regions that draw their order, within a round of the range over the sides. Printed by wip/tools/gen_countw.py.
  inside.Counts: how many points of the lattice lie within a ring, and on its edge. Printed by wip/tools/gen_countp.py.
  The law InsideCounts' body, walked.
-/
import Derived.Test.YtohnglcdophkfaaEdge
import Derived.Test.YtohnglcdophkfaaCountM
import Derived.Lib.Hide
import Derived.Test.YtohnglcdophkfaaTailRd
import Derived.Test.YtohnglcdophkfaaWide
import Derived.Test.YtohnglcdophkfaaChkD
import Derived.Test.YtohnglcdophkfaaMul
import Derived.Test.YtohnglcdophkfaaGcd
import Derived.Test.YtohnglcdophkfaaCountR
import Derived.Test.YtohnglcdophkfaaMeetC
import Derived.Test.YtohnglcdophkfaaLent
namespace Go.Proofs.Ytohnglcdophkfaa
open Go.RowKit Go.Shelf

attribute [local go_sem] Oper.semAt_some

/-- What a round keeps: every cell of a block below n, but for blocks B and B'. -/
def Ky (B B' n : Nat) (W W' : World) : Prop := W.heap.size ≤ W'.heap.size ∧ ∀ b o, b < n → b ≠ B → b ≠ B' → W'.cell? ⟨b, o, none⟩ = W.cell? ⟨b, o, none⟩
theorem Ky.refl (B B' n : Nat) (W : World) : Ky B B' n W W := ⟨Nat.le_refl _, fun _ _ _ _ _ => rfl⟩
theorem Ky.trans {B B' n : Nat} {W W' W'' : World} (h : Ky B B' n W W') (k : Ky B B' n W' W'') : Ky B B' n W W'' := ⟨Nat.le_trans h.1 k.1, fun b o hb hB hB' => (k.2 b o hb hB hB').trans (h.2 b o hb hB hB')⟩
theorem Ky.below {B B' n m : Nat} {W W' : World} (h : Below m W W') (hn : n ≤ m) : Ky B B' n W W' := ⟨h.size, fun b o hb _ _ => h.cell (p := ⟨b, o, none⟩) (by show b < m; omega)⟩
theorem ky_t {B B' n : Nat} {A C D : World} (h : Ky B B' n A C) (k : Ky B B' n C D) : Ky B B' n A D := h.trans k
theorem ky_b {B B' n : Nat} {w : World} (hn : n ≤ w.heap.size) (W : World) (l : Nat) (o o' : Obj) (hl : w.heap.size ≤ l) (h : W.heap[l]? = some o) (h1 : o.isCells = false) (h2 : o.isWalk = false) : Ky B B' n W (W.putObj l o') := Ky.below (belowK_b hn W l o o' hl h h1 h2) (Nat.le_refl _)
theorem ky_set {B B' n b : Nat} {W : World} {o : Nat} {v : Value} (hb : b = B ∨ b = B') : Ky B B' n W (W.setCell ⟨b, o, none⟩ v) :=
  ⟨Nat.le_of_eq (World.size_setCell _ _ _).symm, fun c o' _ h1 h2 => World.cell?_of_block (w := W) (Below.heap_setCell _ _ _ c (by rcases hb with h | h <;> (intro e; have e' : c = b := e; omega)))⟩

set_option maxRecDepth 100000 in
set_option maxHeartbeats 2000000 in
theorem sides1_iny (F : Fence) (n : Nat) (hF : F.fn 52) (hro : F.round = none) (hn : 1 ≤ n) (l Bs B B' n₀ b off cap : Nat) (ps : List Pt) (m : Nat) (hm : ps.length = m) (hreach : m * 8 ≤ 140737488355328) (hb : b < n₀) (hbB : b ≠ B) (hbB' : b ≠ B') (hs : Bs < n₀) (hsB : Bs ≠ B) (hsB' : Bs ≠ B') (J Jx : Nat → World → Prop)
    {N₁ : Nat} (hJ : AbidesFrom N₁ J)
    (hY : ∀ k W, J k W → k < m → YieldAt F (n - 1) Try.prog l #[.agg #[.int .i32 (sid ps k).1.1, .int .i32 (sid ps k).1.2], .agg #[.int .i32 (sid ps k).2.1, .int .i32 (sid ps k).2.2]] W fun e W' =>
      (e = .returned (.bool true) ∧ J (k + 1) W' ∧ Ky B B' n₀ W W') ∨ (e = .returned (.bool false) ∧ Jx (k + 1) W'))
    (W : World) (hn₀ : n₀ ≤ W.heap.size) (hBs : W.cell? ⟨Bs, 0, none⟩ = some (.slice (some ⟨b, off, none⟩) m cap)) (hc : ∀ j, j < m → W.cell? ⟨b, off + j * 2, none⟩ = some (.int .i32 (gp ps j).1) ∧ W.cell? ⟨b, off + j * 2 + 1, none⟩ = some (.int .i32 (gp ps j).2)) (h0 : J 0 W) :
    CallsIn F n Try.prog 52 #[.func (.yield l) #[] #[], .pointer (some ⟨Bs, 0, none⟩)] W fun e W' => (∃ v, e = .returned v) ∧
      (J m W' ∨ (∃ k, k ≤ m ∧ Jx k W')) := by
  refine callsIn_of_wp Try.func52 rfl hF ?_ hro
  simp only [Try.ntmps52, List.size_toArray, List.length_cons, List.length_nil, Nat.reduceAdd, Nat.reduceSub, Array.replicate_succ, Array.replicate_zero, List.push_toArray, List.append_toArray, List.nil_append, List.cons_append]
  gi_wp2
  gi_loopw [7] (fun i wr => ∃ k : Nat, k ≤ m ∧ i = .int .i64 k ∧ J k wr ∧ Ky B B' n₀ W wr)
    (fun i _ => m - (intOf i).toNat)
  case atStart => exact ⟨0, Nat.zero_le _, rfl, h0, Ky.refl _ _ _ _⟩
  case round =>
    obtain ⟨k, hk, rfl, hJs, hKw⟩ := hrel
    have hnx := hKw.2
    have hnz : n₀ ≤ wr.heap.size := Nat.le_trans hn₀ hKw.1
    by_cases hlt : k < m
    · have c1 := (hnx b (off + k * 2) hb hbB hbB').trans (hc k hlt).1
      have c2 := (hnx b (off + k * 2 + 1) hb hbB hbB').trans (hc k hlt).2
      have cs := (hnx Bs 0 hs hsB hsB').trans hBs
      have hmx : Try.prog.follows .mixedOrders = true := by kernel_rfl
      gi_wp2
      refine wpIn_gen (fun W1 hW1 => ?_)
      have hB1 : Below wr.heap.size wr W1 := by rw [← hW1]; exact (Below.refl _ _).alloc (Nat.le_refl _) _
      have keep : ∀ b o, b < n₀ → W1.cell? ⟨b, o, none⟩ = wr.cell? ⟨b, o, none⟩ := fun b o h => hB1.cell (p := ⟨b, o, none⟩) (by show b < wr.heap.size; omega)
      have hk1 : (k + 1) % m < m := Nat.mod_lt _ (by omega)
      have d0 : W1.cell? ⟨wr.heap.size, 0, none⟩ = some (.int .i32 (gp ps k).1) := by rw [← hW1]; simp
      have d1 : W1.cell? ⟨wr.heap.size, 1, none⟩ = some (.int .i32 (gp ps k).2) := by rw [← hW1]; simp
      have ds : W1.cell? ⟨Bs, 0, none⟩ = some (.slice (some ⟨b, off, none⟩) m cap) := (keep _ _ hs).trans cs
      have e1 := ((keep _ _ hb).trans ((hnx b (off + (k + 1) % m * 2) hb hbB hbB').trans (hc _ hk1).1) : W1.cell? _ = _)
      have e2 := ((keep _ _ hb).trans ((hnx b (off + (k + 1) % m * 2 + 1) hb hbB hbB').trans (hc _ hk1).2) : W1.cell? _ = _)
      have hz1 : ((m : Int) == 0) = false := by rw [beq_eq_false_iff_ne]; omega
      have hz2 : ¬ (m : Int) = 0 := by omega
      have hz3 : ¬ m = 0 := by omega
      have hmod := mod_int (k := k) (m := m) (by omega)
      have hwr : IntKind.i64.wrap ((k : Int) + 1) = (k : Int) + 1 := by simp only [IntKind.wrap, IntKind.signed, IntKind.bits]; simp; omega
      have hJ1 : ∀ j, J k (W1.drewN j) := fun j => by
        have hg1 : wr.grownBy W1 none := by rw [← hW1]; exact World.grownBy_alloc wr _ none
        have hg2 : W1.grownBy (W1.drewN j) none := ⟨rfl, rfl, rfl, Nat.le_refl _, fun _ _ _ => rfl⟩
        exact hJ _ _ _ _ (hJ _ _ _ _ hJs hg1 (fun r e => by cases e)) hg2 (fun r e => by cases e)
      have hKx : ∀ j W3, Ky B B' n₀ (W1.drewN j) W3 → Ky B B' n₀ W W3 := fun j W3 h => hKw.trans ((Ky.below (hB1.trans ⟨rfl, rfl, rfl, Nat.le_refl _, fun _ _ => rfl⟩) hnz).trans h)
      obtain ⟨q, hq⟩ : ∃ q, (k + 1) % m = q := ⟨_, rfl⟩
      have hsid : sid ps k = (gp ps k, gp ps q) := by unfold sid; rw [hm, hq]
      rw [hq] at hmod hk1 e1 e2
      have hqI : (q : Int) < (m : Int) := by omega
      clear hq hm hW1 keep hc hnx hJs c1 c2 cs h0 hBs hKw
      refine wpIn_region_tail 10 hro (by kernel_rfl) (by kernel_rfl) ?_
      simp only [List.take_succ_cons, List.take_zero, List.drop_succ_cons, List.drop_zero]
      repeat (quiet_step_in (skip))
      refine wpQuietIn_nil ?_
      rintro _ ⟨nq, rfl⟩
      obtain ⟨fn, tmps, assign, body, hy, hR⟩ := hY k (W1.drewN nq) (hJ1 nq) hlt
      rw [hsid] at hy
      dsimp only at hy
      gi_wp2
      refine hR.mono ?_
      rintro e W3 (⟨rfl, hJ3, hk3⟩ | ⟨rfl, hJx3⟩)
      · have hk4 := hKx _ _ hk3
        gi_wp2
        go_roundw
        case rel => exact ⟨k + 1, by omega, by simp, hJ3, hk4⟩
        case measure => simp [intOf]; omega
      · gi_wp2
        refine bodyPost_ret (results_none rfl _ _ _) rfl ?_
        exact ⟨⟨_, rfl⟩, .inr ⟨k + 1, by omega, hJx3⟩⟩
    · obtain rfl : m = k := by omega
      gi_wp2
      go_end0
      exact ⟨⟨_, rfl⟩, .inl hJs⟩

theorem sides_stopsy (F : Fence) (n : Nat) (hF : F.fn 52) (hro : F.round = none) (hn : 1 ≤ n) (Bs B B' m n₀ : Nat) (sv : Value) (ps : List Pt) (hps : ∀ p ∈ ps, IPt p) (hreach : ps.length * 8 ≤ 140737488355328) (w : World) (hn₀ : n₀ ≤ w.heap.size)
    (hs : Bs < n₀) (hsB : Bs ≠ B) (hsB' : Bs ≠ B') (hB : m ≤ B) (hB' : m ≤ B') (hm : m ≤ n₀)
    (hc : w.cell? ⟨Bs, 0, none⟩ = some sv) (hI : PtsAt m w sv ps) :
    SeqStopsK F n Try.prog 52 #[.pointer (some ⟨Bs, 0, none⟩)] ePt (Ky B B' n₀) (fun ys => ys = upto (sdS ps hps) ps.length) (fun pre => ∃ k, k ≤ ps.length ∧ pre = upto (sdS ps hps) k) ps.length w := fun l J Jx W hW hJ _ hY h0 => by
  have hc' := (hW.cell (p := ⟨Bs, 0, none⟩) (by show Bs < w.heap.size; omega)).trans hc
  have hmw : m ≤ w.heap.size := by omega
  rcases hI.below (hW.mono hmw) with ⟨⟨A0, c0, rfl⟩, rfl⟩ | ⟨b, off, cap, rfl, hb, hcs⟩
  · exact (sides1_nil_in F n hF hro l Bs (J []) W A0 c0 hc' h0).mono fun e W' ⟨he, hj⟩ => ⟨he, .inl ⟨_, rfl, hj⟩⟩
  · refine (sides1_iny F n hF hro hn l Bs B B' n₀ b off cap ps _ rfl hreach (by omega) (by omega) (by omega) hs hsB hsB' (fun k => J (upto (sdS ps hps) k)) (fun k => Jx (upto (sdS ps hps) k)) (fun k => hJ (upto (sdS ps hps) k)) (fun k W1 h hk => ?_) W (Nat.le_trans hn₀ hW.size) hc' hcs h0).mono ?_
    · have := hY _ (sdS ps hps k) W1 h (by rw [upto_length]; exact hk)
      rw [← upto_succ] at this
      exact this
    · rintro e W' ⟨he, hj | ⟨k, hk, hj⟩⟩
      · exact ⟨he, .inl ⟨_, rfl, hj⟩⟩
      · exact ⟨he, .inr ⟨_, ⟨k, hk, rfl⟩, hj⟩⟩


/-- The sums over sides. -/
def totN (l : List (Pt × Pt)) : Nat := (l.map sideN).sum
def totA (l : List (Pt × Pt)) : Int := (l.map sideA).sum
theorem totN_snoc (l : List (Pt × Pt)) (x : Pt × Pt) : totN (l ++ [x]) = totN l + sideN x := by simp [totN]
theorem totA_snoc (l : List (Pt × Pt)) (x : Pt × Pt) : totA (l ++ [x]) = totA l + sideA x := by simp [totA]
theorem totN_sum (ps : List Pt) (k : Nat) : totN (upto (sid ps) k) = sumN ps k := by
  induction k with
  | zero => rfl
  | succ k ih => rw [upto_succ, totN_snoc, ih]; rfl
theorem totA_sum (ps : List Pt) (k : Nat) : totA (upto (sid ps) k) = sumA ps k := by
  induction k with
  | zero => rfl
  | succ k ih => rw [upto_succ, totA_snoc, ih]; rfl
theorem totN_bd (l : List Sd) : totN (vals l) ≤ l.length * 4294967295 := by
  induction l with
  | nil => exact Nat.zero_le _
  | cons x l ih =>
    have h := sideN_bd x.2.1 x.2.2
    have e : totN (vals (x :: l)) = sideN x.1 + totN (vals l) := by simp [totN, vals]
    rw [e, List.length_cons]
    omega
theorem cnt_wraps {ax ay bx by_ : Int} {s G : Nat} (h1 : I32 ax) (h2 : I32 ay) (h3 : I32 bx) (h4 : I32 by_) (hs : s ≤ 274877906880) (hG : G ≤ 4294967295) :
    IntKind.i64.wrap ax = ax ∧ IntKind.i64.wrap ay = ay ∧ IntKind.i64.wrap bx = bx ∧ IntKind.i64.wrap by_ = by_ ∧ IntKind.i64.wrap (bx - ax) = bx - ax ∧ IntKind.i64.wrap (by_ - ay) = by_ - ay ∧ IntKind.i64.wrap (G : Int) = (G : Int) ∧ IntKind.i64.wrap ((s : Int) + (G : Int)) = (s : Int) + (G : Int) := by
  have w : ∀ z : Int, -9223372036854775808 ≤ z → z ≤ 9223372036854775807 → IntKind.i64.wrap z = z := fun z a b => by
    simp only [IntKind.wrap, IntKind.signed, IntKind.bits]
    simp
    omega
  unfold I32 at h1 h2 h3 h4
  exact ⟨w _ (by omega) (by omega), w _ (by omega) (by omega), w _ (by omega) (by omega), w _ (by omega) (by omega), w _ (by omega) (by omega), w _ (by omega) (by omega), w _ (by omega) (by omega), w _ (by omega) (by omega)⟩

theorem wide_d {k : Nat} : Fence.wide.depth.isSome = true → 1 ≤ k := fun h => by cases h
theorem wide_fn (f : FuncId) : Fence.wide.fn f = True := rfl
attribute [local go_sem] Oper.semAt_some wide_fn
attribute [local simp] wide_fn

set_option maxRecDepth 100000 in
set_option maxHeartbeats 4000000 in
theorem edge_in (l k : Nat) (V : World) (E A C : Nat) (g ax ay bx by_ : Int) (G : Nat) (cE : V.cell? ⟨E, 0, none⟩ = some (.int .i64 g)) (fE : V.frozen? ⟨E, 0, none⟩ = false) (zE : E < V.heap.size) (cA0 : V.cell? ⟨A, 0, none⟩ = some (.int .i32 ax)) (cA1 : V.cell? ⟨A, 1, none⟩ = some (.int .i32 ay)) (zA : A < V.heap.size) (cC0 : V.cell? ⟨C, 0, none⟩ = some (.int .i32 bx)) (cC1 : V.cell? ⟨C, 1, none⟩ = some (.int .i32 by_)) (zC : C < V.heap.size) (w1 : IntKind.i64.wrap ax = ax) (w2 : IntKind.i64.wrap ay = ay) (w3 : IntKind.i64.wrap bx = bx) (w4 : IntKind.i64.wrap by_ = by_) (w5 : IntKind.i64.wrap (bx - ax) = bx - ax) (w6 : IntKind.i64.wrap (by_ - ay) = by_ - ay) (w7 : IntKind.i64.wrap (G : Int) = (G : Int)) (w8 : IntKind.i64.wrap (g + (G : Int)) = g + (G : Int)) (GC : Hid (∀ W, Calls Try.prog 41 #[.int .i64 (bx - ax), .int .i64 (by_ - ay)] W fun e w' => e = .returned (.int .u64 (G : Int)) ∧ Below W.heap.size W w')) (u0 u1 u2 u4 u5 u6 u7 u8 u11 u12 u13 u14 u15 u16 u17 u18 u19 u20 u21 u22 u23 u24 u25 u26 u27 u28 u29 u30 u31 u32 u33 u34 u35 u36 u37 u38 u39 u40 u41 u42 u43 u44 u45 u46 u47 u48 u49 u50 u51 u52 u53 u54 u55 u56 u57 u58 u59 u60 u61 u62 u63 u64 u65 u66 u67 u68 u69 u70 u71 u72 u73 u74 u75 u76 : Value) :
    (regionC Try.f26 8).wpIn (Fence.wide.inRound l) k Try.prog (fun e a' W => e = .normal ∧ (∃ v26 v27 v28 v29 v30 v31 v32 v33 v34 v35 v36 v37 v38 v39 v40 v41 v42 v43, a' = { tmps := #[u0, u1, u2, .pointer (some ⟨E, 0, none⟩), u4, u5, u6, u7, u8, .pointer (some ⟨A, 0, none⟩), .pointer (some ⟨C, 0, none⟩), u11, u12, u13, u14, u15, u16, u17, u18, u19, u20, u21, u22, u23, u24, u25, v26, v27, v28, v29, v30, v31, v32, v33, v34, v35, v36, v37, v38, v39, v40, v41, v42, v43, u44, u45, u46, u47, u48, u49, u50, u51, u52, u53, u54, u55, u56, u57, u58, u59, u60, u61, u62, u63, u64, u65, u66, u67, u68, u69, u70, u71, u72, u73, u74, u75, u76], defers := [] }) ∧ ∃ V1, Below V.heap.size V V1 ∧ W = V1.setCell ⟨E, 0, none⟩ (.int .i64 (g + (G : Int)))) { tmps := #[u0, u1, u2, .pointer (some ⟨E, 0, none⟩), u4, u5, u6, u7, u8, .pointer (some ⟨A, 0, none⟩), .pointer (some ⟨C, 0, none⟩), u11, u12, u13, u14, u15, u16, u17, u18, u19, u20, u21, u22, u23, u24, u25, u26, u27, u28, u29, u30, u31, u32, u33, u34, u35, u36, u37, u38, u39, u40, u41, u42, u43, u44, u45, u46, u47, u48, u49, u50, u51, u52, u53, u54, u55, u56, u57, u58, u59, u60, u61, u62, u63, u64, u65, u66, u67, u68, u69, u70, u71, u72, u73, u74, u75, u76], defers := [] } V := by
  have hmx : Try.prog.follows .mixedOrders = true := by kernel_rfl
  have hq := @wd_cell V
  show Code.wpIn _ _ _ (Code.region _ _ _) _ _ _
  refine wpIn_round_wd_tail 18 (by kernel_rfl) (by kernel_rfl) (by kernel_rfl) ?_
  simp only [List.take_succ_cons, List.take_zero, List.drop_succ_cons, List.drop_zero]
  repeat (gi_big_quiet_step ((refine ⟨wide_d, ?_⟩; gi_at_call 41; with_reducible exact round_wd (GC.out _))))
  refine wpQuietIn_nil ?_
  rintro W1 ⟨⟨wx, hb1⟩, hwx⟩
  obtain rfl : W1 = wx := hwx
  obtain ⟨ce, fr⟩ := bcell hb1
  have fE1 := (fr E 0 zE).trans fE
  have cE1 := (ce E 0 zE).trans cE
  clear fr ce hq
  gi_wp2
  exact ⟨W1, hb1, rfl⟩

set_option maxRecDepth 100000 in
set_option maxHeartbeats 4000000 in
theorem area_in (l k : Nat) (V : World) (R A C : Nat) (s p1 p2 ax ay bx by_ : Int) (cR0 : V.cell? ⟨R, 0, none⟩ = some (.int .i64 (hi64 s))) (cR1 : V.cell? ⟨R, 1, none⟩ = some (.int .u64 (lo64 s))) (fR : V.frozen? ⟨R, 0, none⟩ = false) (fR' : V.frozen? ⟨R, 1, none⟩ = false) (zR : R < V.heap.size) (cA0 : V.cell? ⟨A, 0, none⟩ = some (.int .i32 ax)) (cA1 : V.cell? ⟨A, 1, none⟩ = some (.int .i32 ay)) (zA : A < V.heap.size) (cC0 : V.cell? ⟨C, 0, none⟩ = some (.int .i32 bx)) (cC1 : V.cell? ⟨C, 1, none⟩ = some (.int .i32 by_)) (zC : C < V.heap.size) (w1 : IntKind.i64.wrap ax = ax) (w2 : IntKind.i64.wrap ay = ay) (w3 : IntKind.i64.wrap bx = bx) (w4 : IntKind.i64.wrap by_ = by_) (M1 : Hid (∀ W, Calls Try.prog 43 #[.int .i64 ax, .int .i64 by_] W fun e w' => e = .returned (.agg #[.int .i64 (hi64 (p1)), .int .u64 (lo64 (p1))]) ∧ Below W.heap.size W w')) (M2 : Hid (∀ W, Calls Try.prog 43 #[.int .i64 ay, .int .i64 bx] W fun e w' => e = .returned (.agg #[.int .i64 (hi64 (p2)), .int .u64 (lo64 (p2))]) ∧ Below W.heap.size W w')) (AD : Hid (∀ W, Calls Try.prog 42 #[.agg #[.int .i64 (hi64 (s)), .int .u64 (lo64 (s))], .agg #[.int .i64 (hi64 (p1)), .int .u64 (lo64 (p1))]] W fun e w' => e = .returned (.agg #[.int .i64 (hi64 (s + p1)), .int .u64 (lo64 (s + p1))]) ∧ Below W.heap.size W w')) (SU : Hid (∀ W, Calls Try.prog 44 #[.agg #[.int .i64 (hi64 (s + p1)), .int .u64 (lo64 (s + p1))], .agg #[.int .i64 (hi64 (p2)), .int .u64 (lo64 (p2))]] W fun e w' => e = .returned (.agg #[.int .i64 (hi64 (s + p1 - p2)), .int .u64 (lo64 (s + p1 - p2))]) ∧ Below W.heap.size W w')) (u0 u1 u2 u3 u4 u5 u6 u7 u11 u12 u13 u14 u15 u16 u17 u18 u19 u20 u21 u22 u23 u24 u25 u26 u27 u28 u29 u30 u31 u32 u33 u34 u35 u36 u37 u38 u39 u40 u41 u42 u43 u44 u45 u46 u47 u48 u49 u50 u51 u52 u53 u54 u55 u56 u57 u58 u59 u60 u61 u62 u63 u64 u65 u66 u67 u68 u69 u70 u71 u72 u73 u74 u75 u76 : Value) :
    (regionC Try.f26 9).wpIn (Fence.wide.inRound l) k Try.prog (fun e a' W => e = .normal ∧ (∃ v44 v45 v46 v47 v48 v49 v50 v51 v52 v53 v54 v55 v56 v57 v58 v59 v60, a' = { tmps := #[u0, u1, u2, u3, u4, u5, u6, u7, .pointer (some ⟨R, 0, none⟩), .pointer (some ⟨A, 0, none⟩), .pointer (some ⟨C, 0, none⟩), u11, u12, u13, u14, u15, u16, u17, u18, u19, u20, u21, u22, u23, u24, u25, u26, u27, u28, u29, u30, u31, u32, u33, u34, u35, u36, u37, u38, u39, u40, u41, u42, u43, v44, v45, v46, v47, v48, v49, v50, v51, v52, v53, v54, v55, v56, v57, v58, v59, v60, u61, u62, u63, u64, u65, u66, u67, u68, u69, u70, u71, u72, u73, u74, u75, u76], defers := [] }) ∧ ∃ V1, Below V.heap.size V V1 ∧ W = (V1.setCell ⟨R, 0, none⟩ (.int .i64 (hi64 (s + p1 - p2)))).setCell ⟨R, 1, none⟩ (.int .u64 (lo64 (s + p1 - p2)))) { tmps := #[u0, u1, u2, u3, u4, u5, u6, u7, .pointer (some ⟨R, 0, none⟩), .pointer (some ⟨A, 0, none⟩), .pointer (some ⟨C, 0, none⟩), u11, u12, u13, u14, u15, u16, u17, u18, u19, u20, u21, u22, u23, u24, u25, u26, u27, u28, u29, u30, u31, u32, u33, u34, u35, u36, u37, u38, u39, u40, u41, u42, u43, u44, u45, u46, u47, u48, u49, u50, u51, u52, u53, u54, u55, u56, u57, u58, u59, u60, u61, u62, u63, u64, u65, u66, u67, u68, u69, u70, u71, u72, u73, u74, u75, u76], defers := [] } V := by
  have hmx : Try.prog.follows .mixedOrders = true := by kernel_rfl
  have hq := @wd_cell V
  show Code.wpIn _ _ _ (Code.region _ _ _) _ _ _
  refine wpIn_round_wd_tail 17 (by kernel_rfl) (by kernel_rfl) (by kernel_rfl) ?_
  simp only [List.take_succ_cons, List.take_zero, List.drop_succ_cons, List.drop_zero]
  repeat (gi_big_quiet_step ((refine ⟨wide_d, ?_⟩; first | (gi_at_call_has 43 (Value.int .i64 ax); with_reducible exact round_wd (M1.out _)) | (gi_at_call_has 43 (Value.int .i64 ay); with_reducible exact round_wd (M2.out _)) | (gi_at_call 42; with_reducible exact round_wd (AD.out _)) | (gi_at_call 44; with_reducible exact round_wd (SU.out _)))))
  refine wpQuietIn_nil ?_
  rintro W1 ⟨⟨wx, hb1⟩, hwx⟩
  obtain rfl : W1 = wx := hwx
  obtain ⟨ce, fr⟩ := bcell hb1
  have fR1 := (fr R 0 zR).trans fR
  have fR2 := (fr R 1 zR).trans fR'
  have c0 := (ce R 0 zR).trans cR0
  have c1 := (ce R 1 zR).trans cR1
  clear fr ce hq
  gi_wp2
  exact ⟨W1, hb1, rfl⟩

attribute [local go_sem] Oper.semAt_some

theorem res_counts {tmps : Array Value} {W : World} {E : Nat} {x y z : Int} (h2 : tmps.getD 2 undef = .int .i64 x) (h3 : tmps.getD 3 undef = .pointer (some ⟨E, 0, none⟩)) (h4 : tmps.getD 4 undef = .int .i64 z) (c3 : W.cell? ⟨E, 0, none⟩ = some (.int .i64 y)) :
    (results Try.f26 tmps).run Try.prog W = .ok (.tuple #[.int .i64 x, .int .i64 y, .int .i64 z]) W := by
  simp only [Array.getD_eq_getD_getElem?] at h2 h3 h4
  simp [results, Try.f26, go_sem, h2, h3, h4, c3]
theorem cnt_leave {ps : List Pt} {w : World} {a : Act} {W W0 : World} {E D n : Nat} {x y z : Int} (hd : a.defers = [{ target := .collected D, args := #[] }]) (h2 : a.tmps.getD 2 undef = .int .i64 x) (h3 : a.tmps.getD 3 undef = .pointer (some ⟨E, 0, none⟩)) (h4 : a.tmps.getD 4 undef = .int .i64 z)
    (c3 : W.cell? ⟨E, 0, none⟩ = some (.int .i64 y)) (hk : KeepsOthers W0 W) (hK0 : W0.heap[D]? = some (.deferred (some []))) (hB : Below n w W) (hwn : w.heap.size ≤ n) (hD : w.heap.size ≤ D)
    (h : CntOut ps (.returned (.tuple #[.int .i64 x, .int .i64 y, .int .i64 z]))) :
    bodyPostM Fence.wide 6 Try.prog Try.f26 (fun e w' => CntOut ps e ∧ Below w.heap.size w w') Exit.ret a W := by
  have hK : W.heap[D]? = some (.deferred (some [])) := hk.same D _ hK0 rfl
  have e : ∀ r : Nat, some D = some r → ∃ o : Obj, W.heap[r]? = some o ∧ o.isCells = false := fun r e => by cases e; exact ⟨_, hK, rfl⟩
  have hk3 := cell_kept c3 (grownBy_putObj' _ D (.deferred none)) e
  obtain ⟨tmps, defers⟩ := a
  dsimp only at hd h2 h3 h4
  subst hd
  refine ⟨by simp, .inl ⟨_, _, rfl, run_takeDeferred hK, ?_⟩⟩
  exact ⟨_, res_counts h2 h3 h4 hk3, h, (hB.mono hwn).trans (belowK_b (w := w) (Nat.le_refl _) _ D _ _ hD hK rfl rfl)⟩
theorem own_varW {β : Type} {N : Nat} {t : TypeId} (f : β → Array Value) : Own (fun (s : β) W => Var W N t (f s)) := fun s X Y row hs hg hr =>
  hs.grown hg (fun e => by obtain ⟨o, h1, h2⟩ := hr N e.symm; rw [show X.heap[N]? = _ from hs] at h1; cases h1; cases h2)
theorem cnt_in {a : Int} (h : a.natAbs ≤ 64 * 9223372036854775808) : In128 (a.natAbs : Int) := by
  unfold In128
  omega
/-- What the range over the sides keeps: both sums. -/
def CntI (w : World) (E R z : Nat) (pre : List Sd) (W : World) : Prop :=
  (Boxed W E 2 (.int .i64 (totN (vals pre) : Int)) ∧ Var W R 57 #[.int .i64 (hi64 (totA (vals pre))), .int .u64 (lo64 (totA (vals pre)))]) ∧ Below E w W ∧ z ≤ W.heap.size
theorem cnt_more {w V V1 V3 : World} {E R z : Nat} {pre : List Sd} {x : Sd} {g t : Int} (h : CntI w E R z pre V) (hb1 : Below V.heap.size V V1) (hb3 : Below (V1.setCell ⟨E, 0, none⟩ (.int .i64 g)).heap.size (V1.setCell ⟨E, 0, none⟩ (.int .i64 g)) V3) (hER : E < R)
    (hg : g = (totN (vals (pre ++ [x])) : Int)) (ht : t = totA (vals (pre ++ [x]))) :
    KeepsFrom z V ((V3.setCell ⟨R, 0, none⟩ (.int .i64 (hi64 t))).setCell ⟨R, 1, none⟩ (.int .u64 (lo64 t))) ∧ Ky E R z V ((V3.setCell ⟨R, 0, none⟩ (.int .i64 (hi64 t))).setCell ⟨R, 1, none⟩ (.int .u64 (lo64 t))) ∧ CntI w E R z (pre ++ [x]) ((V3.setCell ⟨R, 0, none⟩ (.int .i64 (hi64 t))).setCell ⟨R, 1, none⟩ (.int .u64 (lo64 t))) := by
  obtain ⟨⟨bE, vR⟩, hB, hz⟩ := h
  have z1 := hb1.size
  have z3 := hb3.size
  rw [World.size_setCell] at z3
  have hE1 := boxed_below hb1 bE.lt bE
  have vR3 : Var V3 R 57 _ := (((vR.keep hb1).far (p := ⟨E, 0, none⟩) (show R ≠ E by omega) (.int .i64 g)).keep hb3)
  have bE3 : Boxed V3 E 2 (.int .i64 g) := boxed_below hb3 (by rw [World.size_setCell]; exact hE1.lt) (hE1.set _)
  refine ⟨?_, ?_, ⟨⟨?_, ?_⟩, ?_, ?_⟩⟩
  · exact ((((keepsFrom_below hb1).trans ((KeepsOthers.setCell _ _ _).from _)).trans (keepsFrom_below hb3)).trans ((KeepsOthers.setCell _ _ _).from _)).trans ((KeepsOthers.setCell _ _ _).from _)
  · exact ((((Ky.below hb1 hz).trans (ky_set (.inl rfl))).trans (Ky.below hb3 (by rw [World.size_setCell]; omega))).trans (ky_set (.inr rfl))).trans (ky_set (.inr rfl))
  · rw [← hg]
    exact (show Boxed _ E 2 _ from (Below.heap_setCell _ _ _ E (show E ≠ R by omega)).trans ((Below.heap_setCell _ _ _ E (show E ≠ R by omega)).trans bE3))
  · rw [← ht]
    exact (vR3.store 0 _).store 1 _
  · exact ((((hB.trans (hb1.mono (by have := bE.lt; omega))).setCell (p := ⟨E, 0, none⟩) (Nat.le_refl _) _).trans (hb3.mono (by rw [World.size_setCell]; have := bE.lt; omega))).setCell (p := ⟨R, 0, none⟩) (show E ≤ R by omega) _).setCell (p := ⟨R, 1, none⟩) (show E ≤ R by omega) _
  · simp only [World.size_setCell]
    omega

/-- Behind the range: edge's box, and the block of what is deferred. -/
def CntE (w : World) (E D : Nat) (N : Int) (wr : World) : Prop := Boxed wr E 2 (.int .i64 N) ∧ Below E w wr ∧ wr.heap[D]? = some (.deferred (some []))
theorem CntE.keep {w wr w' : World} {E D : Nat} {N : Int} (h : CntE w E D N wr) (hb : Below wr.heap.size wr w') : CntE w E D N w' :=
  ⟨boxed_below hb h.1.lt h.1, h.2.1.trans (hb.mono (Nat.le_of_lt h.1.lt)), (hb.block D (Array.getElem?_eq_some_iff.1 h.2.2).1).trans h.2.2⟩
theorem CntE.put {w wr : World} {E D R : Nat} {N : Int} (h : CntE w E D N wr) (hER : E < R) (hDR : D ≠ R) (i : Nat) (v : Value) : CntE w E D N (wr.setCell ⟨R, i, none⟩ v) :=
  ⟨(Below.heap_setCell _ _ _ E (show E ≠ R by omega)).trans h.1, h.2.1.setCell (p := ⟨R, i, none⟩) (show E ≤ R by omega) _, (Below.heap_setCell _ _ _ D hDR).trans h.2.2⟩
theorem cnt_end {ps : List Pt} {w w7 : World} {a : Act} {E D : Nat} {x y : Int} {N : Int} (h : CntE w E D N w7) (hd : a.defers = [{ target := .collected D, args := #[] }]) (h2 : a.tmps.getD 2 undef = .int .i64 x) (h3 : a.tmps.getD 3 undef = .pointer (some ⟨E, 0, none⟩)) (h4 : a.tmps.getD 4 undef = .int .i64 0)
    (hwE : w.heap.size = E) (hD : w.heap.size ≤ D) (hF : CntOut ps (.returned (.tuple #[.int .i64 x, .int .i64 y, .int .i64 0]))) :
    bodyPostM Fence.wide 6 Try.prog Try.f26 (fun e w' => CntOut ps e ∧ Below w.heap.size w w') Exit.ret a (w7.setCell ⟨E, 0, none⟩ (.int .i64 y)).drew :=
  cnt_leave hd h2 h3 h4 (y := y) (show (w7.setCell ⟨E, 0, none⟩ (.int .i64 y)).cell? ⟨E, 0, none⟩ = _ from (h.1.set _).cell) ((KeepsOthers.setCell w7 ⟨E, 0, none⟩ (.int .i64 y)).trans (KeepsOthers.drew _)) h.2.2 (h.2.1.setCell (p := ⟨E, 0, none⟩) (Nat.le_refl _) _).drew (Nat.le_of_eq hwE) hD hF

set_option maxHeartbeats 2000000 in
set_option maxRecDepth 100000 in
theorem countsP_any (HM : MeetSays) (ps : List Pt) (hps : ∀ p ∈ ps, IPt p) (n : Nat) (hn : ps.length = n) (M c : Nat) (A : Option Addr) (w : World) (hP : PtsAt M w (.slice A n c) ps) (hM : M ≤ w.heap.size) :
    Calls Try.prog 26 #[.slice A n c] w fun e w' => CntOut ps e ∧ Below w.heap.size w w' := by
  have CK := Lib.hid (fun W (h : Below w.heap.size w W) => check_any HM ps hps n hn M c A W (hP.below (h.mono hM)) (Nat.le_trans hM h.size))
  have HP := Lib.hid (And.intro hn (And.intro hP hM))
  clear hn hP HM hM
  refine (callsIn_wide (n := 6)).1 ?_
  have h1 : 1 ≤ 6 := by omega
  refine callsIn_of_wp_marks Try.func26 rfl trivial ?_ rfl
  simp only [Try.ntmps26, List.size_toArray, List.length_cons, List.length_nil, Nat.reduceAdd, Nat.reduceSub, Array.replicate_succ, Array.replicate_zero, List.push_toArray, List.append_toArray, List.nil_append, List.cons_append]
  refine wpIn_wide.2 ?_
  go_wp2_with fail
  refine (CK.out _ (by go_grown)).mono ?_
  rintro e w1 ⟨⟨⟨r1, ri, rj⟩, hr, rfl⟩, hb1⟩
  have bE : Boxed w1 w.heap.size 2 (.int .i64 0) := boxed_below hb1 (by simp) (Boxed.new w 2 _)
  have hB1 : Below w.heap.size w w1 := Below.trans (by go_grown) (hb1.mono (by simp))
  have HMw := HP.out.2.2
  obtain ⟨E, hE⟩ : ∃ E, w.heap.size = E := ⟨_, rfl⟩
  rw [hE] at bE hB1 HMw ⊢
  have HE := Lib.hid hE
  have zE := bE.lt
  have cE := bE.cell
  have fE := bE.frozen
  have HC := Lib.hid hr
  clear hr hE CK hb1
  by_cases h0 : r1 = 0
  · subst h0
    obtain ⟨h3, h64⟩ := chk_short HC.out rfl
    rw [HP.out.1] at h3 h64
    have H1 := Lib.hid (And.intro bE hB1)
    clear bE hB1
    go_wp2_with fail
    refine ((callsIn_wide (n := 6)).1 (sides_in Fence.wide 6 trivial rfl _ _ _ _)).mono ?_
    rintro e w3 ⟨rfl, rfl⟩
    obtain ⟨R, hR⟩ : ∃ R, w1.heap.size = R := ⟨_, rfl⟩
    obtain ⟨w2, hw2⟩ : ∃ w2, w1.alloc (.cells #[.int .i64 0, .int .u64 0] 57) = w2 := ⟨_, rfl⟩
    obtain ⟨W0, hW0⟩ : ∃ W0, w2.alloc (.cells #[.slice A n c] 22) = W0 := ⟨_, rfl⟩
    have z2 : w2.heap.size = R + 1 := by rw [← hw2]; simp [hR]
    have z0 : W0.heap.size = R + 1 + 1 := by rw [← hW0]; simp [z2]
    have bE0 : Boxed W0 E 2 (.int .i64 0) := by rw [← hW0, ← hw2]; exact (H1.out.1.alloc _).alloc _
    have vR0 : Var W0 R 57 #[.int .i64 0, .int .u64 0] := by rw [← hW0, ← hw2, ← hR]; exact (Var.new w1 57 _).alloc _
    have bS : Boxed W0 (R + 1) 22 (.slice A n c) := by rw [← z2, ← hW0]; exact Boxed.new w2 22 _
    have hB0 : Below E w W0 := by rw [← hW0, ← hw2]; exact (H1.out.2.alloc (by omega) _).alloc (by simp; omega) _
    have hER : E < R := by omega
    rw [hw2, hW0, z2, hR]
    clear hW0 hw2 H1 hR
    obtain ⟨S, hS⟩ : ∃ S, R + 1 = S := ⟨_, rfl⟩
    rw [hS] at bS z0 ⊢
    have hSW : S < W0.heap.size := bS.lt
    have vR0' : Var W0 R 57 #[.int .i64 (hi64 (totA (vals []))), .int .u64 (lo64 (totA (vals [])))] := by
      rw [show hi64 (totA (vals [])) = 0 by decide +kernel, show lo64 (totA (vals [])) = 0 by decide +kernel]
      exact vR0
    have hps' := hps
    go_wp2_with fail
    refine (wpIn_wide (n := 6)).1 ?_
    refine wpIn_rangeFunc_ownH rfl h1 (gf := 52) (lb := #[.pointer (some ⟨S, 0, none⟩)]) rfl trivial (enters_of Try.func52 (by kernel_rfl) rfl)
      (sides_stopsy Fence.wide (6 - 1) trivial rfl (by omega) S E R M W0.heap.size (.slice A n c) ps hps (by have := HP.out.1; omega) W0 (Nat.le_refl _) hSW (by omega) (by omega) HMw (by omega) (by omega) bS.cell (HP.out.2.1.below (hB0.mono HMw))) ky_t (ky_b (Nat.le_refl _)) (Below.refl _ _) (fun _ => rfl)
      (CntI w E R W0.heap.size)
      (fun _ _ _ => False)
      (OwnFrom.and (OwnFrom.and (Own.from (boxed_own _ _ (fun pre => Value.int .i64 (totN (vals pre) : Int))) _) (Own.from (own_varW (fun pre => #[Value.int .i64 (hi64 (totA (vals pre))), Value.int .u64 (lo64 (totA (vals pre)))])) _)) (OwnFrom.and (ownFrom_below (Nat.le_of_eq HE.out.symm) (by omega)) (ownFrom_size _ _)))
      (fun _ _ _ _ _ hs _ _ => hs)
      ⟨⟨bE0, vR0'⟩, hB0, Nat.le_refl _⟩
      (fun x a' W => ∃ X Y, (R < X ∧ Two W X 25 x.1.1) ∧ (R < Y ∧ Two W Y 25 x.1.2) ∧ a' = { tmps := #[.slice A n c, undef, .int .i64 0, .pointer (some ⟨E, 0, none⟩), .int .i64 0, .int .i64 0, .int .i64 (ri : Int), .int .i64 (rj : Int), .pointer (some ⟨R, 0, none⟩), .pointer (some ⟨X, 0, none⟩), .pointer (some ⟨Y, 0, none⟩), undef, undef, .tuple #[.int .i64 0, .int .i64 (ri : Int), .int .i64 (rj : Int)], .slice A n c, .tuple #[.int .i64 0, .int .i64 (ri : Int), .int .i64 (rj : Int)], .int .i64 0, .int .i64 (ri : Int), .int .i64 (rj : Int), .int .i64 0, .bool false, undef, .slice A n c, .func (.func 52) #[] #[.pointer (some ⟨S, 0, none⟩)], .agg #[.int .i32 x.1.1.1, .int .i32 x.1.1.2], .agg #[.int .i32 x.1.2.1, .int .i32 x.1.2.2], undef, undef, undef, undef, undef, undef, undef, undef, undef, undef, undef, undef, undef, undef, undef, undef, undef, undef, undef, undef, undef, undef, undef, undef, undef, undef, undef, undef, undef, undef, undef, undef, undef, undef, undef, undef, undef, undef, undef, undef, undef, undef, undef, undef, undef, undef, undef, undef, undef, undef, undef], defers := [] })
      (fun x a' _ V V' row hs hg hr => by
        obtain ⟨X, Y, ⟨k1, k2⟩, ⟨k3, k4⟩, k5⟩ := hs
        exact ⟨X, Y, ⟨k1, two_own X 25 (fun (_ : Unit) => x.1.1) () V V' row k2 hg (fun r e => (hr r e).2)⟩, ⟨k3, two_own Y 25 (fun (_ : Unit) => x.1.2) () V V' row k4 hg (fun r e => (hr r e).2)⟩, k5⟩)
      ?assign ?body ?done ?stop
    case assign =>
      rintro l pre x V K ⟨⟨bE1, vR1⟩, hB1, hsz⟩ hK
      unfold ePt
      gi_wp2
      refine hK _ _ (((KeepsOthers.alloc _ _).trans (KeepsOthers.alloc _ _)).from _) (Ky.below (((Below.refl _ V).alloc (Nat.le_refl _) _).alloc (by simp) _) hsz) ⟨⟨(bE1.alloc _).alloc _, (vR1.alloc _).alloc _⟩, (hB1.alloc (by omega) _).alloc (by simp; omega) _, by simp; omega⟩ ⟨V.heap.size, V.heap.size + 1, ⟨by omega, (Two.new V 25 x.1.1).alloc _⟩, ⟨by omega, ?_⟩, rfl⟩
      have := Two.new (V.alloc (.cells #[.int .i32 x.1.1.1, .int .i32 x.1.1.2] 25)) 25 x.1.2
      rw [World.size_alloc] at this
      exact this
    case body =>
      rintro l pre x a' V hl _ hI ⟨X, Y, ⟨hX, bX⟩, ⟨hY, bY⟩, rfl⟩ hlt
      obtain ⟨⟨⟨ax, ay⟩, ⟨bx, by_⟩⟩, hxi⟩ := x
      dsimp only at bX bY ⊢
      have i1 : I32 ax := hxi.1.1
      have i2 : I32 ay := hxi.1.2
      have i3 : I32 bx := hxi.2.1
      have i4 : I32 by_ := hxi.2.2
      have hsb := totN_bd pre
      have hn' := HP.out.1
      have GC := Lib.hid (fun W => gcd_any (bx - ax) (by_ - ay) (by unfold I32 at i1 i3; unfold I64; omega) (by unfold I32 at i2 i4; unfold I64; omega) W)
      obtain ⟨G, hGe⟩ : ∃ G, (bx - ax).natAbs.gcd (by_ - ay).natAbs = G := ⟨_, rfl⟩
      rw [hGe] at GC
      have hGb : G ≤ 4294967295 := by rw [← hGe]; exact sideN_bd (s := ((ax, ay), bx, by_)) hxi.1 hxi.2
      obtain ⟨s, hs⟩ : ∃ s, totN (vals pre) = s := ⟨_, rfl⟩
      obtain ⟨u, hu⟩ : ∃ u, totA (vals pre) = u := ⟨_, rfl⟩
      obtain ⟨p1, hp1⟩ : ∃ p, ax * by_ = p := ⟨_, rfl⟩
      obtain ⟨p2, hp2⟩ : ∃ p, ay * bx = p := ⟨_, rfl⟩
      have M1 := Lib.hid (fun W => mul_any ax by_ (by unfold I32 at i1; unfold I64; omega) (by unfold I32 at i4; unfold I64; omega) W)
      have M2 := Lib.hid (fun W => mul_any ay bx (by unfold I32 at i2; unfold I64; omega) (by unfold I32 at i3; unfold I64; omega) W)
      have AD := Lib.hid (fun W => add_any u p1 W)
      have SU := Lib.hid (fun W => sub_any (u + p1) p2 W)
      rw [hp1] at M1
      rw [hp2] at M2
      have hs64 : s ≤ 274877906880 := by rw [← hs]; omega
      have bE1 := hI.1.1
      have vR1 := hI.1.2
      rw [hs] at bE1
      rw [hu] at vR1
      have cE1 := bE1.cell
      have fE1 := bE1.frozen
      have zE1 := bE1.lt
      have zX := bX.lt
      have zY := bY.lt
      have hsum : ((s : Int) + (G : Int)) = (totN (vals (pre ++ [(⟨((ax, ay), bx, by_), hxi⟩ : Sd)])) : Int) := by
        rw [vals_snoc, totN_snoc, hs]
        rw [show sideN ((⟨((ax, ay), bx, by_), hxi⟩ : Sd).1) = G from hGe]
        rfl
      have hsuA : u + p1 - p2 = totA (vals (pre ++ [(⟨((ax, ay), bx, by_), hxi⟩ : Sd)])) := by
        rw [vals_snoc, totA_snoc, hu]
        rw [show sideA ((⟨((ax, ay), bx, by_), hxi⟩ : Sd).1) = p1 - p2 by rw [← hp1, ← hp2]; rfl]
        omega
      obtain ⟨q1, q2, q3, q4, q5, q6, q7, q8⟩ := cnt_wraps i1 i2 i3 i4 hs64 hGb
      have KK := Lib.hid (And.intro hI (And.intro hsum (And.intro hsuA (And.intro bE1 vR1))))
      have QQ := Lib.hid (And.intro q1 (And.intro q2 (And.intro q3 (And.intro q4 (And.intro q5 (And.intro q6 (And.intro q7 q8)))))))
      clear hI hsb hn' hGe hGb hs hu hp1 hp2 hs64 hsum hsuA bE1 vR1 q1 q2 q3 q4 q5 q6 q7 q8 i1 i2 i3 i4 hlt
      gi_wp2
      refine wpIn_mono (edge_in l _ V E X Y s ax ay bx by_ G cE1 fE1 zE1 bX.c0 bX.c1 zX bY.c0 bY.c1 zY QQ.out.1 QQ.out.2.1 QQ.out.2.2.1 QQ.out.2.2.2.1 QQ.out.2.2.2.2.1 QQ.out.2.2.2.2.2.1 QQ.out.2.2.2.2.2.2.1 QQ.out.2.2.2.2.2.2.2 GC _ _ _ _ _ _ _ _ _ _ _ _ _ _ _ _ _ _ _ _ _ _ _ _ _ _ _ _ _ _ _ _ _ _ _ _ _ _ _ _ _ _ _ _ _ _ _ _ _ _ _ _ _ _ _ _ _ _ _ _ _ _ _ _ _ _ _ _ _ _ _ _ _ _) ?_
      rintro e a' W' ⟨rfl, ⟨v26, v27, v28, v29, v30, v31, v32, v33, v34, v35, v36, v37, v38, v39, v40, v41, v42, v43, rfl⟩, V1, hb1, rfl⟩
      have zz := hb1.size
      have vR2 : Var (V1.setCell ⟨E, 0, none⟩ (.int .i64 ((s : Int) + (G : Int)))) R 57 _ := ((KK.out.2.2.2.2.keep hb1).far (p := ⟨E, 0, none⟩) (show R ≠ E by omega) _)
      have bX2 : Two (V1.setCell ⟨E, 0, none⟩ (.int .i64 ((s : Int) + (G : Int)))) X 25 (ax, ay) := (bX.below hb1 zX).kept (grownBy_setCell' _ _ _) (by simp; omega)
      have bY2 : Two (V1.setCell ⟨E, 0, none⟩ (.int .i64 ((s : Int) + (G : Int)))) Y 25 (bx, by_) := (bY.below hb1 zY).kept (grownBy_setCell' _ _ _) (by simp; omega)
      obtain ⟨V2, hV2⟩ : ∃ V2, V1.setCell ⟨E, 0, none⟩ (.int .i64 ((s : Int) + (G : Int))) = V2 := ⟨_, rfl⟩
      have HV2 := Lib.hid hV2
      have HB1 := Lib.hid hb1
      rw [hV2] at vR2 bX2 bY2 ⊢
      clear hV2 hb1 zz
      gi_wp2
      refine wpIn_mono (area_in l _ V2 R X Y u p1 p2 ax ay bx by_ (vR2.cell 0) (vR2.cell 1) (vR2.free 0) (vR2.free 1) vR2.lt bX2.c0 bX2.c1 bX2.lt bY2.c0 bY2.c1 bY2.lt QQ.out.1 QQ.out.2.1 QQ.out.2.2.1 QQ.out.2.2.2.1 M1 M2 AD SU _ _ _ _ _ _ _ _ _ _ _ _ _ _ _ _ _ _ _ _ _ _ _ _ _ _ _ _ _ _ _ _ _ _ _ _ _ _ _ _ _ _ _ _ _ _ _ _ _ _ _ _ _ _ _ _ _ _ _ _ _ _ _ _ _ _ _ _ _ _ _ _ _ _) ?_
      rintro e a' W' ⟨rfl, ⟨v44, v45, v46, v47, v48, v49, v50, v51, v52, v53, v54, v55, v56, v57, v58, v59, v60, rfl⟩, V3, hb3, rfl⟩
      gi_wp2
      have hb3' := hb3
      rw [← HV2.out] at hb3'
      exact cnt_more KK.out.1 HB1.out hb3' hER KK.out.2.1 KK.out.2.2.1
    case done =>
      rintro D ys W hD rfl ⟨⟨bE1, vR1⟩, hB1, hsz⟩ hK
      have eN : totN (vals (upto (sdS ps hps) ps.length)) = sumN ps ps.length := by unfold vals; rw [sdS_map, totN_sum]
      have eA : totA (vals (upto (sdS ps hps) ps.length)) = sumA ps ps.length := by unfold vals; rw [sdS_map, totA_sum]
      rw [eN] at bE1
      rw [eA] at vR1
      clear eN eA
      have hbA := sumA_bd hps ps.length
      have hbN := sumN_bd hps ps.length
      have hn' := HP.out.1
      have hFN := Lib.hid (fun (x y : Int) hx hy => @cnt_fine ps _ HC.out rfl x y hx hy)
      have hT := Lib.hid (show (if -9223372036854775808 ≤ (((sumA ps ps.length).natAbs : Nat) : Int) ∧ (((sumA ps ps.length).natAbs : Nat) : Int) ≤ 9223372036854775807 then (((sumA ps ps.length).natAbs : Nat) : Int) else 0) = twiceA (sumA ps ps.length) from rfl)
      obtain ⟨T, hTe⟩ : ∃ T, sumA ps ps.length = T := ⟨_, rfl⟩
      obtain ⟨N, hNe⟩ : ∃ N, sumN ps ps.length = N := ⟨_, rfl⟩
      rw [hTe] at vR1 hbA hFN hT
      rw [hNe] at bE1 hbN hFN
      have hin : In128 ((T.natAbs : Nat) : Int) := cnt_in (Nat.le_trans hbA (Nat.mul_le_mul_right _ (by omega)))
      have hinT : In128 T := by unfold In128 at hin ⊢; omega
      have SG := Lib.hid (fun W => sign_any T hinT W)
      have IN := Lib.hid (fun W => int64_any ((T.natAbs : Nat) : Int) hin W)
      rw [hT.out] at IN
      have NG := Lib.hid (fun W => neg_any T W)
      have hN64 : (N : Int) ≤ 274877906880 := by have : ps.length * 4294967295 ≤ 64 * 4294967295 := Nat.mul_le_mul_right _ (by omega); omega
      have htb := twice_bd T
      have hDR : D ≠ R := by omega
      have HWD := Lib.hid (show w.heap.size ≤ D by have := HE.out; omega)
      have HT : Hid (CntE w E D (N : Int) W) := Lib.hid ⟨bE1, hB1, hK⟩
      have VR := Lib.hid vR1
      have c0 := vR1.cell 0
      have c1 := vR1.cell 1
      clear hbA hbN hn' hTe hNe hin hinT hT bE1 vR1 hB1 hK hsz hD htb hN64
      obtain ⟨t, ht⟩ : ∃ t, twiceA T = t := ⟨_, rfl⟩
      rw [ht] at IN hFN
      clear ht
      rcases Int.lt_or_le T 0 with hlt | hge
      · rw [cmpI_m1 hlt] at SG
        rw [abs_neg hlt] at NG
        clear hlt
        go_wp2_with fail
        refine (SG.out W).mono ?_
        rintro e w5 ⟨rfl, hb5⟩
        have HT5 := Lib.hid (HT.out.keep hb5)
        have VR5 := Lib.hid (VR.out.keep hb5)
        have d0 := VR5.out.cell 0
        have d1 := VR5.out.cell 1
        clear c0 c1 hb5
        go_wp2_with fail
        refine (NG.out w5).mono ?_
        rintro e w6 ⟨rfl, hb6⟩
        have HT6 := Lib.hid (HT5.out.keep hb6)
        have VR6 := Lib.hid (VR5.out.keep hb6)
        have e0 := VR6.out.cell 0
        have e1 := VR6.out.cell 1
        have f6 := VR6.out.free 0
        have f7 := VR6.out.free 1
        clear d0 d1 hb6
        go_wp2_with fail
        refine (IN.out _).mono ?_
        rintro e w7 ⟨rfl, hb7⟩
        have HT7 := Lib.hid (((HT6.out.put hER hDR _ _).put hER hDR _ _).keep hb7)
        have cE := HT7.out.1.cell
        have fE := HT7.out.1.frozen
        clear e0 e1 f6 f7 hb7
        go_wp2_with fail
        go_region
        all_goals
          go_wp2_with fail
          with_reducible exact cnt_end HT7.out rfl rfl rfl rfl HE.out HWD.out (hFN.out _ _ within_one rfl)
      · have hz : ¬ cmpI T 0 < 0 := cmpI_nn (by omega)
        obtain ⟨z, hze⟩ : ∃ z, cmpI T 0 = z := ⟨_, rfl⟩
        rw [hze] at SG hz
        have EA := Lib.hid (abs_nn (show ¬ T < 0 by omega))
        rw [← EA.out] at IN
        clear hze hge
        go_wp2_with fail
        refine (SG.out W).mono ?_
        rintro e w5 ⟨rfl, hb5⟩
        have HT5 := Lib.hid (HT.out.keep hb5)
        have VR5 := Lib.hid (VR.out.keep hb5)
        have d0 := VR5.out.cell 0
        have d1 := VR5.out.cell 1
        clear c0 c1 hb5
        go_wp2_with fail
        refine (IN.out _).mono ?_
        rintro e w7 ⟨rfl, hb7⟩
        have HT7 := Lib.hid (HT5.out.keep hb7)
        have cE := HT7.out.1.cell
        have fE := HT7.out.1.frozen
        clear d0 d1 hb7
        go_wp2_with fail
        go_region
        all_goals
          go_wp2_with fail
          with_reducible exact cnt_end HT7.out rfl rfl rfl rfl HE.out HWD.out (hFN.out _ _ within_one rfl)
    case stop =>
      rintro D c pre W _ _ h _
      exact h.elim
  · have hq : (r1 == 0) = false := beq_eq_false_iff_ne.2 h0
    have H1 := Lib.hid (And.intro bE hB1)
    have HN := Lib.hid h0
    clear bE hB1 h0
    go_wp2_with fail
    exact ⟨_, res_counts rfl rfl rfl (H1.out.1.set _).cell, cnt_bad HC.out HN.out, by rw [HE.out]; exact H1.out.2.setCell (p := ⟨E, 0, none⟩) (Nat.le_refl _) _⟩

set_option maxRecDepth 100000 in
set_option maxHeartbeats 4000000 in
theorem insideCounts_core (w : World) (A : Option Addr) (l c : Nat) (ps : List Pt) (hps : ∀ p ∈ ps, IPt p) (hl : ps.length = l) (hreach : ps.length * 8 ≤ 140737488351232) (hI : PtsAt w.heap.size w (.slice A l c) ps) :
    Calls Try.prog 7 #[.slice A l c] w fun e w' => e = .returned (.bool true) ∧ Below w.heap.size w w' := by
  have HL := Lib.hid (fun W (h : Below w.heap.size w W) => lent_any _ ps w.heap.size hreach W (hI.below h))
  have HQ := Lib.hid (fun W (h : Below w.heap.size w W) => counts07 ps hps l hl w.heap.size c A W (hI.below h) h.size)
  have HP := Lib.hid (fun (g cap : Nat) (W : World) (h : PtsAt W.heap.size W (.slice (some ⟨g, 0, none⟩) l cap) ps) => countsP_any meet_says ps hps l hl W.heap.size cap (some ⟨g, 0, none⟩) W h (Nat.le_refl _))
  have hr8 : ps.length * 8 ≤ 140737488355328 := by omega
  have HF := Lib.hid (fun (g cap m : Nat) (W : World) (hm : m ≤ W.heap.size) (hg : g < m) (hL : LentAt W g cap ps) (h : Below w.heap.size w W) (hw : w.heap.size ≤ m) => left_any g cap (.slice A l c) ps m hr8 W hm hg hL ((hI.below h).up hw))
  rw [hl] at HL HF
  clear hI hps hreach hr8
  go_enter Try.func7, Try.ntmps7
  go_wp2_with fail
  refine (HL.out _ (by go_grown)).mono ?_
  rintro e w1 ⟨g0, cap0, rfl, hg0, hL0, hb1⟩
  have hB1 : Below w.heap.size w w1 := Below.trans (by go_grown) (hb1.mono (by simp))
  have H1 := Lib.hid (And.intro hL0 hB1)
  have hP1 := hL0.pts
  rw [hl] at hP1
  have HP1 := Lib.hid hP1
  clear hL0 hb1 hB1 hg0 hP1
  go_wp2_with fail
  refine (HP.out g0 cap0 w1 HP1.out).mono ?_
  rintro e w2 ⟨⟨⟨a, b, f⟩, hs, rfl⟩, hb2⟩
  have hB2 := H1.out.2.trans (hb2.mono H1.out.2.size)
  have H2 := Lib.hid (And.intro (H1.out.1.below hb2 H1.out.1.lt) (And.intro hB2 (And.intro hs (And.intro hb2.size H1.out.1.lt))))
  clear hs hb2 hB2
  go_wp2_with fail
  refine (HQ.out w2 H2.out.2.1).mono ?_
  rintro e w3 ⟨⟨t, ht, rfl⟩, hb3⟩
  have hB3 := H2.out.2.1.trans (hb3.mono H2.out.2.1.size)
  obtain rfl := cnt_one H2.out.2.2.1 ht
  have hz3 := hb3.size
  have H3 := Lib.hid (And.intro (H2.out.1.below hb3 H2.out.1.lt) (And.intro hB3 (show w1.heap.size ≤ w3.heap.size from Nat.le_trans H2.out.2.2.2.1 hz3)))
  clear ht hb3 hB3 hz3
  have e1 : (a == a) = true := beq_self_eq_true a
  have e2 : (b == b) = true := beq_self_eq_true b
  have e3 : (f == f) = true := beq_self_eq_true f
  go_wp2_with fail
  refine (HF.out g0 cap0 w1.heap.size w3 H3.out.2.2 H2.out.2.2.2.2 H3.out.1 H3.out.2.1 H1.out.2.size).mono ?_
  rintro e w4 ⟨rfl, hb4⟩
  have H4 := Lib.hid (H3.out.2.1.trans (hb4.mono H3.out.2.1.size))
  clear hb4
  go_wp2_with fail
  go_ret
  exact ⟨rfl, H4.out⟩

end Go.Proofs.Ytohnglcdophkfaa
