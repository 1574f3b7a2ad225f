/-
  The iterator inside.sides: a ring's sides, one after another.
-/
import Derived.RangeFuncNested
import Derived.RangeFuncBound
import Derived.RangeFuncCalls
import Derived.RangeFuncLeaves
import Derived.Shelf.Abstract
import Derived.Shelf.RegionOpen
import Derived.WalkKit
import Derived.OwnWalkIn
import Derived.TacticsInMore
import Derived.LoopNIn
import Derived.LoopIn
import Derived.Test.YtohnglcdophkfaaRing
import Derived.Test.YtohnglcdophkfaaTailIn
namespace Go.Proofs.Ytohnglcdophkfaa
open Go.RowKit Go.Shelf

attribute [local go_sem] Oper.semAt_some

def PT (p : Pt) : Value := .agg #[.int .i32 p.1, .int .i32 p.2]
def upto {α : Type} (f : Nat → α) (k : Nat) : List α := (List.range k).map f
theorem upto_succ {α : Type} (f : Nat → α) (k : Nat) : upto f (k + 1) = upto f k ++ [f k] := by simp [upto, List.range_succ]
theorem upto_length {α : Type} (f : Nat → α) (k : Nat) : (upto f k).length = k := by simp [upto]
/-- What a round keeps: every cell of a block below n, but for block B. -/
def Kx (B n : Nat) (W W' : World) : Prop := W.heap.size ≤ W'.heap.size ∧ ∀ b o, b < n → b ≠ B → W'.cell? ⟨b, o, none⟩ = W.cell? ⟨b, o, none⟩
theorem Kx.refl (B n : Nat) (W : World) : Kx B n W W := ⟨Nat.le_refl _, fun _ _ _ _ => rfl⟩
theorem Kx.trans {B n : Nat} {W W' W'' : World} (h : Kx B n W W') (k : Kx B n W' W'') : Kx B n W W'' := ⟨Nat.le_trans h.1 k.1, fun b o hb hB => (k.2 b o hb hB).trans (h.2 b o hb hB)⟩
theorem Kx.below {B n m : Nat} {W W' : World} (h : Below m W W') (hn : n ≤ m) : Kx B n W W' := ⟨h.size, fun b o hb _ => h.cell (p := ⟨b, o, none⟩) (by show b < m; omega)⟩
theorem kx_t {B n : Nat} {A C D : World} (h : Kx B n A C) (k : Kx B n C D) : Kx B n A D := h.trans k
theorem kx_b {B n : Nat} {w : World} (hn : n ≤ w.heap.size) (W : World) (l : Nat) (o o' : Obj) (hl : w.heap.size ≤ l) (h : W.heap[l]? = some o) (h1 : o.isCells = false) (h2 : o.isWalk = false) : Kx B n W (W.putObj l o') := Kx.below (belowK_b hn W l o o' hl h h1 h2) (Nat.le_refl _)

theorem wpIn_gen {F : Fence} {n : Nat} {P : Program} {c : Code} {Q : Exit → Act → World → Prop} {a : Act} {w : World} (h : ∀ W, w = W → c.wpIn F n P Q a W) : c.wpIn F n P Q a w := h w rfl
theorem mod_int {k m : Nat} (_hm : m ≠ 0) : ((k : Int) + 1).tmod (m : Int) = (((k + 1) % m : Nat) : Int) := by
  have : ((k : Int) + 1) = ((k + 1 : Nat) : Int) := by omega
  rw [this]
  exact (Int.ofNat_tmod (k + 1) m).symm

set_option maxRecDepth 100000 in
set_option maxHeartbeats 2000000 in
theorem sides1_in (F : Fence) (n : Nat) (hF : F.fn 52) (hro : F.round = none) (hn : 1 ≤ n) (l Bs B n₀ b off cap : Nat) (ps : List Pt) (m : Nat) (hm : ps.length = m) (hreach : m * 8 ≤ 140737488355328) (hb : b < n₀) (hbB : b ≠ B) (hs : Bs < n₀) (hsB : Bs ≠ B) (J Jx : Nat → World → Prop)
    {N₁ : Nat} (hJ : AbidesFrom N₁ J)
    (hY : ∀ k W, J k W → k < m → YieldAt F (n - 1) Try.prog l #[.agg #[.int .i32 (sid ps k).1.1, .int .i32 (sid ps k).1.2], .agg #[.int .i32 (sid ps k).2.1, .int .i32 (sid ps k).2.2]] W fun e W' =>
      (e = .returned (.bool true) ∧ J (k + 1) W' ∧ Kx B n₀ W W') ∨ (e = .returned (.bool false) ∧ Jx (k + 1) W'))
    (W : World) (hn₀ : n₀ ≤ W.heap.size) (hBs : W.cell? ⟨Bs, 0, none⟩ = some (.slice (some ⟨b, off, none⟩) m cap)) (hc : ∀ j, j < m → W.cell? ⟨b, off + j * 2, none⟩ = some (.int .i32 (gp ps j).1) ∧ W.cell? ⟨b, off + j * 2 + 1, none⟩ = some (.int .i32 (gp ps j).2)) (h0 : J 0 W) :
    CallsIn F n Try.prog 52 #[.func (.yield l) #[] #[], .pointer (some ⟨Bs, 0, none⟩)] W fun e W' => (∃ v, e = .returned v) ∧
      (J m W' ∨ (∃ k, k ≤ m ∧ Jx k W')) := by
  refine callsIn_of_wp Try.func52 rfl hF ?_ hro
  simp only [Try.ntmps52, List.size_toArray, List.length_cons, List.length_nil, Nat.reduceAdd, Nat.reduceSub, Array.replicate_succ, Array.replicate_zero, List.push_toArray, List.append_toArray, List.nil_append, List.cons_append]
  gi_wp2
  gi_loopw [7] (fun i wr => ∃ k : Nat, k ≤ m ∧ i = .int .i64 k ∧ J k wr ∧ Kx B n₀ W wr)
    (fun i _ => m - (intOf i).toNat)
  case atStart => exact ⟨0, Nat.zero_le _, rfl, h0, Kx.refl _ _ _⟩
  case round =>
    obtain ⟨k, hk, rfl, hJs, hKw⟩ := hrel
    have hnx := hKw.2
    have hnz : n₀ ≤ wr.heap.size := Nat.le_trans hn₀ hKw.1
    by_cases hlt : k < m
    · have c1 := (hnx b (off + k * 2) hb hbB).trans (hc k hlt).1
      have c2 := (hnx b (off + k * 2 + 1) hb hbB).trans (hc k hlt).2
      have cs := (hnx Bs 0 hs hsB).trans hBs
      have hmx : Try.prog.follows .mixedOrders = true := by kernel_rfl
      gi_wp2
      refine wpIn_gen (fun W1 hW1 => ?_)
      have hB1 : Below wr.heap.size wr W1 := by rw [← hW1]; exact (Below.refl _ _).alloc (Nat.le_refl _) _
      have keep : ∀ b o, b < n₀ → W1.cell? ⟨b, o, none⟩ = wr.cell? ⟨b, o, none⟩ := fun b o h => hB1.cell (p := ⟨b, o, none⟩) (by show b < wr.heap.size; omega)
      have hk1 : (k + 1) % m < m := Nat.mod_lt _ (by omega)
      have d0 : W1.cell? ⟨wr.heap.size, 0, none⟩ = some (.int .i32 (gp ps k).1) := by rw [← hW1]; simp
      have d1 : W1.cell? ⟨wr.heap.size, 1, none⟩ = some (.int .i32 (gp ps k).2) := by rw [← hW1]; simp
      have ds : W1.cell? ⟨Bs, 0, none⟩ = some (.slice (some ⟨b, off, none⟩) m cap) := (keep _ _ hs).trans cs
      have e1 := ((keep _ _ hb).trans ((hnx b (off + (k + 1) % m * 2) hb hbB).trans (hc _ hk1).1) : W1.cell? _ = _)
      have e2 := ((keep _ _ hb).trans ((hnx b (off + (k + 1) % m * 2 + 1) hb hbB).trans (hc _ hk1).2) : W1.cell? _ = _)
      have hz1 : ((m : Int) == 0) = false := by rw [beq_eq_false_iff_ne]; omega
      have hz2 : ¬ (m : Int) = 0 := by omega
      have hz3 : ¬ m = 0 := by omega
      have hmod := mod_int (k := k) (m := m) (by omega)
      have hwr : IntKind.i64.wrap ((k : Int) + 1) = (k : Int) + 1 := by simp only [IntKind.wrap, IntKind.signed, IntKind.bits]; simp; omega
      have hJ1 : ∀ j, J k (W1.drewN j) := fun j => by
        have hg1 : wr.grownBy W1 none := by rw [← hW1]; exact World.grownBy_alloc wr _ none
        have hg2 : W1.grownBy (W1.drewN j) none := ⟨rfl, rfl, rfl, Nat.le_refl _, fun _ _ _ => rfl⟩
        exact hJ _ _ _ _ (hJ _ _ _ _ hJs hg1 (fun r e => by cases e)) hg2 (fun r e => by cases e)
      have hKx : ∀ j W3, Kx B n₀ (W1.drewN j) W3 → Kx B n₀ W W3 := fun j W3 h => hKw.trans ((Kx.below (hB1.trans ⟨rfl, rfl, rfl, Nat.le_refl _, fun _ _ => rfl⟩) hnz).trans h)
      obtain ⟨q, hq⟩ : ∃ q, (k + 1) % m = q := ⟨_, rfl⟩
      have hsid : sid ps k = (gp ps k, gp ps q) := by unfold sid; rw [hm, hq]
      rw [hq] at hmod hk1 e1 e2
      have hqI : (q : Int) < (m : Int) := by omega
      clear hq hm hW1 keep hc hnx hJs c1 c2 cs h0 hBs hKw
      refine wpIn_region_tail 10 hro (by kernel_rfl) (by kernel_rfl) ?_
      simp only [List.take_succ_cons, List.take_zero, List.drop_succ_cons, List.drop_zero]
      repeat (quiet_step_in (skip))
      refine wpQuietIn_nil ?_
      rintro _ ⟨nq, rfl⟩
      obtain ⟨fn, tmps, assign, body, hy, hR⟩ := hY k (W1.drewN nq) (hJ1 nq) hlt
      rw [hsid] at hy
      dsimp only at hy
      gi_wp2
      refine hR.mono ?_
      rintro e W3 (⟨rfl, hJ3, hk3⟩ | ⟨rfl, hJx3⟩)
      · have hk4 := hKx _ _ hk3
        gi_wp2
        go_roundw
        case rel => exact ⟨k + 1, by omega, by simp, hJ3, hk4⟩
        case measure => simp [intOf]; omega
      · gi_wp2
        refine bodyPost_ret (results_none rfl _ _ _) rfl ?_
        exact ⟨⟨_, rfl⟩, .inr ⟨k + 1, by omega, hJx3⟩⟩
    · obtain rfl : m = k := by omega
      gi_wp2
      go_end0
      exact ⟨⟨_, rfl⟩, .inl hJs⟩

set_option maxRecDepth 100000 in
set_option maxHeartbeats 1000000 in
theorem sides1_nil_in (F : Fence) (n : Nat) (hF : F.fn 52) (hro : F.round = none) (l Bs : Nat) (J : World → Prop) (W : World) (A0 : Option Addr) (c0 : Nat) (hBs : W.cell? ⟨Bs, 0, none⟩ = some (.slice A0 0 c0)) (h0 : J W) :
    CallsIn F n Try.prog 52 #[.func (.yield l) #[] #[], .pointer (some ⟨Bs, 0, none⟩)] W fun e W' => (∃ v, e = .returned v) ∧ J W' := by
  refine callsIn_of_wp Try.func52 rfl hF ?_ hro
  simp only [Try.ntmps52, List.size_toArray, List.length_cons, List.length_nil, Nat.reduceAdd, Nat.reduceSub, Array.replicate_succ, Array.replicate_zero, List.push_toArray, List.append_toArray, List.nil_append, List.cons_append]
  gi_wp2
  gi_loopw [7] (fun i wr => i = .int .i64 0 ∧ J wr) (fun _ _ => 0)
  case atStart => exact ⟨rfl, h0⟩
  case round =>
    obtain ⟨rfl, hJs⟩ := hrel
    gi_wp2
    go_end0
    exact ⟨⟨_, rfl⟩, hJs⟩

set_option maxHeartbeats 1000000 in
theorem sides_in (F : Fence) (n : Nat) (hF : F.fn 28) (hro : F.round = none) (a : Option Addr) (len cap : Nat) (w : World) :
    CallsIn F n Try.prog 28 #[.slice a len cap] w fun e w' => e = .returned (.func (.func 52) #[] #[.pointer (some ⟨w.heap.size, 0, none⟩)]) ∧ w' = w.alloc (.cells #[.slice a len cap] 22) := by
  refine callsIn_of_wp Try.func28 rfl hF ?_ hro
  simp only [Try.ntmps28, List.size_toArray, List.length_cons, List.length_nil, Nat.reduceAdd, Nat.reduceSub, Array.replicate_succ, Array.replicate_zero, List.push_toArray, List.append_toArray, List.nil_append, List.cons_append]
  gi_wp2
  go_ret
  exact ⟨rfl, rfl⟩

/-- The slice value sv holds the points ps, in a block below n; or it is nil and there are none. -/
def PtsAt (n : Nat) (W : World) (sv : Value) (ps : List Pt) : Prop :=
  ((∃ A c, sv = .slice A 0 c) ∧ ps = []) ∨ ∃ b off cap, sv = .slice (some ⟨b, off, none⟩) ps.length cap ∧ b < n ∧ ∀ j, j < ps.length → W.cell? ⟨b, off + j * 2, none⟩ = some (.int .i32 (gp ps j).1) ∧ W.cell? ⟨b, off + j * 2 + 1, none⟩ = some (.int .i32 (gp ps j).2)
theorem PtsAt.below {n : Nat} {A B : World} (h : Below n A B) {sv : Value} {ps : List Pt} : PtsAt n A sv ps → PtsAt n B sv ps
  | .inl e => .inl e
  | .inr ⟨b, off, cap, e, hb, hc⟩ => .inr ⟨b, off, cap, e, hb, fun j hj => ⟨(h.cell (p := ⟨b, off + j * 2, none⟩) hb).trans (hc j hj).1, (h.cell (p := ⟨b, off + j * 2 + 1, none⟩) hb).trans (hc j hj).2⟩⟩

def IPt (p : Pt) : Prop := I32 p.1 ∧ I32 p.2
theorem gp_i {ps : List Pt} (h : ∀ p ∈ ps, IPt p) (k : Nat) : IPt (gp ps k) := by
  unfold gp
  by_cases hk : k < ps.length
  · rw [List.getElem?_eq_getElem hk]; exact h _ (List.getElem_mem hk)
  · rw [List.getElem?_eq_none (by omega)]; exact ⟨by unfold I32; decide, by unfold I32; decide⟩
/-- A side between points of the lattice. -/
abbrev Sd := { x : Pt × Pt // IPt x.1 ∧ IPt x.2 }
def sdS (ps : List Pt) (h : ∀ p ∈ ps, IPt p) (k : Nat) : Sd := ⟨sid ps k, gp_i h _, gp_i h _⟩
def ePt (x : Sd) : Array Value := #[.agg #[.int .i32 x.1.1.1, .int .i32 x.1.1.2], .agg #[.int .i32 x.1.2.1, .int .i32 x.1.2.2]]
theorem sdS_map (ps : List Pt) (h : ∀ p ∈ ps, IPt p) (k : Nat) : (upto (sdS ps h) k).map Subtype.val = upto (sid ps) k := by simp [upto, sdS]

theorem sides_stops (F : Fence) (n : Nat) (hF : F.fn 52) (hro : F.round = none) (hn : 1 ≤ n) (Bs B m n₀ : Nat) (sv : Value) (ps : List Pt) (hps : ∀ p ∈ ps, IPt p) (hreach : ps.length * 8 ≤ 140737488355328) (w : World) (hn₀ : n₀ ≤ w.heap.size)
    (hs : Bs < n₀) (hsB : Bs ≠ B) (hB : m ≤ B) (hm : m ≤ n₀)
    (hc : w.cell? ⟨Bs, 0, none⟩ = some sv) (hI : PtsAt m w sv ps) :
    SeqStopsK F n Try.prog 52 #[.pointer (some ⟨Bs, 0, none⟩)] ePt (Kx B n₀) (fun ys => ys = upto (sdS ps hps) ps.length) (fun pre => ∃ k, k ≤ ps.length ∧ pre = upto (sdS ps hps) k) ps.length w := fun l J Jx W hW hJ _ hY h0 => by
  have hc' := (hW.cell (p := ⟨Bs, 0, none⟩) (by show Bs < w.heap.size; omega)).trans hc
  have hmw : m ≤ w.heap.size := by omega
  rcases hI.below (hW.mono hmw) with ⟨⟨A0, c0, rfl⟩, rfl⟩ | ⟨b, off, cap, rfl, hb, hcs⟩
  · exact (sides1_nil_in F n hF hro l Bs (J []) W A0 c0 hc' h0).mono fun e W' ⟨he, hj⟩ => ⟨he, .inl ⟨_, rfl, hj⟩⟩
  · refine (sides1_in F n hF hro hn l Bs B n₀ b off cap ps _ rfl hreach (by omega) (by omega) hs hsB (fun k => J (upto (sdS ps hps) k)) (fun k => Jx (upto (sdS ps hps) k)) (fun k => hJ (upto (sdS ps hps) k)) (fun k W1 h hk => ?_) W (Nat.le_trans hn₀ hW.size) hc' hcs h0).mono ?_
    · have := hY _ (sdS ps hps k) W1 h (by rw [upto_length]; exact hk)
      rw [← upto_succ] at this
      exact this
    · rintro e W' ⟨he, hj | ⟨k, hk, hj⟩⟩
      · exact ⟨he, .inl ⟨_, rfl, hj⟩⟩
      · exact ⟨he, .inr ⟨_, ⟨k, hk, rfl⟩, hj⟩⟩

end Go.Proofs.Ytohnglcdophkfaa
