/-
  What Crossings and Winding are told of each side: their counting closures.
  inside.past: each side that passes the point to its right is told of: with the counting closures of Crossings and of Winding. Printed by wip/tools/gen_past.py.
-/
import Derived.Test.YtohnglcdophkfaaEdge
namespace Go.Proofs.Ytohnglcdophkfaa
open Go.RowKit Go.Shelf

theorem wrap_near {c d : Int} (h : -4611686018427387904 ≤ c ∧ c ≤ 4611686018427387904) (hd : -1 ≤ d ∧ d ≤ 1) : wrap64 (c + d) = c + d := by unfold wrap64; omega

set_option maxHeartbeats 1000000 in
theorem tellC_any (W : World) (B : Nat) (c : Int) (b : Bool) (hB : Boxed W B 3 (.int .i64 c)) (hc : -4611686018427387904 ≤ c ∧ c ≤ 4611686018427387904) :
    Calls Try.prog 32 #[.bool b, .pointer (some ⟨B, 0, none⟩)] W fun e w' => (∃ v, e = .returned v) ∧ w' = W.setCell ⟨B, 0, none⟩ (.int .i64 (c + 1)) := by
  have hw := wrap_near hc (d := 1) (by omega)
  have cB := hB.cell
  have fB := hB.frozen
  go_enter Try.func32, Try.ntmps32
  go_wp2_with fail
  go_end0
  exact ⟨⟨_, rfl⟩, rfl⟩

set_option maxHeartbeats 1000000 in
theorem tellW_any (W : World) (B : Nat) (c : Int) (b : Bool) (hB : Boxed W B 3 (.int .i64 c)) (hc : -4611686018427387904 ≤ c ∧ c ≤ 4611686018427387904) :
    Calls Try.prog 31 #[.bool b, .pointer (some ⟨B, 0, none⟩)] W fun e w' => (∃ v, e = .returned v) ∧ w' = W.setCell ⟨B, 0, none⟩ (.int .i64 (c + if b then 1 else -1)) := by
  have hw := wrap_near hc (d := 1) (by omega)
  have hv := wrap_near hc (d := -1) (by omega)
  have cB := hB.cell
  have fB := hB.frozen
  cases b
  · go_enter Try.func31, Try.ntmps31
    go_wp2_with fail
    go_end0
    exact ⟨⟨_, rfl⟩, by rw [← Int.sub_eq_add_neg]⟩
  · go_enter Try.func31, Try.ntmps31
    go_wp2_with fail
    go_end0
    exact ⟨⟨_, rfl⟩, rfl⟩

attribute [local go_sem] Oper.semAt_some

theorem ownFrom_size {β : Type} (B n : Nat) : OwnFrom B (fun (_ : β) W => n ≤ W.heap.size) := fun _ _ _ _ hs hg _ => Nat.le_trans hs hg.size
theorem wrap_tell {m k L : Nat} {c t : Int} (hr : m * 8 ≤ 140737488355328) (hk : k < m) (hL : L = k) (ht : -(L : Int) ≤ t ∧ t ≤ L) (hc : -4503599627370496 ≤ c ∧ c ≤ 4503599627370496) : -4611686018427387904 ≤ c + t ∧ c + t ≤ 4611686018427387904 := by omega
theorem fc_none {p : Pt} {s : Pt × Pt} (h1 : ¬ (s.1.2 ≤ p.2 ∧ p.2 < s.2.2 ∧ 0 < trP p s)) (h2 : ¬ (p.2 < s.1.2 ∧ s.2.2 ≤ p.2 ∧ trP p s < 0)) : fc p s = 0 := by
  unfold fc rise fall
  rw [decide_eq_false h1, decide_eq_false h2]
  rfl
theorem fw_none {p : Pt} {s : Pt × Pt} (h1 : ¬ (s.1.2 ≤ p.2 ∧ p.2 < s.2.2 ∧ 0 < trP p s)) (h2 : ¬ (p.2 < s.1.2 ∧ s.2.2 ≤ p.2 ∧ trP p s < 0)) : fw p s = 0 := by
  unfold fw rise fall
  rw [decide_eq_false h1, decide_eq_false h2]
  rfl
theorem fc_rise {p : Pt} {s : Pt × Pt} (h1 : s.1.2 ≤ p.2 ∧ p.2 < s.2.2 ∧ 0 < trP p s) : fc p s = 1 := by
  unfold fc rise fall
  rw [decide_eq_true h1, decide_eq_false (fun h => by omega)]
  rfl
theorem fw_rise {p : Pt} {s : Pt × Pt} (h1 : s.1.2 ≤ p.2 ∧ p.2 < s.2.2 ∧ 0 < trP p s) : fw p s = 1 := by
  unfold fw rise fall
  rw [decide_eq_true h1, decide_eq_false (fun h => by omega)]
  rfl
theorem fc_fall {p : Pt} {s : Pt × Pt} (h1 : p.2 < s.1.2 ∧ s.2.2 ≤ p.2 ∧ trP p s < 0) : fc p s = 1 := by
  unfold fc rise fall
  rw [decide_eq_true h1, decide_eq_false (fun h => by omega)]
  rfl
theorem fw_fall {p : Pt} {s : Pt × Pt} (h1 : p.2 < s.1.2 ∧ s.2.2 ≤ p.2 ∧ trP p s < 0) : fw p s = -1 := by
  unfold fw rise fall
  rw [decide_eq_true h1, decide_eq_false (fun h => by omega)]
  rfl
theorem kx_set {B n : Nat} {W W' : World} (hb : Below W.heap.size W W') (hn : n ≤ W.heap.size) (v : Value) : Kx B n W (W'.setCell ⟨B, 0, none⟩ v) := by
  have h := Kx.below (B := B) hb hn
  refine ⟨by rw [World.size_setCell]; exact h.1, fun b o h1 h2 => ?_⟩
  rw [← h.2 b o h1 h2]
  exact World.cell?_of_block (w := W') (Below.heap_setCell _ _ _ b h2)

set_option maxRecDepth 100000 in
set_option maxHeartbeats 4000000 in
theorem pastC_any (w : World) (sv : Value) (ps : List Pt) (p : Pt) (B m : Nat) (c : Int) (hp : IPt p) (hps : ∀ p ∈ ps, IPt p) (hreach : ps.length * 8 ≤ 140737488355328) (hmB : m ≤ B) (hBx : Boxed w B 3 (.int .i64 c)) (hI : PtsAt m w sv ps) (hc : -4503599627370496 ≤ c ∧ c ≤ 4503599627370496) :
    Calls Try.prog 30 #[sv, .agg #[.int .i32 p.1, .int .i32 p.2], .func (.func 32) #[] #[.pointer (some ⟨B, 0, none⟩)]] w fun e w' => (∃ v, e = .returned v) ∧ Boxed w' B 3 (.int .i64 (c + tot (fc p) (sides ps))) ∧ Below B w w' := by
  have hBl := hBx.lt
  obtain ⟨a, len, cap, rfl⟩ : ∃ a len cap, sv = .slice a len cap := by
    rcases hI with ⟨⟨A0, c0, rfl⟩, _⟩ | ⟨b, off, cap, rfl, _⟩ <;> exact ⟨_, _, _, rfl⟩
  refine (callsIn_wide (n := 6)).1 ?_
  have h1 : 1 ≤ 6 := by omega
  refine callsIn_of_wp_marks Try.func30 rfl trivial ?_ rfl
  simp only [Try.ntmps30, List.size_toArray, List.length_cons, List.length_nil, Nat.reduceAdd, Nat.reduceSub, Array.replicate_succ, Array.replicate_zero, List.push_toArray, List.append_toArray, List.nil_append, List.cons_append]
  gi_wp2_with (refine ⟨trivial, ?_⟩; gi_at_call 28; refine (sides_in Fence.wide (6 - 1) trivial rfl _ _ _ _).mono ?_; rintro e w' ⟨rfl, rfl⟩)
  obtain ⟨w1, hw1⟩ : ∃ w1, w.alloc (.cells #[.int .i32 p.1, .int .i32 p.2] 25) = w1 := ⟨_, rfl⟩
  obtain ⟨w2, hw2⟩ : ∃ w2, w1.alloc (.cells #[.func (.func 32) #[] #[.pointer (some ⟨B, 0, none⟩)]] 50) = w2 := ⟨_, rfl⟩
  obtain ⟨W0, hW0⟩ : ∃ W0, w2.alloc (.cells #[.slice a len cap] 22) = W0 := ⟨_, rfl⟩
  have z1 : w1.heap.size = w.heap.size + 1 := by rw [← hw1]; simp
  have z2 : w2.heap.size = w.heap.size + 1 + 1 := by rw [← hw2]; simp [z1]
  have z0 : W0.heap.size = w.heap.size + 1 + 1 + 1 := by rw [← hW0]; simp [z2]
  have bP : Two W0 w.heap.size 25 p := by rw [← hW0, ← hw2, ← hw1]; exact ((Two.new w 25 p).alloc _).alloc _
  have bR : Boxed W0 (w.heap.size + 1) 50 (.func (.func 32) #[] #[.pointer (some ⟨B, 0, none⟩)]) := by rw [← z1, ← hW0, ← hw2]; exact (Boxed.new w1 50 _).alloc _
  have bS : Boxed W0 (w.heap.size + 1 + 1) 22 (.slice a len cap) := by rw [← z2, ← hW0]; exact Boxed.new w2 22 _
  have hB0 : Below w.heap.size w W0 := by rw [← hW0, ← hw2, ← hw1]; exact (((Below.refl _ w).alloc (Nat.le_refl _) _).alloc (by simp) _).alloc (by simp; omega) _
  rw [hw1, hw2, hW0]
  have z0' : w.heap.size + 1 + 1 + 1 ≤ W0.heap.size := by omega
  clear hW0 hw1 hw2 z0
  refine wpIn_rangeFunc_ownH rfl h1 (gf := 52) (lb := #[.pointer (some ⟨w.heap.size + 1 + 1, 0, none⟩)]) rfl trivial (enters_of Try.func52 (by kernel_rfl) rfl)
    (sides_stops Fence.wide (6 - 1) trivial rfl (by omega) (w.heap.size + 1 + 1) B m W0.heap.size (.slice a len cap) ps hps hreach W0 (Nat.le_refl _) (by omega) (by omega) hmB (by omega) bS.cell (hI.below (hB0.mono (by omega)))) kx_t (kx_b (Nat.le_refl _)) (Below.refl _ _) (fun _ => rfl)
    (fun pre W => ((Two W w.heap.size 25 p ∧ Boxed W (w.heap.size + 1) 50 (.func (.func 32) #[] #[.pointer (some ⟨B, 0, none⟩)])) ∧ Boxed W B 3 (.int .i64 (c + tot (fc p) (vals pre)))) ∧ W0.heap.size ≤ W.heap.size ∧ Below B w W)
    (fun _ _ _ => False)
    (OwnFrom.and (OwnFrom.and (OwnFrom.and (Own.from (two_own _ _ _) _) (Own.from (boxed_own _ _ _) _)) (Own.from (boxed_own _ _ (fun pre => Value.int .i64 (c + tot (fc p) (vals pre)))) _)) (OwnFrom.and (ownFrom_size _ _) (ownFrom_below (by omega) (by omega))))
    (fun _ _ _ _ _ hs _ _ => hs)
    ⟨⟨⟨bP, bR⟩, by rw [show c + tot (fc p) (vals []) = c from Int.add_zero c]; exact boxed_below hB0 hBl hBx⟩, Nat.le_refl _, hB0.mono (by omega)⟩
    (fun x a' W => ∃ A C, (w.heap.size + 1 < A ∧ Two W A 25 x.1.1) ∧ (w.heap.size + 1 < C ∧ Two W C 25 x.1.2) ∧ a' = { tmps := #[.slice a len cap, .agg #[.int .i32 p.1, .int .i32 p.2], .func (.func 32) #[] #[.pointer (some ⟨B, 0, none⟩)], undef, .pointer (some ⟨w.heap.size, 0, none⟩), .pointer (some ⟨w.heap.size + 1, 0, none⟩), .pointer (some ⟨A, 0, none⟩), .pointer (some ⟨C, 0, none⟩), undef, .slice a len cap, .func (.func 52) #[] #[.pointer (some ⟨w.heap.size + 1 + 1, 0, none⟩)], .agg #[.int .i32 x.1.1.1, .int .i32 x.1.1.2], .agg #[.int .i32 x.1.2.1, .int .i32 x.1.2.2], undef, undef, undef, undef, undef, undef, undef, undef, undef, undef, undef, undef, undef, undef, undef, undef, undef, undef, undef, undef, undef, undef, undef, undef, undef, undef, undef, undef, undef, undef, undef, undef, undef, undef, undef, undef, undef, undef, undef, undef, undef, undef, undef, undef, undef], defers := [] })
    (fun x a' _ X Y row hs hg hr => by
      obtain ⟨A, C, ⟨h1, h2⟩, ⟨h3, h4⟩, h5⟩ := hs
      exact ⟨A, C, ⟨h1, two_own A 25 (fun (_ : Unit) => x.1.1) () X Y row h2 hg (fun r e => (hr r e).2)⟩, ⟨h3, two_own C 25 (fun (_ : Unit) => x.1.2) () X Y row h4 hg (fun r e => (hr r e).2)⟩, h5⟩)
    ?assign ?body ?done ?stop
  case assign =>
    rintro l pre x W K ⟨⟨⟨bP1, bR1⟩, bC1⟩, hsz, hB1⟩ hK
    unfold ePt
    gi_wp2
    refine hK _ _ (((KeepsOthers.alloc _ _).trans (KeepsOthers.alloc _ _)).from _) (Kx.below (((Below.refl _ W).alloc (Nat.le_refl _) _).alloc (by simp) _) hsz) ⟨⟨⟨(bP1.alloc _).alloc _, (bR1.alloc _).alloc _⟩, (bC1.alloc _).alloc _⟩, by simp; omega, (hB1.alloc (by omega) _).alloc (by simp; omega) _⟩ ⟨W.heap.size, W.heap.size + 1, ⟨by omega, (Two.new W 25 x.1.1).alloc _⟩, ⟨by omega, ?_⟩, rfl⟩
    have := Two.new (W.alloc (.cells #[.int .i32 x.1.1.1, .int .i32 x.1.1.2] 25)) 25 x.1.2
    rw [World.size_alloc] at this
    exact this
  case body =>
    rintro l pre x a' W hl _ ⟨⟨⟨bP1, bR1⟩, bC1⟩, hsz, hB1⟩ ⟨A, C, ⟨hA, bA⟩, ⟨hC, bC⟩, rfl⟩ hlt
    have cP0 := bP1.c0
    have cP1 := bP1.c1
    have cR := bR1.cell
    have cA0 := bA.c0
    have cA1 := bA.c1
    have cC0 := bC.c0
    have cC1 := bC.c1
    have hbd := tot_bd (fc p) (fc_bd p) (vals pre)
    have hvl : (vals pre).length = pre.length := by simp [vals]
    have htl := wrap_tell hreach hlt hvl hbd hc
    have H := Lib.hid (fun W => turn_any x.1.1.1 x.1.1.2 x.1.2.1 x.1.2.2 p.1 p.2 x.2.1.1 x.2.1.2 x.2.2.1 x.2.2.2 hp.1 hp.2 W)
    have hgo : ∀ W', Below W.heap.size W W' → fc p x.1 = 0 → KeepsFrom W0.heap.size W W' ∧ Kx B W0.heap.size W W' ∧ ((Two W' w.heap.size 25 p ∧ Boxed W' (w.heap.size + 1) 50 (.func (.func 32) #[] #[.pointer (some ⟨B, 0, none⟩)])) ∧ Boxed W' B 3 (.int .i64 (c + tot (fc p) (vals (pre ++ [x]))))) ∧ W0.heap.size ≤ W'.heap.size ∧ Below B w W' := fun W' hb h0 => by
      have hsw := hb.size
      refine ⟨keepsFrom_below hb, Kx.below hb hsz, ⟨⟨bP1.below hb bP1.lt, boxed_below hb bR1.lt bR1⟩, ?_⟩, by omega, hB1.trans (hb.mono (by have := bC1.lt; omega))⟩
      rw [vals_snoc, tot_snoc, h0, Int.add_zero]
      exact boxed_below hb bC1.lt bC1
    have hgo2 : ∀ W' d, Below W.heap.size W W' → fc p x.1 = d → KeepsFrom W0.heap.size W (W'.setCell ⟨B, 0, none⟩ (.int .i64 (c + tot (fc p) (vals pre) + d))) ∧ Kx B W0.heap.size W (W'.setCell ⟨B, 0, none⟩ (.int .i64 (c + tot (fc p) (vals pre) + d))) ∧ ((Two (W'.setCell ⟨B, 0, none⟩ (.int .i64 (c + tot (fc p) (vals pre) + d))) w.heap.size 25 p ∧ Boxed (W'.setCell ⟨B, 0, none⟩ (.int .i64 (c + tot (fc p) (vals pre) + d))) (w.heap.size + 1) 50 (.func (.func 32) #[] #[.pointer (some ⟨B, 0, none⟩)])) ∧ Boxed (W'.setCell ⟨B, 0, none⟩ (.int .i64 (c + tot (fc p) (vals pre) + d))) B 3 (.int .i64 (c + tot (fc p) (vals (pre ++ [x]))))) ∧ W0.heap.size ≤ (W'.setCell ⟨B, 0, none⟩ (.int .i64 (c + tot (fc p) (vals pre) + d))).heap.size ∧ Below B w (W'.setCell ⟨B, 0, none⟩ (.int .i64 (c + tot (fc p) (vals pre) + d))) := fun W' d hb h0 => by
      have hsw := hb.size
      have hbs : (W'.setCell ⟨B, 0, none⟩ (.int .i64 (c + tot (fc p) (vals pre) + d))).heap.size = W'.heap.size := World.size_setCell _ _ _
      refine ⟨(keepsFrom_below hb).trans ((KeepsOthers.setCell _ _ _).from _), kx_set hb hsz _, ⟨⟨(bP1.below hb bP1.lt).kept (grownBy_setCell' _ _ _) (by simp; omega), (boxed_below hb bR1.lt bR1).other (by omega) _⟩, ?_⟩, by omega, (hB1.trans (hb.mono (by have := bC1.lt; omega))).setCell (p := ⟨B, 0, none⟩) (Nat.le_refl _) _⟩
      rw [vals_snoc, tot_snoc, h0, ← Int.add_assoc]
      exact (boxed_below hb bC1.lt bC1).set _
    rcases Int.lt_or_le p.2 x.1.1.2 with hy1 | hy1
    · rcases Int.lt_or_le p.2 x.1.2.2 with hy2 | hy2
      · gi_wp2_with (first | (refine ⟨trivial, ?_⟩; gi_at_call 55; refine (CallsIn.inRound l (callsIn_wide.2 (H.out _))).mono ?_; rintro e w' ⟨rfl, hbw⟩; have bP2 := bP1.below hbw bP1.lt; have bR2 := boxed_below hbw bR1.lt bR1; have bA2 := bA.below hbw bA.lt; have bC2 := bC.below hbw bC.lt; have bB2 := boxed_below hbw bC1.lt bC1; have cP20 := bP2.c0; have cP21 := bP2.c1; have cR2 := bR2.cell; have cA20 := bA2.c0; have cA21 := bA2.c1; have cC20 := bC2.c0; have cC21 := bC2.c1) | (refine ⟨trivial, ?_⟩; gi_at_call 32; refine (CallsIn.inRound l (callsIn_wide.2 (tellC_any _ B _ _ bB2 htl))).mono ?_; rintro e w3 ⟨⟨v, rfl⟩, rfl⟩) | (refine ⟨trivial, ?_⟩))
        exact hgo W (Below.refl _ _) (fc_none (by omega) (by omega))
      · gi_wp2_with (first | (refine ⟨trivial, ?_⟩; gi_at_call 55; refine (CallsIn.inRound l (callsIn_wide.2 (H.out _))).mono ?_; rintro e w' ⟨rfl, hbw⟩; have bP2 := bP1.below hbw bP1.lt; have bR2 := boxed_below hbw bR1.lt bR1; have bA2 := bA.below hbw bA.lt; have bC2 := bC.below hbw bC.lt; have bB2 := boxed_below hbw bC1.lt bC1; have cP20 := bP2.c0; have cP21 := bP2.c1; have cR2 := bR2.cell; have cA20 := bA2.c0; have cA21 := bA2.c1; have cC20 := bC2.c0; have cC21 := bC2.c1) | (refine ⟨trivial, ?_⟩; gi_at_call 32; refine (CallsIn.inRound l (callsIn_wide.2 (tellC_any _ B _ _ bB2 htl))).mono ?_; rintro e w3 ⟨⟨v, rfl⟩, rfl⟩) | (refine ⟨trivial, ?_⟩))
        all_goals first
          | exact hgo _ hbw (fc_none (by unfold trP; omega) (by unfold trP; omega))
          | exact hgo2 _ _ hbw (fc_fall ⟨by omega, by omega, by unfold trP; omega⟩)
    · rcases Int.lt_or_le p.2 x.1.2.2 with hy2 | hy2
      · gi_wp2_with (first | (refine ⟨trivial, ?_⟩; gi_at_call 55; refine (CallsIn.inRound l (callsIn_wide.2 (H.out _))).mono ?_; rintro e w' ⟨rfl, hbw⟩; have bP2 := bP1.below hbw bP1.lt; have bR2 := boxed_below hbw bR1.lt bR1; have bA2 := bA.below hbw bA.lt; have bC2 := bC.below hbw bC.lt; have bB2 := boxed_below hbw bC1.lt bC1; have cP20 := bP2.c0; have cP21 := bP2.c1; have cR2 := bR2.cell; have cA20 := bA2.c0; have cA21 := bA2.c1; have cC20 := bC2.c0; have cC21 := bC2.c1) | (refine ⟨trivial, ?_⟩; gi_at_call 32; refine (CallsIn.inRound l (callsIn_wide.2 (tellC_any _ B _ _ bB2 htl))).mono ?_; rintro e w3 ⟨⟨v, rfl⟩, rfl⟩) | (refine ⟨trivial, ?_⟩))
        all_goals first
          | exact hgo _ hbw (fc_none (by unfold trP; omega) (by unfold trP; omega))
          | exact hgo2 _ _ hbw (fc_rise ⟨by omega, by omega, by unfold trP; omega⟩)
      · gi_wp2_with (first | (refine ⟨trivial, ?_⟩; gi_at_call 55; refine (CallsIn.inRound l (callsIn_wide.2 (H.out _))).mono ?_; rintro e w' ⟨rfl, hbw⟩; have bP2 := bP1.below hbw bP1.lt; have bR2 := boxed_below hbw bR1.lt bR1; have bA2 := bA.below hbw bA.lt; have bC2 := bC.below hbw bC.lt; have bB2 := boxed_below hbw bC1.lt bC1; have cP20 := bP2.c0; have cP21 := bP2.c1; have cR2 := bR2.cell; have cA20 := bA2.c0; have cA21 := bA2.c1; have cC20 := bC2.c0; have cC21 := bC2.c1) | (refine ⟨trivial, ?_⟩; gi_at_call 32; refine (CallsIn.inRound l (callsIn_wide.2 (tellC_any _ B _ _ bB2 htl))).mono ?_; rintro e w3 ⟨⟨v, rfl⟩, rfl⟩) | (refine ⟨trivial, ?_⟩))
        exact hgo W (Below.refl _ _) (fc_none (by omega) (by omega))
  case done =>
    rintro D ys W hD rfl ⟨⟨⟨bP1, bR1⟩, bC1⟩, hsz, hB1⟩ hK
    gi_wp2
    refine ⟨by simp, .inl ⟨_, _, rfl, run_takeDeferred hK, ?_⟩⟩
    have hK' : ∃ o : Obj, W.heap[D]? = some o ∧ o.isCells = false := ⟨_, hK, rfl⟩
    refine ⟨_, results_none rfl _ _ _, ⟨_, rfl⟩, ?_, hB1.trans (belowK_b (w := w) (n₀ := B) (by omega) W D _ _ (by omega) hK rfl rfl)⟩
    unfold vals at bC1
    rw [sdS_map] at bC1
    exact bC1.kept (grownBy_putObj' W D _) (fun e => by cases e; obtain ⟨o, ho, hc⟩ := hK'; rw [show W.heap[_]? = _ from bC1] at ho; cases ho; cases hc)
  case stop =>
    rintro D c pre W _ _ h _
    exact h.elim

set_option maxRecDepth 100000 in
set_option maxHeartbeats 4000000 in
theorem pastW_any (w : World) (sv : Value) (ps : List Pt) (p : Pt) (B m : Nat) (c : Int) (hp : IPt p) (hps : ∀ p ∈ ps, IPt p) (hreach : ps.length * 8 ≤ 140737488355328) (hmB : m ≤ B) (hBx : Boxed w B 3 (.int .i64 c)) (hI : PtsAt m w sv ps) (hc : -4503599627370496 ≤ c ∧ c ≤ 4503599627370496) :
    Calls Try.prog 30 #[sv, .agg #[.int .i32 p.1, .int .i32 p.2], .func (.func 31) #[] #[.pointer (some ⟨B, 0, none⟩)]] w fun e w' => (∃ v, e = .returned v) ∧ Boxed w' B 3 (.int .i64 (c + tot (fw p) (sides ps))) ∧ Below B w w' := by
  have hBl := hBx.lt
  obtain ⟨a, len, cap, rfl⟩ : ∃ a len cap, sv = .slice a len cap := by
    rcases hI with ⟨⟨A0, c0, rfl⟩, _⟩ | ⟨b, off, cap, rfl, _⟩ <;> exact ⟨_, _, _, rfl⟩
  refine (callsIn_wide (n := 6)).1 ?_
  have h1 : 1 ≤ 6 := by omega
  refine callsIn_of_wp_marks Try.func30 rfl trivial ?_ rfl
  simp only [Try.ntmps30, List.size_toArray, List.length_cons, List.length_nil, Nat.reduceAdd, Nat.reduceSub, Array.replicate_succ, Array.replicate_zero, List.push_toArray, List.append_toArray, List.nil_append, List.cons_append]
  gi_wp2_with (refine ⟨trivial, ?_⟩; gi_at_call 28; refine (sides_in Fence.wide (6 - 1) trivial rfl _ _ _ _).mono ?_; rintro e w' ⟨rfl, rfl⟩)
  obtain ⟨w1, hw1⟩ : ∃ w1, w.alloc (.cells #[.int .i32 p.1, .int .i32 p.2] 25) = w1 := ⟨_, rfl⟩
  obtain ⟨w2, hw2⟩ : ∃ w2, w1.alloc (.cells #[.func (.func 31) #[] #[.pointer (some ⟨B, 0, none⟩)]] 50) = w2 := ⟨_, rfl⟩
  obtain ⟨W0, hW0⟩ : ∃ W0, w2.alloc (.cells #[.slice a len cap] 22) = W0 := ⟨_, rfl⟩
  have z1 : w1.heap.size = w.heap.size + 1 := by rw [← hw1]; simp
  have z2 : w2.heap.size = w.heap.size + 1 + 1 := by rw [← hw2]; simp [z1]
  have z0 : W0.heap.size = w.heap.size + 1 + 1 + 1 := by rw [← hW0]; simp [z2]
  have bP : Two W0 w.heap.size 25 p := by rw [← hW0, ← hw2, ← hw1]; exact ((Two.new w 25 p).alloc _).alloc _
  have bR : Boxed W0 (w.heap.size + 1) 50 (.func (.func 31) #[] #[.pointer (some ⟨B, 0, none⟩)]) := by rw [← z1, ← hW0, ← hw2]; exact (Boxed.new w1 50 _).alloc _
  have bS : Boxed W0 (w.heap.size + 1 + 1) 22 (.slice a len cap) := by rw [← z2, ← hW0]; exact Boxed.new w2 22 _
  have hB0 : Below w.heap.size w W0 := by rw [← hW0, ← hw2, ← hw1]; exact (((Below.refl _ w).alloc (Nat.le_refl _) _).alloc (by simp) _).alloc (by simp; omega) _
  rw [hw1, hw2, hW0]
  have z0' : w.heap.size + 1 + 1 + 1 ≤ W0.heap.size := by omega
  clear hW0 hw1 hw2 z0
  refine wpIn_rangeFunc_ownH rfl h1 (gf := 52) (lb := #[.pointer (some ⟨w.heap.size + 1 + 1, 0, none⟩)]) rfl trivial (enters_of Try.func52 (by kernel_rfl) rfl)
    (sides_stops Fence.wide (6 - 1) trivial rfl (by omega) (w.heap.size + 1 + 1) B m W0.heap.size (.slice a len cap) ps hps hreach W0 (Nat.le_refl _) (by omega) (by omega) hmB (by omega) bS.cell (hI.below (hB0.mono (by omega)))) kx_t (kx_b (Nat.le_refl _)) (Below.refl _ _) (fun _ => rfl)
    (fun pre W => ((Two W w.heap.size 25 p ∧ Boxed W (w.heap.size + 1) 50 (.func (.func 31) #[] #[.pointer (some ⟨B, 0, none⟩)])) ∧ Boxed W B 3 (.int .i64 (c + tot (fw p) (vals pre)))) ∧ W0.heap.size ≤ W.heap.size ∧ Below B w W)
    (fun _ _ _ => False)
    (OwnFrom.and (OwnFrom.and (OwnFrom.and (Own.from (two_own _ _ _) _) (Own.from (boxed_own _ _ _) _)) (Own.from (boxed_own _ _ (fun pre => Value.int .i64 (c + tot (fw p) (vals pre)))) _)) (OwnFrom.and (ownFrom_size _ _) (ownFrom_below (by omega) (by omega))))
    (fun _ _ _ _ _ hs _ _ => hs)
    ⟨⟨⟨bP, bR⟩, by rw [show c + tot (fw p) (vals []) = c from Int.add_zero c]; exact boxed_below hB0 hBl hBx⟩, Nat.le_refl _, hB0.mono (by omega)⟩
    (fun x a' W => ∃ A C, (w.heap.size + 1 < A ∧ Two W A 25 x.1.1) ∧ (w.heap.size + 1 < C ∧ Two W C 25 x.1.2) ∧ a' = { tmps := #[.slice a len cap, .agg #[.int .i32 p.1, .int .i32 p.2], .func (.func 31) #[] #[.pointer (some ⟨B, 0, none⟩)], undef, .pointer (some ⟨w.heap.size, 0, none⟩), .pointer (some ⟨w.heap.size + 1, 0, none⟩), .pointer (some ⟨A, 0, none⟩), .pointer (some ⟨C, 0, none⟩), undef, .slice a len cap, .func (.func 52) #[] #[.pointer (some ⟨w.heap.size + 1 + 1, 0, none⟩)], .agg #[.int .i32 x.1.1.1, .int .i32 x.1.1.2], .agg #[.int .i32 x.1.2.1, .int .i32 x.1.2.2], undef, undef, undef, undef, undef, undef, undef, undef, undef, undef, undef, undef, undef, undef, undef, undef, undef, undef, undef, undef, undef, undef, undef, undef, undef, undef, undef, undef, undef, undef, undef, undef, undef, undef, undef, undef, undef, undef, undef, undef, undef, undef, undef, undef, undef], defers := [] })
    (fun x a' _ X Y row hs hg hr => by
      obtain ⟨A, C, ⟨h1, h2⟩, ⟨h3, h4⟩, h5⟩ := hs
      exact ⟨A, C, ⟨h1, two_own A 25 (fun (_ : Unit) => x.1.1) () X Y row h2 hg (fun r e => (hr r e).2)⟩, ⟨h3, two_own C 25 (fun (_ : Unit) => x.1.2) () X Y row h4 hg (fun r e => (hr r e).2)⟩, h5⟩)
    ?assign ?body ?done ?stop
  case assign =>
    rintro l pre x W K ⟨⟨⟨bP1, bR1⟩, bC1⟩, hsz, hB1⟩ hK
    unfold ePt
    gi_wp2
    refine hK _ _ (((KeepsOthers.alloc _ _).trans (KeepsOthers.alloc _ _)).from _) (Kx.below (((Below.refl _ W).alloc (Nat.le_refl _) _).alloc (by simp) _) hsz) ⟨⟨⟨(bP1.alloc _).alloc _, (bR1.alloc _).alloc _⟩, (bC1.alloc _).alloc _⟩, by simp; omega, (hB1.alloc (by omega) _).alloc (by simp; omega) _⟩ ⟨W.heap.size, W.heap.size + 1, ⟨by omega, (Two.new W 25 x.1.1).alloc _⟩, ⟨by omega, ?_⟩, rfl⟩
    have := Two.new (W.alloc (.cells #[.int .i32 x.1.1.1, .int .i32 x.1.1.2] 25)) 25 x.1.2
    rw [World.size_alloc] at this
    exact this
  case body =>
    rintro l pre x a' W hl _ ⟨⟨⟨bP1, bR1⟩, bC1⟩, hsz, hB1⟩ ⟨A, C, ⟨hA, bA⟩, ⟨hC, bC⟩, rfl⟩ hlt
    have cP0 := bP1.c0
    have cP1 := bP1.c1
    have cR := bR1.cell
    have cA0 := bA.c0
    have cA1 := bA.c1
    have cC0 := bC.c0
    have cC1 := bC.c1
    have hbd := tot_bd (fw p) (fw_bd p) (vals pre)
    have hvl : (vals pre).length = pre.length := by simp [vals]
    have htl := wrap_tell hreach hlt hvl hbd hc
    have H := Lib.hid (fun W => turn_any x.1.1.1 x.1.1.2 x.1.2.1 x.1.2.2 p.1 p.2 x.2.1.1 x.2.1.2 x.2.2.1 x.2.2.2 hp.1 hp.2 W)
    have hgo : ∀ W', Below W.heap.size W W' → fw p x.1 = 0 → KeepsFrom W0.heap.size W W' ∧ Kx B W0.heap.size W W' ∧ ((Two W' w.heap.size 25 p ∧ Boxed W' (w.heap.size + 1) 50 (.func (.func 31) #[] #[.pointer (some ⟨B, 0, none⟩)])) ∧ Boxed W' B 3 (.int .i64 (c + tot (fw p) (vals (pre ++ [x]))))) ∧ W0.heap.size ≤ W'.heap.size ∧ Below B w W' := fun W' hb h0 => by
      have hsw := hb.size
      refine ⟨keepsFrom_below hb, Kx.below hb hsz, ⟨⟨bP1.below hb bP1.lt, boxed_below hb bR1.lt bR1⟩, ?_⟩, by omega, hB1.trans (hb.mono (by have := bC1.lt; omega))⟩
      rw [vals_snoc, tot_snoc, h0, Int.add_zero]
      exact boxed_below hb bC1.lt bC1
    have hgo2 : ∀ W' d, Below W.heap.size W W' → fw p x.1 = d → KeepsFrom W0.heap.size W (W'.setCell ⟨B, 0, none⟩ (.int .i64 (c + tot (fw p) (vals pre) + d))) ∧ Kx B W0.heap.size W (W'.setCell ⟨B, 0, none⟩ (.int .i64 (c + tot (fw p) (vals pre) + d))) ∧ ((Two (W'.setCell ⟨B, 0, none⟩ (.int .i64 (c + tot (fw p) (vals pre) + d))) w.heap.size 25 p ∧ Boxed (W'.setCell ⟨B, 0, none⟩ (.int .i64 (c + tot (fw p) (vals pre) + d))) (w.heap.size + 1) 50 (.func (.func 31) #[] #[.pointer (some ⟨B, 0, none⟩)])) ∧ Boxed (W'.setCell ⟨B, 0, none⟩ (.int .i64 (c + tot (fw p) (vals pre) + d))) B 3 (.int .i64 (c + tot (fw p) (vals (pre ++ [x]))))) ∧ W0.heap.size ≤ (W'.setCell ⟨B, 0, none⟩ (.int .i64 (c + tot (fw p) (vals pre) + d))).heap.size ∧ Below B w (W'.setCell ⟨B, 0, none⟩ (.int .i64 (c + tot (fw p) (vals pre) + d))) := fun W' d hb h0 => by
      have hsw := hb.size
      have hbs : (W'.setCell ⟨B, 0, none⟩ (.int .i64 (c + tot (fw p) (vals pre) + d))).heap.size = W'.heap.size := World.size_setCell _ _ _
      refine ⟨(keepsFrom_below hb).trans ((KeepsOthers.setCell _ _ _).from _), kx_set hb hsz _, ⟨⟨(bP1.below hb bP1.lt).kept (grownBy_setCell' _ _ _) (by simp; omega), (boxed_below hb bR1.lt bR1).other (by omega) _⟩, ?_⟩, by omega, (hB1.trans (hb.mono (by have := bC1.lt; omega))).setCell (p := ⟨B, 0, none⟩) (Nat.le_refl _) _⟩
      rw [vals_snoc, tot_snoc, h0, ← Int.add_assoc]
      exact (boxed_below hb bC1.lt bC1).set _
    rcases Int.lt_or_le p.2 x.1.1.2 with hy1 | hy1
    · rcases Int.lt_or_le p.2 x.1.2.2 with hy2 | hy2
      · gi_wp2_with (first | (refine ⟨trivial, ?_⟩; gi_at_call 55; refine (CallsIn.inRound l (callsIn_wide.2 (H.out _))).mono ?_; rintro e w' ⟨rfl, hbw⟩; have bP2 := bP1.below hbw bP1.lt; have bR2 := boxed_below hbw bR1.lt bR1; have bA2 := bA.below hbw bA.lt; have bC2 := bC.below hbw bC.lt; have bB2 := boxed_below hbw bC1.lt bC1; have cP20 := bP2.c0; have cP21 := bP2.c1; have cR2 := bR2.cell; have cA20 := bA2.c0; have cA21 := bA2.c1; have cC20 := bC2.c0; have cC21 := bC2.c1) | (refine ⟨trivial, ?_⟩; gi_at_call 31; refine (CallsIn.inRound l (callsIn_wide.2 (tellW_any _ B _ _ bB2 htl))).mono ?_; rintro e w3 ⟨⟨v, rfl⟩, rfl⟩) | (refine ⟨trivial, ?_⟩))
        exact hgo W (Below.refl _ _) (fw_none (by omega) (by omega))
      · gi_wp2_with (first | (refine ⟨trivial, ?_⟩; gi_at_call 55; refine (CallsIn.inRound l (callsIn_wide.2 (H.out _))).mono ?_; rintro e w' ⟨rfl, hbw⟩; have bP2 := bP1.below hbw bP1.lt; have bR2 := boxed_below hbw bR1.lt bR1; have bA2 := bA.below hbw bA.lt; have bC2 := bC.below hbw bC.lt; have bB2 := boxed_below hbw bC1.lt bC1; have cP20 := bP2.c0; have cP21 := bP2.c1; have cR2 := bR2.cell; have cA20 := bA2.c0; have cA21 := bA2.c1; have cC20 := bC2.c0; have cC21 := bC2.c1) | (refine ⟨trivial, ?_⟩; gi_at_call 31; refine (CallsIn.inRound l (callsIn_wide.2 (tellW_any _ B _ _ bB2 htl))).mono ?_; rintro e w3 ⟨⟨v, rfl⟩, rfl⟩) | (refine ⟨trivial, ?_⟩))
        all_goals first
          | exact hgo _ hbw (fw_none (by unfold trP; omega) (by unfold trP; omega))
          | exact hgo2 _ _ hbw (fw_fall ⟨by omega, by omega, by unfold trP; omega⟩)
    · rcases Int.lt_or_le p.2 x.1.2.2 with hy2 | hy2
      · gi_wp2_with (first | (refine ⟨trivial, ?_⟩; gi_at_call 55; refine (CallsIn.inRound l (callsIn_wide.2 (H.out _))).mono ?_; rintro e w' ⟨rfl, hbw⟩; have bP2 := bP1.below hbw bP1.lt; have bR2 := boxed_below hbw bR1.lt bR1; have bA2 := bA.below hbw bA.lt; have bC2 := bC.below hbw bC.lt; have bB2 := boxed_below hbw bC1.lt bC1; have cP20 := bP2.c0; have cP21 := bP2.c1; have cR2 := bR2.cell; have cA20 := bA2.c0; have cA21 := bA2.c1; have cC20 := bC2.c0; have cC21 := bC2.c1) | (refine ⟨trivial, ?_⟩; gi_at_call 31; refine (CallsIn.inRound l (callsIn_wide.2 (tellW_any _ B _ _ bB2 htl))).mono ?_; rintro e w3 ⟨⟨v, rfl⟩, rfl⟩) | (refine ⟨trivial, ?_⟩))
        all_goals first
          | exact hgo _ hbw (fw_none (by unfold trP; omega) (by unfold trP; omega))
          | exact hgo2 _ _ hbw (fw_rise ⟨by omega, by omega, by unfold trP; omega⟩)
      · gi_wp2_with (first | (refine ⟨trivial, ?_⟩; gi_at_call 55; refine (CallsIn.inRound l (callsIn_wide.2 (H.out _))).mono ?_; rintro e w' ⟨rfl, hbw⟩; have bP2 := bP1.below hbw bP1.lt; have bR2 := boxed_below hbw bR1.lt bR1; have bA2 := bA.below hbw bA.lt; have bC2 := bC.below hbw bC.lt; have bB2 := boxed_below hbw bC1.lt bC1; have cP20 := bP2.c0; have cP21 := bP2.c1; have cR2 := bR2.cell; have cA20 := bA2.c0; have cA21 := bA2.c1; have cC20 := bC2.c0; have cC21 := bC2.c1) | (refine ⟨trivial, ?_⟩; gi_at_call 31; refine (CallsIn.inRound l (callsIn_wide.2 (tellW_any _ B _ _ bB2 htl))).mono ?_; rintro e w3 ⟨⟨v, rfl⟩, rfl⟩) | (refine ⟨trivial, ?_⟩))
        exact hgo W (Below.refl _ _) (fw_none (by omega) (by omega))
  case done =>
    rintro D ys W hD rfl ⟨⟨⟨bP1, bR1⟩, bC1⟩, hsz, hB1⟩ hK
    gi_wp2
    refine ⟨by simp, .inl ⟨_, _, rfl, run_takeDeferred hK, ?_⟩⟩
    have hK' : ∃ o : Obj, W.heap[D]? = some o ∧ o.isCells = false := ⟨_, hK, rfl⟩
    refine ⟨_, results_none rfl _ _ _, ⟨_, rfl⟩, ?_, hB1.trans (belowK_b (w := w) (n₀ := B) (by omega) W D _ _ (by omega) hK rfl rfl)⟩
    unfold vals at bC1
    rw [sdS_map] at bC1
    exact bC1.kept (grownBy_putObj' W D _) (fun e => by cases e; obtain ⟨o, ho, hc⟩ := hK'; rw [show W.heap[_]? = _ from bC1] at ho; cases ho; cases hc)
  case stop =>
    rintro D c pre W _ _ h _
    exact h.elim

end Go.Proofs.Ytohnglcdophkfaa
