/-
  point.Cmp: the world behind it: draws, and blocks behind.
-/
import Derived.Test.YtcpojadinkonnaaCmpP
import Derived.Sort.Grow
namespace Go.Proofs.Ytcpojadinkonnaa
open Go.RowKit Go.Sort

def Gr (w w' : World) : Prop := ∃ (q : Nat) (os : Array Obj), w' = grow (w.drewN q) os
theorem gr_refl (w : World) : Gr w w := ⟨0, #[], by rw [grow_empty]; rfl⟩
theorem gr_alloc {w W : World} (h : Gr w W) (o : Obj) : Gr w (W.alloc o) := by
  obtain ⟨q, os, rfl⟩ := h
  exact ⟨q, os ++ #[o], by rw [alloc_eq_grow, grow_grow]⟩
theorem gr_trans {a b c : World} (h : Gr a b) (k : Gr b c) : Gr a c := by
  obtain ⟨q, os, rfl⟩ := h
  obtain ⟨q', os', rfl⟩ := k
  exact ⟨q + q', os ++ os', by show grow (grow ((a.drewN q).drewN q') os) os' = _; rw [grow_grow, World.drewN_drewN]⟩
theorem gr_drew {w W : World} (h : Gr w W) : Gr w W.drew := gr_trans h ⟨1, #[], by rw [grow_empty]; rfl⟩
theorem gr_below {w W : World} (h : Gr w W) : Below w.heap.size w W := by
  obtain ⟨q, os, rfl⟩ := h
  exact ⟨rfl, rfl, rfl, by simp [grow, World.drewN], fun k hk => by simp [grow, World.drewN, Array.getElem?_append, hk]⟩
structure Gd (W0 : World) where
  w : World
  h : Gr W0 w
instance gd_any (W0 : World) : Nonempty (Gd W0) := ⟨⟨W0, gr_refl _⟩⟩
theorem gd_cell {W0 : World} (x : Gd W0) (b o : Nat) (h : b < W0.heap.size) : x.w.cell? ⟨b, o, none⟩ = W0.cell? ⟨b, o, none⟩ := (gr_below x.h).cell (p := ⟨b, o, none⟩) h
theorem quiet_gd_same {P : Program} {f : FuncId} {args : Array Value} {W0 : World} {x : Gd W0} {v : Value}
    (h : Calls P f args x.w fun e w' => e = .returned v ∧ x.w = w') : Calls P f args x.w fun e w'' => e = .returned v ∧ ∃ y : Gd W0, w'' = y.w :=
  h.mono fun _ _ ⟨he, hb⟩ => ⟨he, x, hb.symm⟩
theorem wp_region_gd_tail {P : Program} {id : Nat} {Q : Exit → Act → World → Prop} {a : Act} {w : World} {l : List Oper} (n : Nat) (hm : P.follows .mixedOrders = true) (hB : Region.lexTailB .any l.toArray n = true)
    (h : wpQuiet P l.toArray (fun w' => ∃ x : Gd w, w' = x.w) (fun a' => ∀ w', (∃ x : Gd w, w' = x.w) → wpList P l.toArray Q (l.drop n) a' w') (l.take n) a) : (Code.region id l.toArray true).wp P Q a w :=
  wp_region_quiet_tail (C := fun w' => ∃ x : Gd w, w' = x.w) n hm hB ⟨⟨w.drew, gr_drew (gr_refl _)⟩, rfl⟩ h
macro "gr_tac" : tactic => `(tactic| repeat' (first | assumption | exact gr_refl _ | refine gr_alloc ?_ _ | refine gr_drew ?_))

theorem or_two_eq (p q : Int) (b : Nat) (w : World) (hb : b < w.heap.size) (h0 : w.cell? ⟨b, 0, none⟩ = some (.int .i64 p)) (h1 : w.cell? ⟨b, 1, none⟩ = some (.int .i64 q)) :
    Calls Try.prog 91 #[.slice (some ⟨b, 0, none⟩) 2 2] w fun e w' => e = .returned (.int .i64 (if p = 0 then q else p)) ∧ w' = w := by
  rcases Decidable.em (p = 0) with hp | hp
  · subst hp
    rw [if_pos rfl]
    rcases Decidable.em (q = 0) with hq | hq
    · subst hq
      go_enter Try.func91, Try.ntmps91
      go_wp2_with fail
      go_loopw [8] (fun t wr => wr = w ∧ (t = .int .i64 0 ∨ t = .int .i64 1 ∨ t = .int .i64 2)) (fun t _ => 2 - (intOf t).toNat)
      case atStart => exact ⟨rfl, .inl rfl⟩
      case round =>
        obtain ⟨rfl, rfl | rfl | rfl⟩ := hrel
        · go_wp2_with fail
          go_roundw
          case rel => simp
          case measure => simp [intOf]
        · go_wp2_with fail
          go_roundw
          case rel => simp
          case measure => simp [intOf]
        · go_wp2_with fail
          refine bodyPost_ret (by simp [results, Try.results91, go_sem, *]; try rfl) rfl ?_
          exact ⟨rfl, rfl⟩
    · have hq' : (q == 0) = false := by simp; exact hq
      clear hq
      go_enter Try.func91, Try.ntmps91
      go_wp2_with fail
      go_loopw [8] (fun t wr => wr = w ∧ (t = .int .i64 0 ∨ t = .int .i64 1)) (fun t _ => 2 - (intOf t).toNat)
      case atStart => exact ⟨rfl, .inl rfl⟩
      case round =>
        obtain ⟨rfl, rfl | rfl⟩ := hrel
        · go_wp2_with fail
          go_roundw
          case rel => simp
          case measure => simp [intOf]
        · go_wp2_with fail
          refine bodyPost_ret (by simp [results, Try.results91, go_sem, *]; try rfl) rfl ?_
          exact ⟨rfl, rfl⟩
  · rw [if_neg hp]
    have hp' : (p == 0) = false := by simp; exact hp
    clear hp
    go_enter Try.func91, Try.ntmps91
    go_wp2_with fail
    go_loopw [8] (fun t wr => wr = w ∧ t = .int .i64 0) (fun t _ => 2 - (intOf t).toNat)
    case atStart => exact ⟨rfl, rfl⟩
    case round =>
      obtain ⟨rfl, rfl⟩ := hrel
      go_wp2_with fail
      refine bodyPost_ret (by simp [results, Try.results91, go_sem, *]; try rfl) rfl ?_
      exact ⟨rfl, rfl⟩

set_option maxHeartbeats 1000000 in
set_option maxRecDepth 100000 in
theorem pcmp_grown (ax ay bx by_ : Int) (w : World) :
    Calls Try.prog 70 #[(Value.agg #[.int .i32 (ax), .int .i32 (ay)]), (Value.agg #[.int .i32 (bx), .int .i32 (by_)])] w fun e w' => e = .returned (.int .i64 (ptCmp ax ay bx by_)) ∧ Gr w w' := by
  have H5 := Lib.hid compare_int32
  have h6 := fun (b : Nat) (W : World) => or_two_eq (cmpI ax bx) (cmpI ay by_) b W
  rw [ptCmp_or] at h6
  have H6 := Lib.hid h6
  clear h6
  rcases Decidable.em (ax = bx) with h | h
  · subst h
    rcases Decidable.em (ay = by_) with h | h
    · subst h
      rw [show ptCmp ax ay ax ay = 0 by unfold ptCmp; simp]
      go_enter Try.func70, Try.ntmps70
      go_wp2_with fail
      go_returns
      exact ⟨rfl, by gr_tac⟩
    · go_enter Try.func70, Try.ntmps70
      go_wp2_with fail
      refine wp_gen (fun Qw1 hW0 => ?_)
      have hB_Qw1 : Below w.heap.size w Qw1 := by rw [hW0]; go_grown
      have hG_Qw1 : Gr w Qw1 := by rw [hW0]; gr_tac
      have hs_Qw1_0 : w.heap.size < Qw1.heap.size := by rw [hW0]; first | omega | (simp; done) | (simp; omega)
      have hs_Qw1_1 : w.heap.size + 1 < Qw1.heap.size := by rw [hW0]; first | omega | (simp; done) | (simp; omega)
      have hg_Qw1_0 : Qw1.cell? ⟨w.heap.size, 0, none⟩ = some (.int .i32 ax) := by rw [hW0]; first | (go_simp; done) | (simp [*]; done)
      have hg_Qw1_1 : Qw1.cell? ⟨w.heap.size, 1, none⟩ = some (.int .i32 ay) := by rw [hW0]; first | (go_simp; done) | (simp [*]; done)
      have hg_Qw1_2 : Qw1.cell? ⟨w.heap.size + 1, 0, none⟩ = some (.int .i32 ax) := by rw [hW0]; first | (go_simp; done) | (simp [*]; done)
      have hg_Qw1_3 : Qw1.cell? ⟨w.heap.size + 1, 1, none⟩ = some (.int .i32 by_) := by rw [hW0]; first | (go_simp; done) | (simp [*]; done)
      clear hW0
      have hq_Qw1 := @gd_cell Qw1
      refine wp_region_gd_tail 10 (by kernel_rfl) (by kernel_rfl) ?_
      simp only [List.take_succ_cons, List.take_zero, List.drop_succ_cons, List.drop_zero]
      repeat (go_big_quiet_step ((first | (go_at_call 92; with_reducible exact quiet_gd_same (H5.out _ _ _)))))
      refine wpQuiet_nil ?_
      rintro w1 ⟨⟨wx, hb_w1⟩, hwx⟩
      obtain rfl : w1 = wx := hwx
      have hG_w1 := gr_trans hG_Qw1 hb_w1
      replace hb_w1 := gr_below hb_w1
      clear hq_Qw1
      obtain ⟨hc_w1, hf_w1⟩ := bcell hb_w1
      have hB_w1 : Below w.heap.size w w1 := Below.trans (by go_grown) (hb_w1.mono (by go_size))
      have hs_w1_0 : w.heap.size < w1.heap.size := Nat.lt_of_lt_of_le hs_Qw1_0 hb_w1.size
      have hs_w1_1 : w.heap.size + 1 < w1.heap.size := Nat.lt_of_lt_of_le hs_Qw1_1 hb_w1.size
      go_wp2_with fail
      refine (H6.out w1.heap.size _ (by go_size) (by go_simp) (by go_simp)).mono ?_
      rintro e w2 ⟨rfl, rfl⟩
      go_wp2_with fail
      refine bodyPost_ret (by simp [results, Try.results70, go_sem, *]; try rfl) rfl ?_
      exact ⟨rfl, by gr_tac⟩
  · go_enter Try.func70, Try.ntmps70
    go_wp2_with fail
    refine wp_gen (fun Qw1 hW0 => ?_)
    have hB_Qw1 : Below w.heap.size w Qw1 := by rw [hW0]; go_grown
    have hG_Qw1 : Gr w Qw1 := by rw [hW0]; gr_tac
    have hs_Qw1_0 : w.heap.size < Qw1.heap.size := by rw [hW0]; first | omega | (simp; done) | (simp; omega)
    have hs_Qw1_1 : w.heap.size + 1 < Qw1.heap.size := by rw [hW0]; first | omega | (simp; done) | (simp; omega)
    have hg_Qw1_0 : Qw1.cell? ⟨w.heap.size, 0, none⟩ = some (.int .i32 ax) := by rw [hW0]; first | (go_simp; done) | (simp [*]; done)
    have hg_Qw1_1 : Qw1.cell? ⟨w.heap.size, 1, none⟩ = some (.int .i32 ay) := by rw [hW0]; first | (go_simp; done) | (simp [*]; done)
    have hg_Qw1_2 : Qw1.cell? ⟨w.heap.size + 1, 0, none⟩ = some (.int .i32 bx) := by rw [hW0]; first | (go_simp; done) | (simp [*]; done)
    have hg_Qw1_3 : Qw1.cell? ⟨w.heap.size + 1, 1, none⟩ = some (.int .i32 by_) := by rw [hW0]; first | (go_simp; done) | (simp [*]; done)
    clear hW0
    have hq_Qw1 := @gd_cell Qw1
    refine wp_region_gd_tail 10 (by kernel_rfl) (by kernel_rfl) ?_
    simp only [List.take_succ_cons, List.take_zero, List.drop_succ_cons, List.drop_zero]
    repeat (go_big_quiet_step ((first | (go_at_call 92; with_reducible exact quiet_gd_same (H5.out _ _ _)))))
    refine wpQuiet_nil ?_
    rintro w1 ⟨⟨wx, hb_w1⟩, hwx⟩
    obtain rfl : w1 = wx := hwx
    have hG_w1 := gr_trans hG_Qw1 hb_w1
    replace hb_w1 := gr_below hb_w1
    clear hq_Qw1
    obtain ⟨hc_w1, hf_w1⟩ := bcell hb_w1
    have hB_w1 : Below w.heap.size w w1 := Below.trans (by go_grown) (hb_w1.mono (by go_size))
    have hs_w1_0 : w.heap.size < w1.heap.size := Nat.lt_of_lt_of_le hs_Qw1_0 hb_w1.size
    have hs_w1_1 : w.heap.size + 1 < w1.heap.size := Nat.lt_of_lt_of_le hs_Qw1_1 hb_w1.size
    go_wp2_with fail
    refine (H6.out w1.heap.size _ (by go_size) (by go_simp) (by go_simp)).mono ?_
    rintro e w2 ⟨rfl, rfl⟩
    go_wp2_with fail
    refine bodyPost_ret (by simp [results, Try.results70, go_sem, *]; try rfl) rfl ?_
    exact ⟨rfl, by gr_tac⟩


end Go.Proofs.Ytcpojadinkonnaa
