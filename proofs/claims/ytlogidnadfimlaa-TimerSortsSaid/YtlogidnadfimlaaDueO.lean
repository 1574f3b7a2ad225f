/-
  The order of dues, as the program holds two against one another.
-/
import Derived.Test.YtlogidnadfimlaaDueS
namespace Go.Proofs.Ytlogidnadfimlaa
open Go.RowKit Go.Maps

theorem ret_boolO {a b : Bool} (h : a = b) : Ending.returned (.bool a) = .returned (.bool b) := by rw [h]
theorem ret_intO {a b : Int} (h : a = b) : Ending.returned (.int .i64 a) = .returned (.int .i64 b) := by rw [h]
theorem nan_u32 (x : Int) (w : World) : Calls Try.prog 47 #[.int .u32 x] w fun e w' => e = .returned (.bool false) ∧ w = w' := by
  go_enter Try.func47, Try.ntmps47
  go_wp2
  all_goals
    go_ret
    exact ⟨ret_boolO (by simp), rfl⟩

theorem compare_u32 (x y : Int) (w : World) : Calls Try.prog 38 #[.int .u32 x, .int .u32 y] w fun e w' => e = .returned (.int .i64 (cmpI x y)) ∧ w = w' := by
  have H1 := Lib.hid nan_u32
  go_enter Try.func38, Try.ntmps38
  go_wp2_with (go_at_call 47; refine (H1.out _ _).mono ?_; rintro e w1 ⟨rfl, rfl⟩)
  all_goals
    go_ret
    exact ⟨ret_intO (by unfold cmpI; (repeat' split) <;> omega), rfl⟩

theorem or_three (p q r : Int) (b : Nat) (w : World) (hb : b < w.heap.size) (h0 : w.cell? ⟨b, 0, none⟩ = some (.int .i64 p)) (h1 : w.cell? ⟨b, 1, none⟩ = some (.int .i64 q)) (h2 : w.cell? ⟨b, 2, none⟩ = some (.int .i64 r)) :
    Calls Try.prog 37 #[.slice (some ⟨b, 0, none⟩) 3 3] w fun e w' => e = .returned (.int .i64 (or3 p q r)) ∧ Below w.heap.size w w' := by
  unfold or3
  rcases Decidable.em (p = 0) with hp | hp
  · subst hp
    rw [if_pos rfl]
    rcases Decidable.em (q = 0) with hq | hq
    · subst hq
      rw [if_pos rfl]
      rcases Decidable.em (r = 0) with hr | hr
      · subst hr
        go_enter Try.func37, Try.ntmps37
        go_wp2_with fail
        go_loopw [8] (fun t wr => wr = w ∧ (t = .int .i64 0 ∨ t = .int .i64 1 ∨ t = .int .i64 2 ∨ t = .int .i64 3)) (fun t _ => 3 - (intOf t).toNat)
        case atStart => exact ⟨rfl, .inl rfl⟩
        case round =>
          obtain ⟨rfl, rfl | rfl | rfl | rfl⟩ := hrel
          · go_wp2_with fail
            go_roundw
            case rel => simp
            case measure => simp [intOf]
          · go_wp2_with fail
            go_roundw
            case rel => simp
            case measure => simp [intOf]
          · go_wp2_with fail
            go_roundw
            case rel => simp
            case measure => simp [intOf]
          · go_wp2_with fail
            refine bodyPost_ret (by simp [results, Try.results37, go_sem, *]; try rfl) rfl ?_
            exact ⟨rfl, by go_grown⟩
      · have hr' : (r == 0) = false := by simp; exact hr
        clear hr
        go_enter Try.func37, Try.ntmps37
        go_wp2_with fail
        go_loopw [8] (fun t wr => wr = w ∧ (t = .int .i64 0 ∨ t = .int .i64 1 ∨ t = .int .i64 2)) (fun t _ => 3 - (intOf t).toNat)
        case atStart => exact ⟨rfl, .inl rfl⟩
        case round =>
          obtain ⟨rfl, rfl | rfl | rfl⟩ := hrel
          · go_wp2_with fail
            go_roundw
            case rel => simp
            case measure => simp [intOf]
          · go_wp2_with fail
            go_roundw
            case rel => simp
            case measure => simp [intOf]
          · go_wp2_with fail
            refine bodyPost_ret (by simp [results, Try.results37, go_sem, *]; try rfl) rfl ?_
            exact ⟨rfl, by go_grown⟩
    · have hq' : (q == 0) = false := by simp; exact hq
      rw [if_neg hq]
      clear hq
      go_enter Try.func37, Try.ntmps37
      go_wp2_with fail
      go_loopw [8] (fun t wr => wr = w ∧ (t = .int .i64 0 ∨ t = .int .i64 1)) (fun t _ => 3 - (intOf t).toNat)
      case atStart => exact ⟨rfl, .inl rfl⟩
      case round =>
        obtain ⟨rfl, rfl | rfl⟩ := hrel
        · go_wp2_with fail
          go_roundw
          case rel => simp
          case measure => simp [intOf]
        · go_wp2_with fail
          refine bodyPost_ret (by simp [results, Try.results37, go_sem, *]; try rfl) rfl ?_
          exact ⟨rfl, by go_grown⟩
  · rw [if_neg hp]
    have hp' : (p == 0) = false := by simp; exact hp
    clear hp
    go_enter Try.func37, Try.ntmps37
    go_wp2_with fail
    go_loopw [8] (fun t wr => wr = w ∧ t = .int .i64 0) (fun t _ => 3 - (intOf t).toNat)
    case atStart => exact ⟨rfl, rfl⟩
    case round =>
      obtain ⟨rfl, rfl⟩ := hrel
      go_wp2_with fail
      refine bodyPost_ret (by simp [results, Try.results37, go_sem, *]; try rfl) rfl ?_
      exact ⟨rfl, by go_grown⟩

set_option maxRecDepth 100000 in
theorem order_any (a b : Du) (w : World) : Calls Try.prog 20 #[.agg #[.int .u32 a.1, .int .u32 a.2.1, .int .u32 a.2.2], .agg #[.int .u32 b.1, .int .u32 b.2.1, .int .u32 b.2.2]] w fun e w' => e = .returned (.int .i64 (duC a b)) ∧ Below w.heap.size w w' := by
  have H5 := Lib.hid compare_u32
  have H6 := Lib.hid (fun (B : Nat) (W : World) => or_three (cmpI a.1 b.1) (cmpI a.2.1 b.2.1) (cmpI a.2.2 b.2.2) B W)
  have e : or3 (cmpI a.1 b.1) (cmpI a.2.1 b.2.1) (cmpI a.2.2 b.2.2) = duC a b := rfl
  rw [e] at H6
  clear e
  obtain ⟨t, ht⟩ : ∃ t, duC a b = t := ⟨_, rfl⟩
  rw [ht] at H6 ⊢
  clear ht
  obtain ⟨a0, a1, a2⟩ := a
  obtain ⟨b0, b1, b2⟩ := b
  dsimp only at H6 ⊢
  go_enter Try.func20, Try.ntmps20
  go_wp2_with fail
  refine wp_gen (fun Qw1 hW0 => ?_)
  have hB_Qw1 : Below w.heap.size w Qw1 := by rw [hW0]; go_grown
  have hs_Qw1_0 : w.heap.size < Qw1.heap.size := by rw [hW0]; first | omega | (simp; done) | (simp; omega)
  have hs_Qw1_1 : w.heap.size + 1 < Qw1.heap.size := by rw [hW0]; first | omega | (simp; done) | (simp; omega)
  have hg_Qw1_0 : Qw1.cell? ⟨w.heap.size, 0, none⟩ = some (.int .u32 a0) := by rw [hW0]; first | (go_simp; done) | (simp [*]; done)
  have hg_Qw1_1 : Qw1.cell? ⟨w.heap.size, 1, none⟩ = some (.int .u32 a1) := by rw [hW0]; first | (go_simp; done) | (simp [*]; done)
  have hg_Qw1_2 : Qw1.cell? ⟨w.heap.size, 2, none⟩ = some (.int .u32 a2) := by rw [hW0]; first | (go_simp; done) | (simp [*]; done)
  have hg_Qw1_3 : Qw1.cell? ⟨w.heap.size + 1, 0, none⟩ = some (.int .u32 b0) := by rw [hW0]; first | (go_simp; done) | (simp [*]; done)
  have hg_Qw1_4 : Qw1.cell? ⟨w.heap.size + 1, 1, none⟩ = some (.int .u32 b1) := by rw [hW0]; first | (go_simp; done) | (simp [*]; done)
  have hg_Qw1_5 : Qw1.cell? ⟨w.heap.size + 1, 2, none⟩ = some (.int .u32 b2) := by rw [hW0]; first | (go_simp; done) | (simp [*]; done)
  clear hW0
  have hq_Qw1 := @wd_cell Qw1
  refine wp_region_wd_tail 15 (by kernel_rfl) (by kernel_rfl) ?_
  simp only [List.take_succ_cons, List.take_zero, List.drop_succ_cons, List.drop_zero]
  repeat (go_big_quiet_step ((first | (go_at_call 38; with_reducible exact quiet_wd_same (H5.out _ _ _)))))
  refine wpQuiet_nil ?_
  rintro w1 ⟨⟨wx, hb_w1⟩, hwx⟩
  obtain rfl : w1 = wx := hwx
  clear hq_Qw1
  obtain ⟨hc_w1, hf_w1⟩ := bcell hb_w1
  have hB_w1 : Below w.heap.size w w1 := Below.trans (by go_grown) (hb_w1.mono (by go_size))
  have hs_w1_0 : w.heap.size < w1.heap.size := Nat.lt_of_lt_of_le hs_Qw1_0 hb_w1.size
  have hs_w1_1 : w.heap.size + 1 < w1.heap.size := Nat.lt_of_lt_of_le hs_Qw1_1 hb_w1.size
  go_wp2_with fail
  refine (H6.out w1.heap.size _ (by go_size) (by go_simp) (by go_simp) (by go_simp)).mono ?_
  rintro e w2 ⟨rfl, hb_w2⟩
  obtain ⟨hc_w2, hf_w2⟩ := bcell hb_w2
  have hz_w2 := hb_w2.size
  try simp at hz_w2
  have hB_w2 : Below w.heap.size w w2 := Below.trans (by go_grown) (hb_w2.mono (by go_size))
  go_wp2_with fail
  refine bodyPost_ret (by simp [results, Try.results20, go_sem, *]; try rfl) rfl ?_
  exact ⟨rfl, by go_grown⟩
end Go.Proofs.Ytlogidnadfimlaa
