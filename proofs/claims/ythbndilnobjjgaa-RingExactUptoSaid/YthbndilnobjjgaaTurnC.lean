/-
  Contracts of cmp.Compare, cmp.Or and point.Around.
  Contract of point.Around: the order of directions.
  Contracts: on the lattice, a point shifted, the box around two points.
-/
import Derived.Test.YthbndilnobjjgaaTurnB
import Derived.Test.YthbndilnobjjgaaTail
import Derived.BigRegion
namespace Go.Proofs.Ythbndilnobjjgaa
open Go.RowKit


theorem nan_int32 (x : Int) (w : World) : Calls Try.prog 79 #[.int .i32 x] w fun e w' => e = .returned (.bool false) ∧ w = w' := by
  go_enter Try.func79, Try.ntmps79
  go_wp2
  all_goals
    go_ret
    exact ⟨ret_bool (by simp), rfl⟩

theorem compare_int32 (x y : Int) (w : World) : Calls Try.prog 74 #[.int .i32 x, .int .i32 y] w fun e w' => e = .returned (.int .i64 (cmpI x y)) ∧ w = w' := by
  have H1 := Lib.hid nan_int32
  go_enter Try.func74, Try.ntmps74
  go_wp2_with (go_at_call 79; refine (H1.out _ _).mono ?_; rintro e w1 ⟨rfl, rfl⟩)
  all_goals
    go_ret
    exact ⟨ret_intw (by unfold cmpI; (repeat' split) <;> omega), rfl⟩

theorem or_two (p q : Int) (b : Nat) (w : World) (hb : b < w.heap.size) (h0 : w.cell? ⟨b, 0, none⟩ = some (.int .i64 p)) (h1 : w.cell? ⟨b, 1, none⟩ = some (.int .i64 q)) :
    Calls Try.prog 73 #[.slice (some ⟨b, 0, none⟩) 2 2] w fun e w' => e = .returned (.int .i64 (if p = 0 then q else p)) ∧ Below w.heap.size w w' := by
  rcases Decidable.em (p = 0) with hp | hp
  · subst hp
    rw [if_pos rfl]
    rcases Decidable.em (q = 0) with hq | hq
    · subst hq
      go_enter Try.func73, Try.ntmps73
      go_wp2_with fail
      go_loopw [8] (fun t wr => wr = w ∧ (t = .int .i64 0 ∨ t = .int .i64 1 ∨ t = .int .i64 2)) (fun t _ => 2 - (intOf t).toNat)
      case atStart => exact ⟨rfl, .inl rfl⟩
      case round =>
        obtain ⟨rfl, rfl | rfl | rfl⟩ := hrel
        · go_wp2_with fail
          go_roundw
          case rel => simp
          case measure => simp [intOf]
        · go_wp2_with fail
          go_roundw
          case rel => simp
          case measure => simp [intOf]
        · go_wp2_with fail
          refine bodyPost_ret (by simp [results, Try.results73, go_sem, *]; try rfl) rfl ?_
          exact ⟨rfl, by go_grown⟩
    · have hq' : (q == 0) = false := by simp; exact hq
      clear hq
      go_enter Try.func73, Try.ntmps73
      go_wp2_with fail
      go_loopw [8] (fun t wr => wr = w ∧ (t = .int .i64 0 ∨ t = .int .i64 1)) (fun t _ => 2 - (intOf t).toNat)
      case atStart => exact ⟨rfl, .inl rfl⟩
      case round =>
        obtain ⟨rfl, rfl | rfl⟩ := hrel
        · go_wp2_with fail
          go_roundw
          case rel => simp
          case measure => simp [intOf]
        · go_wp2_with fail
          refine bodyPost_ret (by simp [results, Try.results73, go_sem, *]; try rfl) rfl ?_
          exact ⟨rfl, by go_grown⟩
  · rw [if_neg hp]
    have hp' : (p == 0) = false := by simp; exact hp
    clear hp
    go_enter Try.func73, Try.ntmps73
    go_wp2_with fail
    go_loopw [8] (fun t wr => wr = w ∧ t = .int .i64 0) (fun t _ => 2 - (intOf t).toNat)
    case atStart => exact ⟨rfl, rfl⟩
    case round =>
      obtain ⟨rfl, rfl⟩ := hrel
      go_wp2_with fail
      refine bodyPost_ret (by simp [results, Try.results73, go_sem, *]; try rfl) rfl ?_
      exact ⟨rfl, by go_grown⟩

theorem below_same {w w' : World} (h : w = w') : Below w.heap.size w w' := h ▸ Below.refl _ _
def inB (x y : Int) : Bool := decide ((-1073741823 ≤ x ∧ x ≤ 1073741823) ∧ (-1073741823 ≤ y ∧ y ≤ 1073741823))

theorem in_any (x y : Int) (w : World) : Calls Try.prog 30 #[(Value.agg #[.int .i32 (x), .int .i32 (y)])] w fun e w' => e = .returned (.bool (inB x y)) ∧ Below w.heap.size w w' := by
  go_enter Try.func30, Try.ntmps30
  go_wp2
  all_goals
    go_ret
    exact ⟨ret_bool (by unfold inB; rw [Bool.eq_iff_iff]; simp; try omega), by go_grown⟩

theorem ret_shift {a b a' b' : Int} {c c' : Bool} (h1 : a = a') (h2 : b = b') (h3 : c = c') : Ending.returned (.tuple #[(Value.agg #[.int .i32 (a), .int .i32 (b)]), .bool c]) = .returned (.tuple #[(Value.agg #[.int .i32 (a'), .int .i32 (b')]), .bool c']) := by rw [h1, h2, h3]

theorem shift_math {x b : Int} (h1 : I32 x) (h2 : I32 b) : wrap64 x = x ∧ wrap64 b = b ∧ wrap64 (x + b) = x + b ∧ wrap64 (wrap32 (x + b)) = wrap32 (x + b) := by
  unfold I32 at *; unfold wrap64 wrap32; omega

section
variable {w : World} {g : Nat} {t : TypeId} {a b c d : Value}
theorem four0 (h : Var w g t #[a, b, c, d]) (u : Value) : Var (w.setCell ⟨g, 0, none⟩ u) g t #[u, b, c, d] := h.store 0 u
theorem four1 (h : Var w g t #[a, b, c, d]) (u : Value) : Var (w.setCell ⟨g, 1, none⟩ u) g t #[a, u, c, d] := h.store 1 u
theorem four2 (h : Var w g t #[a, b, c, d]) (u : Value) : Var (w.setCell ⟨g, 2, none⟩ u) g t #[a, b, u, d] := h.store 2 u
theorem four3 (h : Var w g t #[a, b, c, d]) (u : Value) : Var (w.setCell ⟨g, 3, none⟩ u) g t #[a, b, c, u] := h.store 3 u
end

set_option maxRecDepth 100000 in
theorem bounds_two (ax ay bx by_ : Int) (b : Nat) (w : World) (hb : b < w.heap.size) (h0 : w.cell? ⟨b, 0, none⟩ = some (.int .i32 ax)) (h1 : w.cell? ⟨b, 1, none⟩ = some (.int .i32 ay)) (h2 : w.cell? ⟨b, 2, none⟩ = some (.int .i32 bx)) (h3 : w.cell? ⟨b, 3, none⟩ = some (.int .i32 by_)) :
    Calls Try.prog 47 #[.slice (some ⟨b, 0, none⟩) 2 2] w fun e w' => e = .returned (.tuple #[(Value.agg #[.int .i32 (min ax bx), .int .i32 (min ay by_), .int .i32 (max ax bx), .int .i32 (max ay by_)]), .bool true]) ∧ Below w.heap.size w w' := by
  have hbn : ¬ b = w.heap.size := by omega
  have hbn1 : ¬ b = w.heap.size + 1 := by omega
  go_enter Try.func47, Try.ntmps47
  go_wp2_with fail
  go_region
  all_goals go_wp2_with fail
  refine wp_gen (fun W hW => ?_)
  have vB : Var W (w.heap.size + 1) 42 #[.int .i32 ax, .int .i32 ay, .int .i32 ax, .int .i32 ay] := by rw [hW]; exact (Var.new' _ _ _ (by simp)).drew
  have vR : Var W w.heap.size 42 #[.int .i32 0, .int .i32 0, .int .i32 0, .int .i32 0] := by rw [hW]; exact ((Var.new _ _ _).alloc _).drew
  have hBW : Below w.heap.size w W := by rw [hW]; go_grown
  have k2 : W.cell? ⟨b, 2, none⟩ = some (.int .i32 bx) := (hBW.cell (p := ⟨b, 2, none⟩) hb).trans h2
  have k3 : W.cell? ⟨b, 3, none⟩ = some (.int .i32 by_) := (hBW.cell (p := ⟨b, 3, none⟩) hb).trans h3
  clear hW h0 h1 h2 h3
  have hb2 : b < w.heap.size + 1 := by omega
  have j1 := fun W => join_any ax ay ax ay bx by_ bx by_ W
  rw [show rightB ax ay ax ay = true by simp [rightB], show rightB bx by_ bx by_ = true by simp [rightB]] at j1
  simp only [jn, if_true] at j1
  have J := Lib.hid j1
  clear j1
  go_loopw [21] (fun t wr => Below (w.heap.size + 1) W wr ∧ ((t = .int .i64 0 ∧ Var wr (w.heap.size + 1) 42 #[.int .i32 ax, .int .i32 ay, .int .i32 ax, .int .i32 ay]) ∨ (t = .int .i64 1 ∧ Var wr (w.heap.size + 1) 42 #[.int .i32 (min ax bx), .int .i32 (min ay by_), .int .i32 (max ax bx), .int .i32 (max ay by_)]))) (fun t _ => 1 - (intOf t).toNat)
  case atStart => exact ⟨Below.refl _ _, .inl ⟨rfl, vB⟩⟩
  case round =>
    obtain ⟨hbel, ⟨rfl, hVr⟩ | ⟨rfl, hVr⟩⟩ := hrel
    all_goals
      have z0 : w.heap.size < wr.heap.size := Nat.lt_of_lt_of_le vR.lt hbel.size
      have vR' := vR.below hbel (by omega)
      have hBr : Below w.heap.size w wr := hBW.trans (hbel.mono (by omega))
      have m2 : wr.cell? ⟨b, 2, none⟩ = some (.int .i32 bx) := (hbel.cell (p := ⟨b, 2, none⟩) hb2).trans k2
      have m3 : wr.cell? ⟨b, 3, none⟩ = some (.int .i32 by_) := (hbel.cell (p := ⟨b, 3, none⟩) hb2).trans k3
      have r0 : wr.cell? ⟨w.heap.size, 0, none⟩ = some (.int .i32 0) := vR'.cell 0
      have r1 : wr.cell? ⟨w.heap.size, 1, none⟩ = some (.int .i32 0) := vR'.cell 1
      have r2 : wr.cell? ⟨w.heap.size, 2, none⟩ = some (.int .i32 0) := vR'.cell 2
      have r3 : wr.cell? ⟨w.heap.size, 3, none⟩ = some (.int .i32 0) := vR'.cell 3
      have x0 := hVr.cell 0
      have x1 := hVr.cell 1
      have x2 := hVr.cell 2
      have x3 := hVr.cell 3
      have f0 := hVr.free 0
      have f1 := hVr.free 1
      have f2 := hVr.free 2
      have f3 := hVr.free 3
      have g0 := vR'.free 0
      have g1 := vR'.free 1
      have g2 := vR'.free 2
      have g3 := vR'.free 3
      have z1 := hVr.lt
      simp at x0 x1 x2 x3
      go_wp2_with fail
    · refine (J.out _).mono ?_
      rintro e w1 ⟨rfl, hb_w1⟩
      obtain ⟨hc_w1, hf_w1⟩ := bcell hb_w1
      have hz_w1 := hb_w1.size
      try simp at hz_w1
      have hB_w1 : Below w.heap.size w w1 := Below.trans (by go_grown) (hb_w1.mono (by go_size))
      have hs_w1_0 : w.heap.size < w1.heap.size := by omega
      have hs_w1_1 : w.heap.size + 1 < w1.heap.size := by omega
      have vX := (hVr.alloc _).keep hb_w1
      have hB2 : Below (w.heap.size + 1) W w1 := Below.trans (Below.trans hbel (by go_grown)) (hb_w1.mono (by go_size))
      go_wp2_with fail
      go_roundw
      case rel => exact ⟨(((hB2.setCell (p := ⟨w.heap.size + 1, 0, none⟩) (Nat.le_refl _) _).setCell (p := ⟨w.heap.size + 1, 1, none⟩) (Nat.le_refl _) _).setCell (p := ⟨w.heap.size + 1, 2, none⟩) (Nat.le_refl _) _).setCell (p := ⟨w.heap.size + 1, 3, none⟩) (Nat.le_refl _) _, .inr ⟨rfl, four3 (four2 (four1 (four0 vX _) _) _) _⟩⟩
      case measure => simp [intOf]
    · refine bodyPost_ret (by simp [results, Try.results47, go_sem, *]; try rfl) rfl ?_
      exact ⟨rfl, by go_grown⟩

end Go.Proofs.Ythbndilnobjjgaa
