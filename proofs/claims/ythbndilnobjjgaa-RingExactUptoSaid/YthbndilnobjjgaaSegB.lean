/-
  Package seg: one, along, lattice.
-/
import Derived.Test.YthbndilnobjjgaaSegA
import Derived.Test.YthbndilnobjjgaaStore6
namespace Go.Proofs.Ythbndilnobjjgaa
open Go.RowKit

theorem ret_in {a b : Bool} (h : a = b) : Ending.returned (.bool a) = .returned (.bool b) := by rw [h]
theorem pin_any (p : Pt) (w : World) : Calls Try.prog 30 #[.agg #[.int .i32 p.1, .int .i32 p.2]] w fun e w' => e = .returned (.bool (inP p)) ∧ Below w.heap.size w w' := by
  go_enter Try.func30, Try.ntmps30
  go_wp2
  all_goals
    go_ret
    exact ⟨ret_in (by unfold inP; rw [Bool.eq_iff_iff]; simp; try omega), by go_grown⟩

theorem all_step' {k : Nat} {f : Nat → Bool} (h : ∀ j, j < k → f j = true) (hk : f k = true) : ∀ j, j < k + 1 → f j = true := fun j hj => by
  rcases Nat.lt_or_ge j k with h1 | h1
  · exact h j h1
  · obtain rfl : j = k := by omega
    exact hk
theorem all_yes {n : Nat} {f : Nat → Bool} (h : ∀ j, j < n → f j = true) : (List.range n).all f = true := by
  rw [List.all_eq_true]
  intro j hj
  exact h j (List.mem_range.1 hj)
theorem all_no {n j : Nat} {f : Nat → Bool} (hj : j < n) (h : f j = false) : (List.range n).all f = false := by
  rw [List.all_eq_false]
  exact ⟨j, List.mem_range.2 hj, by rw [h]; exact Bool.false_ne_true⟩

set_option maxRecDepth 100000 in
set_option maxHeartbeats 400000 in
theorem lattice_any (b n cap : Nat) (f : Nat → Pt) (hn : n ≤ 1000) (w : World) (hb : b < w.heap.size) (hc : ∀ j, j < n → w.cell? ⟨b, j * 2, none⟩ = some (.int .i32 (f j).1) ∧ w.cell? ⟨b, j * 2 + 1, none⟩ = some (.int .i32 (f j).2)) :
    Calls Try.prog 66 #[.slice (some ⟨b, 0, none⟩) n cap] w fun e w' => e = .returned (.bool ((List.range n).all fun j => inP (f j))) ∧ Below w.heap.size w w' := by
  go_enter Try.func66, Try.ntmps66
  go_wp2_with fail
  go_loopw [7] (fun i wr => ∃ k : Nat, i = .int .i64 (k : Int) ∧ k ≤ n ∧ (∀ j, j < k → inP (f j) = true) ∧ Below w.heap.size w wr) (fun i _ => n - (intOf i).toNat)
  case atStart => exact ⟨0, rfl, Nat.zero_le _, fun j hj => absurd hj (Nat.not_lt_zero _), by go_grown⟩
  case round =>
    obtain ⟨k, rfl, hk, hall, hB⟩ := hrel
    have hsz := hB.size
    rcases Nat.lt_or_ge k n with hlt | hge
    · have c0 := (hB.cell (p := ⟨b, k * 2, none⟩) hb).trans (hc k hlt).1
      have c1 := (hB.cell (p := ⟨b, k * 2 + 1, none⟩) hb).trans (hc k hlt).2
      obtain ⟨q, hq⟩ : ∃ q, f k = q := ⟨_, rfl⟩
      rw [hq] at c0 c1
      have HP := Lib.hid (fun W => pin_any q W)
      have HA := Lib.hid hall
      obtain ⟨i, hi⟩ : ∃ i, inP q = i := ⟨_, rfl⟩
      rw [hi] at HP
      have HI : Hid (inP (f k) = i) := Lib.hid (by rw [hq, hi])
      clear hq hi hall hc
      cases i
      · go_wp2_with fail
        refine (HP.out _).mono ?_
        rintro e w1 ⟨rfl, hb_w1⟩
        obtain ⟨hc_w1, hf_w1⟩ := bcell hb_w1
        have hz_w1 := hb_w1.size
        try simp at hz_w1
        have hB_w1 : Below w.heap.size w w1 := Below.trans (by go_grown) (hb_w1.mono (by go_size))
        go_wp2_with fail
        go_ret
        refine ⟨?_, hB_w1⟩
        rw [all_no hlt HI.out]
        rfl
      · go_wp2_with fail
        refine (HP.out _).mono ?_
        rintro e w1 ⟨rfl, hb_w1⟩
        obtain ⟨hc_w1, hf_w1⟩ := bcell hb_w1
        have hz_w1 := hb_w1.size
        try simp at hz_w1
        have hB_w1 : Below w.heap.size w w1 := Below.trans (by go_grown) (hb_w1.mono (by go_size))
        go_wp2_with fail
        go_roundw
        case rel => exact ⟨k + 1, by simp, hlt, all_step' HA.out HI.out, hB_w1⟩
        case measure => simp [intOf]; omega
    · obtain rfl : k = n := by omega
      go_wp2_with fail
      go_ret
      refine ⟨?_, hB⟩
      rw [all_yes hall]
      rfl

theorem var6 {w : World} {g : Nat} {t : TypeId} {a b c d e f : Value} (h : Var w g t #[a, b, c, d, e, f]) : w.cell? ⟨g, 0, none⟩ = some a ∧ w.cell? ⟨g, 1, none⟩ = some b ∧ w.cell? ⟨g, 2, none⟩ = some c ∧ w.cell? ⟨g, 3, none⟩ = some d ∧ w.cell? ⟨g, 4, none⟩ = some e ∧ w.cell? ⟨g, 5, none⟩ = some f :=
  ⟨h.cell 0, h.cell 1, h.cell 2, h.cell 3, h.cell 4, h.cell 5⟩

theorem build_none (W : World) : (Instr.build 77 #[]).run Try.prog W = .ok (.agg #[.int .u8 0, .bool false, .int .i64 0, .int .i64 0, .int .i64 0, .int .i64 0]) W := by kernel_rfl
theorem build_one (i : Bool) (x y p q : Int) (W : World) : (Instr.build 77 #[(0, .int .u8 1), (1, .bool i), (2, .agg #[.int .i64 x, .int .i64 y]), (3, .agg #[.int .i64 p, .int .i64 q])]).run Try.prog W = .ok (.agg #[.int .u8 1, .bool i, .int .i64 x, .int .i64 y, .int .i64 p, .int .i64 q]) W := by kernel_rfl
theorem build_two (x y p q : Int) (W : World) : (Instr.build 77 #[(0, .int .u8 2), (2, .agg #[.int .i64 x, .int .i64 y]), (3, .agg #[.int .i64 p, .int .i64 q])]).run Try.prog W = .ok (.agg #[.int .u8 2, .bool false, .int .i64 x, .int .i64 y, .int .i64 p, .int .i64 q]) W := by kernel_rfl

set_option maxHeartbeats 400000 in
theorem one_any (n d : Int) (i : Bool) (h : Fr n d) (w : World) :
    Calls Try.prog 67 #[.int .i64 n, .int .i64 d, .bool i] w fun e w' => e = .returned (.agg #[.int .u8 1, .bool i, .int .i64 (fr n d).1, .int .i64 (fr n d).2, .int .i64 (fr n d).1, .int .i64 (fr n d).2]) ∧ Below w.heap.size w w' := by
  have HF := Lib.hid (fun W => frac_any n d h W)
  obtain ⟨x, hx⟩ : ∃ x, (fr n d).1 = x := ⟨_, rfl⟩
  obtain ⟨y, hy⟩ : ∃ y, (fr n d).2 = y := ⟨_, rfl⟩
  rw [hx, hy] at HF ⊢
  clear hx hy h
  go_enter Try.func67, Try.ntmps67
  go_wp2_with fail
  refine (HF.out _).mono ?_
  rintro e w1 ⟨rfl, hb_w1⟩
  obtain ⟨hc_w1, hf_w1⟩ := bcell hb_w1
  have hz_w1 := hb_w1.size
  try simp at hz_w1
  have hB_w1 : Below w.heap.size w w1 := Below.trans (by go_grown) (hb_w1.mono (by go_size))
  have hs_w1_w_0 : w.heap.size < w1.heap.size := by omega
  have vR : Var w1 w.heap.size 77 #[.int .u8 0, .bool false, .int .i64 0, .int .i64 0, .int .i64 0, .int .i64 0] := (Var.new _ _ _).keep hb_w1
  have hB1 : Below w.heap.size w w1 := hB_w1
  clear hc_w1 hf_w1 hb_w1 hB_w1
  go_wp2_with (refine wpList_store6 rfl 77 (.tmp 6) (.tmp 14) rfl w.heap.size _ _ _ _ _ _ rfl rfl _ _ _ _ _ _ (vR.alloc _) (by kernel_rfl) (six_cells rfl rfl rfl rfl rfl rfl) ?_; intro w2 vM hbM hsM; obtain ⟨m0, m1, m2, m3, m4, m5⟩ := var6 vM)
  refine bodyPost_ret (by simp [results, Try.results67, go_sem, *]; try rfl) rfl ?_
  exact ⟨rfl, Below.trans (by go_grown) hbM⟩

end Go.Proofs.Ythbndilnobjjgaa
