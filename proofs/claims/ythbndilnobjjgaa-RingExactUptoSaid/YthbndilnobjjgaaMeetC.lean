/-
  Package seg: Meet, where a and b are one point; Meet in every case.
  Package seg: Meet in every case: MeetSays.
-/
import Derived.Test.YthbndilnobjjgaaSegD
import Derived.Test.YthbndilnobjjgaaTurnB
import Derived.Test.YthbndilnobjjgaaMeetA
import Derived.Test.YthbndilnobjjgaaMeetB
import Derived.Test.YthbndilnobjjgaaSegG
namespace Go.Proofs.Ythbndilnobjjgaa
open Go.RowKit

theorem onP_onB (a1 a2 : Int) (c d : Pt) : onB a1 a2 c.1 c.2 d.1 d.2 = onP (a1, a2) (c, d) := by
  rfl

theorem fr01 : fr 0 1 = (0, 1) := by decide

set_option maxRecDepth 100000 in
set_option maxHeartbeats 800000 in
theorem segMeet_same (a1 a2 : Int) (c d : Pt) (hl : (inP (a1, a2) && inP (a1, a2) && inP c && inP d) = true) (w : World) :
    Calls Try.prog 53 #[.agg #[.int .i32 a1, .int .i32 a2], .agg #[.int .i32 a1, .int .i32 a2], .agg #[.int .i32 c.1, .int .i32 c.2], .agg #[.int .i32 d.1, .int .i32 d.2]] w fun e w' => e = .returned (.agg #[.int .u8 (meet (a1, a2) (a1, a2) c d).k, .bool (meet (a1, a2) (a1, a2) c d).inn, .int .i64 (meet (a1, a2) (a1, a2) c d).f.1, .int .i64 (meet (a1, a2) (a1, a2) c d).f.2, .int .i64 (meet (a1, a2) (a1, a2) c d).t.1, .int .i64 (meet (a1, a2) (a1, a2) c d).t.2]) ∧ Below w.heap.size w w' := by
  have HL := Lib.hid (fun g W h => lattice4 g (a1, a2) (a1, a2) c d W h)
  unfold meet
  rw [hl, if_pos rfl]
  rw [hl] at HL
  simp only [Bool.and_eq_true] at hl
  obtain ⟨⟨⟨ia, ib⟩, ic⟩, id'⟩ := hl
  rw [if_pos rfl]
  have HO := Lib.hid (fun W => on_any a1 a2 c.1 c.2 d.1 d.2 (i32_in ia).1 (i32_in ia).2 (i32_in ic).1 (i32_in ic).2 (i32_in id').1 (i32_in id').2 W)
  have H1 := Lib.hid (fun W => one_any 0 1 false ⟨⟨by omega, by omega⟩, by omega, by omega⟩ W)
  rw [fr01] at H1
  rw [onP_onB] at HO
  unfold mtOne
  rw [fr01]
  obtain ⟨o, ho⟩ : ∃ o, onP (a1, a2) (c, d) = o := ⟨_, rfl⟩
  rw [ho] at HO ⊢
  clear ho ia ib ic id'
  cases o
  all_goals
    first
    | rw [if_pos rfl]
    | rw [if_neg Bool.false_ne_true]
    go_enter Try.func53, Try.ntmps53
    go_wp2_with fail
    refine (HL.out _ _ (Var.new' _ _ _ (by simp))).mono ?_
    rintro e w1 ⟨rfl, hb_w1⟩
    obtain ⟨hc_w1, hf_w1⟩ := bcell hb_w1
    have hz_w1 := hb_w1.size
    try simp at hz_w1
    have hB_w1 : Below w.heap.size w w1 := Below.trans (by go_grown) (hb_w1.mono (by go_size))
    have hs_w1_0 : w.heap.size < w1.heap.size := by omega
    have hs_w1_1 : w.heap.size + 1 < w1.heap.size := by omega
    have hs_w1_2 : w.heap.size + 1 + 1 < w1.heap.size := by omega
    have hs_w1_3 : w.heap.size + 1 + 1 + 1 < w1.heap.size := by omega
    have hs_w1_4 : w.heap.size + 1 + 1 + 1 + 1 < w1.heap.size := by omega
    have vR : Var w1 (w.heap.size + 1 + 1 + 1 + 1) 77 #[.int .u8 0, .bool false, .int .i64 0, .int .i64 0, .int .i64 0, .int .i64 0] := ((Var.new' _ _ _ (by simp)).alloc _).keep hb_w1
    have vA : Var w1 w.heap.size 28 #[.int .i32 a1, .int .i32 a2] := ((((((Var.new _ _ _).alloc _).alloc _).alloc _).alloc _).alloc _).keep hb_w1
    have vB : Var w1 (w.heap.size + 1) 28 #[.int .i32 a1, .int .i32 a2] := (((((Var.new' _ _ _ (by simp)).alloc _).alloc _).alloc _).alloc _).keep hb_w1
    have vC : Var w1 (w.heap.size + 1 + 1) 28 #[.int .i32 c.1, .int .i32 c.2] := ((((Var.new' _ _ _ (by simp)).alloc _).alloc _).alloc _).keep hb_w1
    have vD : Var w1 (w.heap.size + 1 + 1 + 1) 28 #[.int .i32 d.1, .int .i32 d.2] := (((Var.new' _ _ _ (by simp)).alloc _).alloc _).keep hb_w1
    have ca0 : w1.cell? ⟨w.heap.size, 0, none⟩ = some (.int .i32 a1) := vA.cell 0
    have ca1 : w1.cell? ⟨w.heap.size, 1, none⟩ = some (.int .i32 a2) := vA.cell 1
    have cb0 : w1.cell? ⟨w.heap.size + 1, 0, none⟩ = some (.int .i32 a1) := vB.cell 0
    have cb1 : w1.cell? ⟨w.heap.size + 1, 1, none⟩ = some (.int .i32 a2) := vB.cell 1
    have cc0 : w1.cell? ⟨w.heap.size + 1 + 1, 0, none⟩ = some (.int .i32 c.1) := vC.cell 0
    have cc1 : w1.cell? ⟨w.heap.size + 1 + 1, 1, none⟩ = some (.int .i32 c.2) := vC.cell 1
    have cd0 : w1.cell? ⟨w.heap.size + 1 + 1 + 1, 0, none⟩ = some (.int .i32 d.1) := vD.cell 0
    have cd1 : w1.cell? ⟨w.heap.size + 1 + 1 + 1, 1, none⟩ = some (.int .i32 d.2) := vD.cell 1
    clear hc_w1 hf_w1
    go_wp2_with fail
    refine (HO.out _).mono ?_
    rintro e w2 ⟨rfl, hb_w2⟩
    obtain ⟨hc_w2, hf_w2⟩ := bcell hb_w2
    have hz_w2 := hb_w2.size
    try simp at hz_w2
    have hB_w2 : Below w.heap.size w w2 := Below.trans (by go_grown) (hb_w2.mono (by go_size))
    have hs_w2_0 : w.heap.size + 1 + 1 + 1 + 1 < w2.heap.size := by omega
    have vR2 := vR.keep hb_w2
    clear hc_w2 hf_w2
  · go_wp2_with (refine wpList_store6 rfl 77 (.tmp 8) (.tmp 31) rfl (w.heap.size + 1 + 1 + 1 + 1) _ _ _ _ _ _ rfl rfl _ _ _ _ _ _ vR2 (by kernel_rfl) (six_cells rfl rfl rfl rfl rfl rfl) ?_; intro wS vM hbM hsM; obtain ⟨m0, m1, m2, m3, m4, m5⟩ := var6 vM)
    refine bodyPost_ret (by simp [results, Try.results53, go_sem, *]; try rfl) rfl ?_
    exact ⟨rfl, Below.trans (by go_grown) (hbM.mono (by omega))⟩
  · go_wp2_with fail
    refine (H1.out _).mono ?_
    rintro e w3 ⟨rfl, hb_w3⟩
    obtain ⟨hc_w3, hf_w3⟩ := bcell hb_w3
    have hz_w3 := hb_w3.size
    try simp at hz_w3
    have hB_w3 : Below w.heap.size w w3 := Below.trans (by go_grown) (hb_w3.mono (by go_size))
    have hs_w3_0 : w.heap.size + 1 + 1 + 1 + 1 < w3.heap.size := by omega
    have vR3 := vR2.keep hb_w3
    clear hc_w3 hf_w3
    go_wp2_with (refine wpList_store6 rfl 77 (.tmp 8) (.tmp 30) rfl (w.heap.size + 1 + 1 + 1 + 1) _ _ _ _ _ _ rfl rfl _ _ _ _ _ _ vR3 (by kernel_rfl) (six_cells rfl rfl rfl rfl rfl rfl) ?_; intro wS vM hbM hsM; obtain ⟨m0, m1, m2, m3, m4, m5⟩ := var6 vM)
    refine bodyPost_ret (by simp [results, Try.results53, go_sem, *]; try rfl) rfl ?_
    exact ⟨rfl, Below.trans (by go_grown) (hbM.mono (by omega))⟩

theorem segMeet_any (a b c d : Pt) (w : World) :
    Calls Try.prog 53 #[.agg #[.int .i32 a.1, .int .i32 a.2], .agg #[.int .i32 b.1, .int .i32 b.2], .agg #[.int .i32 c.1, .int .i32 c.2], .agg #[.int .i32 d.1, .int .i32 d.2]] w fun e w' => e = .returned (.agg #[.int .u8 (meet a b c d).k, .bool (meet a b c d).inn, .int .i64 (meet a b c d).f.1, .int .i64 (meet a b c d).f.2, .int .i64 (meet a b c d).t.1, .int .i64 (meet a b c d).t.2]) ∧ Below w.heap.size w w' := by
  cases hl : inP a && inP b && inP c && inP d with
  | false => exact segMeet_out a b c d hl w
  | true =>
    obtain ⟨a1, a2⟩ := a
    obtain ⟨b1, b2⟩ := b
    rcases Decidable.em (a1 = b1) with h1 | h1
    · subst h1
      rcases Decidable.em (a2 = b2) with h2 | h2
      · subst h2
        exact segMeet_same a1 a2 c d hl w
      · exact segMeet_way2 a1 a2 b2 c d hl h2 w
    · exact segMeet_way1 a1 a2 b1 b2 c d hl h1 w


theorem meet_says : MeetSays := segMeet_any

end Go.Proofs.Ythbndilnobjjgaa
