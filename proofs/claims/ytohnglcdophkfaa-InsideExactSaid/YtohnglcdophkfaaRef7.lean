/-
  The document's Crossings, Winding, Covers.
-/
import Derived.Test.YtohnglcdophkfaaRises
namespace Go.Proofs.Ytohnglcdophkfaa
open Go.RowKit Go.Shelf

theorem tot_add (f g : Pt × Pt → Int) : ∀ a : List (Pt × Pt), tot (fun s => f s + g s) a = tot f a + tot g a
  | [] => rfl
  | s :: a => by
    show (f s + g s) + tot (fun s => f s + g s) a = (f s + tot f a) + (g s + tot g a)
    rw [tot_add f g a]
    omega
theorem tot_sub (f g : Pt × Pt → Int) : ∀ a : List (Pt × Pt), tot (fun s => f s - g s) a = tot f a - tot g a
  | [] => rfl
  | s :: a => by
    show (f s - g s) + tot (fun s => f s - g s) a = (f s + tot f a) - (g s + tot g a)
    rw [tot_sub f g a]
    omega

set_option maxHeartbeats 400000 in
theorem crossings_ref (sv : Value) (ps : List Pt) (p : Pt) (m : Nat) (hp : IPt p) (hps : ∀ p ∈ ps, IPt p) (hreach : ps.length * 8 ≤ 140737488355328) (w : World) (hm : m ≤ w.heap.size) (hI : PtsAt m w sv ps) :
    Calls Try.prog 20 #[sv, .agg #[.int .i32 p.1, .int .i32 p.2]] w fun e w' => e = .returned (.int .i64 (crossings ps p)) ∧ Below w.heap.size w w' := by
  have HR := Lib.hid (fun W (hb : Below w.heap.size w W) => rises_ref sv ps p m hp hps hreach W (Nat.le_trans hm hb.size) (hI.below (hb.mono hm)))
  have HF := Lib.hid (fun W (hb : Below w.heap.size w W) => falls_ref sv ps p m hp hps hreach W (Nat.le_trans hm hb.size) (hI.below (hb.mono hm)))
  have hs : crossings ps p = tot (fun s => one (rise p s)) (sides ps) + tot (fun s => one (fall p s)) (sides ps) := tot_add _ _ _
  have b1 := tot_bd (fun s => one (rise p s)) (fun s => by have := rise_pt p s; omega) (sides ps)
  have b2 := tot_bd (fun s => one (fall p s)) (fun s => by have := fall_pt p s; omega) (sides ps)
  rw [sides_length] at b1 b2
  obtain ⟨x, hx⟩ : ∃ x, tot (fun s => one (rise p s)) (sides ps) = x := ⟨_, rfl⟩
  obtain ⟨y, hy⟩ : ∃ y, tot (fun s => one (fall p s)) (sides ps) = y := ⟨_, rfl⟩
  rw [hx] at HR hs b1
  rw [hy] at HF hs b2
  rw [hs]
  clear hs hx hy hI
  go_enter Try.func20, Try.ntmps20
  go_wp2_with fail
  refine wp_gen (fun W hW => ?_)
  have d0 : W.cell? ⟨w.heap.size, 0, none⟩ = some (.int .i32 p.1) := by rw [hW]; simp
  have d1 : W.cell? ⟨w.heap.size, 1, none⟩ = some (.int .i32 p.2) := by rw [hW]; simp
  have hB_W : Below w.heap.size w W := by rw [hW]; go_grown
  have hWs : w.heap.size < W.heap.size := by rw [hW]; simp
  clear hW
  have HR2 := Lib.hid (fun W' (h : Below W.heap.size W W') => HR.out W' (hB_W.trans (h.mono hB_W.size)))
  have HF2 := Lib.hid (fun W' (h : Below W.heap.size W W') => HF.out W' (hB_W.trans (h.mono hB_W.size)))
  have hq_W := @wd_cell W
  refine wp_region_wd (by kernel_rfl) (by kernel_rfl) ?_
  repeat (go_big_quiet_step ((first | (go_at_call 37; with_reducible exact quiet_wd (HR2.out _ (Wd.h _))) | (go_at_call 38; with_reducible exact quiet_wd (HF2.out _ (Wd.h _))))))
  refine wpQuiet_nil ?_
  rintro w5 ⟨⟨wx, hb_w5⟩, hwx⟩
  obtain rfl : w5 = wx := hwx
  clear hq_W
  obtain ⟨hc_w5, hf_w5⟩ := bcell hb_w5
  have hB_w5 : Below w.heap.size w w5 := Below.trans (by go_grown) (hb_w5.mono (by go_size))
  have hs_w5_0 : w.heap.size < w5.heap.size := Nat.lt_of_lt_of_le (by assumption) hb_w5.size
  go_wp2_with fail
  go_ret
  exact ⟨rfl, hB_w5⟩

set_option maxHeartbeats 400000 in
theorem winding_ref (sv : Value) (ps : List Pt) (p : Pt) (m : Nat) (hp : IPt p) (hps : ∀ p ∈ ps, IPt p) (hreach : ps.length * 8 ≤ 140737488355328) (w : World) (hm : m ≤ w.heap.size) (hI : PtsAt m w sv ps) :
    Calls Try.prog 22 #[sv, .agg #[.int .i32 p.1, .int .i32 p.2]] w fun e w' => e = .returned (.int .i64 (winding ps p)) ∧ Below w.heap.size w w' := by
  have HR := Lib.hid (fun W (hb : Below w.heap.size w W) => rises_ref sv ps p m hp hps hreach W (Nat.le_trans hm hb.size) (hI.below (hb.mono hm)))
  have HF := Lib.hid (fun W (hb : Below w.heap.size w W) => falls_ref sv ps p m hp hps hreach W (Nat.le_trans hm hb.size) (hI.below (hb.mono hm)))
  have hs : winding ps p = tot (fun s => one (rise p s)) (sides ps) - tot (fun s => one (fall p s)) (sides ps) := tot_sub _ _ _
  have b1 := tot_bd (fun s => one (rise p s)) (fun s => by have := rise_pt p s; omega) (sides ps)
  have b2 := tot_bd (fun s => one (fall p s)) (fun s => by have := fall_pt p s; omega) (sides ps)
  rw [sides_length] at b1 b2
  obtain ⟨x, hx⟩ : ∃ x, tot (fun s => one (rise p s)) (sides ps) = x := ⟨_, rfl⟩
  obtain ⟨y, hy⟩ : ∃ y, tot (fun s => one (fall p s)) (sides ps) = y := ⟨_, rfl⟩
  rw [hx] at HR hs b1
  rw [hy] at HF hs b2
  rw [hs]
  clear hs hx hy hI
  go_enter Try.func22, Try.ntmps22
  go_wp2_with fail
  refine wp_gen (fun W hW => ?_)
  have d0 : W.cell? ⟨w.heap.size, 0, none⟩ = some (.int .i32 p.1) := by rw [hW]; simp
  have d1 : W.cell? ⟨w.heap.size, 1, none⟩ = some (.int .i32 p.2) := by rw [hW]; simp
  have hB_W : Below w.heap.size w W := by rw [hW]; go_grown
  have hWs : w.heap.size < W.heap.size := by rw [hW]; simp
  clear hW
  have HR2 := Lib.hid (fun W' (h : Below W.heap.size W W') => HR.out W' (hB_W.trans (h.mono hB_W.size)))
  have HF2 := Lib.hid (fun W' (h : Below W.heap.size W W') => HF.out W' (hB_W.trans (h.mono hB_W.size)))
  have hq_W := @wd_cell W
  refine wp_region_wd (by kernel_rfl) (by kernel_rfl) ?_
  repeat (go_big_quiet_step ((first | (go_at_call 37; with_reducible exact quiet_wd (HR2.out _ (Wd.h _))) | (go_at_call 38; with_reducible exact quiet_wd (HF2.out _ (Wd.h _))))))
  refine wpQuiet_nil ?_
  rintro w5 ⟨⟨wx, hb_w5⟩, hwx⟩
  obtain rfl : w5 = wx := hwx
  clear hq_W
  obtain ⟨hc_w5, hf_w5⟩ := bcell hb_w5
  have hB_w5 : Below w.heap.size w w5 := Below.trans (by go_grown) (hb_w5.mono (by go_size))
  have hs_w5_0 : w.heap.size < w5.heap.size := Nat.lt_of_lt_of_le (by assumption) hb_w5.size
  go_wp2_with fail
  go_ret
  exact ⟨rfl, hB_w5⟩

set_option maxHeartbeats 1000000 in
theorem covers_ref (sv : Value) (ps : List Pt) (p : Pt) (m : Nat) (hp : IPt p) (hps : ∀ p ∈ ps, IPt p) (hreach : ps.length * 8 ≤ 140737488355328) (w : World) (hm : m ≤ w.heap.size) (hI : PtsAt m w sv ps) :
    Calls Try.prog 21 #[sv, .agg #[.int .i32 p.1, .int .i32 p.2]] w fun e w' => e = .returned (.bool (covers ps p)) ∧ Below w.heap.size w w' := by
  have H1 := Lib.hid (fun W (hb : Below m w W) (hl : m ≤ W.heap.size) => edge_ref sv ps p m hp hps hreach W hl (hI.below hb))
  have H2 := Lib.hid (fun W (hb : Below m w W) (hl : m ≤ W.heap.size) => crossings_ref sv ps p m hp hps hreach W hl (hI.below hb))
  have hpos : 0 ≤ crossings ps p := tot_pos _ (fc_pos p) _
  unfold covers
  cases he : edge ps p
  · rw [he] at H1
    rw [Bool.false_or]
    have hc : ∃ b, decide (crossings ps p % 2 = 1) = b ∧ ((crossings ps p).tmod 2 == 1) = b := by
      refine ⟨_, rfl, ?_⟩
      rw [Int.tmod_eq_emod_of_nonneg hpos]
      rfl
    obtain ⟨b, hb1, hb2⟩ := hc
    rw [hb1]
    clear hb1 he hpos
    go_enter Try.func21, Try.ntmps21
    go_wp2_with fail
    refine (H1.out _ (by go_grown) (by simp; omega)).mono ?_
    rintro e w1 ⟨rfl, hb_w1⟩
    obtain ⟨hc_w1, hf_w1⟩ := bcell hb_w1
    have hz_w1 := hb_w1.size
    try simp at hz_w1
    have hB_w1 : Below w.heap.size w w1 := Below.trans (by go_grown) (hb_w1.mono (by go_size))
    go_wp2_with fail
    refine (H2.out _ (by exact (hB_w1.mono hm)) (by omega)).mono ?_
    rintro e w2 ⟨rfl, hb_w2⟩
    obtain ⟨hc_w2, hf_w2⟩ := bcell hb_w2
    have hz_w2 := hb_w2.size
    try simp at hz_w2
    have hB_w2 : Below w.heap.size w w2 := Below.trans (by go_grown) (hb_w2.mono (by go_size))
    go_wp2_with fail
    go_ret
    exact ⟨rfl, by go_grown⟩
  · rw [he] at H1
    rw [Bool.true_or]
    clear he hpos
    go_enter Try.func21, Try.ntmps21
    go_wp2_with fail
    refine (H1.out _ (by go_grown) (by simp; omega)).mono ?_
    rintro e w1 ⟨rfl, hb_w1⟩
    obtain ⟨hc_w1, hf_w1⟩ := bcell hb_w1
    have hz_w1 := hb_w1.size
    try simp at hz_w1
    have hB_w1 : Below w.heap.size w w1 := Below.trans (by go_grown) (hb_w1.mono (by go_size))
    go_wp2_with fail
    go_ret
    exact ⟨rfl, by go_grown⟩

end Go.Proofs.Ytohnglcdophkfaa
