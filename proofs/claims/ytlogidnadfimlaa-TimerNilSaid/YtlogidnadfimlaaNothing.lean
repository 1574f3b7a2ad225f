/-
  No dues, and zero ones: the iterator All, and the law's nothing.
-/
import Derived.Test.YtlogidnadfimlaaNoDues
namespace Go.Proofs.Ytlogidnadfimlaa
open Go.RowKit Go.Shelf

attribute [local go_sem] Oper.semAt_some

theorem wpIn_gen {F : Fence} {n : Nat} {P : Program} {c : Code} {Q : Exit → Act → World → Prop} {a : Act} {w : World} (h : ∀ W, w = W → c.wpIn F n P Q a W) : c.wpIn F n P Q a w := h w rfl

set_option maxHeartbeats 1000000 in
theorem all_in (F : Fence) (n : Nat) (hF : F.fn 16) (hro : F.round = none) (d : Option Addr) (w : World) :
    CallsIn F n Try.prog 16 #[.pointer d] w fun e w' => e = .returned (.func (.func 26) #[] #[.pointer (some ⟨w.heap.size, 0, none⟩)]) ∧ w' = w.alloc (.cells #[.pointer d] 24) := by
  refine callsIn_of_wp Try.func16 rfl hF ?_ hro
  simp only [Try.ntmps16, List.size_toArray, List.length_cons, List.length_nil, Nat.reduceAdd, Nat.reduceSub, Array.replicate_succ, Array.replicate_zero, List.push_toArray, List.append_toArray, List.nil_append, List.cons_append]
  gi_wp2
  go_ret
  exact ⟨rfl, rfl⟩

set_option maxRecDepth 100000 in
set_option maxHeartbeats 1000000 in
theorem all1_in (n : Nat) (hn : 2 ≤ n) (l Bs : Nat) (d : Option Addr) (J : World → Prop) (W : World) (hz : ZD W d) (hBs : W.cell? ⟨Bs, 0, none⟩ = some (.pointer d)) (hJ : ∀ W', Below W.heap.size W W' → J W') :
    CallsIn Fence.wide n Try.prog 26 #[.func (.yield l) #[] #[], .pointer (some ⟨Bs, 0, none⟩)] W fun e W' => (∃ v, e = .returned v) ∧ J W' := by
  refine callsIn_of_wp Try.func26 rfl trivial ?_ rfl
  simp only [Try.ntmps26, List.size_toArray, List.length_cons, List.length_nil, Nat.reduceAdd, Nat.reduceSub, Array.replicate_succ, Array.replicate_zero, List.push_toArray, List.append_toArray, List.nil_append, List.cons_append]
  have H := Lib.hid (fun W => there_no d W)
  gi_wp2
  refine ⟨trivial, fun _ => by omega, ?_⟩
  refine (callsIn_wide.2 (H.out _ hz)).mono ?_
  rintro e w1 ⟨rfl, hb⟩
  gi_wp2
  go_end0
  exact ⟨⟨_, rfl⟩, hJ _ hb⟩

/-- Nothing comes. -/
theorem all_stops (n : Nat) (hn : 2 ≤ n) (Bs m : Nat) (d : Option Addr) (w : World) (_ : w.heap.size ≤ m) (hs : Bs < w.heap.size) (hz : ZD w d) (hc : w.cell? ⟨Bs, 0, none⟩ = some (.pointer d)) :
    SeqStopsK Fence.wide n Try.prog 26 #[.pointer (some ⟨Bs, 0, none⟩)] (fun x : Empty => x.elim) (Below m) (fun _ => True) (fun _ => False) 0 w := fun l J Jx W hW hJ _ hY h0 => by
  have hc' := (hW.cell (p := ⟨Bs, 0, none⟩) (by show Bs < w.heap.size; omega)).trans hc
  exact (all1_in n hn l Bs d (J []) W (hz.keep (Nat.le_refl _) hW) hc' (fun W' hb => hJ [] W W' none h0 ⟨hb.os, hb.tape, hb.output, hb.size, fun k hk _ => hb.block k hk⟩ (fun r e => by cases e))).mono fun e W' ⟨he, hj⟩ => ⟨he, .inl ⟨[], trivial, hj⟩⟩


set_option maxRecDepth 100000 in
set_option maxHeartbeats 1000000 in
theorem nothing_any (d : Option Addr) (x y z : Int) (w : World) (h : ZD w d) :
    Calls Try.prog 17 #[.pointer d, .agg #[.int .u32 x, .int .u32 y, .int .u32 z]] w fun e w' => e = .returned (.bool true) ∧ Below w.heap.size w w' := by
  refine (callsIn_wide (n := 6)).1 ?_
  have h1 : 1 ≤ 6 := by omega
  have H1 := Lib.hid (fun W => first_no d W)
  have H2 := Lib.hid (fun t W => take_no d t W)
  unfold due0 at H1 H2
  have hnil : ∀ Bs W, (binOp .eql 41 (.func (.func 26) #[] #[.pointer (some ⟨Bs, 0, none⟩)]) .nilFunc : Sem Value).run Try.prog W = .ok (.bool false) W := fun _ _ => rfl
  refine callsIn_of_wp_marks Try.func17 rfl trivial ?_ rfl
  simp only [Try.ntmps17, List.size_toArray, List.length_cons, List.length_nil, Nat.reduceAdd, Nat.reduceSub, Array.replicate_succ, Array.replicate_zero, List.push_toArray, List.append_toArray, List.nil_append, List.cons_append]
  gi_wp2
  refine ⟨trivial, ?_⟩
  refine (callsIn_wide.2 (H1.out _ (h.keep (Nat.le_refl _) (by go_grown)))).mono ?_
  rintro e w1 ⟨rfl, hb_w1⟩
  obtain ⟨hc_w1, hf_w1⟩ := bcell hb_w1
  have hz_w1 := hb_w1.size
  try simp at hz_w1
  have hB_w1 : Below w.heap.size w w1 := Below.trans (by go_grown) (hb_w1.mono (by go_size))
  have hs_w1_0 : w.heap.size < w1.heap.size := by omega
  have hs_w1_1 : w.heap.size + 1 < w1.heap.size := by omega
  gi_wp2
  refine ⟨trivial, ?_⟩
  refine (callsIn_wide.2 (H2.out _ _ (h.keep (Nat.le_refl _) (by go_grown)))).mono ?_
  rintro e w2 ⟨rfl, hb_w2⟩
  obtain ⟨hc_w2, hf_w2⟩ := bcell hb_w2
  have hz_w2 := hb_w2.size
  try simp at hz_w2
  have hB_w2 : Below w.heap.size w w2 := Below.trans (by go_grown) (hb_w2.mono (by go_size))
  have hs_w2_0 : w.heap.size < w2.heap.size := by omega
  have hs_w2_1 : w.heap.size + 1 < w2.heap.size := by omega
  have hs_w2_2 : w1.heap.size < w2.heap.size := by omega
  gi_wp2_with (refine ⟨trivial, ?_⟩; gi_at_call 16; refine (all_in Fence.wide (6 - 1) trivial rfl _ _).mono ?_; rintro e w' ⟨rfl, rfl⟩)
  refine wpIn_gen (fun W0 hW0 => ?_)
  have hz0 : ZD W0 d := by rw [← hW0]; exact h.keep (Nat.le_refl _) (by go_grown)
  have hB0 : Below w.heap.size w W0 := by rw [← hW0]; go_grown
  have cS : W0.cell? ⟨w2.heap.size + 1, 0, none⟩ = some (.pointer d) := by rw [← hW0]; simp
  have lS : w2.heap.size + 1 < W0.heap.size := by rw [← hW0]; simp
  have vX : Var W0 w.heap.size 31 #[.int .u32 x, .int .u32 y, .int .u32 z] := by
    rw [← hW0]
    exact ((((((Var.new _ _ _).alloc _).keep hb_w1).alloc _).keep hb_w2).alloc _).alloc _
  have vR : Var W0 (w.heap.size + 1) 4 #[.bool false] := by
    rw [← hW0]
    exact (((((Var.new' _ _ _ (by simp)).keep hb_w1).alloc _).keep hb_w2).alloc _).alloc _
  have vA : Var W0 w1.heap.size 31 #[.int .u32 0, .int .u32 0, .int .u32 0] := by
    rw [← hW0]
    exact (((Var.new _ _ _).keep hb_w2).alloc _).alloc _
  have vB : Var W0 w2.heap.size 31 #[.int .u32 0, .int .u32 0, .int .u32 0] := by
    rw [← hW0]
    exact (Var.new _ _ _).alloc _
  clear hW0 hb_w1 hb_w2 hc_w1 hc_w2 hf_w1 hf_w2 hB_w1 hB_w2
  refine wpIn_rangeFunc_ownH rfl h1 (gf := 26) (lb := #[.pointer (some ⟨w2.heap.size + 1, 0, none⟩)]) rfl trivial (enters_of Try.func26 (by kernel_rfl) rfl)
    (all_stops (6 - 1) (by omega) (w2.heap.size + 1) _ d _ (Nat.le_refl _) lS hz0 cS) belowK_t (belowK_b (Nat.le_refl _)) (Below.refl _ _) (fun x => x.elim)
    (fun pre W => Below W0.heap.size W0 W)
    (fun c pre W => False)
    (ownFrom_below (Nat.le_refl _) (Nat.le_refl _))
    (fun c => ownFrom_pure _ _)
    (Below.refl _ _)
    (fun x _ _ => x.elim)
    (fun x => x.elim)
    ?assign ?body ?done ?stop
  case assign => rintro l pre x; exact x.elim
  case body => rintro l pre x; exact x.elim
  case stop => rintro D c pre W hD h; exact h.elim
  case done =>
    rintro D ys W hD _ hB1 hK
    have hz1 := hz0.keep (Nat.le_refl _) hB1
    have vX1 := vX.keep hB1
    have vR1 := vR.keep hB1
    have vA1 := vA.keep hB1
    have vB1 := vB.keep hB1
    have x0 : W.cell? ⟨w.heap.size, 0, none⟩ = some (.int .u32 x) := vX1.cell 0
    have x1 : W.cell? ⟨w.heap.size, 1, none⟩ = some (.int .u32 y) := vX1.cell 1
    have x2 : W.cell? ⟨w.heap.size, 2, none⟩ = some (.int .u32 z) := vX1.cell 2
    have r0 : W.cell? ⟨w.heap.size + 1, 0, none⟩ = some (.bool false) := vR1.cell 0
    have r1 := vR1.free 0
    have a0 : W.cell? ⟨w1.heap.size, 0, none⟩ = some (.int .u32 0) := vA1.cell 0
    have a1 : W.cell? ⟨w1.heap.size, 1, none⟩ = some (.int .u32 0) := vA1.cell 1
    have a2 : W.cell? ⟨w1.heap.size, 2, none⟩ = some (.int .u32 0) := vA1.cell 2
    have b0 : W.cell? ⟨w2.heap.size, 0, none⟩ = some (.int .u32 0) := vB1.cell 0
    have b1 : W.cell? ⟨w2.heap.size, 1, none⟩ = some (.int .u32 0) := vB1.cell 1
    have b2 : W.cell? ⟨w2.heap.size, 2, none⟩ = some (.int .u32 0) := vB1.cell 2
    have y0 := vX.lt
    have y1 := vR.lt
    have y2 := vA.lt
    have y3 := vB.lt
    have y4 := hB1.size
    have hBW : Below w.heap.size w W := hB0.trans (hB1.mono (by omega))
    have hs_W_4 : D < W.heap.size := (Array.getElem?_eq_some_iff.1 hK).1
    have hs_W_0 : w.heap.size < W.heap.size := by omega
    have hs_W_1 : w.heap.size + 1 < W.heap.size := by omega
    have hs_W_2 : w1.heap.size < W.heap.size := by omega
    have hs_W_3 : w2.heap.size < W.heap.size := by omega
    gi_wp2_with fail
    refine ⟨trivial, ?_⟩
    refine (callsIn_wide.2 (set_no _ _ _ _ _ hz1)).mono ?_
    rintro e w3 ⟨rfl, hb_w3⟩
    obtain ⟨hc_w3, hf_w3⟩ := bcell hb_w3
    have hz_w3 := hb_w3.size
    try simp at hz_w3
    have hB_w3 : Below w.heap.size w w3 := Below.trans (by go_grown) (hb_w3.mono (by go_size))
    have hs_w3_0 : w.heap.size < w3.heap.size := by omega
    have hs_w3_1 : w.heap.size + 1 < w3.heap.size := by omega
    have hs_w3_2 : w1.heap.size < w3.heap.size := by omega
    have hs_w3_3 : w2.heap.size < w3.heap.size := by omega
    have hs_w3_4 : D < w3.heap.size := by omega
    have hz_w3' := hz1.keep (Nat.le_refl _) hb_w3
    gi_wp2_with fail
    refine ⟨trivial, ?_⟩
    refine (callsIn_wide.2 (cut_no _ _ _ _ hz_w3')).mono ?_
    rintro e w4 ⟨rfl, hb_w4⟩
    obtain ⟨hc_w4, hf_w4⟩ := bcell hb_w4
    have hz_w4 := hb_w4.size
    try simp at hz_w4
    have hB_w4 : Below w.heap.size w w4 := Below.trans (by go_grown) (hb_w4.mono (by go_size))
    have hs_w4_0 : w.heap.size < w4.heap.size := by omega
    have hs_w4_1 : w.heap.size + 1 < w4.heap.size := by omega
    have hs_w4_2 : w1.heap.size < w4.heap.size := by omega
    have hs_w4_3 : w2.heap.size < w4.heap.size := by omega
    have hs_w4_4 : D < w4.heap.size := by omega
    have hz_w4' := hz_w3'.keep (Nat.le_refl _) hb_w4
    gi_wp2_with fail
    refine ⟨trivial, ?_⟩
    refine (callsIn_wide.2 (cutObject_no _ _ _ hz_w4')).mono ?_
    rintro e w5 ⟨rfl, hb_w5⟩
    obtain ⟨hc_w5, hf_w5⟩ := bcell hb_w5
    have hz_w5 := hb_w5.size
    try simp at hz_w5
    have hB_w5 : Below w.heap.size w w5 := Below.trans (by go_grown) (hb_w5.mono (by go_size))
    have hs_w5_0 : w.heap.size < w5.heap.size := by omega
    have hs_w5_1 : w.heap.size + 1 < w5.heap.size := by omega
    have hs_w5_2 : w1.heap.size < w5.heap.size := by omega
    have hs_w5_3 : w2.heap.size < w5.heap.size := by omega
    have hs_w5_4 : D < w5.heap.size := by omega
    have hz_w5' := hz_w4'.keep (Nat.le_refl _) hb_w5
    gi_wp2_with fail
    refine ⟨trivial, ?_⟩
    refine (callsIn_wide.2 (cutFence_no _ _ _ hz_w5')).mono ?_
    rintro e w6 ⟨rfl, hb_w6⟩
    obtain ⟨hc_w6, hf_w6⟩ := bcell hb_w6
    have hz_w6 := hb_w6.size
    try simp at hz_w6
    have hB_w6 : Below w.heap.size w w6 := Below.trans (by go_grown) (hb_w6.mono (by go_size))
    have hs_w6_0 : w.heap.size < w6.heap.size := by omega
    have hs_w6_1 : w.heap.size + 1 < w6.heap.size := by omega
    have hs_w6_2 : w1.heap.size < w6.heap.size := by omega
    have hs_w6_3 : w2.heap.size < w6.heap.size := by omega
    have hs_w6_4 : D < w6.heap.size := by omega
    have hz_w6' := hz_w5'.keep (Nat.le_refl _) hb_w6
    gi_wp2_with fail
    refine ⟨trivial, ?_⟩
    refine (callsIn_wide.2 (ready_no _ _ _ hz_w6')).mono ?_
    rintro e w7 ⟨rfl, hb_w7⟩
    obtain ⟨hc_w7, hf_w7⟩ := bcell hb_w7
    have hz_w7 := hb_w7.size
    try simp at hz_w7
    have hB_w7 : Below w.heap.size w w7 := Below.trans (by go_grown) (hb_w7.mono (by go_size))
    have hs_w7_0 : w.heap.size < w7.heap.size := by omega
    have hs_w7_1 : w.heap.size + 1 < w7.heap.size := by omega
    have hs_w7_2 : w1.heap.size < w7.heap.size := by omega
    have hs_w7_3 : w2.heap.size < w7.heap.size := by omega
    have hs_w7_4 : D < w7.heap.size := by omega
    have hz_w7' := hz_w6'.keep (Nat.le_refl _) hb_w7
    gi_wp2_with fail
    refine ⟨trivial, ?_⟩
    refine (callsIn_wide.2 (len_no _ _ hz_w7')).mono ?_
    rintro e w8 ⟨rfl, hb_w8⟩
    obtain ⟨hc_w8, hf_w8⟩ := bcell hb_w8
    have hz_w8 := hb_w8.size
    try simp at hz_w8
    have hB_w8 : Below w.heap.size w w8 := Below.trans (by go_grown) (hb_w8.mono (by go_size))
    have hs_w8_0 : w.heap.size < w8.heap.size := by omega
    have hs_w8_1 : w.heap.size + 1 < w8.heap.size := by omega
    have hs_w8_2 : w1.heap.size < w8.heap.size := by omega
    have hs_w8_3 : w2.heap.size < w8.heap.size := by omega
    have hs_w8_4 : D < w8.heap.size := by omega
    have hz_w8' := hz_w7'.keep (Nat.le_refl _) hb_w8
    gi_wp2_with fail
    have hK3 := (hb_w3.block D hs_W_4).trans hK
    have hK4 := (hb_w4.block D hs_w3_4).trans hK3
    have hK5 := (hb_w5.block D hs_w4_4).trans hK4
    have hK6 := (hb_w6.block D hs_w5_4).trans hK5
    have hK7 := (hb_w7.block D hs_w6_4).trans hK6
    have hK8 := (hb_w8.block D hs_w7_4).trans hK7
    have vR8 := (((((vR1.keep hb_w3).keep hb_w4).keep hb_w5).keep hb_w6).keep hb_w7).keep hb_w8
    have cR : w8.cell? ⟨w.heap.size + 1, 0, none⟩ = some (.bool false) := vR8.cell 0
    have hK' := (KeepsOthers.setCell w8 ⟨w.heap.size + 1, 0, none⟩ (.bool true)).same D _ hK8 rfl
    refine ⟨by simp, .inl ⟨_, _, rfl, run_takeDeferred hK', ?_⟩⟩
    have hc5 := cell_kept (World.cell?_setCell_same' w8 ⟨w.heap.size + 1, 0, none⟩ (.bool true) (by rw [cR]; rfl)) (grownBy_putObj' _ D (.deferred none)) (fun r e => by cases e; exact ⟨_, hK', rfl⟩)
    refine ⟨.bool true, ?_, rfl, (hB_w8.setCell (p := ⟨w.heap.size + 1, 0, none⟩) (by simp) _).trans (belowK_b (w := w) (Nat.le_refl _) _ D _ _ (by have := hB0.size; omega) hK' rfl rfl)⟩
    simp [results, Try.f17, go_sem, hc5]

set_option maxRecDepth 100000 in
theorem timerNil_core (x y z : Int) (w : World) :
    Calls Try.prog 6 #[.agg #[.int .u32 x, .int .u32 y, .int .u32 z]] w fun e w' => e = .returned (.bool true) ∧ Below w.heap.size w w' := by
  have H := Lib.hid (fun d W => nothing_any d x y z W)
  go_enter Try.func6, Try.ntmps6
  go_wp2_with fail
  refine (H.out _ _ (.inl rfl)).mono ?_
  rintro e w1 ⟨rfl, hb_w1⟩
  obtain ⟨hc_w1, hf_w1⟩ := bcell hb_w1
  have hz_w1 := hb_w1.size
  try simp at hz_w1
  have hB_w1 : Below w.heap.size w w1 := Below.trans (by go_grown) (hb_w1.mono (by go_size))
  have hs_w1_0 : w.heap.size < w1.heap.size := by omega
  go_wp2_with fail
  refine (H.out _ _ (.inr ⟨_, rfl, by simp, by simp⟩)).mono ?_
  rintro e w2 ⟨rfl, hb_w2⟩
  obtain ⟨hc_w2, hf_w2⟩ := bcell hb_w2
  have hz_w2 := hb_w2.size
  try simp at hz_w2
  have hB_w2 : Below w.heap.size w w2 := Below.trans (by go_grown) (hb_w2.mono (by go_size))
  have hs_w2_0 : w.heap.size < w2.heap.size := by omega
  go_wp2_with fail
  refine bodyPost_ret (by simp [results, Try.results6, go_sem, *]; try rfl) rfl ?_
  exact ⟨rfl, by go_grown⟩

end Go.Proofs.Ytlogidnadfimlaa
