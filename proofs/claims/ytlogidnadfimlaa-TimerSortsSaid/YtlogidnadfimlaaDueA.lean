/-
  The closure that tells where a due has come to stand.
-/
import Derived.Test.YtlogidnadfimlaaDueP
import Derived.BigRegion
namespace Go.Proofs.Ytlogidnadfimlaa
open Go.RowKit Go.Maps

/-- A due's value. -/
def DV (x : Du) : Value := .agg #[.int .u32 x.1, .int .u32 x.2.1, .int .u32 x.2.2]
/-- The map of places lies in block mb. -/
def MapAt (W : World) (mb : Nat) (D : DataW Unit) : Prop := W.ownsMap Try.prog 61 (plainElem Try.prog 3) mb (Maps.size D) D
theorem MapAt.of {W : World} {mb n : Nat} {D : DataW Unit} (h : W.ownsMap Try.prog 61 (plainElem Try.prog 3) mb n D) : MapAt W mb D := map_tight h
theorem MapAt.turn {S : Nat → Prop} {W W' : World} {mb : Nat} {D : DataW Unit} (h : MapAt W mb D) (ht : Turn S W W') (hb : ¬ S mb) : MapAt W' mb D := map_turn h ht hb

set_option maxHeartbeats 1000000 in
theorem at_any (x : Du) (hx : UD x) (i : Nat) (hi : i ≤ 100000) (d mb vb : Nat) (D : DataW Unit) (w : World) (hv : Var w vb 24 #[.pointer (some ⟨d, 0, none⟩)]) (hd : w.cell? ⟨d, 3, none⟩ = some (.map (some mb))) (hm : MapAt w mb D) (hs : Maps.size D ≤ 100000) :
    Calls Try.prog 21 #[.agg #[.int .u32 x.1, .int .u32 x.2.1, .int .u32 x.2.2], .int .i64 (i : Int), .pointer (some ⟨vb, 0, none⟩)] w fun e w' => (∃ u, e = .returned u) ∧ MapAt w' mb (D.put (KL x.2) (i64L i)) ∧ Turn (· = mb) w w' := by
  have cv : w.cell? ⟨vb, 0, none⟩ = some (.pointer (some ⟨d, 0, none⟩)) := hv.cell 0
  have hvl := hv.lt
  have hdl : d < w.heap.size := World.block_lt_of_cell? w _ hd
  have HM := Lib.hid (And.intro hx.2 (And.intro hm hs))
  obtain ⟨x0, x1, x2⟩ := x
  dsimp only at HM ⊢
  clear hv hm hs hx
  go_enter Try.func21, Try.ntmps21
  go_wp2_with fail
  refine wp_gen (fun W0 hW0 => ?_)
  have hB : Below w.heap.size w W0 := by rw [hW0]; go_grown
  have c0 := (hB.cell (p := ⟨vb, 0, none⟩) hvl).trans cv
  have c1 := (hB.cell (p := ⟨d, 3, none⟩) hdl).trans hd
  have d0 : W0.cell? ⟨w.heap.size, 0, none⟩ = some (.int .u32 x0) := by rw [hW0]; simp
  have d1 : W0.cell? ⟨w.heap.size, 1, none⟩ = some (.int .u32 x1) := by rw [hW0]; simp
  have d2 : W0.cell? ⟨w.heap.size, 2, none⟩ = some (.int .u32 x2) := by rw [hW0]; simp
  have z0 : w.heap.size < W0.heap.size := by rw [hW0]; simp
  have z1 : vb < W0.heap.size := by omega
  have z2 : d < W0.heap.size := by omega
  have HB := Lib.hid hB
  clear hW0 hB cv hd
  have hq_W0 := @wd_cell W0
  refine wp_region_wd_tail 10 (by kernel_rfl) (by kernel_rfl) ?_
  simp only [List.take_succ_cons, List.take_zero, List.drop_succ_cons, List.drop_zero]
  repeat (go_big_quiet_step (fail))
  refine wpQuiet_nil ?_
  rintro w1 ⟨⟨wx, hb_w1⟩, hwx⟩
  obtain rfl : w1 = wx := hwx
  clear hq_W0
  have hz_w1 := hb_w1.size
  obtain ⟨hc_w1, hf_w1⟩ := bcell hb_w1
  have hB1 := HB.out.trans (hb_w1.mono HB.out.size)
  have hm1 := map_turn (S := fun _ => False) HM.out.2.1 (Turn.of_below hB1) (fun h => h)
  have HT := Lib.hid (Turn.of_below (S := (· = mb)) hB1)
  have hkey := keyL HM.out.1
  dsimp only at hkey
  clear hB1
  go_wp2_with (at_mapUpdate; refine wpList_mapUpdate_own _ rfl _ _ _ 50 rfl 61 3 keyed_pair Try.underlying50 _ mb _ D rfl hm1 (by have := HM.out.2.2; unfold maxLen; omega) _ _ (KL (x1, x2)) rfl rfl hkey (i64L i) [] (plainElem_int Try.underlying3 (WalkArith.wf_i64 (by omega))) ?_; intro w2 hown2 hgrow2)
  go_end0
  exact ⟨⟨_, rfl⟩, MapAt.of hown2, HT.out.trans (Turn.grown hgrow2 (fun k e => (Option.some.inj e).symm))⟩
end Go.Proofs.Ytlogidnadfimlaa
