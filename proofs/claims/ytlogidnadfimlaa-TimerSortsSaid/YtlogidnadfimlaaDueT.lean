/-
  The dues: one cut out, the first one taken, one put in.
-/
import Derived.Test.YtlogidnadfimlaaDueN
namespace Go.Proofs.Ytlogidnadfimlaa
open Go.RowKit Go.Maps

theorem zeroI (w : World) : (zeroValue 3).run Try.prog w = .ok (.int .i64 0) w := by kernel_rfl
theorem cut_rest {l l' : List Du} {x : Du} (hp : l.Perm (x :: l')) (hk : KeysD l) : ∀ y ∈ l', ¬ y.2 = x.2 := fun y hy e => by
  have := keys_perm hp hk
  exact (List.pairwise_cons.1 this).1 y hy e.symm

theorem cutF {W2 w3 w4 : World} {X R mb : Nat} {x0 x1 x2 y0 y1 y2 : Value} (vX : Var W2 X 31 #[x0, x1, x2]) (vR : Var W2 R 31 #[y0, y1, y2]) (hb : Below W2.heap.size W2 w3) (ht : w3.mapTurned w4 mb) (h1 : X ≠ mb) (h2 : R ≠ mb) :
    w4.cell? ⟨X, 0, none⟩ = some x0 ∧ w4.cell? ⟨X, 1, none⟩ = some x1 ∧ w4.cell? ⟨X, 2, none⟩ = some x2 ∧ w4.cell? ⟨R, 0, none⟩ = some y0 ∧ w4.cell? ⟨R, 1, none⟩ = some y1 ∧ w4.cell? ⟨R, 2, none⟩ = some y2 ∧ w4.frozen? ⟨R, 0, none⟩ = false ∧ w4.frozen? ⟨R, 1, none⟩ = false ∧ w4.frozen? ⟨R, 2, none⟩ = false ∧ X < w4.heap.size ∧ R < w4.heap.size := by
  have hT : Turn (· = mb) W2 w4 := (Turn.of_below hb).trans (Turn.grown ht.grown (fun k e => (Option.some.inj e).symm))
  have a := vX.turn hT h1
  have b := vR.turn hT h2
  exact ⟨a.cell 0, a.cell 1, a.cell 2, b.cell 0, b.cell 1, b.cell 2, b.free 0, b.free 1, b.free 2, a.lt, b.lt⟩

set_option maxHeartbeats 4000000 in
set_option maxRecDepth 100000 in
theorem cutD_any (d vb mb g cap n i : Nat) (most : Int) (l : List Du) (w : World) (H : DuAt w d vb mb (some ⟨g, 0, none⟩) cap n most l) (hi : i < n) :
    Calls Try.prog 25 #[.pointer (some ⟨d, 0, none⟩), .int .i64 (i : Int)] w fun e w' => e = .returned (.agg #[.int .u32 (gd l i).1, .int .u32 (gd l i).2.1, .int .u32 (gd l i).2.2]) ∧ ∃ l', l.Perm (gd l i :: l') ∧ DuAt w' d vb mb (some ⟨g, 0, none⟩) cap (n - 1) most l' ∧ Turn (DuS d mb (some ⟨g, 0, none⟩)) w w' := by
  obtain ⟨g', hg', hnc⟩ := du_some H (by omega)
  cases hg'
  have CH := Lib.hid (fun W (h : Below w.heap.size w W) => cutH_any d vb mb g cap n i most l W (H.below h).hp.1 H.heap hnc H.hp.2 hi)
  have zd := H.dv.lt
  have HI := Lib.hid (And.intro H (ud_at H.ud (show i < l.length by rw [H.len]; exact hi)))
  clear H
  obtain ⟨⟨x0, x1, x2⟩, hx⟩ : ∃ x, gd l i = x := ⟨_, rfl⟩
  rw [hx] at CH HI ⊢
  dsimp only at CH ⊢
  clear hx
  go_enter Try.func25, Try.ntmps25
  go_upto_region 1 with fail
  refine wp_gen (fun W0 hW0 => ?_)
  have hb0 : Below w.heap.size w W0 := by rw [hW0]; go_grown
  have vR := Lib.hid (show Var W0 w.heap.size 31 #[.int .u32 0, .int .u32 0, .int .u32 0] by rw [hW0]; exact Var.new _ _ _)
  have H0 := Lib.hid hb0
  obtain ⟨R, hR⟩ : ∃ R, w.heap.size = R := ⟨_, rfl⟩
  rw [hR] at vR ⊢
  have HR := Lib.hid hR
  clear hW0 hb0 hR
  go_wp2_with fail
  refine (CH.out W0 H0.out).mono ?_
  rintro e w1 ⟨rfl, l', hp, hh, hH, hT⟩
  have zg : g < R ∧ d < R ∧ mb < R ∧ vb < R := by
    rw [← HR.out]
    have h := HI.out.1.hp.1
    obtain ⟨D, hm, _⟩ := h.mp
    exact ⟨h.row.lt, h.dv.lt, hm.lt, h.vv.lt⟩
  have vR1 := vR.out.turn hT (by omega)
  have H1 := Lib.hid (And.intro hp (And.intro hh (And.intro hH (And.intro vR1 ((Turn.of_below H0.out).trans hT)))))
  clear hp hh hH vR1 hT vR CH
  go_upto_region 2 with fail
  refine wp_gen (fun W2 hW2 => ?_)
  have hb2 : Below w1.heap.size w1 W2 := by rw [hW2]; go_grown
  have vX := Lib.hid (show Var W2 w1.heap.size 31 #[.int .u32 x0, .int .u32 x1, .int .u32 x2] by rw [hW2]; exact Var.new _ _ _)
  have H2 := Lib.hid (And.intro H1.out.1 (And.intro H1.out.2.1 (And.intro (H1.out.2.2.1.below hb2) (And.intro (H1.out.2.2.2.1.keep hb2) (H1.out.2.2.2.2.trans (Turn.of_below hb2))))))
  have zRX : R < w1.heap.size := H1.out.2.2.2.1.lt
  obtain ⟨X, hX⟩ : ∃ X, w1.heap.size = X := ⟨_, rfl⟩
  rw [hX] at vX zRX ⊢
  clear hW2 hb2 hX H1
  have c3 : W2.cell? ⟨d, 3, none⟩ = some (.map (some mb)) := H2.out.2.2.1.dv.cell 3
  have d1 := vX.out.cell 1
  have d2 := vX.out.cell 2
  simp only [List.getElem?_toArray, List.getElem?_cons_zero, List.getElem?_cons_succ] at d1 d2
  have y1 := H2.out.2.2.1.dv.lt
  have y2 := vX.out.lt
  have hq_W2 := @wd_cell W2
  refine wp_region_wd_tail 9 (by kernel_rfl) (by kernel_rfl) ?_
  simp only [List.take_succ_cons, List.take_zero, List.drop_succ_cons, List.drop_zero]
  repeat (go_big_quiet_step (fail))
  refine wpQuiet_nil ?_
  rintro w3 ⟨⟨wx, hb_w3⟩, hwx⟩
  obtain rfl : w3 = wx := hwx
  clear hq_W2
  have hz_w3 := hb_w3.size
  obtain ⟨hc_w3, hf_w3⟩ := bcell hb_w3
  have hb3 := Lib.hid hb_w3
  clear hb_w3 hc_w3 hf_w3 hz_w3 c3 d1 d2
  obtain ⟨D, hm2, hp2⟩ := H2.out.2.2.1.mp
  have hm3 : MapAt w3 mb D := hm2.turn (S := fun _ => False) (Turn.of_below hb3.out) (fun h => h)
  unfold MapAt at hm3
  have HP2 := Lib.hid hp2
  have hkey := keyL HI.out.2.2
  dsimp only at hkey
  clear hm2 hp2
  go_wp2_with (at_delete; refine wpList_delete_own _ rfl _ _ 50 61 rfl 3 keyed_pair Try.underlying50 _ mb _ D rfl hm3 _ (KL (x1, x2)) rfl hkey ?_; intro w4 hown4 hturn4; obtain ⟨d0, d1, d2, r0, r1, r2, fr0, fr1, fr2, yX, yR⟩ := cutF vX.out H2.out.2.2.2.1 hb3.out hturn4 (by omega) (by omega))
  have hT34 : Turn (· = mb) w3 w4 := Turn.grown hturn4.grown (fun k e => (Option.some.inj e).symm)
  have hT24 : Turn (· = mb) W2 w4 := (Turn.of_below hb3.out).trans hT34
  have vR4 := H2.out.2.2.2.1.turn hT24 (by omega)
  have H4 : Hid (DuAt w4 d vb mb (some ⟨g, 0, none⟩) cap (n - 1) most l' ∧ Turn (DuS d mb (some ⟨g, 0, none⟩)) w w4 ∧ Var w4 R 31 #[.int .u32 0, .int .u32 0, .int .u32 0]) := Lib.hid (by
    obtain ⟨hp, hh, hH, _, hT⟩ := H2.out
    obtain ⟨n1, n2, n3, n4, n5, n6⟩ := hH.ne
    have hrest := cut_rest hp HI.out.1.keys
    refine ⟨HpAt.du ⟨hH.dv.turn hT24 n4, hH.vv.turn hT24 (fun e => n6 e.symm), hH.row.turn hT24 n2, hH.len, ⟨_, MapAt.of hown4, place_del HI.out.2.2 HP2.out hH.ud hrest⟩, hH.keys, hH.ud, by have := hH.bd; simp at this ⊢; omega, hH.ne⟩ HI.out.1.hp.2 hh (by have := HI.out.1.bd; omega), ?_, vR4⟩
    refine (hT.mono ?_).trans (hT24.mono fun k h => .inr (.inl h))
    rintro k (h | h | h)
    · exact .inl h
    · subst h; exact .inr (.inr rfl)
    · exact .inr (.inl h))
  refine bodyPost_ret (by simp [results, Try.results25, go_sem, *]; try rfl) rfl ?_
  obtain ⟨hd4, hT4, _⟩ := H4.out
  have hT3 : Turn (· = R) w4 (((w4.setCell ⟨R, 0, none⟩ (.int .u32 x0)).setCell ⟨R, 1, none⟩ (.int .u32 x1)).setCell ⟨R, 2, none⟩ (.int .u32 x2)) := Turn.set (Turn.set (Turn.set (Turn.refl (· = R) w4) (p := ⟨R, 0, none⟩) rfl _) (p := ⟨R, 1, none⟩) rfl _) (p := ⟨R, 2, none⟩) rfl _
  refine ⟨rfl, l', H2.out.1, hd4.turn hT3 (by omega) (by omega) (by omega) (fun k hk e => ?_), hT4.transN hT3 (fun b hb => .inr (by rw [HR.out]; exact Nat.le_of_eq hb.symm))⟩
  have : g = k := Option.some.inj hk
  omega
end Go.Proofs.Ytlogidnadfimlaa
