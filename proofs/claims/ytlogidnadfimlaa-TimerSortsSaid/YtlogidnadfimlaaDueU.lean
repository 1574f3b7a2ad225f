/-
  A due brought up in the heap.
-/
import Derived.Test.YtlogidnadfimlaaDueO
import Derived.Deep.Cut
namespace Go.Proofs.Ytlogidnadfimlaa
open Go.RowKit Go.Maps

theorem w64_16 {z : Int} (h : -9223372036854775808 ≤ z ∧ z ≤ 9223372036854775807) : IntKind.i64.wrap z = z := by
  simp only [IntKind.wrap, IntKind.signed, IntKind.bits]
  simp
  omega
theorem up_idx {j p : Nat} (h0 : 0 < j) (hj : j ≤ 5000) (hp : (j - 1) / 2 = p) :
    IntKind.i64.wrap ((j : Int) - 1) = (j : Int) - 1 ∧ ((j : Int) - 1).tdiv 2 = (p : Int) ∧ ((j : Int) - 1) / 2 = (p : Int) ∧ IntKind.i64.wrap (p : Int) = (p : Int) := by
  have e : ((j : Int) - 1) = ((j - 1 : Nat) : Int) := by omega
  refine ⟨w64_16 ⟨by omega, by omega⟩, ?_, ?_, w64_16 ⟨by omega, by omega⟩⟩
  · rw [e, ← hp]
    exact (Int.ofNat_tdiv (j - 1) 2).symm
  · rw [e, ← hp]
    rfl
theorem du_t {a b : Du} {t : Int} (h : duC a b = t) : decide (t < 0) = true ↔ duLt a b := by rw [← h, decide_eq_true_eq]; exact duC_lt
theorem perm_keep {l l' : List Du} (h : l'.Perm l) : l'.length = l.length := h.length_eq

set_option maxHeartbeats 2000000 in
set_option maxRecDepth 100000 in
theorem up_any (d vb mb g cap n i : Nat) (most : Int) (l : List Du) (ext : List (Int × Int)) (w : World) (H : HpAt w d vb mb g cap n most l ext) (hi : i < n) (hN : Near l i) :
    Calls Try.prog 39 #[.pointer (some ⟨d, 0, none⟩), .int .i64 (i : Int)] w fun e w' => (∃ u, e = .returned u) ∧ ∃ l', l'.Perm l ∧ DownI l' i ∧ HpAt w' d vb mb g cap n most l' ext ∧ Turn (fun b => b = g ∨ b = mb) w w' := by
  have SW := Lib.hid (fun i j l W (H : HpAt W d vb mb g cap n most l ext) (hi : i < n) (hj : j < n) => swap_any d vb mb g cap n i j most l ext W H hi hj)
  have OD := Lib.hid order_any
  have HI := Lib.hid (And.intro H hN)
  have hbd := H.bd
  clear H hN
  go_enter Try.func39, Try.ntmps39
  go_wp2_with fail
  go_loopw [1] (fun iv wr => ∃ (j : Nat) (l' : List Du), iv = .int .i64 (j : Int) ∧ j < n ∧ l'.Perm l ∧ HpAt wr d vb mb g cap n most l' ext ∧ ((j = i ∧ Near l' i) ∨ UpI l' j) ∧ Turn (fun b => b = g ∨ b = mb) w wr) (fun iv _ => (intOf iv).toNat)
  case atStart => exact ⟨i, l, rfl, hi, List.Perm.refl _, HI.out.1, .inl ⟨rfl, HI.out.2⟩, Turn.refl _ _⟩
  case round =>
    obtain ⟨j, l', rfl, hj, hp, hH, hu, hT⟩ := hrel
    rcases Nat.eq_zero_or_pos j with h0 | h0
    · subst h0
      have HX := Lib.hid (And.intro hp (And.intro hH (And.intro hu hT)))
      clear hp hH hu hT
      go_upto_region 0 with fail
      have hq_wr := @wd_cell wr
      refine wp_region_wd (by kernel_rfl) (by kernel_rfl) ?_
      repeat (go_big_quiet_step (fail))
      refine wpQuiet_nil ?_
      rintro w4 ⟨⟨wx, hb_w4⟩, hwx⟩
      obtain rfl : w4 = wx := hwx
      clear hq_wr
      have hz_w4 := hb_w4.size
      obtain ⟨hc_w4, hf_w4⟩ := bcell hb_w4
      have HB4 := Lib.hid hb_w4
      clear hb_w4
      go_wp2_with fail
      go_end0
      obtain ⟨hp, hH, hu, hT⟩ := HX.out
      have hil : i < l'.length := by rw [hH.len]; exact hi
      refine ⟨⟨_, rfl⟩, l', hp, ?_, hH.below HB4.out, hT.trans (Turn.of_below HB4.out)⟩
      rcases hu with ⟨rfl, hN⟩ | hU
      · exact ⟨hN, fun h => by omega⟩
      · exact heap_down (up_done hU (fun h => by omega)) i hil
    · obtain ⟨p, hpp⟩ : ∃ p, (j - 1) / 2 = p := ⟨_, rfl⟩
      have hpn : p < n := by omega
      obtain ⟨v1, v2, v2', v3⟩ := up_idx h0 (by omega) hpp
      have hjI : (j : Int) < (n : Int) := by omega
      have hpI : (p : Int) < (n : Int) := by omega
      have hj0 : decide ((0 : Int) < (j : Int)) = true := by simp; omega
      have hjl : j < l'.length := by rw [hH.len]; exact hj
      have hpl : p < l'.length := by rw [hH.len]; exact hpn
      have c0 : wr.cell? ⟨d, 0, none⟩ = some (.slice (some ⟨g, 0, none⟩) n cap) := hH.dv.cell 0
      have c1 : wr.cell? ⟨d, 1, none⟩ = some (.func (.func 20) #[] #[]) := hH.dv.cell 1
      obtain ⟨a0, a1, a2⟩ := hH.row.cells hjl
      obtain ⟨b0, b1, b2⟩ := hH.row.cells hpl
      have zd := hH.dv.lt
      have zg := hH.row.lt
      obtain ⟨t, ht⟩ : ∃ t, duC (gd l' j) (gd l' p) = t := ⟨_, rfl⟩
      have HC := Lib.hid (fun W => OD.out (gd l' j) (gd l' p) W)
      rw [ht] at HC
      have HDT := Lib.hid (du_t ht)
      obtain ⟨⟨x0, x1, x2⟩, hx⟩ : ∃ x, gd l' j = x := ⟨_, rfl⟩
      obtain ⟨⟨y0, y1, y2⟩, hy⟩ : ∃ x, gd l' p = x := ⟨_, rfl⟩
      rw [hx] at a0 a1 a2 HC
      rw [hy] at b0 b1 b2 HC
      dsimp only at a0 a1 a2 b0 b1 b2 HC
      have HX := Lib.hid (And.intro hp (And.intro hH (And.intro hu (And.intro hT hpp))))
      clear hp hH hu hT hpp ht hx hy hjl hpl v2'
      go_upto_region 0 with fail
      have hq_wr := @wd_cell wr
      refine wp_region_wd (by kernel_rfl) (by kernel_rfl) ?_
      repeat (go_big_quiet_step ((first | (go_at_call 20; with_reducible exact quiet_wd (HC.out _)))))
      refine wpQuiet_nil ?_
      rintro w4 ⟨⟨wx, hb_w4⟩, hwx⟩
      obtain rfl : w4 = wx := hwx
      clear hq_wr
      have hz_w4 := hb_w4.size
      obtain ⟨hc_w4, hf_w4⟩ := bcell hb_w4
      have HB4 := Lib.hid hb_w4
      clear hb_w4 hc_w4 hf_w4 c0 c1 a0 a1 a2 b0 b1 b2 HC v1 v2 v3
      cases hd : decide (t < 0) with
      | false =>
        have hN0 : ¬ duLt (gd l' j) (gd l' p) := fun h => by
          have h2 := HDT.out.2 h
          rw [hd] at h2
          cases h2
        have HN := Lib.hid hN0
        clear hN0
        clear HDT
        go_wp2_with fail
        go_end0
        obtain ⟨hp, hH, hu, hT, hpp⟩ := HX.out
        have hil : i < l'.length := by rw [hH.len]; exact hi
        have hE : Edge l' j := by unfold Edge; rw [hpp]; exact HN.out
        refine ⟨⟨_, rfl⟩, l', hp, ?_, hH.below HB4.out, hT.trans (Turn.of_below HB4.out)⟩
        rcases hu with ⟨rfl, hN⟩ | hU
        · exact ⟨hN, fun _ => hE⟩
        · exact heap_down (up_done hU (fun _ => hE)) i hil
      | true =>
        have HLT := Lib.hid (HDT.out.1 hd)
        obtain ⟨_, v1, v2, v2', v3⟩ := And.intro trivial (up_idx h0 (by omega) HX.out.2.2.2.2)
        clear v2 v3 HDT
        go_wp2_with fail
        obtain ⟨hp, hH, hu, hT, hpp⟩ := HX.out
        refine (SW.out j p l' w4 (hH.below HB4.out) hj hpn).mono ?_
        rintro e w5 ⟨⟨u5, rfl⟩, hH5, hT5⟩
        have hjl : j < l'.length := by rw [hH.len]; exact hj
        have hpl : p < l'.length := by rw [hH.len]; exact hpn
        have hup : UpI (swp l' j p) p := by
          have h1 := HLT.out
          rw [← hpp] at h1 ⊢
          rcases hu with ⟨rfl, hN⟩ | hU
          · exact up_step (near_up hN h0 h1) h0 hjl h1
          · exact up_step hU h0 hjl h1
        have HY := Lib.hid (And.intro ((swp_perm hjl hpl).trans hp) (And.intro hH5 (And.intro hup ((hT.trans (Turn.of_below HB4.out)).trans hT5))))
        have hpj : p < j := by omega
        clear hp hH hu hT hpp hH5 hT5 hup HX HLT hjl hpl HB4
        go_wp2_with fail
        go_roundw
        case rel => exact ⟨p, swp l' j p, by simp; exact v2', hpn, HY.out.1, HY.out.2.1, .inr HY.out.2.2.1, HY.out.2.2.2⟩
        case measure => simp [intOf]; omega
end Go.Proofs.Ytlogidnadfimlaa
