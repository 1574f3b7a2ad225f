/-
  The document's follows.
-/
import Derived.Test.YtcpojadinkonnaaHullR
namespace Go.Proofs.Ytcpojadinkonnaa
open Go.RowKit

def Good (a b q : Pt) : Prop := ¬ tr a b q < 0 ∧ (tr a b q = 0 → q = a ∨ onT q a b = true)
theorem fol_bad {l : List Pt} {a b q : Pt} (hq : q ∈ l) (h : ¬ Good a b q) : fol l a b = false := by
  rw [← Bool.not_eq_true, fol_iff]
  exact fun h1 => h (h1.2 q hq)
theorem fol_good {l : List Pt} {a b : Pt} (h : a ≠ b) (h2 : ∀ j, j < l.length → Good a b (gp l j)) : fol l a b = true := by
  rw [fol_iff]
  refine ⟨h, fun q hq => ?_⟩
  obtain ⟨j, hj, e⟩ := List.getElem_of_mem hq
  have := h2 j hj
  rw [show gp l j = q by unfold gp; rw [List.getElem?_eq_getElem hj]; exact e] at this
  exact this

set_option maxHeartbeats 1000000 in
set_option maxRecDepth 100000 in
theorem follows_ref (ps : List Pt) (hps : ∀ p ∈ ps, IPt p) (a b : Pt) (ha : IPt a) (hb : IPt b) (M : Nat) (A : Option Addr) (c n : Nat) (hn : ps.length = n) (hlen : n * 8 ≤ 140737488355328) (w : World) (hP : PtsAt M w (.slice A n c) ps) (hM : M ≤ w.heap.size) :
    Calls Try.prog 40 #[.slice A n c, .agg #[.int .i32 a.1, .int .i32 a.2], .agg #[.int .i32 b.1, .int .i32 b.2]] w fun e w' => e = .returned (.bool (fol ps a b)) ∧ Below w.heap.size w w' := by
  have HP := Lib.hid (And.intro hP (And.intro hn hps))
  clear hP hn hps
  obtain ⟨a1, a2⟩ := a
  obtain ⟨b1, b2⟩ := b
  obtain ⟨t, ht⟩ : ∃ t : Bool, fol ps (a1, a2) (b1, b2) = t := ⟨_, rfl⟩
  rw [ht]
  have HT := Lib.hid ht
  dsimp only at ha hb ⊢
  clear ht
  rcases Decidable.em ((a1, a2) = (b1, b2)) with hab | hab
  · injection hab with h1 h2
    subst h1 h2
    obtain rfl : t = false := by
      rw [← HT.out, ← Bool.not_eq_true, fol_iff]
      exact fun h => h.1 rfl
    go_enter Try.func40, Try.ntmps40
    go_wp2_with fail
    go_ret
    exact ⟨rfl, by go_grown⟩
  · skip
    rcases Decidable.em (a1 = b1) with h1 | h1
    · subst h1
      have hab2 : (a2 == b2) = false := beq_eq_false_iff_ne.2 (fun e => hab (by rw [e]))
      have HAB := Lib.hid hab
      clear hab
      go_enter Try.func40, Try.ntmps40
      go_wp2_with fail
      refine wp_gen (fun W0 hW0 => ?_)
      obtain ⟨X, hX⟩ : ∃ X, w.heap.size = X := ⟨_, rfl⟩
      have vA : Var W0 X 32 #[.int .i32 a1, .int .i32 a2] := by rw [hW0, ← hX]; exact (Var.new _ _ _).alloc _
      have vB : Var W0 (X + 1) 32 #[.int .i32 a1, .int .i32 b2] := by rw [hW0, ← hX]; exact Var.new' _ _ _ (by simp)
      have hB0 : Below w.heap.size w W0 := by rw [hW0]; go_grown
      rw [hX]
      clear hW0
      go_loopw [7] (fun i wr => ∃ (k : Nat), k ≤ n ∧ i = .int .i64 (k : Int) ∧ (∀ j, j < k → Good (a1, a2) (a1, b2) (gp ps j)) ∧ Var wr X 32 #[.int .i32 a1, .int .i32 a2] ∧ Var wr (X + 1) 32 #[.int .i32 a1, .int .i32 b2] ∧ Below w.heap.size w wr) (fun i _ => n - (intOf i).toNat)
      case atStart => exact ⟨0, by omega, rfl, fun j hj => by omega, vA, vB, hB0⟩
      case round =>
        obtain ⟨k, hk, rfl, hall, hvA, hvB, hB⟩ := hrel
        clear vA vB hB0
        have hz := hB.size
        rcases Nat.lt_or_ge k n with hlt | hge
        · obtain ⟨g, off, rfl, hg, hc⟩ := pts_cells HP.out.1 (by omega)
          have hkp : k < ps.length := by rw [HP.out.2.1]; exact hlt
          have c0 := (hB.cell (p := ⟨g, off + k * 2, none⟩) (show g < w.heap.size by omega)).trans (hc k hkp).1
          have c1 := (hB.cell (p := ⟨g, off + k * 2 + 1, none⟩) (show g < w.heap.size by omega)).trans (hc k hkp).2
          have hgz : g < wr.heap.size := by omega
          have hqI := gp_i HP.out.2.2 k
          have hqm : gp ps k ∈ ps := gp_mem hkp
          obtain ⟨⟨x, y⟩, hq⟩ : ∃ q, gp ps k = q := ⟨_, rfl⟩
          rw [hq] at c0 c1 hqI hqm
          dsimp only at c0 c1 hqI
          have hkI : (k : Int) < (n : Int) := by omega
          have dk : decide ((k : Int) < 0) = false := decide_eq_false (by omega)
          have va0 := hvA.cell 0
          have va1 := hvA.cell 1
          have vb0 := hvB.cell 0
          have vb1 := hvB.cell 1
          have hXz := hvA.lt
          have hXz1 := hvB.lt
          have hT := fun W => turn04 a1 a2 a1 b2 x y ha.1 ha.2 hb.1 hb.2 hqI.1 hqI.2 W
          have hO := fun W => on04 x y a1 a2 a1 b2 hqI.1 hqI.2 ha.1 ha.2 hb.1 hb.2 W
          obtain ⟨T, hTe⟩ : ∃ T, trn a1 a2 a1 b2 x y = T := ⟨_, rfl⟩
          obtain ⟨on, hon⟩ : ∃ o, onB x y a1 a2 a1 b2 = o := ⟨_, rfl⟩
          rw [hTe] at hT
          rw [hon] at hO
          have HTu := Lib.hid hT
          have HOn := Lib.hid hO
          have gd : Good (a1, a2) (a1, b2) (x, y) ↔ (¬ T < 0 ∧ (T = 0 → (x, y) = (a1, a2) ∨ on = true)) := by
            unfold Good tr onT
            dsimp only
            rw [hTe, hon]
          have HG := Lib.hid (And.intro gd (And.intro hq (And.intro hall hqm)))
          have HV := Lib.hid (And.intro hvA (And.intro hvB hB))
          clear hc hT hO hTe hon gd hq hall hvA hvB hqm
          go_wp2_with fail
          have hq_wr := @wd_cell wr
          refine wp_region_wd (by kernel_rfl) (by kernel_rfl) ?_
          repeat (go_big_quiet_step ((first | (go_at_call 27; with_reducible exact quiet_wd (HTu.out _)))))
          refine wpQuiet_nil ?_
          rintro w5 ⟨⟨wx, hb_w5⟩, hwx⟩
          obtain rfl : w5 = wx := hwx
          clear hq_wr
          have hz_w5 := hb_w5.size
          obtain ⟨hc_w5, hf_w5⟩ := bcell hb_w5
          have hs_w5_0 : g < w5.heap.size := Nat.lt_of_lt_of_le (by assumption) hb_w5.size
          have hs_w5_1 : X < w5.heap.size := Nat.lt_of_lt_of_le (by assumption) hb_w5.size
          have hs_w5_2 : X + 1 < w5.heap.size := Nat.lt_of_lt_of_le (by assumption) hb_w5.size
          have hvA5 := HV.out.1.keep hb_w5
          have hvB5 := HV.out.2.1.keep hb_w5
          have hB5 := HV.out.2.2.trans (hb_w5.mono hz)
          have va05 := hvA5.cell 0
          have va15 := hvA5.cell 1
          have vb05 := hvB5.cell 0
          have vb15 := hvB5.cell 1
          have hXz5 := hvA5.lt
          have hXz15 := hvB5.lt
          have hz5 := hB5.size
          have hgz5 : g < w5.heap.size := by omega
          have d0 := (hb_w5.cell (p := ⟨g, off + k * 2, none⟩) hgz).trans c0
          have d1 := (hb_w5.cell (p := ⟨g, off + k * 2 + 1, none⟩) hgz).trans c1
          have H5 := Lib.hid (And.intro hvA5 (And.intro hvB5 hB5))
          clear hb_w5 hc_w5 hf_w5 hvA5 hvB5 va0 va1 vb0 vb1 c0 c1 hB hB5
          rcases Int.lt_trichotomy T 0 with hT0 | hT0 | hT0
          · have e1 : decide (T < 0) = true := decide_eq_true hT0
            obtain rfl : t = false := by
              rw [← HT.out]
              exact fol_bad HG.out.2.2.2 (fun h => by
                have := (HG.out.1.1 h).1; omega)
            go_wp2_with fail
            have hq_w5 := @wd_cell w5
            refine wp_region_wd (by kernel_rfl) (by kernel_rfl) ?_
            repeat (go_big_quiet_step ((first | (go_at_call 67; with_reducible exact quiet_wd (HOn.out _)))))
            refine wpQuiet_nil ?_
            rintro w7 ⟨⟨wx, hb_w7⟩, hwx⟩
            obtain rfl : w7 = wx := hwx
            clear hq_w5
            have hz_w7 := hb_w7.size
            obtain ⟨hc_w7, hf_w7⟩ := bcell hb_w7
            have hs_w7_0 : g < w7.heap.size := Nat.lt_of_lt_of_le (by assumption) hb_w7.size
            have hs_w7_1 : X < w7.heap.size := Nat.lt_of_lt_of_le (by assumption) hb_w7.size
            have hs_w7_2 : X + 1 < w7.heap.size := Nat.lt_of_lt_of_le (by assumption) hb_w7.size
            have HE := Lib.hid (H5.out.2.2.trans (hb_w7.mono hz5))
            clear hb_w7 hc_w7 hf_w7
            go_wp2_with fail
            go_ret
            exact ⟨rfl, HE.out⟩
          · subst hT0
            rcases Decidable.em (x = a1) with hxa | hxa
            · subst hxa
              rcases Decidable.em (y = a2) with hya | hya
              · subst hya
                go_wp2_with fail
                have hq_w5 := @wd_cell w5
                refine wp_region_wd (by kernel_rfl) (by kernel_rfl) ?_
                repeat (go_big_quiet_step ((first | (go_at_call 67; with_reducible exact quiet_wd (HOn.out _)))))
                refine wpQuiet_nil ?_
                rintro w7 ⟨⟨wx, hb_w7⟩, hwx⟩
                obtain rfl : w7 = wx := hwx
                clear hq_w5
                have hz_w7 := hb_w7.size
                obtain ⟨hc_w7, hf_w7⟩ := bcell hb_w7
                have hs_w7_0 : g < w7.heap.size := Nat.lt_of_lt_of_le (by assumption) hb_w7.size
                have hs_w7_1 : X < w7.heap.size := Nat.lt_of_lt_of_le (by assumption) hb_w7.size
                have hs_w7_2 : X + 1 < w7.heap.size := Nat.lt_of_lt_of_le (by assumption) hb_w7.size
                have HE := Lib.hid (And.intro (H5.out.1.keep hb_w7) (And.intro (H5.out.2.1.keep hb_w7) (H5.out.2.2.trans (hb_w7.mono hz5))))
                clear hb_w7 hc_w7 hf_w7
                go_wp2_with fail
                go_roundw
                case rel => exact ⟨k + 1, by omega, by simp, fun j hj => by
                  rcases Nat.lt_or_ge j k with h | h
                  · exact HG.out.2.2.1 j h
                  · rw [show j = k by omega, HG.out.2.1]
                    exact HG.out.1.2 ⟨by omega, fun _ => by simp⟩, HE.out⟩
                case measure => simp [intOf]; omega
              · have hne : (y == a2) = false := beq_eq_false_iff_ne.2 hya
                cases on
                · obtain rfl : t = false := by
                    rw [← HT.out]
                    exact fol_bad HG.out.2.2.2 (fun h => by
                      exact (HG.out.1.1 h).2 rfl |>.elim (fun e => hya (by injection e)) (fun e => by cases e))
                  go_wp2_with fail
                  have hq_w5 := @wd_cell w5
                  refine wp_region_wd (by kernel_rfl) (by kernel_rfl) ?_
                  repeat (go_big_quiet_step ((first | (go_at_call 67; with_reducible exact quiet_wd (HOn.out _)))))
                  refine wpQuiet_nil ?_
                  rintro w7 ⟨⟨wx, hb_w7⟩, hwx⟩
                  obtain rfl : w7 = wx := hwx
                  clear hq_w5
                  have hz_w7 := hb_w7.size
                  obtain ⟨hc_w7, hf_w7⟩ := bcell hb_w7
                  have hs_w7_0 : g < w7.heap.size := Nat.lt_of_lt_of_le (by assumption) hb_w7.size
                  have hs_w7_1 : X < w7.heap.size := Nat.lt_of_lt_of_le (by assumption) hb_w7.size
                  have hs_w7_2 : X + 1 < w7.heap.size := Nat.lt_of_lt_of_le (by assumption) hb_w7.size
                  have HE := Lib.hid (H5.out.2.2.trans (hb_w7.mono hz5))
                  clear hb_w7 hc_w7 hf_w7
                  go_wp2_with fail
                  go_ret
                  exact ⟨rfl, HE.out⟩
                · go_wp2_with fail
                  have hq_w5 := @wd_cell w5
                  refine wp_region_wd (by kernel_rfl) (by kernel_rfl) ?_
                  repeat (go_big_quiet_step ((first | (go_at_call 67; with_reducible exact quiet_wd (HOn.out _)))))
                  refine wpQuiet_nil ?_
                  rintro w7 ⟨⟨wx, hb_w7⟩, hwx⟩
                  obtain rfl : w7 = wx := hwx
                  clear hq_w5
                  have hz_w7 := hb_w7.size
                  obtain ⟨hc_w7, hf_w7⟩ := bcell hb_w7
                  have hs_w7_0 : g < w7.heap.size := Nat.lt_of_lt_of_le (by assumption) hb_w7.size
                  have hs_w7_1 : X < w7.heap.size := Nat.lt_of_lt_of_le (by assumption) hb_w7.size
                  have hs_w7_2 : X + 1 < w7.heap.size := Nat.lt_of_lt_of_le (by assumption) hb_w7.size
                  have HE := Lib.hid (And.intro (H5.out.1.keep hb_w7) (And.intro (H5.out.2.1.keep hb_w7) (H5.out.2.2.trans (hb_w7.mono hz5))))
                  clear hb_w7 hc_w7 hf_w7
                  go_wp2_with fail
                  go_roundw
                  case rel => exact ⟨k + 1, by omega, by simp, fun j hj => by
                    rcases Nat.lt_or_ge j k with h | h
                    · exact HG.out.2.2.1 j h
                    · rw [show j = k by omega, HG.out.2.1]
                      exact HG.out.1.2 ⟨by omega, fun _ => by simp⟩, HE.out⟩
                  case measure => simp [intOf]; omega
            · have hne : (x == a1) = false := beq_eq_false_iff_ne.2 hxa
              cases on
              · obtain rfl : t = false := by
                  rw [← HT.out]
                  exact fol_bad HG.out.2.2.2 (fun h => by
                    exact (HG.out.1.1 h).2 rfl |>.elim (fun e => hxa (by injection e)) (fun e => by cases e))
                go_wp2_with fail
                have hq_w5 := @wd_cell w5
                refine wp_region_wd (by kernel_rfl) (by kernel_rfl) ?_
                repeat (go_big_quiet_step ((first | (go_at_call 67; with_reducible exact quiet_wd (HOn.out _)))))
                refine wpQuiet_nil ?_
                rintro w7 ⟨⟨wx, hb_w7⟩, hwx⟩
                obtain rfl : w7 = wx := hwx
                clear hq_w5
                have hz_w7 := hb_w7.size
                obtain ⟨hc_w7, hf_w7⟩ := bcell hb_w7
                have hs_w7_0 : g < w7.heap.size := Nat.lt_of_lt_of_le (by assumption) hb_w7.size
                have hs_w7_1 : X < w7.heap.size := Nat.lt_of_lt_of_le (by assumption) hb_w7.size
                have hs_w7_2 : X + 1 < w7.heap.size := Nat.lt_of_lt_of_le (by assumption) hb_w7.size
                have HE := Lib.hid (H5.out.2.2.trans (hb_w7.mono hz5))
                clear hb_w7 hc_w7 hf_w7
                go_wp2_with fail
                go_ret
                exact ⟨rfl, HE.out⟩
              · go_wp2_with fail
                have hq_w5 := @wd_cell w5
                refine wp_region_wd (by kernel_rfl) (by kernel_rfl) ?_
                repeat (go_big_quiet_step ((first | (go_at_call 67; with_reducible exact quiet_wd (HOn.out _)))))
                refine wpQuiet_nil ?_
                rintro w7 ⟨⟨wx, hb_w7⟩, hwx⟩
                obtain rfl : w7 = wx := hwx
                clear hq_w5
                have hz_w7 := hb_w7.size
                obtain ⟨hc_w7, hf_w7⟩ := bcell hb_w7
                have hs_w7_0 : g < w7.heap.size := Nat.lt_of_lt_of_le (by assumption) hb_w7.size
                have hs_w7_1 : X < w7.heap.size := Nat.lt_of_lt_of_le (by assumption) hb_w7.size
                have hs_w7_2 : X + 1 < w7.heap.size := Nat.lt_of_lt_of_le (by assumption) hb_w7.size
                have HE := Lib.hid (And.intro (H5.out.1.keep hb_w7) (And.intro (H5.out.2.1.keep hb_w7) (H5.out.2.2.trans (hb_w7.mono hz5))))
                clear hb_w7 hc_w7 hf_w7
                go_wp2_with fail
                go_roundw
                case rel => exact ⟨k + 1, by omega, by simp, fun j hj => by
                  rcases Nat.lt_or_ge j k with h | h
                  · exact HG.out.2.2.1 j h
                  · rw [show j = k by omega, HG.out.2.1]
                    exact HG.out.1.2 ⟨by omega, fun _ => by simp⟩, HE.out⟩
                case measure => simp [intOf]; omega
          · have e1 : decide (T < 0) = false := decide_eq_false (by omega)
            have e2 : (T == 0) = false := beq_eq_false_iff_ne.2 (by omega)
            go_wp2_with fail
            have hq_w5 := @wd_cell w5
            refine wp_region_wd (by kernel_rfl) (by kernel_rfl) ?_
            repeat (go_big_quiet_step ((first | (go_at_call 67; with_reducible exact quiet_wd (HOn.out _)))))
            refine wpQuiet_nil ?_
            rintro w7 ⟨⟨wx, hb_w7⟩, hwx⟩
            obtain rfl : w7 = wx := hwx
            clear hq_w5
            have hz_w7 := hb_w7.size
            obtain ⟨hc_w7, hf_w7⟩ := bcell hb_w7
            have hs_w7_0 : g < w7.heap.size := Nat.lt_of_lt_of_le (by assumption) hb_w7.size
            have hs_w7_1 : X < w7.heap.size := Nat.lt_of_lt_of_le (by assumption) hb_w7.size
            have hs_w7_2 : X + 1 < w7.heap.size := Nat.lt_of_lt_of_le (by assumption) hb_w7.size
            have HE := Lib.hid (And.intro (H5.out.1.keep hb_w7) (And.intro (H5.out.2.1.keep hb_w7) (H5.out.2.2.trans (hb_w7.mono hz5))))
            clear hb_w7 hc_w7 hf_w7
            go_wp2_with fail
            go_roundw
            case rel => exact ⟨k + 1, by omega, by simp, fun j hj => by
              rcases Nat.lt_or_ge j k with h | h
              · exact HG.out.2.2.1 j h
              · rw [show j = k by omega, HG.out.2.1]
                exact HG.out.1.2 ⟨by omega, fun h => by omega⟩, HE.out⟩
            case measure => simp [intOf]; omega
        · have hkI : ¬ (k : Int) < (n : Int) := by omega
          obtain rfl : t = true := by
            rw [← HT.out]
            exact fol_good HAB.out fun j hj => hall j (by rw [HP.out.2.1] at hj; omega)
          clear hall
          go_wp2_with fail
          go_ret
          exact ⟨rfl, by first | exact hB | (rw [← hX]; exact hB)⟩
    · have hab1 : (a1 == b1) = false := beq_eq_false_iff_ne.2 h1
      have HAB := Lib.hid hab
      clear hab h1
      go_enter Try.func40, Try.ntmps40
      go_wp2_with fail
      refine wp_gen (fun W0 hW0 => ?_)
      obtain ⟨X, hX⟩ : ∃ X, w.heap.size = X := ⟨_, rfl⟩
      have vA : Var W0 X 32 #[.int .i32 a1, .int .i32 a2] := by rw [hW0, ← hX]; exact (Var.new _ _ _).alloc _
      have vB : Var W0 (X + 1) 32 #[.int .i32 b1, .int .i32 b2] := by rw [hW0, ← hX]; exact Var.new' _ _ _ (by simp)
      have hB0 : Below w.heap.size w W0 := by rw [hW0]; go_grown
      rw [hX]
      clear hW0
      go_loopw [7] (fun i wr => ∃ (k : Nat), k ≤ n ∧ i = .int .i64 (k : Int) ∧ (∀ j, j < k → Good (a1, a2) (b1, b2) (gp ps j)) ∧ Var wr X 32 #[.int .i32 a1, .int .i32 a2] ∧ Var wr (X + 1) 32 #[.int .i32 b1, .int .i32 b2] ∧ Below w.heap.size w wr) (fun i _ => n - (intOf i).toNat)
      case atStart => exact ⟨0, by omega, rfl, fun j hj => by omega, vA, vB, hB0⟩
      case round =>
        obtain ⟨k, hk, rfl, hall, hvA, hvB, hB⟩ := hrel
        clear vA vB hB0
        have hz := hB.size
        rcases Nat.lt_or_ge k n with hlt | hge
        · obtain ⟨g, off, rfl, hg, hc⟩ := pts_cells HP.out.1 (by omega)
          have hkp : k < ps.length := by rw [HP.out.2.1]; exact hlt
          have c0 := (hB.cell (p := ⟨g, off + k * 2, none⟩) (show g < w.heap.size by omega)).trans (hc k hkp).1
          have c1 := (hB.cell (p := ⟨g, off + k * 2 + 1, none⟩) (show g < w.heap.size by omega)).trans (hc k hkp).2
          have hgz : g < wr.heap.size := by omega
          have hqI := gp_i HP.out.2.2 k
          have hqm : gp ps k ∈ ps := gp_mem hkp
          obtain ⟨⟨x, y⟩, hq⟩ : ∃ q, gp ps k = q := ⟨_, rfl⟩
          rw [hq] at c0 c1 hqI hqm
          dsimp only at c0 c1 hqI
          have hkI : (k : Int) < (n : Int) := by omega
          have dk : decide ((k : Int) < 0) = false := decide_eq_false (by omega)
          have va0 := hvA.cell 0
          have va1 := hvA.cell 1
          have vb0 := hvB.cell 0
          have vb1 := hvB.cell 1
          have hXz := hvA.lt
          have hXz1 := hvB.lt
          have hT := fun W => turn04 a1 a2 b1 b2 x y ha.1 ha.2 hb.1 hb.2 hqI.1 hqI.2 W
          have hO := fun W => on04 x y a1 a2 b1 b2 hqI.1 hqI.2 ha.1 ha.2 hb.1 hb.2 W
          obtain ⟨T, hTe⟩ : ∃ T, trn a1 a2 b1 b2 x y = T := ⟨_, rfl⟩
          obtain ⟨on, hon⟩ : ∃ o, onB x y a1 a2 b1 b2 = o := ⟨_, rfl⟩
          rw [hTe] at hT
          rw [hon] at hO
          have HTu := Lib.hid hT
          have HOn := Lib.hid hO
          have gd : Good (a1, a2) (b1, b2) (x, y) ↔ (¬ T < 0 ∧ (T = 0 → (x, y) = (a1, a2) ∨ on = true)) := by
            unfold Good tr onT
            dsimp only
            rw [hTe, hon]
          have HG := Lib.hid (And.intro gd (And.intro hq (And.intro hall hqm)))
          have HV := Lib.hid (And.intro hvA (And.intro hvB hB))
          clear hc hT hO hTe hon gd hq hall hvA hvB hqm
          go_wp2_with fail
          have hq_wr := @wd_cell wr
          refine wp_region_wd (by kernel_rfl) (by kernel_rfl) ?_
          repeat (go_big_quiet_step ((first | (go_at_call 27; with_reducible exact quiet_wd (HTu.out _)))))
          refine wpQuiet_nil ?_
          rintro w5 ⟨⟨wx, hb_w5⟩, hwx⟩
          obtain rfl : w5 = wx := hwx
          clear hq_wr
          have hz_w5 := hb_w5.size
          obtain ⟨hc_w5, hf_w5⟩ := bcell hb_w5
          have hs_w5_0 : g < w5.heap.size := Nat.lt_of_lt_of_le (by assumption) hb_w5.size
          have hs_w5_1 : X < w5.heap.size := Nat.lt_of_lt_of_le (by assumption) hb_w5.size
          have hs_w5_2 : X + 1 < w5.heap.size := Nat.lt_of_lt_of_le (by assumption) hb_w5.size
          have hvA5 := HV.out.1.keep hb_w5
          have hvB5 := HV.out.2.1.keep hb_w5
          have hB5 := HV.out.2.2.trans (hb_w5.mono hz)
          have va05 := hvA5.cell 0
          have va15 := hvA5.cell 1
          have vb05 := hvB5.cell 0
          have vb15 := hvB5.cell 1
          have hXz5 := hvA5.lt
          have hXz15 := hvB5.lt
          have hz5 := hB5.size
          have hgz5 : g < w5.heap.size := by omega
          have d0 := (hb_w5.cell (p := ⟨g, off + k * 2, none⟩) hgz).trans c0
          have d1 := (hb_w5.cell (p := ⟨g, off + k * 2 + 1, none⟩) hgz).trans c1
          have H5 := Lib.hid (And.intro hvA5 (And.intro hvB5 hB5))
          clear hb_w5 hc_w5 hf_w5 hvA5 hvB5 va0 va1 vb0 vb1 c0 c1 hB hB5
          rcases Int.lt_trichotomy T 0 with hT0 | hT0 | hT0
          · have e1 : decide (T < 0) = true := decide_eq_true hT0
            obtain rfl : t = false := by
              rw [← HT.out]
              exact fol_bad HG.out.2.2.2 (fun h => by
                have := (HG.out.1.1 h).1; omega)
            go_wp2_with fail
            have hq_w5 := @wd_cell w5
            refine wp_region_wd (by kernel_rfl) (by kernel_rfl) ?_
            repeat (go_big_quiet_step ((first | (go_at_call 67; with_reducible exact quiet_wd (HOn.out _)))))
            refine wpQuiet_nil ?_
            rintro w7 ⟨⟨wx, hb_w7⟩, hwx⟩
            obtain rfl : w7 = wx := hwx
            clear hq_w5
            have hz_w7 := hb_w7.size
            obtain ⟨hc_w7, hf_w7⟩ := bcell hb_w7
            have hs_w7_0 : g < w7.heap.size := Nat.lt_of_lt_of_le (by assumption) hb_w7.size
            have hs_w7_1 : X < w7.heap.size := Nat.lt_of_lt_of_le (by assumption) hb_w7.size
            have hs_w7_2 : X + 1 < w7.heap.size := Nat.lt_of_lt_of_le (by assumption) hb_w7.size
            have HE := Lib.hid (H5.out.2.2.trans (hb_w7.mono hz5))
            clear hb_w7 hc_w7 hf_w7
            go_wp2_with fail
            go_ret
            exact ⟨rfl, HE.out⟩
          · subst hT0
            rcases Decidable.em (x = a1) with hxa | hxa
            · subst hxa
              rcases Decidable.em (y = a2) with hya | hya
              · subst hya
                go_wp2_with fail
                have hq_w5 := @wd_cell w5
                refine wp_region_wd (by kernel_rfl) (by kernel_rfl) ?_
                repeat (go_big_quiet_step ((first | (go_at_call 67; with_reducible exact quiet_wd (HOn.out _)))))
                refine wpQuiet_nil ?_
                rintro w7 ⟨⟨wx, hb_w7⟩, hwx⟩
                obtain rfl : w7 = wx := hwx
                clear hq_w5
                have hz_w7 := hb_w7.size
                obtain ⟨hc_w7, hf_w7⟩ := bcell hb_w7
                have hs_w7_0 : g < w7.heap.size := Nat.lt_of_lt_of_le (by assumption) hb_w7.size
                have hs_w7_1 : X < w7.heap.size := Nat.lt_of_lt_of_le (by assumption) hb_w7.size
                have hs_w7_2 : X + 1 < w7.heap.size := Nat.lt_of_lt_of_le (by assumption) hb_w7.size
                have HE := Lib.hid (And.intro (H5.out.1.keep hb_w7) (And.intro (H5.out.2.1.keep hb_w7) (H5.out.2.2.trans (hb_w7.mono hz5))))
                clear hb_w7 hc_w7 hf_w7
                go_wp2_with fail
                go_roundw
                case rel => exact ⟨k + 1, by omega, by simp, fun j hj => by
                  rcases Nat.lt_or_ge j k with h | h
                  · exact HG.out.2.2.1 j h
                  · rw [show j = k by omega, HG.out.2.1]
                    exact HG.out.1.2 ⟨by omega, fun _ => by simp⟩, HE.out⟩
                case measure => simp [intOf]; omega
              · have hne : (y == a2) = false := beq_eq_false_iff_ne.2 hya
                cases on
                · obtain rfl : t = false := by
                    rw [← HT.out]
                    exact fol_bad HG.out.2.2.2 (fun h => by
                      exact (HG.out.1.1 h).2 rfl |>.elim (fun e => hya (by injection e)) (fun e => by cases e))
                  go_wp2_with fail
                  have hq_w5 := @wd_cell w5
                  refine wp_region_wd (by kernel_rfl) (by kernel_rfl) ?_
                  repeat (go_big_quiet_step ((first | (go_at_call 67; with_reducible exact quiet_wd (HOn.out _)))))
                  refine wpQuiet_nil ?_
                  rintro w7 ⟨⟨wx, hb_w7⟩, hwx⟩
                  obtain rfl : w7 = wx := hwx
                  clear hq_w5
                  have hz_w7 := hb_w7.size
                  obtain ⟨hc_w7, hf_w7⟩ := bcell hb_w7
                  have hs_w7_0 : g < w7.heap.size := Nat.lt_of_lt_of_le (by assumption) hb_w7.size
                  have hs_w7_1 : X < w7.heap.size := Nat.lt_of_lt_of_le (by assumption) hb_w7.size
                  have hs_w7_2 : X + 1 < w7.heap.size := Nat.lt_of_lt_of_le (by assumption) hb_w7.size
                  have HE := Lib.hid (H5.out.2.2.trans (hb_w7.mono hz5))
                  clear hb_w7 hc_w7 hf_w7
                  go_wp2_with fail
                  go_ret
                  exact ⟨rfl, HE.out⟩
                · go_wp2_with fail
                  have hq_w5 := @wd_cell w5
                  refine wp_region_wd (by kernel_rfl) (by kernel_rfl) ?_
                  repeat (go_big_quiet_step ((first | (go_at_call 67; with_reducible exact quiet_wd (HOn.out _)))))
                  refine wpQuiet_nil ?_
                  rintro w7 ⟨⟨wx, hb_w7⟩, hwx⟩
                  obtain rfl : w7 = wx := hwx
                  clear hq_w5
                  have hz_w7 := hb_w7.size
                  obtain ⟨hc_w7, hf_w7⟩ := bcell hb_w7
                  have hs_w7_0 : g < w7.heap.size := Nat.lt_of_lt_of_le (by assumption) hb_w7.size
                  have hs_w7_1 : X < w7.heap.size := Nat.lt_of_lt_of_le (by assumption) hb_w7.size
                  have hs_w7_2 : X + 1 < w7.heap.size := Nat.lt_of_lt_of_le (by assumption) hb_w7.size
                  have HE := Lib.hid (And.intro (H5.out.1.keep hb_w7) (And.intro (H5.out.2.1.keep hb_w7) (H5.out.2.2.trans (hb_w7.mono hz5))))
                  clear hb_w7 hc_w7 hf_w7
                  go_wp2_with fail
                  go_roundw
                  case rel => exact ⟨k + 1, by omega, by simp, fun j hj => by
                    rcases Nat.lt_or_ge j k with h | h
                    · exact HG.out.2.2.1 j h
                    · rw [show j = k by omega, HG.out.2.1]
                      exact HG.out.1.2 ⟨by omega, fun _ => by simp⟩, HE.out⟩
                  case measure => simp [intOf]; omega
            · have hne : (x == a1) = false := beq_eq_false_iff_ne.2 hxa
              cases on
              · obtain rfl : t = false := by
                  rw [← HT.out]
                  exact fol_bad HG.out.2.2.2 (fun h => by
                    exact (HG.out.1.1 h).2 rfl |>.elim (fun e => hxa (by injection e)) (fun e => by cases e))
                go_wp2_with fail
                have hq_w5 := @wd_cell w5
                refine wp_region_wd (by kernel_rfl) (by kernel_rfl) ?_
                repeat (go_big_quiet_step ((first | (go_at_call 67; with_reducible exact quiet_wd (HOn.out _)))))
                refine wpQuiet_nil ?_
                rintro w7 ⟨⟨wx, hb_w7⟩, hwx⟩
                obtain rfl : w7 = wx := hwx
                clear hq_w5
                have hz_w7 := hb_w7.size
                obtain ⟨hc_w7, hf_w7⟩ := bcell hb_w7
                have hs_w7_0 : g < w7.heap.size := Nat.lt_of_lt_of_le (by assumption) hb_w7.size
                have hs_w7_1 : X < w7.heap.size := Nat.lt_of_lt_of_le (by assumption) hb_w7.size
                have hs_w7_2 : X + 1 < w7.heap.size := Nat.lt_of_lt_of_le (by assumption) hb_w7.size
                have HE := Lib.hid (H5.out.2.2.trans (hb_w7.mono hz5))
                clear hb_w7 hc_w7 hf_w7
                go_wp2_with fail
                go_ret
                exact ⟨rfl, HE.out⟩
              · go_wp2_with fail
                have hq_w5 := @wd_cell w5
                refine wp_region_wd (by kernel_rfl) (by kernel_rfl) ?_
                repeat (go_big_quiet_step ((first | (go_at_call 67; with_reducible exact quiet_wd (HOn.out _)))))
                refine wpQuiet_nil ?_
                rintro w7 ⟨⟨wx, hb_w7⟩, hwx⟩
                obtain rfl : w7 = wx := hwx
                clear hq_w5
                have hz_w7 := hb_w7.size
                obtain ⟨hc_w7, hf_w7⟩ := bcell hb_w7
                have hs_w7_0 : g < w7.heap.size := Nat.lt_of_lt_of_le (by assumption) hb_w7.size
                have hs_w7_1 : X < w7.heap.size := Nat.lt_of_lt_of_le (by assumption) hb_w7.size
                have hs_w7_2 : X + 1 < w7.heap.size := Nat.lt_of_lt_of_le (by assumption) hb_w7.size
                have HE := Lib.hid (And.intro (H5.out.1.keep hb_w7) (And.intro (H5.out.2.1.keep hb_w7) (H5.out.2.2.trans (hb_w7.mono hz5))))
                clear hb_w7 hc_w7 hf_w7
                go_wp2_with fail
                go_roundw
                case rel => exact ⟨k + 1, by omega, by simp, fun j hj => by
                  rcases Nat.lt_or_ge j k with h | h
                  · exact HG.out.2.2.1 j h
                  · rw [show j = k by omega, HG.out.2.1]
                    exact HG.out.1.2 ⟨by omega, fun _ => by simp⟩, HE.out⟩
                case measure => simp [intOf]; omega
          · have e1 : decide (T < 0) = false := decide_eq_false (by omega)
            have e2 : (T == 0) = false := beq_eq_false_iff_ne.2 (by omega)
            go_wp2_with fail
            have hq_w5 := @wd_cell w5
            refine wp_region_wd (by kernel_rfl) (by kernel_rfl) ?_
            repeat (go_big_quiet_step ((first | (go_at_call 67; with_reducible exact quiet_wd (HOn.out _)))))
            refine wpQuiet_nil ?_
            rintro w7 ⟨⟨wx, hb_w7⟩, hwx⟩
            obtain rfl : w7 = wx := hwx
            clear hq_w5
            have hz_w7 := hb_w7.size
            obtain ⟨hc_w7, hf_w7⟩ := bcell hb_w7
            have hs_w7_0 : g < w7.heap.size := Nat.lt_of_lt_of_le (by assumption) hb_w7.size
            have hs_w7_1 : X < w7.heap.size := Nat.lt_of_lt_of_le (by assumption) hb_w7.size
            have hs_w7_2 : X + 1 < w7.heap.size := Nat.lt_of_lt_of_le (by assumption) hb_w7.size
            have HE := Lib.hid (And.intro (H5.out.1.keep hb_w7) (And.intro (H5.out.2.1.keep hb_w7) (H5.out.2.2.trans (hb_w7.mono hz5))))
            clear hb_w7 hc_w7 hf_w7
            go_wp2_with fail
            go_roundw
            case rel => exact ⟨k + 1, by omega, by simp, fun j hj => by
              rcases Nat.lt_or_ge j k with h | h
              · exact HG.out.2.2.1 j h
              · rw [show j = k by omega, HG.out.2.1]
                exact HG.out.1.2 ⟨by omega, fun h => by omega⟩, HE.out⟩
            case measure => simp [intOf]; omega
        · have hkI : ¬ (k : Int) < (n : Int) := by omega
          obtain rfl : t = true := by
            rw [← HT.out]
            exact fol_good HAB.out fun j hj => hall j (by rw [HP.out.2.1] at hj; omega)
          clear hall
          go_wp2_with fail
          go_ret
          exact ⟨rfl, by first | exact hB | (rw [← hX]; exact hB)⟩

end Go.Proofs.Ytcpojadinkonnaa
