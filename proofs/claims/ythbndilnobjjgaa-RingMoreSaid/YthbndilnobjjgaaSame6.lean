/-
  The law's own same: are two lists of points the same?
-/
import Derived.Test.YthbndilnobjjgaaDrop
namespace Go.Proofs.Ythbndilnobjjgaa
open Go.RowKit

theorem pts_cells {M n c : Nat} {A : Option Addr} {ps : List Pt} {W : World} (h : PtsAt M W (.slice A n c) ps) (hn : 0 < n) : ∃ b off, A = some ⟨b, off, none⟩ ∧ b < M ∧ ∀ k, k < ps.length → W.cell? ⟨b, off + k * 2, none⟩ = some (.int .i32 (gp ps k).1) ∧ W.cell? ⟨b, off + k * 2 + 1, none⟩ = some (.int .i32 (gp ps k).2) := by
  rcases h with ⟨⟨A0, c0, he⟩, _⟩ | ⟨b, off, cap, he, hb, hc⟩
  · injection he with _ h2 _
    omega
  · injection he with he1 he2 he3
    exact ⟨b, off, he1, hb, hc⟩

set_option maxRecDepth 100000 in
set_option maxHeartbeats 1000000 in
theorem same06_is (A B : Option Addr) (n m c d : Nat) (ps qs : List Pt) (M : Nat) (hp : ps.length = n) (hq : qs.length = m) (hlen : n * 8 ≤ 140737488355328) (w : World) (hM : M ≤ w.heap.size) (hI : PtsAt M w (.slice A n c) ps) (hJ : PtsAt M w (.slice B m d) qs) :
    Calls Try.prog 11 #[.slice A n c, .slice B m d] w fun e w' => e = .returned (.bool (decide (ps = qs))) ∧ Below w.heap.size w w' := by
  have HP := Lib.hid (And.intro hp (And.intro hq (And.intro hI hJ)))
  clear hI hJ
  rcases Decidable.em (n = m) with hnm | hnm
  · subst hnm
    clear hp hq
    obtain ⟨t, ht⟩ : ∃ t : Bool, decide (ps = qs) = t := ⟨_, rfl⟩
    rw [ht]
    have HT := Lib.hid ht
    clear ht
    go_enter Try.func11, Try.ntmps11
    go_wp2_with fail
    go_loopw [5] (fun i wr => ∃ k : Nat, i = .int .i64 (k : Int) ∧ k ≤ n ∧ (∀ j, j < k → gp ps j = gp qs j) ∧ Below w.heap.size w wr) (fun i _ => n - (intOf i).toNat)
    case atStart => exact ⟨0, rfl, Nat.zero_le _, fun j hj => by omega, by go_grown⟩
    case round =>
      obtain ⟨k, rfl, hk, hall, hB⟩ := hrel
      have hsz := hB.size
      have HA := Lib.hid hall
      clear hall
      rcases Nat.lt_or_ge k n with hlt | hge
      · obtain ⟨b, off, rfl, hb, hc⟩ := pts_cells HP.out.2.2.1 (by omega)
        obtain ⟨b', off', rfl, hb', hc'⟩ := pts_cells HP.out.2.2.2 (by omega)
        have c0 := (hB.cell (p := ⟨b, off + k * 2, none⟩) (by show b < _; omega)).trans (hc k (by rw [HP.out.1]; exact hlt)).1
        have c1 := (hB.cell (p := ⟨b, off + k * 2 + 1, none⟩) (by show b < _; omega)).trans (hc k (by rw [HP.out.1]; exact hlt)).2
        have d0 := (hB.cell (p := ⟨b', off' + k * 2, none⟩) (by show b' < _; omega)).trans (hc' k (by rw [HP.out.2.1]; exact hlt)).1
        have d1 := (hB.cell (p := ⟨b', off' + k * 2 + 1, none⟩) (by show b' < _; omega)).trans (hc' k (by rw [HP.out.2.1]; exact hlt)).2
        have hbr : b < wr.heap.size := by omega
        have hbr' : b' < wr.heap.size := by omega
        have hkI : (k : Int) < (n : Int) := by omega
        obtain ⟨⟨x, y⟩, hx⟩ : ∃ z, gp ps k = z := ⟨_, rfl⟩
        obtain ⟨⟨x', y'⟩, hx'⟩ : ∃ z, gp qs k = z := ⟨_, rfl⟩
        rw [hx] at c0 c1
        rw [hx'] at d0 d1
        dsimp only at c0 c1 d0 d1
        have HX := Lib.hid (And.intro hx hx')
        clear hc hc' hx hx'
        rcases Decidable.em (x = x') with hxx | hxx
        · subst hxx
          rcases Decidable.em (y = y') with hyy | hyy
          · subst hyy
            go_wp2_with fail
            have hq_wr := @wd_cell wr
            refine wp_region_wd (by kernel_rfl) (by kernel_rfl) ?_
            repeat (go_big_quiet_step ((first | (fail))))
            refine wpQuiet_nil ?_
            rintro w5 ⟨⟨wx, hb_w5⟩, hwx⟩
            obtain rfl : w5 = wx := hwx
            clear hq_wr
            have hz_w5 := hb_w5.size
            obtain ⟨hc_w5, hf_w5⟩ := bcell hb_w5
            have hB_w5 : Below w.heap.size w w5 := Below.trans (by go_grown) (hb_w5.mono (by go_size))
            have hs_w5_0 : b < w5.heap.size := Nat.lt_of_lt_of_le (by assumption) hb_w5.size
            have hs_w5_1 : b' < w5.heap.size := Nat.lt_of_lt_of_le (by assumption) hb_w5.size
            go_wp2_with fail
            go_roundw
            case rel => exact ⟨k + 1, by simp, hlt, fun j hj => by
              rcases Nat.lt_or_ge j k with h | h
              · exact HA.out j h
              · rw [show j = k by omega, HX.out.1, HX.out.2], hB.trans (hb_w5.mono hsz)⟩
            case measure => simp [intOf]; omega
          · have hne : (y == y') = false := beq_eq_false_iff_ne.2 hyy
            obtain rfl : t = false := by
              rw [← HT.out]
              refine decide_eq_false fun e => hyy ?_
              have h1 := HX.out.1
              have h2 := HX.out.2
              rw [e, h2] at h1
              injection h1 with _ h3
              exact h3.symm
            go_wp2_with fail
            have hq_wr := @wd_cell wr
            refine wp_region_wd (by kernel_rfl) (by kernel_rfl) ?_
            repeat (go_big_quiet_step ((first | (fail))))
            refine wpQuiet_nil ?_
            rintro w5 ⟨⟨wx, hb_w5⟩, hwx⟩
            obtain rfl : w5 = wx := hwx
            clear hq_wr
            have hz_w5 := hb_w5.size
            obtain ⟨hc_w5, hf_w5⟩ := bcell hb_w5
            have hB_w5 : Below w.heap.size w w5 := Below.trans (by go_grown) (hb_w5.mono (by go_size))
            have hs_w5_0 : b < w5.heap.size := Nat.lt_of_lt_of_le (by assumption) hb_w5.size
            have hs_w5_1 : b' < w5.heap.size := Nat.lt_of_lt_of_le (by assumption) hb_w5.size
            go_wp2_with fail
            go_ret
            exact ⟨rfl, hB.trans (hb_w5.mono hsz)⟩
        · have hne : (x == x') = false := beq_eq_false_iff_ne.2 hxx
          obtain rfl : t = false := by
            rw [← HT.out]
            refine decide_eq_false fun e => hxx ?_
            have h1 := HX.out.1
            have h2 := HX.out.2
            rw [e, h2] at h1
            injection h1 with h3 _
            exact h3.symm
          go_wp2_with fail
          have hq_wr := @wd_cell wr
          refine wp_region_wd (by kernel_rfl) (by kernel_rfl) ?_
          repeat (go_big_quiet_step ((first | (fail))))
          refine wpQuiet_nil ?_
          rintro w5 ⟨⟨wx, hb_w5⟩, hwx⟩
          obtain rfl : w5 = wx := hwx
          clear hq_wr
          have hz_w5 := hb_w5.size
          obtain ⟨hc_w5, hf_w5⟩ := bcell hb_w5
          have hB_w5 : Below w.heap.size w w5 := Below.trans (by go_grown) (hb_w5.mono (by go_size))
          have hs_w5_0 : b < w5.heap.size := Nat.lt_of_lt_of_le (by assumption) hb_w5.size
          have hs_w5_1 : b' < w5.heap.size := Nat.lt_of_lt_of_le (by assumption) hb_w5.size
          go_wp2_with fail
          go_ret
          exact ⟨rfl, hB.trans (hb_w5.mono hsz)⟩
      · have hkI : ¬ (k : Int) < (n : Int) := by omega
        obtain rfl : t = true := by
          rw [← HT.out]
          refine decide_eq_true (gp_eq (by rw [HP.out.1, HP.out.2.1]) fun j hj => HA.out j (by rw [HP.out.1] at hj; omega))
        go_wp2_with fail
        go_ret
        exact ⟨rfl, hB⟩
  · rw [show decide (ps = qs) = false from decide_eq_false fun e => hnm (by rw [← hp, ← hq, e])]
    have hne : ((n : Int) == (m : Int)) = false := beq_eq_false_iff_ne.2 (by omega)
    have hne2 : ¬ (n : Int) = (m : Int) := by omega
    clear hp hq
    go_enter Try.func11, Try.ntmps11
    go_wp2_with fail
    go_ret
    exact ⟨rfl, by go_grown⟩

end Go.Proofs.Ythbndilnobjjgaa
