/-
  The program's Convex; the document's once, follows.
-/
import Derived.Test.YtcpojadinkonnaaHullP
import Derived.Test.YtcpojadinkonnaaTurnH
namespace Go.Proofs.Ytcpojadinkonnaa
open Go.RowKit

set_option maxHeartbeats 1000000 in
theorem convex_any (ps : List Pt) (hps : ∀ p ∈ ps, IPt p) (M : Nat) (A : Option Addr) (c n : Nat) (hn : ps.length = n) (hlen : n * 16 ≤ 140737488355328) (w : World) (hP : PtsAt M w (.slice A n c) ps) (hM : M ≤ w.heap.size) :
    Calls Try.prog 19 #[.slice A n c] w fun e w' => e = .returned (.bool (decide (ps = hullL ps))) ∧ Below w.heap.size w w' := by
  have H0 := Lib.hid (hull_any ps hps M A c n hn hlen w hP hM)
  have HP := Lib.hid hP
  obtain ⟨t, ht⟩ : ∃ t : Bool, decide (ps = hullL ps) = t := ⟨_, rfl⟩
  rw [ht]
  have HT := Lib.hid ht
  clear hP ht
  go_enter Try.func19, Try.ntmps19
  go_wp2_with fail
  refine H0.out.mono ?_
  rintro e w1 ⟨A1, c1, m, rfl, hm, hown, hb⟩
  have hz := hb.size
  have H1 := Lib.hid (And.intro hm (And.intro hown hb))
  clear hm hown hb
  go_wp2_with fail
  refine (equalP_is A A1 n m c c1 ps (hullL ps) w1.heap.size hn H1.out.1 (by omega) w1 (Nat.le_refl _) ((HP.out.below (H1.out.2.2.mono hM)).up (by omega)) (ptsAt_of_own H1.out.2.1 H1.out.1)).mono ?_
  rintro e w2 ⟨rfl, hb2⟩
  rw [HT.out]
  have H2 := Lib.hid (H1.out.2.2.trans (hb2.mono hz))
  clear hb2
  go_wp2_with fail
  go_ret
  exact ⟨rfl, H2.out⟩

set_option maxHeartbeats 1000000 in
set_option maxRecDepth 100000 in
theorem once_ref (ps : List Pt) (M : Nat) (A : Option Addr) (c n : Nat) (hn : ps.length = n) (hlen : n * 8 ≤ 140737488351232) (w : World) (hP : PtsAt M w (.slice A n c) ps) (hM : M ≤ w.heap.size) :
    Calls Try.prog 39 #[.slice A n c] w fun e w' => ∃ (A' : Option Addr) (c' m : Nat), e = .returned (.slice A' m c') ∧ (dd (srt ps)).length = m ∧ w'.ownsRow w.heap.size 32 2 (.slice A' m c') m (flat (dd (srt ps))) ∧ Below w.heap.size w w' := by
  have H0 := Lib.hid (sorted_ref ps M A c n hn (by omega) w hP hM)
  have hsl : (srt ps).length = n := by rw [(srt_perm ps).length_eq, hn]
  have HS := Lib.hid hsl
  clear hP hsl
  go_enter Try.func39, Try.ntmps39
  go_wp2_with fail
  refine H0.out.mono ?_
  rintro e w1 ⟨v1, qs, rfl, hp1, ho1, hown1, hb1⟩
  obtain rfl : qs = srt ps := srt_eq hp1 ho1
  obtain ⟨A1, c1, rfl⟩ : ∃ A1 c1, v1 = .slice A1 n c1 := by
    rcases hown1.2 with ⟨rfl, rfl⟩ | ⟨g, cap, cur, rfl, _⟩ <;> exact ⟨_, _, rfl⟩
  have hz1 := hb1.size
  have H1 := Lib.hid (And.intro hown1 hb1)
  clear hp1 ho1 hown1 hb1
  go_wp2_with fail
  go_loopw [3, 5] (fun o i wr => ∃ (k m co : Nat) (Ao : Option Addr), k ≤ n ∧ i = .int .i64 (k : Int) ∧ o = .slice Ao m co ∧ (dd ((srt ps).take k)).length = m ∧ wr.ownsRow w1.heap.size 32 2 (.slice Ao m co) m (flat (dd ((srt ps).take k))) ∧ Below w1.heap.size w1 wr) (fun _ i _ => n - (intOf i).toNat)
  case atStart => exact ⟨0, 0, 0, none, by omega, rfl, rfl, rfl, World.ownsRow_nil _ _ _ _, Below.refl _ _⟩
  case round =>
    obtain ⟨k, m, co, Ao, hk, rfl, rfl, hm, hown, hB1⟩ := hrel
    have hz2 := hB1.size
    have hmk : m ≤ k := by
      have := dd_len ((srt ps).take k)
      rw [List.length_take] at this
      omega
    have HR := Lib.hid (And.intro hm (And.intro hown hB1))
    rcases Nat.lt_or_ge k n with hlt | hge
    · have hownS := own_keepH H1.out.1 hB1
      obtain ⟨g, rfl, _, hgz, _, hcell⟩ := own_cells hownS (by omega)
      have hkI : (k : Int) < (n : Int) := by omega
      obtain ⟨a0, a1⟩ := hcell k (by rw [HS.out]; exact hlt)
      obtain ⟨⟨x, y⟩, hp⟩ : ∃ p, gp (srt ps) k = p := ⟨_, rfl⟩
      rw [hp] at a0 a1
      have HP := Lib.hid hp
      dsimp only at a0 a1
      have dk : decide ((k : Int) < 0) = false := decide_eq_false (by omega)
      rcases Nat.eq_zero_or_pos k with hk0 | hk0
      · have hkz : ((k : Int) == 0) = true := by simp; omega
        have HK := Lib.hid hk0
        clear hm hown hB1 hownS hcell hp hk0
        go_wp2_with fail
        have hq_wr := @wd_cell wr
        refine wp_region_wd (by kernel_rfl) (by kernel_rfl) ?_
        repeat (go_big_quiet_step ((first | (fail))))
        refine wpQuiet_nil ?_
        rintro w5 ⟨⟨wx, hb_w5⟩, hwx⟩
        obtain rfl : w5 = wx := hwx
        clear hq_wr
        have hz_w5 := hb_w5.size
        obtain ⟨hc_w5, hf_w5⟩ := bcell hb_w5
        have hs_w5_0 : g < w5.heap.size := Nat.lt_of_lt_of_le (by assumption) hb_w5.size
        have own5 := own_keepH HR.out.2.1 hb_w5
        have B5 := HR.out.2.2.trans (hb_w5.mono hz2)
        have hz5 := B5.size
        have s5 := own_keepH H1.out.1 B5
        obtain ⟨_, e5, _, hgz5, _, cell5⟩ := own_cells s5 (by omega)
        injection e5 with e5
        injection e5 with e5
        subst e5
        obtain ⟨d0, d1⟩ := cell5 k (by rw [HS.out]; exact hlt)
        rw [HP.out] at d0 d1
        have H5 := Lib.hid B5
        clear hb_w5 hc_w5 hf_w5 cell5 s5 a0 a1 B5
        go_wp2_with (at_builtin; refine wpList_push rfl (.tmp 28) (.tmp 33) 23 rfl eltP w1.heap.size Ao m co _ rfl own5 [_, _] rfl rfl (two_cells rfl rfl) (le_maxLen (by omega)) (by omega) hz5 ?_; intro A' c' w' hown' hg')
        have hB6 := below_push H5.out own5 (Nat.le_refl _) hz5 hg'
        have hend : dd ((srt ps).take (k + 1)) = dd ((srt ps).take k) ++ [(x, y)] := by have := HK.out; subst this; rw [dd_one (by rw [HS.out]; omega), HP.out]; rfl
        go_roundw
        case rel => exact ⟨k + 1, m + 1, c', A', by omega, by simp, rfl, by rw [hend, List.length_append, HR.out.1]; rfl, by rw [hend, flat_snoc]; exact hown', hB6⟩
        case measure => simp [intOf]; omega
      · have hkz : ((k : Int) == 0) = false := by simp; omega
        obtain ⟨j, hj⟩ : ∃ j, k = j + 1 := ⟨k - 1, by omega⟩
        obtain ⟨b0, b1⟩ := hcell j (by rw [HS.out]; omega)
        obtain ⟨⟨x', y'⟩, hq⟩ : ∃ p, gp (srt ps) j = p := ⟨_, rfl⟩
        rw [hq] at b0 b1
        dsimp only at b0 b1
        have hjI : (j : Int) < (n : Int) := by omega
        have hwj : IntKind.i64.wrap ((k : Int) - 1) = (j : Int) := by simp only [IntKind.wrap, IntKind.signed, IntKind.bits]; simp; omega
        have dj : decide ((j : Int) < 0) = false := decide_eq_false (by omega)
        have hnew : (x, y) ≠ (x', y') → dd ((srt ps).take (k + 1)) = dd ((srt ps).take k) ++ [(x, y)] := fun h => by
          rw [dd_new (by omega) (by rw [HS.out]; exact hlt) (by rw [hp, show k - 1 = j by omega, hq]; exact h), hp]
        have hold : (x, y) = (x', y') → dd ((srt ps).take (k + 1)) = dd ((srt ps).take k) := fun h => by
          rw [dd_same (by omega) (by rw [HS.out]; exact hlt) (by rw [hp, show k - 1 = j by omega, hq]; exact h)]
        have HNw := Lib.hid (And.intro hnew hold)
        clear hm hown hB1 hownS hcell hp hq hj hnew hold
        rcases Decidable.em (x = x') with hxx | hxx
        · subst hxx
          rcases Decidable.em (y = y') with hyy | hyy
          · subst hyy
            go_wp2_with fail
            have hq_wr := @wd_cell wr
            refine wp_region_wd (by kernel_rfl) (by kernel_rfl) ?_
            repeat (go_big_quiet_step ((first | (fail))))
            refine wpQuiet_nil ?_
            rintro w5 ⟨⟨wx, hb_w5⟩, hwx⟩
            obtain rfl : w5 = wx := hwx
            clear hq_wr
            have hz_w5 := hb_w5.size
            obtain ⟨hc_w5, hf_w5⟩ := bcell hb_w5
            have hs_w5_0 : g < w5.heap.size := Nat.lt_of_lt_of_le (by assumption) hb_w5.size
            have HE := Lib.hid (And.intro (own_keepH HR.out.2.1 hb_w5) (HR.out.2.2.trans (hb_w5.mono hz2)))
            clear hb_w5 hc_w5 hf_w5 a0 a1 b0 b1
            go_wp2_with fail
            go_roundw
            case rel => exact ⟨k + 1, m, co, Ao, by omega, by simp, rfl, by rw [HNw.out.2 (by trivial)]; exact HR.out.1, by rw [HNw.out.2 (by trivial)]; exact HE.out.1, HE.out.2⟩
            case measure => simp [intOf]; omega
          · have hne : (y == y') = false := beq_eq_false_iff_ne.2 hyy
            go_wp2_with fail
            have hq_wr := @wd_cell wr
            refine wp_region_wd (by kernel_rfl) (by kernel_rfl) ?_
            repeat (go_big_quiet_step ((first | (fail))))
            refine wpQuiet_nil ?_
            rintro w5 ⟨⟨wx, hb_w5⟩, hwx⟩
            obtain rfl : w5 = wx := hwx
            clear hq_wr
            have hz_w5 := hb_w5.size
            obtain ⟨hc_w5, hf_w5⟩ := bcell hb_w5
            have hs_w5_0 : g < w5.heap.size := Nat.lt_of_lt_of_le (by assumption) hb_w5.size
            have own5 := own_keepH HR.out.2.1 hb_w5
            have B5 := HR.out.2.2.trans (hb_w5.mono hz2)
            have hz5 := B5.size
            have s5 := own_keepH H1.out.1 B5
            obtain ⟨_, e5, _, hgz5, _, cell5⟩ := own_cells s5 (by omega)
            injection e5 with e5
            injection e5 with e5
            subst e5
            obtain ⟨d0, d1⟩ := cell5 k (by rw [HS.out]; exact hlt)
            rw [HP.out] at d0 d1
            have H5 := Lib.hid B5
            clear hb_w5 hc_w5 hf_w5 cell5 s5 a0 a1 b0 b1 B5
            go_wp2_with (at_builtin; refine wpList_push rfl (.tmp 28) (.tmp 33) 23 rfl eltP w1.heap.size Ao m co _ rfl own5 [_, _] rfl rfl (two_cells rfl rfl) (le_maxLen (by omega)) (by omega) hz5 ?_; intro A' c' w' hown' hg')
            have hB6 := below_push H5.out own5 (Nat.le_refl _) hz5 hg'
            have hend : dd ((srt ps).take (k + 1)) = dd ((srt ps).take k) ++ [(x, y)] := HNw.out.1 (fun e => hyy (by injection e))
            go_roundw
            case rel => exact ⟨k + 1, m + 1, c', A', by omega, by simp, rfl, by rw [hend, List.length_append, HR.out.1]; rfl, by rw [hend, flat_snoc]; exact hown', hB6⟩
            case measure => simp [intOf]; omega
        · have hne : (x == x') = false := beq_eq_false_iff_ne.2 hxx
          go_wp2_with fail
          have hq_wr := @wd_cell wr
          refine wp_region_wd (by kernel_rfl) (by kernel_rfl) ?_
          repeat (go_big_quiet_step ((first | (fail))))
          refine wpQuiet_nil ?_
          rintro w5 ⟨⟨wx, hb_w5⟩, hwx⟩
          obtain rfl : w5 = wx := hwx
          clear hq_wr
          have hz_w5 := hb_w5.size
          obtain ⟨hc_w5, hf_w5⟩ := bcell hb_w5
          have hs_w5_0 : g < w5.heap.size := Nat.lt_of_lt_of_le (by assumption) hb_w5.size
          have own5 := own_keepH HR.out.2.1 hb_w5
          have B5 := HR.out.2.2.trans (hb_w5.mono hz2)
          have hz5 := B5.size
          have s5 := own_keepH H1.out.1 B5
          obtain ⟨_, e5, _, hgz5, _, cell5⟩ := own_cells s5 (by omega)
          injection e5 with e5
          injection e5 with e5
          subst e5
          obtain ⟨d0, d1⟩ := cell5 k (by rw [HS.out]; exact hlt)
          rw [HP.out] at d0 d1
          have H5 := Lib.hid B5
          clear hb_w5 hc_w5 hf_w5 cell5 s5 a0 a1 b0 b1 B5
          go_wp2_with (at_builtin; refine wpList_push rfl (.tmp 28) (.tmp 33) 23 rfl eltP w1.heap.size Ao m co _ rfl own5 [_, _] rfl rfl (two_cells rfl rfl) (le_maxLen (by omega)) (by omega) hz5 ?_; intro A' c' w' hown' hg')
          have hB6 := below_push H5.out own5 (Nat.le_refl _) hz5 hg'
          have hend : dd ((srt ps).take (k + 1)) = dd ((srt ps).take k) ++ [(x, y)] := HNw.out.1 (fun e => hxx (by injection e))
          go_roundw
          case rel => exact ⟨k + 1, m + 1, c', A', by omega, by simp, rfl, by rw [hend, List.length_append, HR.out.1]; rfl, by rw [hend, flat_snoc]; exact hown', hB6⟩
          case measure => simp [intOf]; omega
    · have hkI : ¬ (k : Int) < (n : Int) := by omega
      have htk : (srt ps).take k = srt ps := List.take_of_length_le (by rw [HS.out]; exact hge)
      rw [htk] at hm hown
      have HE := Lib.hid (And.intro hm (And.intro (own_baseS hown hz1) (H1.out.2.trans (hB1.mono hz1))))
      clear hm hown hB1 htk
      go_wp2_with fail
      go_ret
      exact ⟨Ao, co, m, rfl, HE.out⟩

end Go.Proofs.Ytcpojadinkonnaa
