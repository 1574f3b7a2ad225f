/-
  The law's own has and turned.
-/
import Derived.Test.YtcpojadinkonnaaAroundM
import Derived.Deep.Cut
namespace Go.Proofs.Ytcpojadinkonnaa
open Go.RowKit

theorem gp_mem_iff {l : List Pt} {x : Pt} : x ∈ l ↔ ∃ i, i < l.length ∧ gp l i = x := by
  constructor
  · intro h
    obtain ⟨i, hi, e⟩ := List.getElem_of_mem h
    exact ⟨i, hi, by unfold gp; rw [List.getElem?_eq_getElem hi]; exact e⟩
  · rintro ⟨i, hi, rfl⟩
    exact gp_mem hi

set_option maxHeartbeats 1000000 in
set_option maxRecDepth 100000 in
theorem lawhas_any (ps : List Pt) (p : Pt) (M : Nat) (A : Option Addr) (c n : Nat) (hn : ps.length = n) (hlen : n * 8 ≤ 140737488355328) (w : World) (hP : PtsAt M w (.slice A n c) ps) (hM : M ≤ w.heap.size) :
    Calls Try.prog 24 #[.slice A n c, .agg #[.int .i32 p.1, .int .i32 p.2]] w fun e w' => e = .returned (.bool (decide (p ∈ ps))) ∧ Below w.heap.size w w' := by
  have HP := Lib.hid (And.intro hP hn)
  obtain ⟨t, ht⟩ : ∃ t : Bool, decide (p ∈ ps) = t := ⟨_, rfl⟩
  rw [ht]
  have HT := Lib.hid ht
  obtain ⟨p1, p2⟩ := p
  dsimp only
  clear hP hn ht
  go_enter Try.func24, Try.ntmps24
  go_wp2_with fail
  refine wp_gen (fun W0 hW0 => ?_)
  obtain ⟨X, hX⟩ : ∃ X, w.heap.size = X := ⟨_, rfl⟩
  have vX : Var W0 X 32 #[.int .i32 p1, .int .i32 p2] := by rw [hW0, ← hX]; exact Var.new _ _ _
  have hB0 : Below w.heap.size w W0 := by rw [hW0]; go_grown
  rw [hX]
  clear hW0
  go_loopw [5] (fun i wr => ∃ (k : Nat), k ≤ n ∧ i = .int .i64 (k : Int) ∧ (∀ j, j < k → gp ps j ≠ (p1, p2)) ∧ Var wr X 32 #[.int .i32 p1, .int .i32 p2] ∧ Below w.heap.size w wr) (fun i _ => n - (intOf i).toNat)
  case atStart => exact ⟨0, by omega, rfl, fun j hj => by omega, vX, hB0⟩
  case round =>
    obtain ⟨k, hk, rfl, hall, hvX, hB⟩ := hrel
    clear vX hB0
    have hz := hB.size
    rcases Nat.lt_or_ge k n with hlt | hge
    · obtain ⟨g, off, rfl, hg, hc⟩ := pts_cells HP.out.1 (by omega)
      have hkp : k < ps.length := by rw [HP.out.2]; exact hlt
      have c0 := (hB.cell (p := ⟨g, off + k * 2, none⟩) (show g < w.heap.size by omega)).trans (hc k hkp).1
      have c1 := (hB.cell (p := ⟨g, off + k * 2 + 1, none⟩) (show g < w.heap.size by omega)).trans (hc k hkp).2
      have hgz : g < wr.heap.size := by omega
      have hkI : (k : Int) < (n : Int) := by omega
      have dk : decide ((k : Int) < 0) = false := decide_eq_false (by omega)
      obtain ⟨⟨x, y⟩, hq⟩ : ∃ q, gp ps k = q := ⟨_, rfl⟩
      rw [hq] at c0 c1
      dsimp only at c0 c1
      have x0 := hvX.cell 0
      have x1 := hvX.cell 1
      have hXz := hvX.lt
      have HQ := Lib.hid (And.intro hq (And.intro hall (And.intro hvX (And.intro hB hkp))))
      clear hc hq hall hvX hB hkp
      have hnext : ∀ W5, Below wr.heap.size wr W5 → (x, y) ≠ (p1, p2) → (∀ j, j < k + 1 → gp ps j ≠ (p1, p2)) ∧ Var W5 X 32 #[.int .i32 p1, .int .i32 p2] ∧ Below w.heap.size w W5 := fun W5 hb5 hne => ⟨fun j hj => by
        rcases Nat.lt_or_ge j k with h | h
        · exact HQ.out.2.1 j h
        · rw [show j = k by omega, HQ.out.1]; exact hne, HQ.out.2.2.1.keep hb5, HQ.out.2.2.2.1.trans (hb5.mono hz)⟩
      have HN := Lib.hid hnext
      clear hnext
      rcases Decidable.em (p1 = x) with hxx | hxx
      · subst hxx
        rcases Decidable.em (p2 = y) with hyy | hyy
        · subst hyy
          obtain rfl : t = true := by
            rw [← HT.out]
            exact decide_eq_true (by rw [← HQ.out.1]; exact gp_mem HQ.out.2.2.2.2)
          go_wp2_with fail
          have hq_wr := @wd_cell wr
          refine wp_region_wd (by kernel_rfl) (by kernel_rfl) ?_
          repeat (go_big_quiet_step ((first | (fail))))
          refine wpQuiet_nil ?_
          rintro w5 ⟨⟨wx, hb_w5⟩, hwx⟩
          obtain rfl : w5 = wx := hwx
          clear hq_wr
          have hz_w5 := hb_w5.size
          obtain ⟨hc_w5, hf_w5⟩ := bcell hb_w5
          have hs_w5_0 : g < w5.heap.size := Nat.lt_of_lt_of_le (by assumption) hb_w5.size
          have hs_w5_1 : X < w5.heap.size := Nat.lt_of_lt_of_le (by assumption) hb_w5.size
          have HE := Lib.hid (HQ.out.2.2.2.1.trans (hb_w5.mono hz))
          clear hb_w5 hc_w5 hf_w5
          go_wp2_with fail
          go_ret
          exact ⟨rfl, by first | exact HE.out | (rw [← hX]; exact HE.out)⟩
        · have hne : (y == p2) = false := beq_eq_false_iff_ne.2 (Ne.symm hyy)
          go_wp2_with fail
          have hq_wr := @wd_cell wr
          refine wp_region_wd (by kernel_rfl) (by kernel_rfl) ?_
          repeat (go_big_quiet_step ((first | (fail))))
          refine wpQuiet_nil ?_
          rintro w5 ⟨⟨wx, hb_w5⟩, hwx⟩
          obtain rfl : w5 = wx := hwx
          clear hq_wr
          have hz_w5 := hb_w5.size
          obtain ⟨hc_w5, hf_w5⟩ := bcell hb_w5
          have hs_w5_0 : g < w5.heap.size := Nat.lt_of_lt_of_le (by assumption) hb_w5.size
          have hs_w5_1 : X < w5.heap.size := Nat.lt_of_lt_of_le (by assumption) hb_w5.size
          have HE := Lib.hid (HN.out w5 hb_w5 (fun e => hyy (by injection e with _ h; exact h.symm)))
          clear hb_w5 hc_w5 hf_w5
          go_wp2_with fail
          go_roundw
          case rel => exact ⟨k + 1, by omega, by simp, HE.out⟩
          case measure => simp [intOf]; omega
      · have hne : (x == p1) = false := beq_eq_false_iff_ne.2 (Ne.symm hxx)
        go_wp2_with fail
        have hq_wr := @wd_cell wr
        refine wp_region_wd (by kernel_rfl) (by kernel_rfl) ?_
        repeat (go_big_quiet_step ((first | (fail))))
        refine wpQuiet_nil ?_
        rintro w5 ⟨⟨wx, hb_w5⟩, hwx⟩
        obtain rfl : w5 = wx := hwx
        clear hq_wr
        have hz_w5 := hb_w5.size
        obtain ⟨hc_w5, hf_w5⟩ := bcell hb_w5
        have hs_w5_0 : g < w5.heap.size := Nat.lt_of_lt_of_le (by assumption) hb_w5.size
        have hs_w5_1 : X < w5.heap.size := Nat.lt_of_lt_of_le (by assumption) hb_w5.size
        have HE := Lib.hid (HN.out w5 hb_w5 (fun e => hxx (by injection e with h _; exact h.symm)))
        clear hb_w5 hc_w5 hf_w5
        go_wp2_with fail
        go_roundw
        case rel => exact ⟨k + 1, by omega, by simp, HE.out⟩
        case measure => simp [intOf]; omega
    · have hkI : ¬ (k : Int) < (n : Int) := by omega
      obtain rfl : t = false := by
        rw [← HT.out]
        refine decide_eq_false fun h => ?_
        obtain ⟨i, hi, e⟩ := gp_mem_iff.1 h
        exact hall i (by rw [HP.out.2] at hi; omega) e
      clear hall
      go_wp2_with fail
      go_ret
      exact ⟨rfl, by first | exact hB | (rw [← hX]; exact hB)⟩

theorem rot_mem {ps : List Pt} {n r : Nat} (hn : ps.length = n) (x : Pt) : x ∈ (List.range n).map (fun i => gp ps ((r + i) % n)) ↔ x ∈ ps := by
  have h := (rot_perm n r).map (gp ps)
  rw [List.map_map] at h
  have : x ∈ (List.range n).map (fun i => gp ps ((r + i) % n)) ↔ x ∈ (List.range n).map (gp ps) := h.mem_iff
  rw [this, List.mem_map, gp_mem_iff (l := ps), hn]
  simp only [List.mem_range]

set_option maxHeartbeats 1000000 in
set_option maxRecDepth 100000 in
theorem turned_any (ps : List Pt) (z : Int) (_hz : -9223372036854775808 ≤ z ∧ z ≤ 9223372036854775807) (M : Nat) (A : Option Addr) (c n : Nat) (hn : ps.length = n) (hlen : n * 16 ≤ 140737488355328) (w : World) (hP : PtsAt M w (.slice A n c) ps) (hM : M ≤ w.heap.size) :
    Calls Try.prog 25 #[.slice A n c, .int .i64 z] w fun e w' => ∃ (A' : Option Addr) (c' m : Nat) (qs : List Pt), e = .returned (.slice A' m c') ∧ qs.length = m ∧ m ≤ n + 1 ∧ (∀ x, x ∈ qs ↔ x ∈ ps) ∧ w'.ownsRow w.heap.size 32 2 (.slice A' m c') m (flat qs) ∧ Below w.heap.size w w' := by
  have HP := Lib.hid (And.intro hP hn)
  clear hP
  rcases Nat.eq_zero_or_pos n with h0 | h0
  · subst h0
    obtain rfl : ps = [] := List.eq_nil_of_length_eq_zero hn
    clear hn _hz
    go_enter Try.func25, Try.ntmps25
    go_wp2_with fail
    go_loopw [5, 6] (fun o i wr => o = .slice none 0 0 ∧ i = .int .i64 0 ∧ Below w.heap.size w wr) (fun _ _ _ => 0)
    case atStart => exact ⟨rfl, rfl, Below.refl _ _⟩
    case round =>
      obtain ⟨rfl, rfl, hB⟩ := hrel
      go_wp2_with fail
      go_loopw [7] (fun i wr => i = .int .i64 0 ∧ Below w.heap.size w wr) (fun _ _ => 0)
      case atStart => exact ⟨rfl, hB⟩
      case round =>
        clear hB
        obtain ⟨rfl, hB⟩ := hrel
        go_wp2_with fail
        go_ret
        exact ⟨none, 0, 0, [], rfl, rfl, by omega, fun x => Iff.rfl, World.ownsRow_nil _ _ _ _, hB⟩
  · obtain ⟨T, hT⟩ : ∃ T, z.tmod (n : Int) = T := ⟨_, rfl⟩
    have hT1 : -(n : Int) < T ∧ T < (n : Int) := by
      rw [← hT]
      exact ⟨Int.neg_lt_of_neg_lt (by first | (have := Int.lt_tmod_of_pos z (show (0 : Int) < n by omega); omega)), Int.tmod_lt_of_pos z (by omega)⟩
    obtain ⟨r, hr⟩ : ∃ r : Nat, (r : Int) = T + n := ⟨(T + n).toNat, by omega⟩
    have hn0 : ¬ (n : Int) = 0 := by omega
    have hn0b : ((n : Int) == 0) = false := by simp; omega
    have hw1 : IntKind.i64.wrap (T + (n : Int)) = (r : Int) := by simp only [IntKind.wrap, IntKind.signed, IntKind.bits]; simp; omega
    have hr2 : r < 2 * n := by omega
    obtain ⟨g, off, rfl, hg, hc⟩ := pts_cells HP.out.1 h0
    have HC := Lib.hid (fun W (hb : Below w.heap.size w W) j (hj : j < n) => (show W.cell? ⟨g, off + j * 2, none⟩ = some (.int .i32 (gp ps j).1) ∧ W.cell? ⟨g, off + j * 2 + 1, none⟩ = some (.int .i32 (gp ps j).2) from ⟨(hb.cell (p := ⟨g, off + j * 2, none⟩) (show g < w.heap.size by omega)).trans (hc j (by omega)).1, (hb.cell (p := ⟨g, off + j * 2 + 1, none⟩) (show g < w.heap.size by omega)).trans (hc j (by omega)).2⟩))
    obtain ⟨f, hf⟩ : ∃ f : Nat → Pt, f = fun i => gp ps ((r + i) % n) := ⟨_, rfl⟩
    have HF := Lib.hid (And.intro hf hn)
    clear hr hc hn hT1 hf
    go_enter Try.func25, Try.ntmps25
    go_wp2_with fail
    go_loopw [5, 6] (fun o i wr => ∃ (k co : Nat) (Ao : Option Addr), k ≤ n ∧ i = .int .i64 (k : Int) ∧ o = .slice Ao k co ∧ wr.ownsRow w.heap.size 32 2 (.slice Ao k co) k (flat ((List.range k).map f)) ∧ Below w.heap.size w wr) (fun _ i _ => n - (intOf i).toNat)
    case atStart => exact ⟨0, 0, none, by omega, rfl, rfl, World.ownsRow_nil _ _ _ _, Below.refl _ _⟩
    case round =>
      obtain ⟨k, co, Ao, hk, rfl, rfl, hown, hB⟩ := hrel
      have hzz := hB.size
      rcases Nat.lt_or_ge k n with hlt | hge
      · have hkI : (k : Int) < (n : Int) := by omega
        obtain ⟨s, hs⟩ : ∃ s, r + k = s := ⟨_, rfl⟩
        have hw2 : IntKind.i64.wrap ((r : Int) + (k : Int)) = (s : Int) := by simp only [IntKind.wrap, IntKind.signed, IntKind.bits]; simp; omega
        obtain ⟨q, hq⟩ : ∃ q, s % n = q := ⟨_, rfl⟩
        have hmod : (s : Int).tmod (n : Int) = (q : Int) := by rw [← hq]; exact (Int.ofNat_tmod s n).symm
        have hqn : q < n := by rw [← hq]; exact Nat.mod_lt _ h0
        have hqI : (q : Int) < (n : Int) := by omega
        obtain ⟨c0, c1⟩ := HC.out wr hB q hqn
        have hfk : f k = gp ps q := by rw [HF.out.1]; dsimp only; rw [hs, hq]
        have HK := Lib.hid hfk
        have HO := Lib.hid hB
        clear hs hq hfk
        go_wp2_with (at_builtin; refine wpList_push rfl (.tmp 15) (.tmp 31) 23 rfl eltP w.heap.size Ao k co _ rfl hown [_, _] rfl rfl (two_cells rfl rfl) (le_maxLen (by omega)) (by omega) hzz ?_; intro A' c' w' hown' hg')
        have hB6 := below_push HO.out hown (Nat.le_refl _) hzz hg'
        go_roundw
        case rel => exact ⟨k + 1, c', A', by omega, by simp, rfl, by rw [List.range_succ, List.map_append, List.map_singleton, flat_snoc, HK.out]; exact hown', hB6⟩
        case measure => simp [intOf]; omega
      · have hkI : ¬ (k : Int) < (n : Int) := by omega
        have hkn : k = n := by omega
        have hown0 : wr.ownsRow w.heap.size 32 2 (.slice Ao n co) n (flat ((List.range n).map f)) := by rw [← hkn]; exact hown
        rw [hkn]
        clear hown hkn hkI hge hk
        obtain ⟨qs, hqs⟩ : ∃ q, (List.range n).map f = q := ⟨_, rfl⟩
        rw [hqs] at hown0
        have hql : qs.length = n := by rw [← hqs]; simp
        have hqm : ∀ x, x ∈ qs ↔ x ∈ ps := fun x => by rw [← hqs, HF.out.1]; exact rot_mem HF.out.2 x
        obtain ⟨go, rfl, hgo, hgoz, _⟩ := own_cells hown0 (by omega)
        obtain ⟨h, hh⟩ : ∃ h, n / 2 = h := ⟨_, rfl⟩
        have hdiv : (n : Int).tdiv 2 = (h : Int) := by rw [← hh]; exact (Int.ofNat_tdiv n 2).symm
        have hh2 : 2 * h ≤ n := by omega
        have hh3 : n ≤ 2 * h + 1 := by omega
        have hn1 : IntKind.i64.wrap ((n : Int) - 1) = (n : Int) - 1 := by simp only [IntKind.wrap, IntKind.signed, IntKind.bits]; simp; omega
        have HQ := Lib.hid (And.intro hql hqm)
        have HO := Lib.hid (And.intro hown0 hB)
        have HZ := Lib.hid hzz
        clear hqs hql hqm hown0 hB hh hw1 hr2 HC hzz
        go_wp2_with fail
        go_loopw [7] (fun i wr => ∃ (k : Nat) (R : List Pt), k ≤ h ∧ i = .int .i64 (k : Int) ∧ R.length = n ∧ (∀ t, t < n → gp R t = if t < k ∨ n - 1 - k < t then gp qs (n - 1 - t) else gp qs t) ∧ wr.ownsRow w.heap.size 32 2 (.slice (some ⟨go, 0, none⟩) n co) n (flat R) ∧ Below w.heap.size w wr) (fun i _ => h - (intOf i).toNat)
        case atStart => exact ⟨0, qs, by omega, rfl, HQ.out.1, fun t ht => by rw [if_neg (by omega)], HO.out⟩
        case round =>
          obtain ⟨k, R, hk, rfl, hR, hall, hown, hB⟩ := hrel
          have hzz := hB.size
          have HA := Lib.hid (And.intro hR (And.intro hall (And.intro hown hB)))
          rcases Nat.lt_or_ge k h with hlt | hge
          · have hkI : (k : Int) < (h : Int) := by omega
            obtain ⟨m, hm⟩ : ∃ m, n - 1 - k = m := ⟨_, rfl⟩
            have hmI : IntKind.i64.wrap ((n : Int) - 1 - (k : Int)) = (m : Int) := by simp only [IntKind.wrap, IntKind.signed, IntKind.bits]; simp; omega
            have hkn : (k : Int) < (n : Int) := by omega
            have hmn : (m : Int) < (n : Int) := by omega
            have hkm : k < m := by omega
            obtain ⟨_, e0, _, hgz, hfz, hcell⟩ := own_cells hown (by omega)
            injection e0 with e0
            injection e0 with e0
            subst e0
            obtain ⟨a0, a1⟩ := hcell k (by omega)
            obtain ⟨p, hp⟩ : ∃ p, gp R k = p := ⟨_, rfl⟩
            obtain ⟨q, hq⟩ : ∃ q, gp R m = q := ⟨_, rfl⟩
            rw [hp] at a0 a1
            have HQ2 := Lib.hid (And.intro hp (And.intro hq hm))
            clear hcell hp hq hR hall hown hfz
            go_upto_region 10 with fail
            refine wp_gen (fun W hW => ?_)
            obtain ⟨X, hX⟩ : ∃ X, wr.heap.size = X := ⟨_, rfl⟩
            have vX : Var W X 32 #[.int .i32 p.1, .int .i32 p.2] := by rw [hW, ← hX]; exact Var.new _ _ _
            have hbW : Below wr.heap.size wr W := by rw [hW]; go_grown
            have ownW := own_keepH HA.out.2.2.1 hbW
            have BW := HA.out.2.2.2.trans (hbW.mono hzz)
            obtain ⟨_, e1, _, hgW, fzW, cellW⟩ := own_cells ownW (by omega)
            injection e1 with e1
            injection e1 with e1
            subst e1
            have hgX : go ≠ X := by omega
            rw [hX]
            obtain ⟨d0, d1⟩ := cellW k (by have := HA.out.1; omega)
            obtain ⟨b0, b1⟩ := cellW m (by have := HA.out.1; omega)
            rw [HQ2.out.1] at d0 d1
            rw [HQ2.out.2.1] at b0 b1
            have x0 := vX.cell 0
            have x1 := vX.cell 1
            have zX := vX.lt
            have g1 := fzW (k * 2)
            have g2 := fzW (k * 2 + 1)
            have g3 := fzW (m * 2)
            have g4 := fzW (m * 2 + 1)
            obtain ⟨u1, k1⟩ := cell?_setCell_some (p := ⟨go, k * 2, none⟩) (x := .int .i32 q.1) d1
            obtain ⟨u2, k2⟩ := cell?_setCell_some (p := ⟨go, k * 2, none⟩) (x := .int .i32 q.1) b0
            obtain ⟨u3, k3⟩ := cell?_setCell_some (p := ⟨go, k * 2 + 1, none⟩) (x := .int .i32 q.2) k2
            obtain ⟨u4, k4⟩ := cell?_setCell_some (p := ⟨go, k * 2, none⟩) (x := .int .i32 q.1) b1
            obtain ⟨u5, k5⟩ := cell?_setCell_some (p := ⟨go, k * 2 + 1, none⟩) (x := .int .i32 q.2) k4
            obtain ⟨u6, k6⟩ := cell?_setCell_some (p := ⟨go, m * 2, none⟩) (x := .int .i32 p.1) k5
            have hXgo : X ≠ go := Ne.symm hgX
            have own2 := own_set (own_set ownW HA.out.1 (show k < n by omega) q) (by rw [List.length_set]; exact HA.out.1) (show m < n by omega) p
            have hB2 : Below w.heap.size w ((((W.setCell ⟨go, k * 2, none⟩ (.int .i32 q.1)).setCell ⟨go, k * 2 + 1, none⟩ (.int .i32 q.2)).setCell ⟨go, m * 2, none⟩ (.int .i32 p.1)).setCell ⟨go, m * 2 + 1, none⟩ (.int .i32 p.2)) :=
              ((((BW.setCell (p := ⟨go, k * 2, none⟩) hgo _).setCell (p := ⟨go, k * 2 + 1, none⟩) hgo _).setCell (p := ⟨go, m * 2, none⟩) hgo _).setCell (p := ⟨go, m * 2 + 1, none⟩) hgo _)
            have HE := Lib.hid (And.intro own2 hB2)
            clear hW hbW ownW BW cellW vX own2 hB2 fzW hX a0 a1 hB
            go_wp2_with fail
            go_roundw
            case rel =>
              obtain ⟨hp, hq, hm⟩ := HQ2.out
              refine ⟨k + 1, (R.set k q).set m p, by omega, by simp, by rw [List.length_set, List.length_set]; exact HA.out.1, fun t ht => ?_, HE.out⟩
              have hR := HA.out.1
              have hall := HA.out.2.1
              rw [gp_set (by rw [List.length_set]; omega), gp_set (by omega)]
              by_cases h1 : t = m
              · rw [if_pos h1, if_pos (by omega), ← hp, hall k (by omega), if_neg (by omega)]
                rw [show n - 1 - t = k by omega]
              · rw [if_neg h1]
                by_cases h2 : t = k
                · rw [if_pos h2, if_pos (by omega), ← hq, hall m (by omega), if_neg (by omega)]
                  rw [show n - 1 - t = m by omega]
                · rw [if_neg h2, hall t ht]
                  by_cases h3 : t < k ∨ n - 1 - k < t
                  · rw [if_pos h3, if_pos (by omega)]
                  · rw [if_neg h3, if_neg (by omega)]
            case measure => simp [intOf]; omega
          · have hkI : ¬ (k : Int) < (h : Int) := by omega
            have hfin : R = qs.reverse := gp_eq (by rw [hR, List.length_reverse, HQ.out.1]) fun t ht => by
              rw [hR] at ht
              rw [gp_rev (by rw [HQ.out.1]; exact ht), HQ.out.1, hall t ht]
              by_cases h : t < k ∨ n - 1 - k < t
              · rw [if_pos h]
              · rw [if_neg h, show n - 1 - t = t by omega]
            subst hfin
            obtain ⟨_, e0, _, hgz, _, hcell⟩ := own_cells hown (by omega)
            injection e0 with e0
            injection e0 with e0
            subst e0
            obtain ⟨a0, a1⟩ := hcell 0 (by omega)
            rw [Nat.zero_mul] at a0 a1
            have hm0 : gp qs.reverse 0 ∈ qs := List.mem_reverse.1 (gp_mem (by omega))
            obtain ⟨p, hp⟩ : ∃ p, gp qs.reverse 0 = p := ⟨_, rfl⟩
            rw [hp] at a0 a1 hm0
            have h0I : (0 : Int) < (n : Int) := by omega
            have HB := Lib.hid (And.intro hB hm0)
            clear hcell hp hR hall hB hm0
            go_wp2_with (at_builtin; refine wpList_push rfl (.tmp 66) (.tmp 70) 23 rfl eltP w.heap.size (some ⟨go, 0, none⟩) n co _ rfl hown [_, _] rfl rfl (two_cells rfl rfl) (le_maxLen (by omega)) (by omega) hzz ?_; intro A' c' w' hown' hg')
            have hB6 := below_push HB.out.1 hown (Nat.le_refl _) hzz hg'
            have HE := Lib.hid (show (qs.reverse ++ [p]).length = n + 1 ∧ n + 1 ≤ n + 1 ∧ (∀ x, x ∈ qs.reverse ++ [p] ↔ x ∈ ps) ∧ w'.ownsRow w.heap.size 32 2 (.slice A' (n + 1) c') (n + 1) (flat (qs.reverse ++ [p])) ∧ Below w.heap.size w w' from
              ⟨by rw [List.length_append, List.length_reverse, HQ.out.1]; rfl, Nat.le_refl _, fun x => by
                rw [mem_snoc, List.mem_reverse, ← HQ.out.2 x]
                exact ⟨fun h => h.elim id (fun e => by rw [e]; exact HB.out.2), .inl⟩, by rw [flat_snoc]; exact hown', hB6⟩)
            clear hown hown' hg' hB6
            go_wp2_with fail
            go_ret
            exact ⟨A', c', n + 1, rfl, qs.reverse ++ [p], HE.out.1, HE.out.2.1, fun a b => HE.out.2.2.1 (a, b), HE.out.2.2.2⟩

end Go.Proofs.Ytcpojadinkonnaa
