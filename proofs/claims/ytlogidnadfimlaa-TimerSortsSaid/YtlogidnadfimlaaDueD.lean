/-
  A due brought down in the heap.
-/
import Derived.Test.YtlogidnadfimlaaDueU
namespace Go.Proofs.Ytlogidnadfimlaa
open Go.RowKit Go.Maps

/-- m is the least of j and of its first q children. -/
structure LeastQ (l : List Du) (j q m : Nat) : Prop where
  lt : m < l.length
  at_ : m = j ∨ (0 < m ∧ (m - 1) / 2 = j ∧ duLt (gd l m) (gd l j))
  le : ¬ duLt (gd l j) (gd l m)
  ch : ∀ e, e < q → 2 * j + 1 + e < l.length → ¬ duLt (gd l (2 * j + 1 + e)) (gd l m)
theorem least_start {l : List Du} {j : Nat} (h : j < l.length) : LeastQ l j 0 j := ⟨h, .inl rfl, du_irr, fun _e he => absurd he (Nat.not_lt_zero _)⟩
theorem least_no {l : List Du} {j q m : Nat} (h : LeastQ l j q m) (hn : 2 * j + 1 + q < l.length → ¬ duLt (gd l (2 * j + 1 + q)) (gd l m)) : LeastQ l j (q + 1) m :=
  ⟨h.lt, h.at_, h.le, fun e he hl => by
    by_cases c : e = q
    · subst c; exact hn hl
    · exact h.ch e (by omega) hl⟩
theorem least_yes {l : List Du} {j q m c : Nat} (hc : c = 2 * j + 1 + q) (hq : q < 2) (h : LeastQ l j q m) (hl : c < l.length) (hd : duLt (gd l c) (gd l m)) : LeastQ l j (q + 1) c := by
  have hdj : duLt (gd l c) (gd l j) := du_lt_le hd (fun h2 => h.le h2)
  refine ⟨hl, .inr ⟨by omega, by omega, hdj⟩, du_asymm hdj, fun e he hel => ?_⟩
  by_cases e1 : e = q
  · subst e1; rw [← hc]; exact du_irr
  · have := h.ch e (by omega) hel
    unfold duLt at *; omega
theorem least_child {l : List Du} {j m : Nat} (h : LeastQ l j 2 m) : ∀ k, 0 < k → k < l.length → (k - 1) / 2 = j → ¬ duLt (gd l k) (gd l m) := fun k k0 kl hp => by
  rcases (show k = 2 * j + 1 + 0 ∨ k = 2 * j + 1 + 1 by omega) with e | e
  · subst e; exact h.ch 0 (by omega) kl
  · subst e; exact h.ch 1 (by omega) kl

set_option maxHeartbeats 4000000 in
set_option maxRecDepth 100000 in
theorem down_any (d vb mb g cap n i : Nat) (most : Int) (l : List Du) (ext : List (Int × Int)) (w : World) (H : HpAt w d vb mb g cap n most l ext) (hi : i < n) (hN : DownI l i) :
    Calls Try.prog 49 #[.pointer (some ⟨d, 0, none⟩), .int .i64 (i : Int)] w fun e w' => (∃ u, e = .returned u) ∧ ∃ l', l'.Perm l ∧ HeapL l' ∧ HpAt w' d vb mb g cap n most l' ext ∧ Turn (fun b => b = g ∨ b = mb) w w' := by
  have SW := Lib.hid (fun i j l W (H : HpAt W d vb mb g cap n most l ext) (hi : i < n) (hj : j < n) => swap_any d vb mb g cap n i j most l ext W H hi hj)
  have OD := Lib.hid order_any
  have HI := Lib.hid (And.intro H hN)
  have hbd : n ≤ 5000 := by have := H.bd; omega
  clear H hN
  go_enter Try.func49, Try.ntmps49
  go_wp2_with fail
  go_loopw [1] (fun iv wr => ∃ (j : Nat) (l' : List Du), iv = .int .i64 (j : Int) ∧ j < n ∧ l'.Perm l ∧ HpAt wr d vb mb g cap n most l' ext ∧ DownI l' j ∧ Turn (fun b => b = g ∨ b = mb) w wr) (fun iv _ => n - (intOf iv).toNat)
  case atStart => exact ⟨i, l, rfl, hi, List.Perm.refl _, HI.out.1, HI.out.2, Turn.refl _ _⟩
  case round =>
    obtain ⟨j, l', rfl, hj, hp, hH, hu, hT⟩ := hrel
    have hjl : j < l'.length := by rw [hH.len]; exact hj
    have HX := Lib.hid (And.intro hp (And.intro hH (And.intro hu (And.intro hT hjl))))
    clear hp hH hu hT hjl HI
    obtain ⟨wq, rfl⟩ : ∃ z, z = wr := ⟨_, rfl⟩
    go_wp2_with fail
    go_loopw [4, 6, 15] (fun lv _ qv wr => ∃ (q m : Nat), lv = .int .i64 (m : Int) ∧ qv = .int .i64 (q : Int) ∧ q ≤ 2 ∧ LeastQ l' j q m ∧ Below wq.heap.size wq wr) (fun _ _ qv _ => 2 - (intOf qv).toNat)
    case atStart => exact ⟨0, j, rfl, rfl, by omega, least_start HX.out.2.2.2.2, Below.refl _ _⟩
    case round =>
      obtain ⟨q, m, rfl, rfl, hq2, hL, hbel⟩ := hrel
      rcases Nat.lt_or_ge q 2 with hlt | hge
      · obtain ⟨c, hc⟩ : ∃ c, 2 * j + 1 + q = c := ⟨_, rfl⟩
        have hqI : (q : Int) < 2 := by omega
        have hix : ∀ W, (Instr.index 85 (.agg #[.int .i64 (2 * (j : Int) + 1), .int .i64 (2 * (j : Int) + 2)]) (.int .i64 (q : Int))).run Try.prog W = .ok (.int .i64 (c : Int)) W := by
          rcases (show q = 0 ∨ q = 1 by omega) with e | e
          · subst e
            intro W
            have : (c : Int) = 2 * (j : Int) + 1 := by omega
            rw [this]
            rfl
          · subst e
            intro W
            have : (c : Int) = 2 * (j : Int) + 2 := by omega
            rw [this]
            rfl
        have hml : m < n := by have := hL.lt; rw [HX.out.2.1.len] at this; exact this
        have hmI : (m : Int) < (n : Int) := by omega
        have hHr := HX.out.2.1.below hbel
        have c0 : wr.cell? ⟨d, 0, none⟩ = some (.slice (some ⟨g, 0, none⟩) n cap) := hHr.dv.cell 0
        have zd := hHr.dv.lt
        have zg := hHr.row.lt
        rcases Nat.lt_or_ge c n with hcn | hcn
        · have hcI : (c : Int) < (n : Int) := by omega
          have hcd : decide ((c : Int) < (n : Int)) = true := by simp; omega
          have hcd2 : decide (c < n) = true := by simp; omega
          have c1 : wr.cell? ⟨d, 1, none⟩ = some (.func (.func 20) #[] #[]) := hHr.dv.cell 1
          obtain ⟨a0, a1, a2⟩ := hHr.row.cells (k := c) (by rw [hHr.len]; exact hcn)
          obtain ⟨b0, b1, b2⟩ := hHr.row.cells (k := m) (by rw [hHr.len]; exact hml)
          obtain ⟨t, ht⟩ : ∃ t, duC (gd l' c) (gd l' m) = t := ⟨_, rfl⟩
          have HC := Lib.hid (fun W => OD.out (gd l' c) (gd l' m) W)
          rw [ht] at HC
          have HDT := Lib.hid (du_t ht)
          obtain ⟨⟨x0, x1, x2⟩, hx⟩ : ∃ x, gd l' c = x := ⟨_, rfl⟩
          obtain ⟨⟨y0, y1, y2⟩, hy⟩ : ∃ x, gd l' m = x := ⟨_, rfl⟩
          rw [hx] at a0 a1 a2 HC
          rw [hy] at b0 b1 b2 HC
          dsimp only at a0 a1 a2 b0 b1 b2 HC
          have HY := Lib.hid (And.intro hL (And.intro hbel hc))
          have hszr := hbel.size
          clear hL hbel hc ht hx hy hHr
          go_upto_region 4 with fail
          have hq_wr := @wd_cell wr
          refine wp_region_wd (by kernel_rfl) (by kernel_rfl) ?_
          repeat (go_big_quiet_step ((first | (go_at_call 20; with_reducible exact quiet_wd (HC.out _)))))
          refine wpQuiet_nil ?_
          rintro w4 ⟨⟨wx, hb_w4⟩, hwx⟩
          obtain rfl : w4 = wx := hwx
          clear hq_wr
          have hz_w4 := hb_w4.size
          obtain ⟨hc_w4, hf_w4⟩ := bcell hb_w4
          have HB4 := Lib.hid (HY.out.2.1.trans (hb_w4.mono hszr))
          clear hb_w4 hc_w4 hf_w4 c0 c1 a0 a1 a2 b0 b1 b2 HC hix
          cases hd : decide (t < 0) with
          | false =>
            have hN0 : ¬ duLt (gd l' c) (gd l' m) := fun h => by
              have h2 := HDT.out.2 h
              rw [hd] at h2
              cases h2
            have HN := Lib.hid (least_no HY.out.1 (fun _ => by rw [HY.out.2.2]; exact hN0))
            clear hN0 HDT HY
            go_wp2_with fail
            go_roundw
            case rel => exact ⟨q + 1, m, rfl, by simp, by omega, HN.out, HB4.out⟩
            case measure => simp [intOf]; omega
          | true =>
            have HN := Lib.hid (least_yes HY.out.2.2.symm hlt HY.out.1 (by rw [HX.out.2.1.len]; exact hcn) (HDT.out.1 hd))
            clear HDT HY
            go_wp2_with fail
            go_roundw
            case rel => exact ⟨q + 1, c, rfl, by simp, by omega, HN.out, HB4.out⟩
            case measure => simp [intOf]; omega
        · have hcI : ¬ (c : Int) < (n : Int) := by omega
          have hcd : decide ((c : Int) < (n : Int)) = false := by simp; omega
          have hcd2 : decide (c < n) = false := by simp; omega
          have HN := Lib.hid (least_no hL (fun h => by rw [HX.out.2.1.len] at h; omega))
          have HBL := Lib.hid hbel
          clear hL hbel hHr hc
          go_upto_region 4 with fail
          have hq_wr := @wd_cell wr
          refine wp_region_wd (by kernel_rfl) (by kernel_rfl) ?_
          repeat (go_big_quiet_step (fail))
          refine wpQuiet_nil ?_
          rintro w4 ⟨⟨wx, hb_w4⟩, hwx⟩
          obtain rfl : w4 = wx := hwx
          clear hq_wr
          have hz_w4 := hb_w4.size
          obtain ⟨hc_w4, hf_w4⟩ := bcell hb_w4
          have HB4 := Lib.hid (HBL.out.trans (hb_w4.mono HBL.out.size))
          clear hb_w4 hc_w4 hf_w4 c0 hix HBL
          go_wp2_with fail
          go_roundw
          case rel => exact ⟨q + 1, m, rfl, by simp, by omega, HN.out, HB4.out⟩
          case measure => simp [intOf]; omega
      · obtain rfl : q = 2 := by omega
        have HL := Lib.hid (And.intro hL hbel)
        have hml : m < n := by have := hL.lt; rw [HX.out.2.1.len] at this; exact this
        clear hL hbel hq2 hge
        by_cases hmj : m = j
        · subst hmj
          have heq : ((m : Int) == (m : Int)) = true := by simp
          go_wp2_with fail
          refine bodyPost_ret (results_none rfl _ _ _) rfl ?_
          exact ⟨⟨_, rfl⟩, l', HX.out.1, down_exit HX.out.2.2.1 (least_child HL.out.1), HX.out.2.1.below HL.out.2, HX.out.2.2.2.1.trans (Turn.of_below HL.out.2)⟩
        · have hne : ((m : Int) == (j : Int)) = false := by rw [beq_eq_false_iff_ne]; omega
          go_wp2_with fail
          refine (SW.out j m l' _ (HX.out.2.1.below HL.out.2) hj hml).mono ?_
          rintro e w5 ⟨⟨u5, rfl⟩, hH5, hT5⟩
          obtain ⟨hL, hbel⟩ := HL.out
          obtain ⟨hp, hH, hu, hT, hjl⟩ := HX.out
          obtain ⟨m0, mp, md⟩ := hL.at_.resolve_left hmj
          have HY := Lib.hid (And.intro ((swp_perm hjl hL.lt).trans hp) (And.intro hH5 (And.intro (down_step hu hjl m0 hL.lt mp md (least_child hL)) ((hT.trans (Turn.of_below hbel)).trans hT5))))
          have hjm : j < m := by omega
          clear hL hbel hp hH hu hT hjl m0 mp md hH5 hT5 HX HL
          go_wp2_with fail
          go_roundw
          case rel => exact ⟨m, swp l' j m, rfl, hml, HY.out.1, HY.out.2.1, HY.out.2.2.1, HY.out.2.2.2⟩
          case measure => simp [intOf]; omega
end Go.Proofs.Ytlogidnadfimlaa
