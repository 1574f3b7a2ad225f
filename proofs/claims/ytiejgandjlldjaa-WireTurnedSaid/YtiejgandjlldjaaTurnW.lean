/-
  WireTurned: the walk.
-/
import Derived.Test.YtiejgandjlldjaaTurnP
import Derived.Test.YtiejgandjlldjaaTail
import Derived.Deep.LoopGhost
import Derived.Test.YtiejgandjlldjaaWorks
namespace Go.Proofs.Ytiejgandjlldjaa
open Go.RowKit

set_option maxRecDepth 100000 in
set_option maxHeartbeats 1600000 in
theorem turned_over (A : Option Addr) (n c : Nat) (at_ : Int) (y0 y1 y2 y3 : UInt8) (four : Bool) (w : World) (hn : 8184 < n) :
    Calls Try.prog 4 #[.agg #[.slice A n c, .int .i64 at_, B8 y0, B8 y1, B8 y2, B8 y3, .bool four]] w fun e w' => e = .returned (.bool true) ∧ Below w.heap.size w w' := by
  have hn' : (8184 : Int) < (n : Int) := by omega
  unfold B8
  go_enter Try.func4, Try.ntmps4
  go_wp2_with fail
  refine (frame_over A n c _ hn).mono ?_
  rintro e w1 ⟨rfl, hb_w1⟩
  obtain ⟨hc_w1, hf_w1⟩ := bcell hb_w1
  have hz_w1 := hb_w1.size
  try simp at hz_w1
  have hB_w1 : Below w.heap.size w w1 := Below.trans (by go_grown) (hb_w1.mono (by go_size))
  have hs_w1_0 : w.heap.size < w1.heap.size := by omega
  go_wp2_with fail
  refine (works_any _).mono ?_
  rintro e w2 ⟨rfl, hb_w2⟩
  obtain ⟨hc_w2, hf_w2⟩ := bcell hb_w2
  have hz_w2 := hb_w2.size
  try simp at hz_w2
  have hB_w2 : Below w.heap.size w w2 := Below.trans (by go_grown) (hb_w2.mono (by go_size))
  go_wp2_with fail
  refine bodyPost_ret (by simp [results, Try.results4, go_sem, *]; try rfl) rfl ?_
  exact ⟨rfl, by go_grown⟩

set_option maxRecDepth 100000 in
set_option maxHeartbeats 1600000 in
theorem turned_in (A : Option Addr) (n c : Nat) (l : List UInt8) (at_ : Int) (y0 y1 y2 y3 : UInt8) (four : Bool) (w : World) (hs : Bs w A n c l) (hn : n ≤ 8184) :
    Calls Try.prog 4 #[.agg #[.slice A n c, .int .i64 at_, B8 y0, B8 y1, B8 y2, B8 y3, .bool four]] w fun e w' => e = .returned (.bool true) ∧ Below w.heap.size w w' := by
  have hn' : ¬ (8184 : Int) < (n : Int) := by omega
  have hn2 : (n : Int) ≤ 8184 := by omega
  have hl := hs.len
  have hof := open_frame (l := l) (by omega)
  have hbf := body_frame (l := l) (by omega)
  unfold B8
  obtain ⟨x0, hx0⟩ : ∃ z : Int, (y0.toNat : Int) = z := ⟨_, rfl⟩
  obtain ⟨x1, hx1⟩ : ∃ z : Int, (y1.toNat : Int) = z := ⟨_, rfl⟩
  obtain ⟨x2, hx2⟩ : ∃ z : Int, (y2.toNat : Int) = z := ⟨_, rfl⟩
  obtain ⟨x3, hx3⟩ : ∃ z : Int, (y3.toNat : Int) = z := ⟨_, rfl⟩
  rw [hx0, hx1, hx2, hx3]
  have HX := Lib.hid (And.intro hx0 (And.intro hx1 (And.intro hx2 hx3)))
  clear hx0 hx1 hx2 hx3
  go_enter Try.func4, Try.ntmps4
  go_wp2_with fail
  have vX : Var (w.alloc (.cells #[.slice A n c, .int .i64 at_, .int .u8 x0, .int .u8 x1, .int .u8 x2, .int .u8 x3, .bool four] 26)) w.heap.size 26 #[.slice A n c, .int .i64 at_, .int .u8 x0, .int .u8 x1, .int .u8 x2, .int .u8 x3, .bool four] := Var.new _ _ _
  have hsX := hs.below (show Below w.heap.size w (w.alloc (.cells #[.slice A n c, .int .i64 at_, .int .u8 x0, .int .u8 x1, .int .u8 x2, .int .u8 x3, .bool four] 26)) by go_grown)
  refine (frame_any A n c l _ hsX hn).mono ?_
  rintro e w1 ⟨A1, c1, rfl, hs1, hf1, hb1⟩
  have hB1 : Below w.heap.size w w1 := Below.trans (by go_grown) (hb1.mono (by simp))
  have vX1 := vX.keep hb1
  have hf1' := hf1.mono (show w.heap.size + 1 ≤ _ by simp)
  have hs1b := hsX.below hb1
  clear vX hsX hb1 hf1
  have z1 := vX1.lt
  have k0 : w1.cell? ⟨w.heap.size, 0, none⟩ = some (.slice A n c) := vX1.cell 0
  go_wp2_with fail
  refine (open_any A1 (n + 8) c1 (frameB l) w1 hs1 (by omega)).mono ?_
  rintro e w2 ⟨A2, m2, c2, rfl, hs2, _, hb2⟩
  rw [hof]
  rw [hbf] at hs2
  have hm2 := hs2.len
  rw [hl] at hm2
  subst hm2
  have hB2 := hB1.trans (hb2.mono hB1.size)
  have vX2 := vX1.keep hb2
  have hfr2 := hf1'.keep hb2
  have hs1f := hs1.below hb2
  have hst2 := bs_str hs2
  have hst1 := bs_str (hs1b.below hb2)
  have k20 : w2.cell? ⟨w.heap.size, 0, none⟩ = some (.slice A n c) := vX2.cell 0
  have k21 : w2.cell? ⟨w.heap.size, 1, none⟩ = some (.int .i64 at_) := vX2.cell 1
  have k26 : w2.cell? ⟨w.heap.size, 6, none⟩ = some (.bool four) := vX2.cell 6
  have z2 := vX2.lt
  have HL := Lib.hid hl
  have HOF := Lib.hid hof
  clear hs1 hs1b hb2 hf1' hB1 k0 z1 hs2 hl hof hbf
  obtain ⟨ys, hys⟩ : ∃ ys : Nat → UInt8, ys = fun k => match k with | 0 => y0 | 1 => y1 | 2 => y2 | _ => y3 := ⟨_, rfl⟩
  have HYC : Hid (∀ k, k < 4 → #[Value.slice A n c, .int .i64 at_, .int .u8 x0, .int .u8 x1, .int .u8 x2, .int .u8 x3, .bool four][2 + k]? = some (.int .u8 ((ys k).toNat : Int))) := Lib.hid (fun k hk => by
    obtain ⟨e0, e1, e2, e3⟩ := HX.out
    subst hys
    match k, hk with
    | 0, _ => show some _ = some _; rw [← e0]; rfl
    | 1, _ => show some _ = some _; rw [← e1]; rfl
    | 2, _ => show some _ = some _; rw [← e2]; rfl
    | 3, _ => show some _ = some _; rw [← e3]; rfl)
  clear hys HX
  cases four
  · obtain ⟨q, hq, hE⟩ := place (a := at_) (M := n + 8) (by omega) (by omega)
    rw [show ((n + 8 : Nat) : Int) = (n : Int) + 8 by omega] at hE
    go_wp2_with fail
    rw [hE]
    clear hE
    go_loopw [9, 10] (fun b t wr => ∃ k : Nat, k ≤ 1 ∧ q + k ≤ n + 8 ∧ t = .int .i64 (k : Int) ∧ b = .bool (turnB ys k) ∧ Bs wr A1 (n + 8) c1 (turnN (frameB l) (q) ys k) ∧ Fr wr (w.heap.size + 1) A1 (n + 8) ∧ Below (w.heap.size + 1) w2 wr) (fun _ t _ => 1 - (intOf t).toNat)
    case atStart => exact ⟨0, by omega, by omega, rfl, rfl, hs1f, hfr2, Below.refl _ _⟩
    case round =>
      obtain ⟨k, hk, hkn, rfl, rfl, hbs, hfr, hBr⟩ := hrel
      have vXr := vX2.below hBr (by omega)
      have hBw : Below w.heap.size w wr := hB2.trans (hBr.mono (by omega))
      rcases Decidable.em (k < 1 ∧ q + k < n + 8) with ⟨hk1, hk2⟩ | hout
      · obtain ⟨g, o, cur, rfl, hg, hV, hcur⟩ : ∃ g o cur, A1 = some ⟨g, o, none⟩ ∧ w.heap.size + 1 ≤ g ∧ Var wr g 5 cur ∧ o + (n + 8) ≤ cur.size := by
          rcases hfr with h | h
          · omega
          · exact h
        obtain ⟨b, hb⟩ : ∃ b, (turnN (frameB l) (q) ys k).getD (q + k) 0 = b := ⟨_, rfl⟩
        have hcf : wr.cell? ⟨g, o + (q + k), none⟩ = some (.int .u8 (b.toNat : Int)) := by
          rcases hbs.at_ with h | ⟨g', o', e, _, hat⟩
          · omega
          · injection e with e
            injection e with e1 e2
            subst e1 e2
            have hlen := hbs.len
            have := hat (q + k) b (by rw [← hb, List.getD_eq_getElem?_getD, List.getElem?_eq_getElem (by omega)]; rfl)
            exact this
        obtain ⟨x, hx⟩ : ∃ z : Nat, (ys k).toNat = z := ⟨_, rfl⟩
        have hcx : wr.cell? ⟨w.heap.size, 2 + k, none⟩ = some (.int .u8 (x : Int)) := by
          rw [vXr.cell (2 + k), ← hx]
          exact HYC.out k (by omega)
        have hff := hV.free (o + (q + k))
        have hx8 : bits .xor .u8 (b.toNat : Int) (x : Int) = ((b ^^^ ys k).toNat : Int) := by
          rw [u8_xor_nat _ _ b.toNat_lt (by rw [← hx]; exact (ys k).toNat_lt), ← hx, UInt8.toNat_xor]
        obtain ⟨y, hy⟩ : ∃ z : Nat, (b ^^^ ys k).toNat = z := ⟨_, rfl⟩
        obtain ⟨bn, hbn⟩ : ∃ z : Nat, b.toNat = z := ⟨_, rfl⟩
        rw [hy, hbn] at hx8
        rw [hbn] at hcf
        have hgz := hV.lt
        have hXz := vXr.lt
        have hk1' : (k : Int) < 1 := by omega
        have hk2' : (q : Int) + (k : Int) < (n : Int) + 8 := by omega
        have HB := Lib.hid hb
        have HY := Lib.hid (And.intro hy hx)
        have har : Try.prog.arrayLen 24 = 4 := by kernel_rfl
        have hk4 : (k : Int) < 4 := by omega
        clear hb hy hx hbn
        obtain ⟨tb, htb⟩ : ∃ z, turnB ys k = z := ⟨_, rfl⟩
        rw [htb]
        have HT := Lib.hid htb
        clear htb
        have hgX : ¬ w.heap.size = g := by omega
        have hgX2 : ¬ g = w.heap.size := by omega
        have hways : tb = true ∨ (tb = false ∧ x = 0) ∨ (tb = false ∧ 0 < x) := by cases tb <;> simp <;> omega
        rcases hways with rfl | ⟨rfl, hx0⟩ | ⟨rfl, hxp⟩
        all_goals
          try (have hxz : ((x : Int) != 0) = false := by rw [hx0]; rfl)
          try (have HX0 := Lib.hid hx0; clear hx0)
          try (have hxn : ((x : Int) != 0) = true := by simp; omega)
          try (have hxn2 : ¬ (x : Int) = 0 := by omega)
          go_wp2_with fail
          have hq_wr := @wd_cell wr
          refine wp_region_wd_tail 16 (by kernel_rfl) (by kernel_rfl) ?_
          simp only [List.take_succ_cons, List.take_zero, List.drop_succ_cons, List.drop_zero]
          repeat (go_big_quiet_step (fail))
          refine wpQuiet_nil ?_
          rintro w4 ⟨⟨wx, hb_w4⟩, hwx⟩
          obtain rfl : w4 = wx := hwx
          clear hq_wr
          have hz_w4 := hb_w4.size
          obtain ⟨hc_w4, hf_w4⟩ := bcell hb_w4
          have hB_w4 : Below w.heap.size w w4 := Below.trans (by go_grown) (hb_w4.mono (by go_size))
          have hs_w4_0 : g < w4.heap.size := Nat.lt_of_lt_of_le (by assumption) hb_w4.size
          have hs_w4_1 : w.heap.size < w4.heap.size := Nat.lt_of_lt_of_le (by assumption) hb_w4.size
          have vX4 := vXr.keep hb_w4
          have hV4 := hV.keep hb_w4
          have hcx4 := (hc_w4 w.heap.size (2 + k) hXz).trans hcx
          have hcf4 := (hc_w4 g (o + (q + k)) hgz).trans hcf
          have hff4 := hV4.free (o + (q + k))
          go_wp2_with fail
          go_roundw
          case rel =>
            refine ⟨k + 1, by omega, by omega, by go_num, congrArg Value.bool ?_, ?_, ?_, ?_⟩
            · rw [turnB_succ, HT.out]
              first
                | rfl
                | (have e := HY.out.2; have e2 : ys k = 0 := UInt8.toNat_inj.1 (by rw [e, HX0.out]; rfl); rw [e2]; rfl)
                | (have e := HY.out.2; have e2 : ¬ ys k = 0 := fun e3 => by rw [e3] at e; have e4 : (0 : UInt8).toNat = 0 := rfl; omega)
                  simp [e2]
            · have h9 := (hbs.below hb_w4).set hV4 hcur (j := q + k) hk2 (b ^^^ ys k)
              have h10 : B8 (b ^^^ ys k) = .int .u8 (y : Int) := by unfold B8; rw [HY.out.1]
              rw [h10] at h9
              unfold turnN
              rw [HB.out]
              exact h9
            · exact .inr ⟨g, o, _, rfl, hg, hV4.store _ _, by simpa using hcur⟩
            · exact (hBr.trans (hb_w4.mono (by have := hBr.size; omega))).setCell (p := ⟨g, o + (q + k), none⟩) hg _
          case measure => simp [intOf]; omega
      · have hres : (turnB ys k = false ∧ openCode (turnN (frameB l) (q) ys k) = 0) ∨ (turnB ys k = true ∧ ∃ z, openCode (turnN (frameB l) (q) ys k) = z ∧ ¬ z = 0 ∧ openBody (turnN (frameB l) (q) ys k) = []) := by
          have hfl := frameB_length l
          have hll := HL.out
          cases hT : turnB ys k
          · exact .inl ⟨rfl, by rw [turn_same (by omega) hT]; exact HOF.out⟩
          · have hb := turn_bad (l := l) (p := q) (ys := ys) (k := k) (by omega) (by omega) (by omega) (by omega) hT
            exact .inr ⟨rfl, _, rfl, hb, by unfold openBody; rw [if_neg hb]⟩
        have hout2 : 1 ≤ k ∨ n + 8 ≤ q + k := by omega
        have HO := Lib.hid (open_any A1 (n + 8) c1 _ wr hbs (by omega))
        have hBw : Below w.heap.size w wr := hB2.trans (hBr.mono (by omega))
        obtain ⟨G, hG⟩ : ∃ z, turnN (frameB l) (q) ys k = z := ⟨_, rfl⟩
        rw [hG] at hres HO
        obtain ⟨tb, htb⟩ : ∃ z, turnB ys k = z := ⟨_, rfl⟩
        rw [htb] at hres
        rw [htb]
        clear hG htb hbs hfr
        rcases hout2 with hk5 | hk5
        all_goals
          rcases hres with ⟨rfl, hz⟩ | ⟨rfl, z, hz, hz0, hzb⟩
          · go_wp2_with fail
            refine HO.out.mono ?_
            rintro e w5 ⟨A5, m5, c5, rfl, hs5, _, hb5⟩
            rw [hz]
            have hB5 := hBw.trans (hb5.mono hBw.size)
            clear hs5 hb5 hz HO
            go_wp2_with fail
            all_goals
              refine bodyPost_ret (by simp [results, Try.results4, go_sem, *]; try rfl) rfl ?_
              exact ⟨rfl, hB5⟩
          · have hzi : ((z : Int) != 0) = true := by simp; omega
            have hzi2 : ¬ (z : Int) = 0 := by omega
            go_wp2_with fail
            refine HO.out.mono ?_
            rintro e w5 ⟨A5, m5, c5, rfl, hs5, _, hb5⟩
            rw [hz]
            rw [hzb] at hs5
            have hm5 : m5 = 0 := hs5.len.symm
            subst hm5
            have hB5 := hBw.trans (hb5.mono hBw.size)
            clear hs5 hb5 hz hzb HO
            go_wp2_with fail
            all_goals
              refine bodyPost_ret (by simp [results, Try.results4, go_sem, *]; try rfl) rfl ?_
              exact ⟨rfl, hB5⟩
  · rcases Nat.eq_zero_or_pos n with h0 | h0
    · subst h0
      go_wp2_with fail
      refine (works_any _).mono ?_
      rintro e w3 ⟨rfl, hb_w3⟩
      obtain ⟨hc_w3, hf_w3⟩ := bcell hb_w3
      have hz_w3 := hb_w3.size
      try simp at hz_w3
      have hB_w3 : Below w.heap.size w w3 := Below.trans (by go_grown) (hb_w3.mono (by go_size))
      have hs_w3_0 : w.heap.size < w3.heap.size := by omega
      go_wp2_with fail
      refine bodyPost_ret (by simp [results, Try.results4, go_sem, *]; try rfl) rfl ?_
      exact ⟨rfl, hB2.trans (hb_w3.mono hB2.size)⟩
    · have hne : ¬ (n : Int) = 0 := by omega
      have hne2 : ((n : Int) == 0) = false := by simp; omega
      obtain ⟨q, hq, hE⟩ := place8 (a := at_) (M := n) h0 (by omega)
      go_wp2_with fail
      rw [hE]
      clear hE
      go_loopw [9, 10] (fun b t wr => ∃ k : Nat, k ≤ 4 ∧ 8 + q + k ≤ n + 8 ∧ t = .int .i64 (k : Int) ∧ b = .bool (turnB ys k) ∧ Bs wr A1 (n + 8) c1 (turnN (frameB l) (8 + q) ys k) ∧ Fr wr (w.heap.size + 1) A1 (n + 8) ∧ Below (w.heap.size + 1) w2 wr) (fun _ t _ => 4 - (intOf t).toNat)
      case atStart => exact ⟨0, by omega, by omega, rfl, rfl, hs1f, hfr2, Below.refl _ _⟩
      case round =>
        obtain ⟨k, hk, hkn, rfl, rfl, hbs, hfr, hBr⟩ := hrel
        have vXr := vX2.below hBr (by omega)
        have hBw : Below w.heap.size w wr := hB2.trans (hBr.mono (by omega))
        rcases Decidable.em (k < 4 ∧ 8 + q + k < n + 8) with ⟨hk1, hk2⟩ | hout
        · obtain ⟨g, o, cur, rfl, hg, hV, hcur⟩ : ∃ g o cur, A1 = some ⟨g, o, none⟩ ∧ w.heap.size + 1 ≤ g ∧ Var wr g 5 cur ∧ o + (n + 8) ≤ cur.size := by
            rcases hfr with h | h
            · omega
            · exact h
          obtain ⟨b, hb⟩ : ∃ b, (turnN (frameB l) (8 + q) ys k).getD (8 + q + k) 0 = b := ⟨_, rfl⟩
          have hcf : wr.cell? ⟨g, o + (8 + q + k), none⟩ = some (.int .u8 (b.toNat : Int)) := by
            rcases hbs.at_ with h | ⟨g', o', e, _, hat⟩
            · omega
            · injection e with e
              injection e with e1 e2
              subst e1 e2
              have hlen := hbs.len
              have := hat (8 + q + k) b (by rw [← hb, List.getD_eq_getElem?_getD, List.getElem?_eq_getElem (by omega)]; rfl)
              exact this
          obtain ⟨x, hx⟩ : ∃ z : Nat, (ys k).toNat = z := ⟨_, rfl⟩
          have hcx : wr.cell? ⟨w.heap.size, 2 + k, none⟩ = some (.int .u8 (x : Int)) := by
            rw [vXr.cell (2 + k), ← hx]
            exact HYC.out k (by omega)
          have hff := hV.free (o + (8 + q + k))
          have hx8 : bits .xor .u8 (b.toNat : Int) (x : Int) = ((b ^^^ ys k).toNat : Int) := by
            rw [u8_xor_nat _ _ b.toNat_lt (by rw [← hx]; exact (ys k).toNat_lt), ← hx, UInt8.toNat_xor]
          obtain ⟨y, hy⟩ : ∃ z : Nat, (b ^^^ ys k).toNat = z := ⟨_, rfl⟩
          obtain ⟨bn, hbn⟩ : ∃ z : Nat, b.toNat = z := ⟨_, rfl⟩
          rw [hy, hbn] at hx8
          rw [hbn] at hcf
          have hgz := hV.lt
          have hXz := vXr.lt
          have hk1' : (k : Int) < 4 := by omega
          have hk2' : (8 : Int) + (q : Int) + (k : Int) < (n : Int) + 8 := by omega
          have HB := Lib.hid hb
          have HY := Lib.hid (And.intro hy hx)
          have har : Try.prog.arrayLen 24 = 4 := by kernel_rfl
          have hk4 : (k : Int) < 4 := by omega
          clear hb hy hx hbn
          obtain ⟨tb, htb⟩ : ∃ z, turnB ys k = z := ⟨_, rfl⟩
          rw [htb]
          have HT := Lib.hid htb
          clear htb
          have hgX : ¬ w.heap.size = g := by omega
          have hgX2 : ¬ g = w.heap.size := by omega
          have hways : tb = true ∨ (tb = false ∧ x = 0) ∨ (tb = false ∧ 0 < x) := by cases tb <;> simp <;> omega
          rcases hways with rfl | ⟨rfl, hx0⟩ | ⟨rfl, hxp⟩
          all_goals
            try (have hxz : ((x : Int) != 0) = false := by rw [hx0]; rfl)
            try (have HX0 := Lib.hid hx0; clear hx0)
            try (have hxn : ((x : Int) != 0) = true := by simp; omega)
            try (have hxn2 : ¬ (x : Int) = 0 := by omega)
            go_wp2_with fail
            have hq_wr := @wd_cell wr
            refine wp_region_wd_tail 16 (by kernel_rfl) (by kernel_rfl) ?_
            simp only [List.take_succ_cons, List.take_zero, List.drop_succ_cons, List.drop_zero]
            repeat (go_big_quiet_step (fail))
            refine wpQuiet_nil ?_
            rintro w4 ⟨⟨wx, hb_w4⟩, hwx⟩
            obtain rfl : w4 = wx := hwx
            clear hq_wr
            have hz_w4 := hb_w4.size
            obtain ⟨hc_w4, hf_w4⟩ := bcell hb_w4
            have hB_w4 : Below w.heap.size w w4 := Below.trans (by go_grown) (hb_w4.mono (by go_size))
            have hs_w4_0 : g < w4.heap.size := Nat.lt_of_lt_of_le (by assumption) hb_w4.size
            have hs_w4_1 : w.heap.size < w4.heap.size := Nat.lt_of_lt_of_le (by assumption) hb_w4.size
            have vX4 := vXr.keep hb_w4
            have hV4 := hV.keep hb_w4
            have hcx4 := (hc_w4 w.heap.size (2 + k) hXz).trans hcx
            have hcf4 := (hc_w4 g (o + (8 + q + k)) hgz).trans hcf
            have hff4 := hV4.free (o + (8 + q + k))
            go_wp2_with fail
            go_roundw
            case rel =>
              refine ⟨k + 1, by omega, by omega, by go_num, congrArg Value.bool ?_, ?_, ?_, ?_⟩
              · rw [turnB_succ, HT.out]
                first
                  | rfl
                  | (have e := HY.out.2; have e2 : ys k = 0 := UInt8.toNat_inj.1 (by rw [e, HX0.out]; rfl); rw [e2]; rfl)
                  | (have e := HY.out.2; have e2 : ¬ ys k = 0 := fun e3 => by rw [e3] at e; have e4 : (0 : UInt8).toNat = 0 := rfl; omega)
                    simp [e2]
              · have h9 := (hbs.below hb_w4).set hV4 hcur (j := 8 + q + k) hk2 (b ^^^ ys k)
                have h10 : B8 (b ^^^ ys k) = .int .u8 (y : Int) := by unfold B8; rw [HY.out.1]
                rw [h10] at h9
                unfold turnN
                rw [HB.out]
                exact h9
              · exact .inr ⟨g, o, _, rfl, hg, hV4.store _ _, by simpa using hcur⟩
              · exact (hBr.trans (hb_w4.mono (by have := hBr.size; omega))).setCell (p := ⟨g, o + (8 + q + k), none⟩) hg _
            case measure => simp [intOf]; omega
        · have hres : (turnB ys k = false ∧ openCode (turnN (frameB l) (8 + q) ys k) = 0) ∨ (turnB ys k = true ∧ ∃ z, openCode (turnN (frameB l) (8 + q) ys k) = z ∧ ¬ z = 0 ∧ openBody (turnN (frameB l) (8 + q) ys k) = []) := by
            have hfl := frameB_length l
            have hll := HL.out
            cases hT : turnB ys k
            · exact .inl ⟨rfl, by rw [turn_same (by omega) hT]; exact HOF.out⟩
            · have hb := turn_bad (l := l) (p := 8 + q) (ys := ys) (k := k) (by omega) (by omega) (by omega) (by omega) hT
              exact .inr ⟨rfl, _, rfl, hb, by unfold openBody; rw [if_neg hb]⟩
          have hout2 : 4 ≤ k ∨ (k < 4 ∧ n + 8 ≤ 8 + q + k) := by omega
          have HO := Lib.hid (open_any A1 (n + 8) c1 _ wr hbs (by omega))
          have hBw : Below w.heap.size w wr := hB2.trans (hBr.mono (by omega))
          obtain ⟨G, hG⟩ : ∃ z, turnN (frameB l) (8 + q) ys k = z := ⟨_, rfl⟩
          rw [hG] at hres HO
          obtain ⟨tb, htb⟩ : ∃ z, turnB ys k = z := ⟨_, rfl⟩
          rw [htb] at hres
          rw [htb]
          clear hG htb hbs hfr
          rcases hout2 with hk5 | ⟨hk6, hk5⟩
          all_goals
            try (have hd : ¬ ((8 : Int) + (q : Int) + (k : Int) < (n : Int) + 8) := by omega)
            try (have hd2 : ((n : Int) + 8) ≤ (8 : Int) + (q : Int) + (k : Int) := by omega)
            try (have hd3 : (n : Int) ≤ (q : Int) + (k : Int) := by omega)
            try (have hd4 : (4 : Int) ≤ (k : Int) := by omega)
            try (have hd5 : (k : Int) < 4 := by omega)
            rcases hres with ⟨rfl, hz⟩ | ⟨rfl, z, hz, hz0, hzb⟩
            · go_wp2_with fail
              refine HO.out.mono ?_
              rintro e w5 ⟨A5, m5, c5, rfl, hs5, _, hb5⟩
              rw [hz]
              have hB5 := hBw.trans (hb5.mono hBw.size)
              clear hs5 hb5 hz HO
              go_wp2_with fail
              all_goals
                refine bodyPost_ret (by simp [results, Try.results4, go_sem, *]; try rfl) rfl ?_
                exact ⟨rfl, hB5⟩
            · have hzi : ((z : Int) != 0) = true := by simp; omega
              have hzi2 : ¬ (z : Int) = 0 := by omega
              go_wp2_with fail
              refine HO.out.mono ?_
              rintro e w5 ⟨A5, m5, c5, rfl, hs5, _, hb5⟩
              rw [hz]
              rw [hzb] at hs5
              have hm5 : m5 = 0 := hs5.len.symm
              subst hm5
              have hB5 := hBw.trans (hb5.mono hBw.size)
              clear hs5 hb5 hz hzb HO
              go_wp2_with fail
              all_goals
                refine bodyPost_ret (by simp [results, Try.results4, go_sem, *]; try rfl) rfl ?_
                exact ⟨rfl, hB5⟩

end Go.Proofs.Ytiejgandjlldjaa
