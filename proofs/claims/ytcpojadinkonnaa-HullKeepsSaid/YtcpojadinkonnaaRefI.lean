/-
  Contract of the reference's Div: two sizes' quotient and what is left.
-/
import Derived.Test.YtcpojadinkonnaaRefH
namespace Go.Proofs.Ytcpojadinkonnaa
open Go.RowKit
set_option maxHeartbeats 4000000 in
set_option maxRecDepth 100000 in
theorem div_ref {w0 : World} {A1 A2 : Option Addr} {n1 c1 n2 c2 : Nat} {d1 d2 : List Nat} (h1 : RawAt w0 A1 n1 c1 d1) (h2 : RawAt w0 A2 n2 c2 d2) (s1 s2 : Bool) (hn1 : n1 ≤ 40000) (hn2 : n2 ≤ 40000) (hpos : 0 < val d2) (w : World) (hw : Below w0.heap.size w0 w) :
    Calls Try.prog 106 #[.agg #[.bool s1, .slice A1 n1 c1], .agg #[.bool s2, .slice A2 n2 c2]] w fun e w' => ∃ v v', e = .returned (.tuple #[v, v']) ∧ MagAt w' v false (val d1 / val d2) ∧ MagAt w' v' false (val d1 % val d2) ∧ Below w.heap.size w w' := by
  have r1 := h1.below hw
  have r2 := h2.below hw
  have g1 := h1.digs
  have HL := Lib.hid (And.intro h1.len (And.intro h2.len (And.intro hpos (And.intro h1.digs h2.digs))))
  clear h1 h2 hw hpos
  go_enter Try.func106, Try.ntmps106
  go_wp2_with fail
  refine wp_gen (fun W hW => ?_)
  have hD : Dv w W s1 s2 A1 A2 n1 c1 n2 c2 none 0 0 [] none 0 0 [] := by
    rw [hW]
    exact ⟨by go_grown, ((((((Var.new _ _ _).alloc _).alloc _).alloc _).alloc _).alloc _), (((((Var.new' _ _ _ (by simp)).alloc _).alloc _).alloc _).alloc _), ((((Var.new' _ _ _ (by simp)).alloc _).alloc _).alloc _), (((Var.new' _ _ _ (by simp)).alloc _).alloc _), ((Var.new' _ _ _ (by simp)).alloc _), Var.new' _ _ _ (by simp),
      ⟨rfl, Nat.le_refl _, by omega, Sl.nil _ _, Digs.nil⟩, ⟨rfl, Nat.le_refl _, by omega, Sl.nil _ _, Digs.nil⟩, Tight.nil, Tight.nil⟩
  clear hW
  go_loopw [8] (fun t wr => ∃ (AQ : Option Addr) (nQ cQ : Nat) (dQ : List Nat) (AL : Option Addr) (nL cL : Nat) (dL : List Nat) (k : Nat), k ≤ n1 * 16 ∧ (t = .int .i64 ((k : Int) - 1)) ∧ Dv w wr s1 s2 A1 A2 n1 c1 n2 c2 AQ nQ cQ dQ AL nL cL dL ∧
      (val dQ * val d2 + val dL = val d1 / 2 ^ k ∧ val dL < val d2))
    (fun t _ => (intOf t + 1).toNat)
  case atStart => exact ⟨none, 0, 0, [], none, 0, 0, [], n1 * 16, Nat.le_refl _, congrArg (Value.int .i64) (by omega), hD, by have hL := HL.out; rw [← hL.1, val_lt_bits hL.2.2.2.1]; simp [val], HL.out.2.2.1⟩
  case round =>
    obtain ⟨AQ, nQ, cQ, dQ, AL, nL, cL, dL, k, hk, rfl, hd, hv⟩ := hrel
    have HV := Lib.hid hv
    clear hv hD
    rcases Nat.eq_zero_or_pos k with hk0 | hk0
    · subst hk0
      rw [show (((0 : Nat) : Int) - 1) = -1 by omega]
      obtain ⟨⟨a0, a1⟩, ⟨b0, b1⟩, ⟨p0, p1⟩, ⟨u0, u1⟩, ⟨q0, q1⟩, ⟨l0, l1⟩⟩ := hd.cells
      obtain ⟨⟨fp0, fp1⟩, ⟨fu0, fu1⟩, _⟩ := hd.frees
      obtain ⟨z0, z1, z2, z3, z4, z5⟩ := hd.sizes
      have hBr := hd.bel
      have hfin := div_done (m := val d1) (by have := HV.out.1; rw [Nat.pow_zero, Nat.div_one] at this; exact this) HV.out.2
      have HF := Lib.hid hfin
      clear hfin
      go_wp2_with fail
      have hdd : Dv w wr.drew s1 s2 A1 A2 n1 c1 n2 c2 AQ nQ cQ dQ AL nL cL dL := hd.keep ((Below.refl _ _).drew)
      obtain ⟨⟨a0', a1'⟩, ⟨b0', b1'⟩, ⟨p0', p1'⟩, ⟨u0', u1'⟩, ⟨q0', q1'⟩, ⟨l0', l1'⟩⟩ := hdd.cells
      obtain ⟨⟨fp0', fp1'⟩, ⟨fu0', fu1'⟩, _⟩ := hdd.frees
      obtain ⟨z0', z1', z2', z3', z4', z5'⟩ := hdd.sizes
      go_region
      all_goals go_wp2_with fail
      refine bodyPost_ret (by simp [results, Try.results106, go_sem, *]; try rfl) rfl ?_
      have vs2 := (hdd.vs.far (p := ⟨w.heap.size + 1 + 1, 0, none⟩) (by simp) (.bool false)).far (p := ⟨w.heap.size + 1 + 1, 1, none⟩) (by simp) (.slice AQ nQ cQ)
      exact ⟨_, _, rfl, ⟨AQ, nQ, cQ, dQ, rfl, (hdd.rq.over hdd.vr _ _).over vs2 _ _, hd.tq, HF.out.1⟩, ⟨AL, nL, cL, dL, rfl, (hdd.rl.over hdd.vr _ _).over vs2 _ _, hd.tl, HF.out.2⟩, by go_grown⟩
    · obtain ⟨k, rfl⟩ : ∃ j, k = j + 1 := ⟨k - 1, by omega⟩
      rw [show (((k + 1 : Nat) : Int) - 1) = (k : Int) by omega]
      have lq : nQ ≤ n1 := by
        refine raw_len hd.rq hd.tq ?_
        have h1 := val_small HL.out.2.2.2.1 HL.out.1
        have h2 := HV.out.1
        have h3 := Nat.div_le_self (val d1) (2 ^ (k + 1))
        have h4 := Nat.le_mul_of_pos_right (val dQ) HL.out.2.2.1
        unfold Small
        omega
      have hqs : val dQ < 65536 ^ n1 := by
        have h1 := val_small HL.out.2.2.2.1 HL.out.1
        have h2 := HV.out.1
        have h3 := Nat.div_le_self (val d1) (2 ^ (k + 1))
        have h4 := Nat.le_mul_of_pos_right (val dQ) HL.out.2.2.1
        omega
      have HQS := Lib.hid hqs
      clear hqs
      have ll : nL ≤ n2 := by
        refine raw_len hd.rl hd.tl ?_
        have h1 := val_small HL.out.2.2.2.2 HL.out.2.1
        have h2 := HV.out.2
        unfold Small
        omega
      obtain ⟨⟨a0, a1⟩, ⟨b0, b1⟩, ⟨p0, p1⟩, ⟨u0, u1⟩, ⟨q0, q1⟩, ⟨l0, l1⟩⟩ := hd.cells
      obtain ⟨_, _, ⟨fq0, fq1⟩, ⟨fl0, fl1⟩⟩ := hd.frees
      obtain ⟨z0, z1, z2, z3, z4, z5⟩ := hd.sizes
      have hBr := hd.bel
      go_wp2_with fail
      refine (size_any hd.rl hd.rl false false (by omega) (by omega) _ (Below.refl _ _)).mono ?_
      rintro e w1 ⟨v, rfl, ⟨Aa, na, ca, da, rfl, ra, ta, ha⟩, hb_w1⟩
      obtain ⟨hc_w1, hf_w1⟩ := bcell hb_w1
      have hz_w1 := hb_w1.size
      try simp at hz_w1
      have hB_w1 : Below w.heap.size w w1 := Below.trans (by go_grown) (hb_w1.mono (by go_size))
      have hs_w1_0 : w.heap.size < w1.heap.size := by omega
      have hs_w1_1 : w.heap.size + 1 < w1.heap.size := by omega
      have hs_w1_2 : w.heap.size + 1 + 1 + 1 + 1 < w1.heap.size := by omega
      have hs_w1_3 : w.heap.size + 1 + 1 + 1 + 1 + 1 < w1.heap.size := by omega
      have ha_v := Lib.hid ha
      clear ha
      have la : na ≤ n2 + 1 := raw_len ra ta (by rw [ha_v.out, show val dL + val dL = 2 * val dL + 0 by omega]; exact small_two (Nat.lt_trans HV.out.2 (val_small HL.out.2.2.2.2 HL.out.2.1)) (by omega))
      have hd1 := (hd.keep hb_w1).setL ra ta
      go_wp2_with fail
      refine (size_any hd1.rq hd1.rq false false (by omega) (by omega) _ (Below.refl _ _)).mono ?_
      rintro e w2 ⟨v, rfl, ⟨Ab, nb, cb, db, rfl, rb, tb, hb⟩, hb_w2⟩
      obtain ⟨hc_w2, hf_w2⟩ := bcell hb_w2
      have hz_w2 := hb_w2.size
      try simp at hz_w2
      have hB_w2 : Below w.heap.size w w2 := Below.trans (by go_grown) (hb_w2.mono (by go_size))
      have hs_w2_0 : w.heap.size < w2.heap.size := by omega
      have hs_w2_1 : w.heap.size + 1 < w2.heap.size := by omega
      have hs_w2_2 : w.heap.size + 1 + 1 + 1 + 1 < w2.heap.size := by omega
      have hs_w2_3 : w.heap.size + 1 + 1 + 1 + 1 + 1 < w2.heap.size := by omega
      have hb_v := Lib.hid hb
      clear hb
      have lb : nb ≤ n1 + 1 := raw_len rb tb (by rw [hb_v.out, show val dQ + val dQ = 2 * val dQ + 0 by omega]; exact small_two HQS.out (by omega))
      have hd2 := (hd1.keep hb_w2).setQ rb tb
      go_wp2_with fail
      refine wp_gen (fun W1 hW1 => ?_)
      rw [← hW1] at hd2
      clear hW1 a0 a1 b0 b1 p0 p1 u0 u1 q0 q1 l0 l1 fq0 fq1 fl0 fl1 z0 z1 z2 z3 z4 z5 hBr hB_w1 hB_w2 hc_w1 hc_w2 hf_w1 hf_w2 hz_w1 hz_w2
      have hlen : k / 16 < n1 := by omega
      obtain ⟨b, o, rfl, hbb, hcell⟩ := (r1.below hd2.bel).at_ hlen
      obtain ⟨⟨a0, a1⟩, ⟨b0, b1⟩, ⟨p0, p1⟩, ⟨u0, u1⟩, ⟨q0, q1⟩, ⟨l0, l1⟩⟩ := hd2.cells
      obtain ⟨_, _, ⟨fq0, fq1⟩, ⟨fl0, fl1⟩⟩ := hd2.frees
      obtain ⟨z0, z1, z2, z3, z4, z5⟩ := hd2.sizes
      have hBr := hd2.bel
      have pw := fun W => smallpow_ref (k % 16) (by omega) W
      rw [show ((k % 16 : Nat) : Int) = (k : Int) % 16 by omega] at pw
      obtain ⟨pp, hpp⟩ : ∃ z, 2 ^ (k % 16) = z := ⟨_, rfl⟩
      rw [hpp] at pw
      have hp0 : 0 < pp := by rw [← hpp]; exact Nat.pow_pos (by omega)
      have hp1 : ¬ ((pp : Nat) : Int) = 0 := by omega
      have POW := Lib.hid pw
      have HPP := Lib.hid hpp
      clear pw hpp
      have hdg := (HL.out.2.2.2.1).getD (k / 16)
      have hq_W1 := @wd_cell W1
      refine wp_region_wd (by kernel_rfl) (by kernel_rfl) ?_
      repeat (go_big_quiet_step ((first | (go_at_call 119; with_reducible exact quiet_wd_same (POW.out _)))))
      refine wpQuiet_nil ?_
      rintro w3 ⟨⟨wx, hb_w3⟩, hwx⟩
      obtain rfl : w3 = wx := hwx
      clear hq_W1
      have hz_w3 := hb_w3.size
      obtain ⟨hc_w3, hf_w3⟩ := bcell hb_w3
      have hB_w3 : Below w.heap.size w w3 := Below.trans (by go_grown) (hb_w3.mono (by go_size))
      have hs_w3_0 : w.heap.size < w3.heap.size := Nat.lt_of_lt_of_le (by assumption) hb_w3.size
      have hs_w3_1 : w.heap.size + 1 < w3.heap.size := Nat.lt_of_lt_of_le (by assumption) hb_w3.size
      have hs_w3_2 : w.heap.size + 1 + 1 + 1 + 1 < w3.heap.size := Nat.lt_of_lt_of_le (by assumption) hb_w3.size
      have hs_w3_3 : w.heap.size + 1 + 1 + 1 + 1 + 1 < w3.heap.size := Nat.lt_of_lt_of_le (by assumption) hb_w3.size
      have hd3 := hd2.keep hb_w3
      have bit1 := bit_of hdg hp0
      have bit2 := val_bit HL.out.2.2.2.1 k
      rw [HPP.out] at bit2
      rw [List.getD_eq_getElem?_getD] at bit1 bit2
      have HBB := Lib.hid (And.intro bit1 bit2)
      clear bit1 bit2
      have HU1 := Lib.hid (fun W => unsigned_ref 1 (by omega) W)
      go_wp2_with fail
      · have hbt := HBB.out.1.1 (by assumption)
        have HBIT := Lib.hid (show 1 = val d1 / 2 ^ k % 2 by rw [← HBB.out.2, hbt])
        clear hbt
        obtain ⟨⟨a0', a1'⟩, ⟨b0', b1'⟩, ⟨p0', p1'⟩, ⟨u0', u1'⟩, ⟨q0', q1'⟩, ⟨l0', l1'⟩⟩ := hd3.cells
        obtain ⟨_, _, ⟨fq0', fq1'⟩, ⟨fl0', fl1'⟩⟩ := hd3.frees
        obtain ⟨z0', z1', z2', z3', z4', z5'⟩ := hd3.sizes
        clear a0 a1 b0 b1 p0 p1 u0 u1 q0 q1 l0 l1 fq0 fq1 fl0 fl1 z0 z1 z2 z3 z4 z5 hBr hc_w3 hf_w3 hcell
        have hBr := hd3.bel
        go_region_with (first | (go_at_call 76; refine (HU1.out _).mono ?_; rintro e wk ⟨v, rfl, ⟨Ag, ng, cg, dg, rfl, rg, tg, hg⟩, hb_wk⟩; (first | replace hb_wk := undrew hb_wk | skip); obtain ⟨hc_wk, hf_wk⟩ := bcell hb_wk; have hz_wk := hb_wk.size; (try simp at hz_wk); have hB_wk : Below w.heap.size w wk := Below.trans (by go_grown) (hb_wk.mono (by go_size)); have hs_wk_0 : w.heap.size < wk.heap.size := (by omega); have hs_wk_1 : w.heap.size + 1 < wk.heap.size := (by omega); have hs_wk_2 : w.heap.size + 1 + 1 + 1 + 1 < wk.heap.size := (by omega); have hs_wk_3 : w.heap.size + 1 + 1 + 1 + 1 + 1 < wk.heap.size := (by omega); have HG := Lib.hid hg; clear hg; have hd7 := hd3.keep hb_wk; have le : ng ≤ 1 := raw_len rg tg (by rw [HG.out]; exact one_small)) | (go_at_call 77; refine (size_any hd7.rl rg false false (by omega) (by omega) _ (Below.refl _ _)).mono ?_; rintro e wk ⟨v, rfl, ⟨Ah, nh, ch, dh, rfl, rh, th, hh⟩, hb_wk⟩; (first | replace hb_wk := undrew hb_wk | skip); obtain ⟨hc_wk, hf_wk⟩ := bcell hb_wk; have hz_wk := hb_wk.size; (try simp at hz_wk); have hB_wk : Below w.heap.size w wk := Below.trans (by go_grown) (hb_wk.mono (by go_size)); have hs_wk_0 : w.heap.size < wk.heap.size := (by omega); have hs_wk_1 : w.heap.size + 1 < wk.heap.size := (by omega); have hs_wk_2 : w.heap.size + 1 + 1 + 1 + 1 < wk.heap.size := (by omega); have hs_wk_3 : w.heap.size + 1 + 1 + 1 + 1 + 1 < wk.heap.size := (by omega); have HH := Lib.hid hh; clear hh; have hd8 := hd7.keep hb_wk))
        all_goals
          have hd9 := hd8.setL rh th
          have HL1 := Lib.hid (show val dh = 2 * val dL + 1 by rw [HH.out, HG.out, ha_v.out]; omega)
          have lh : nh ≤ n2 + 1 := raw_len rh th (by rw [HL1.out]; exact small_two (Nat.lt_trans HV.out.2 (val_small HL.out.2.2.2.2 HL.out.2.1)) (Nat.le_refl _))
          go_wp2_with fail
          clear a0' a1' b0' b1' p0' p1' u0' u1' q0' q1' l0' l1' fq0' fq1' fl0' fl1' z0' z1' z2' z3' z4' z5' hBr
          refine calls_gen (fun W4 hW4 => ?_)
          rw [← hW4] at hd9
          clear hW4
          obtain ⟨⟨a0, a1⟩, ⟨b0, b1⟩, ⟨p0, p1⟩, ⟨u0, u1⟩, ⟨q0, q1⟩, ⟨l0, l1⟩⟩ := hd9.cells
          obtain ⟨_, _, ⟨fq0, fq1⟩, ⟨fl0, fl1⟩⟩ := hd9.frees
          obtain ⟨z0, z1, z2, z3, z4, z5⟩ := hd9.sizes
          have hBr := hd9.bel
          have hcs := cmpSize_any hd9.rl (r2.below hBr) false s2 (by omega) (by omega) _ (Below.refl _ _)
          have hcw := cmp_ways (val dh) (val d2)
          obtain ⟨cc, hcc⟩ : ∃ z, cmpI (val dh) (val d2) = z := ⟨_, rfl⟩
          rw [hcc] at hcs hcw
          have HC := Lib.hid hcw
          clear hcw hcc
          rcases Int.lt_or_le cc 0 with hneg | hge
          · have hlt : val dh < val d2 := by have := HC.out; omega
            have HLT := Lib.hid hlt
            clear hlt
            refine (hcs).mono ?_
            rintro e w5 ⟨rfl, hb_w5⟩
            obtain ⟨hc_w5, hf_w5⟩ := bcell hb_w5
            have hz_w5 := hb_w5.size
            try simp at hz_w5
            have hB_w5 : Below w.heap.size w w5 := Below.trans (by go_grown) (hb_w5.mono (by go_size))
            have hs_w5_0 : w.heap.size < w5.heap.size := by omega
            have hs_w5_1 : w.heap.size + 1 < w5.heap.size := by omega
            have hs_w5_2 : w.heap.size + 1 + 1 + 1 + 1 < w5.heap.size := by omega
            have hs_w5_3 : w.heap.size + 1 + 1 + 1 + 1 + 1 < w5.heap.size := by omega
            have hd5 := hd9.keep hb_w5
            go_wp2_with fail
            go_roundw
            case measure => (first | (simp [intOf]; done) | (simp [intOf]; omega))
            case rel =>
              refine ⟨Ab, nb, cb, db, Ah, nh, ch, dh, k, by omega, congrArg (Value.int .i64) (by omega), hd5, ?_, HLT.out⟩
              have hv := HV.out
              have hb0 := HBIT.out
              rw [hb_v.out, HL1.out]
              have hst := div_step hv.1 hb0
              rw [show val dQ + val dQ = 2 * val dQ by omega]
              omega
          · have hle : val d2 ≤ val dh := by have := HC.out; omega
            have HLE := Lib.hid hle
            clear hle
            refine (hcs).mono ?_
            rintro e w5 ⟨rfl, hb_w5⟩
            obtain ⟨hc_w5, hf_w5⟩ := bcell hb_w5
            have hz_w5 := hb_w5.size
            try simp at hz_w5
            have hB_w5 : Below w.heap.size w w5 := Below.trans (by go_grown) (hb_w5.mono (by go_size))
            have hs_w5_0 : w.heap.size < w5.heap.size := by omega
            have hs_w5_1 : w.heap.size + 1 < w5.heap.size := by omega
            have hs_w5_2 : w.heap.size + 1 + 1 + 1 + 1 < w5.heap.size := by omega
            have hs_w5_3 : w.heap.size + 1 + 1 + 1 + 1 + 1 < w5.heap.size := by omega
            have hd5 := hd9.keep hb_w5
            go_wp2_with fail
            refine (less_any hd5.rl (r2.below hd5.bel) false s2 (by omega) HLE.out _ (Below.refl _ _)).mono ?_
            rintro e w6 ⟨v, rfl, ⟨Ac, nc, cc2, dc, rfl, rc, tc, hc⟩, hb_w6⟩
            obtain ⟨hc_w6, hf_w6⟩ := bcell hb_w6
            have hz_w6 := hb_w6.size
            try simp at hz_w6
            have hB_w6 : Below w.heap.size w w6 := Below.trans (by go_grown) (hb_w6.mono (by go_size))
            have hs_w6_0 : w.heap.size < w6.heap.size := by omega
            have hs_w6_1 : w.heap.size + 1 < w6.heap.size := by omega
            have hs_w6_2 : w.heap.size + 1 + 1 + 1 + 1 < w6.heap.size := by omega
            have hs_w6_3 : w.heap.size + 1 + 1 + 1 + 1 + 1 < w6.heap.size := by omega
            have HCV := Lib.hid hc
            clear hc
            have hd6 := (hd5.keep hb_w6).setL rc tc
            go_wp2_with fail
            refine wp_gen (fun W7 hW7 => ?_)
            rw [← hW7] at hd6
            clear hW7 a0 a1 b0 b1 p0 p1 u0 u1 q0 q1 l0 l1 fq0 fq1 fl0 fl1 z0 z1 z2 z3 z4 z5 hBr hB_w5 hB_w6 hc_w5 hc_w6 hf_w5 hf_w6 hz_w5 hz_w6
            obtain ⟨⟨a0, a1⟩, ⟨b0, b1⟩, ⟨p0, p1⟩, ⟨u0, u1⟩, ⟨q0, q1⟩, ⟨l0, l1⟩⟩ := hd6.cells
            obtain ⟨_, _, ⟨fq0, fq1⟩, ⟨fl0, fl1⟩⟩ := hd6.frees
            obtain ⟨z0, z1, z2, z3, z4, z5⟩ := hd6.sizes
            have hBr := hd6.bel
            go_region_with (first | (go_at_call 76; refine (HU1.out _).mono ?_; rintro e wk ⟨v, rfl, ⟨Ae, ne, ce, de, rfl, re, te, he⟩, hb_wk⟩; (first | replace hb_wk := undrew hb_wk | skip); obtain ⟨hc_wk, hf_wk⟩ := bcell hb_wk; have hz_wk := hb_wk.size; (try simp at hz_wk); have hB_wk : Below w.heap.size w wk := Below.trans (by go_grown) (hb_wk.mono (by go_size)); have hs_wk_0 : w.heap.size < wk.heap.size := (by omega); have hs_wk_1 : w.heap.size + 1 < wk.heap.size := (by omega); have hs_wk_2 : w.heap.size + 1 + 1 + 1 + 1 < wk.heap.size := (by omega); have hs_wk_3 : w.heap.size + 1 + 1 + 1 + 1 + 1 < wk.heap.size := (by omega); have HE := Lib.hid he; clear he; have hd7 := hd6.keep hb_wk; have le : ne ≤ 1 := raw_len re te (by rw [HE.out]; exact one_small)) | (go_at_call 77; refine (size_any hd7.rq re false false (by omega) (by omega) _ (Below.refl _ _)).mono ?_; rintro e wk ⟨v, rfl, ⟨Af, nf, cf, df, rfl, rf, tf, hf⟩, hb_wk⟩; (first | replace hb_wk := undrew hb_wk | skip); obtain ⟨hc_wk, hf_wk⟩ := bcell hb_wk; have hz_wk := hb_wk.size; (try simp at hz_wk); have hB_wk : Below w.heap.size w wk := Below.trans (by go_grown) (hb_wk.mono (by go_size)); have hs_wk_0 : w.heap.size < wk.heap.size := (by omega); have hs_wk_1 : w.heap.size + 1 < wk.heap.size := (by omega); have hs_wk_2 : w.heap.size + 1 + 1 + 1 + 1 < wk.heap.size := (by omega); have hs_wk_3 : w.heap.size + 1 + 1 + 1 + 1 + 1 < wk.heap.size := (by omega); have HF := Lib.hid hf; clear hf; have hd8 := hd7.keep hb_wk))
            all_goals
              have hd9 := hd8.setQ rf tf
              go_wp2_with fail
              go_roundw
              case measure => (first | (simp [intOf]; done) | (simp [intOf]; omega))
              case rel =>
                refine ⟨Af, nf, cf, df, Ac, nc, cc2, dc, k, by omega, congrArg (Value.int .i64) (by omega), hd9, ?_⟩
                have hv := HV.out
                have hb0 := HBIT.out
                have hle := HLE.out
                rw [HF.out, HE.out, HCV.out, hb_v.out]
                have hst := div_step hv.1 hb0
                rw [HL1.out] at hle ⊢
                rw [show val dQ + val dQ + 1 = 2 * val dQ + 1 by omega, Nat.add_mul]
                refine ⟨by omega, by omega⟩
      · have hbt : ¬ _ := fun e => Bool.noConfusion ((HBB.out.1.2 e).symm.trans (by assumption))
        have HBIT := Lib.hid (show 0 = val d1 / 2 ^ k % 2 by rw [← HBB.out.2]; omega)
        clear hbt
        have HL1 := Lib.hid (show val da = 2 * val dL + 0 by rw [ha_v.out]; omega)
        clear a0 a1 b0 b1 p0 p1 u0 u1 q0 q1 l0 l1 fq0 fq1 fl0 fl1 z0 z1 z2 z3 z4 z5 hBr hc_w3 hf_w3 hcell
        refine calls_gen (fun W4 hW4 => ?_)
        rw [← hW4] at hd3
        clear hW4
        obtain ⟨⟨a0, a1⟩, ⟨b0, b1⟩, ⟨p0, p1⟩, ⟨u0, u1⟩, ⟨q0, q1⟩, ⟨l0, l1⟩⟩ := hd3.cells
        obtain ⟨_, _, ⟨fq0, fq1⟩, ⟨fl0, fl1⟩⟩ := hd3.frees
        obtain ⟨z0, z1, z2, z3, z4, z5⟩ := hd3.sizes
        have hBr := hd3.bel
        have hcs := cmpSize_any hd3.rl (r2.below hBr) false s2 (by omega) (by omega) _ (Below.refl _ _)
        have hcw := cmp_ways (val da) (val d2)
        obtain ⟨cc, hcc⟩ : ∃ z, cmpI (val da) (val d2) = z := ⟨_, rfl⟩
        rw [hcc] at hcs hcw
        have HC := Lib.hid hcw
        clear hcw hcc
        rcases Int.lt_or_le cc 0 with hneg | hge
        · have hlt : val da < val d2 := by have := HC.out; omega
          have HLT := Lib.hid hlt
          clear hlt
          refine (hcs).mono ?_
          rintro e w5 ⟨rfl, hb_w5⟩
          obtain ⟨hc_w5, hf_w5⟩ := bcell hb_w5
          have hz_w5 := hb_w5.size
          try simp at hz_w5
          have hB_w5 : Below w.heap.size w w5 := Below.trans (by go_grown) (hb_w5.mono (by go_size))
          have hs_w5_0 : w.heap.size < w5.heap.size := by omega
          have hs_w5_1 : w.heap.size + 1 < w5.heap.size := by omega
          have hs_w5_2 : w.heap.size + 1 + 1 + 1 + 1 < w5.heap.size := by omega
          have hs_w5_3 : w.heap.size + 1 + 1 + 1 + 1 + 1 < w5.heap.size := by omega
          have hd5 := hd3.keep hb_w5
          go_wp2_with fail
          go_roundw
          case measure => (first | (simp [intOf]; done) | (simp [intOf]; omega))
          case rel =>
            refine ⟨Ab, nb, cb, db, Aa, na, ca, da, k, by omega, congrArg (Value.int .i64) (by omega), hd5, ?_, HLT.out⟩
            have hv := HV.out
            have hb0 := HBIT.out
            rw [hb_v.out, HL1.out]
            have hst := div_step hv.1 hb0
            rw [show val dQ + val dQ = 2 * val dQ by omega]
            omega
        · have hle : val d2 ≤ val da := by have := HC.out; omega
          have HLE := Lib.hid hle
          clear hle
          refine (hcs).mono ?_
          rintro e w5 ⟨rfl, hb_w5⟩
          obtain ⟨hc_w5, hf_w5⟩ := bcell hb_w5
          have hz_w5 := hb_w5.size
          try simp at hz_w5
          have hB_w5 : Below w.heap.size w w5 := Below.trans (by go_grown) (hb_w5.mono (by go_size))
          have hs_w5_0 : w.heap.size < w5.heap.size := by omega
          have hs_w5_1 : w.heap.size + 1 < w5.heap.size := by omega
          have hs_w5_2 : w.heap.size + 1 + 1 + 1 + 1 < w5.heap.size := by omega
          have hs_w5_3 : w.heap.size + 1 + 1 + 1 + 1 + 1 < w5.heap.size := by omega
          have hd5 := hd3.keep hb_w5
          go_wp2_with fail
          refine (less_any hd5.rl (r2.below hd5.bel) false s2 (by omega) HLE.out _ (Below.refl _ _)).mono ?_
          rintro e w6 ⟨v, rfl, ⟨Ac, nc, cc2, dc, rfl, rc, tc, hc⟩, hb_w6⟩
          obtain ⟨hc_w6, hf_w6⟩ := bcell hb_w6
          have hz_w6 := hb_w6.size
          try simp at hz_w6
          have hB_w6 : Below w.heap.size w w6 := Below.trans (by go_grown) (hb_w6.mono (by go_size))
          have hs_w6_0 : w.heap.size < w6.heap.size := by omega
          have hs_w6_1 : w.heap.size + 1 < w6.heap.size := by omega
          have hs_w6_2 : w.heap.size + 1 + 1 + 1 + 1 < w6.heap.size := by omega
          have hs_w6_3 : w.heap.size + 1 + 1 + 1 + 1 + 1 < w6.heap.size := by omega
          have HCV := Lib.hid hc
          clear hc
          have hd6 := (hd5.keep hb_w6).setL rc tc
          go_wp2_with fail
          refine wp_gen (fun W7 hW7 => ?_)
          rw [← hW7] at hd6
          clear hW7 a0 a1 b0 b1 p0 p1 u0 u1 q0 q1 l0 l1 fq0 fq1 fl0 fl1 z0 z1 z2 z3 z4 z5 hBr hB_w5 hB_w6 hc_w5 hc_w6 hf_w5 hf_w6 hz_w5 hz_w6
          obtain ⟨⟨a0, a1⟩, ⟨b0, b1⟩, ⟨p0, p1⟩, ⟨u0, u1⟩, ⟨q0, q1⟩, ⟨l0, l1⟩⟩ := hd6.cells
          obtain ⟨_, _, ⟨fq0, fq1⟩, ⟨fl0, fl1⟩⟩ := hd6.frees
          obtain ⟨z0, z1, z2, z3, z4, z5⟩ := hd6.sizes
          have hBr := hd6.bel
          go_region_with (first | (go_at_call 76; refine (HU1.out _).mono ?_; rintro e wk ⟨v, rfl, ⟨Ae, ne, ce, de, rfl, re, te, he⟩, hb_wk⟩; (first | replace hb_wk := undrew hb_wk | skip); obtain ⟨hc_wk, hf_wk⟩ := bcell hb_wk; have hz_wk := hb_wk.size; (try simp at hz_wk); have hB_wk : Below w.heap.size w wk := Below.trans (by go_grown) (hb_wk.mono (by go_size)); have hs_wk_0 : w.heap.size < wk.heap.size := (by omega); have hs_wk_1 : w.heap.size + 1 < wk.heap.size := (by omega); have hs_wk_2 : w.heap.size + 1 + 1 + 1 + 1 < wk.heap.size := (by omega); have hs_wk_3 : w.heap.size + 1 + 1 + 1 + 1 + 1 < wk.heap.size := (by omega); have HE := Lib.hid he; clear he; have hd7 := hd6.keep hb_wk; have le : ne ≤ 1 := raw_len re te (by rw [HE.out]; exact one_small)) | (go_at_call 77; refine (size_any hd7.rq re false false (by omega) (by omega) _ (Below.refl _ _)).mono ?_; rintro e wk ⟨v, rfl, ⟨Af, nf, cf, df, rfl, rf, tf, hf⟩, hb_wk⟩; (first | replace hb_wk := undrew hb_wk | skip); obtain ⟨hc_wk, hf_wk⟩ := bcell hb_wk; have hz_wk := hb_wk.size; (try simp at hz_wk); have hB_wk : Below w.heap.size w wk := Below.trans (by go_grown) (hb_wk.mono (by go_size)); have hs_wk_0 : w.heap.size < wk.heap.size := (by omega); have hs_wk_1 : w.heap.size + 1 < wk.heap.size := (by omega); have hs_wk_2 : w.heap.size + 1 + 1 + 1 + 1 < wk.heap.size := (by omega); have hs_wk_3 : w.heap.size + 1 + 1 + 1 + 1 + 1 < wk.heap.size := (by omega); have HF := Lib.hid hf; clear hf; have hd8 := hd7.keep hb_wk))
          all_goals
            have hd9 := hd8.setQ rf tf
            go_wp2_with fail
            go_roundw
            case measure => (first | (simp [intOf]; done) | (simp [intOf]; omega))
            case rel =>
              refine ⟨Af, nf, cf, df, Ac, nc, cc2, dc, k, by omega, congrArg (Value.int .i64) (by omega), hd9, ?_⟩
              have hv := HV.out
              have hb0 := HBIT.out
              have hle := HLE.out
              rw [HF.out, HE.out, HCV.out, hb_v.out]
              have hst := div_step hv.1 hb0
              rw [HL1.out] at hle ⊢
              rw [show val dQ + val dQ + 1 = 2 * val dQ + 1 by omega, Nat.add_mul]
              refine ⟨by omega, by omega⟩

end Go.Proofs.Ytcpojadinkonnaa
