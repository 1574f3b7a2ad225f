/-
  Contract of the reference's Parse: texts that are empty or begin with no sign. (Printed by wip/tools/gen_parser.py.)
-/
import Derived.Test.YtedodoaeecbalaaParseRM
namespace Go.Proofs.Ytedodoaeecbalaa
open Go.RowKit

set_option maxHeartbeats 4000000 in
set_option maxRecDepth 100000 in
theorem parse_ref_e (s : ByteArray) (hm : s.data.toList.length ≤ 9223372036854775807) (h0 : s.data.toList.length = 0) (w : World) :
    Calls Try.prog 45 #[.string s] w fun e w' => (∃ v, e = .returned (.tuple #[v, .int .i64 (pcode s.data.toList)]) ∧ NumAt w' v (pval s.data.toList)) ∧ Below w.heap.size w w' := by
  have hss := Lib.size_eq s
  have IXS := index_at s
  obtain ⟨L, hL⟩ : ∃ z, s.data.toList = z := ⟨_, rfl⟩
  rw [hL] at hss IXS hm h0 ⊢
  rw [h0] at hss
  obtain rfl : L = [] := List.length_eq_zero_iff.1 h0
  have HP := Lib.hid (show pcode [] = 11 ∧ pval [] = 0 by decide +kernel)
  clear IXS hm hL h0
  go_enter Try.func45, Try.ntmps45
  go_wp2_with fail
  refine bodyPost_ret (by simp [results, Try.results45, go_sem, *]; try rfl) rfl ?_
  exact ⟨⟨_, ret_num2 HP.out.1.symm, by rw [HP.out.2]; exact num_zero' _⟩, by go_grown⟩
set_option maxHeartbeats 4000000 in
set_option maxRecDepth 100000 in
theorem parse_ref_n (s : ByteArray) (hm : s.data.toList.length ≤ 9223372036854775807) (h0 : 0 < s.data.toList.length) (hbl : bel s.data.toList = false) (hdg : dgs s.data.toList = s.data.toList) (h45 : (at8 s.data.toList 0).toNat ≠ 45) (w : World) :
    Calls Try.prog 45 #[.string s] w fun e w' => (∃ v, e = .returned (.tuple #[v, .int .i64 (pcode s.data.toList)]) ∧ NumAt w' v (pval s.data.toList)) ∧ Below w.heap.size w w' := by
  have hss := Lib.size_eq s
  have IXS := index_at s
  obtain ⟨L, hL⟩ : ∃ z, s.data.toList = z := ⟨_, rfl⟩
  rw [hL] at hss IXS hm hbl hdg h45 h0 ⊢
  obtain ⟨ds, hds⟩ : ∃ z, L = z := ⟨_, rfl⟩
  rw [hds] at hdg
  rw [hds] at hss IXS hm h45 h0
  have hdg : dgs L = ds := by rw [← hdg, hds]
  have HP11 : Hid (numok ds false = false → pcode L = 11 ∧ pval L = 0) := Lib.hid (fun h => by
    have h1 : pcode L = 11 := by unfold pcode; rw [hdg, hbl, h]; rfl
    exact ⟨h1, by unfold pval; rw [if_neg (by omega)]⟩)
  have HP12 : Hid (numok ds false = true → 340282366920938463463374607431768211456 ≤ dval ds → pcode L = 12 ∧ pval L = 0) := Lib.hid (fun h hv => by
    have h1 : pcode L = 12 := by
      unfold pcode pz
      rw [hdg, hbl, h, if_pos rfl]
      simp only [Bool.false_eq_true, if_false]
      rw [if_neg (by omega)]
    exact ⟨h1, by unfold pval; rw [if_neg (by omega)]⟩)
  have HPZ : Hid (numok ds false = true → pcode L = (if -170141183460469231731687303715884105728 ≤ pz L ∧ pz L ≤ 170141183460469231731687303715884105727 then 0 else 12) ∧ pval L = (if pcode L = 0 then pz L else 0) ∧ pz L = (if false then -(dval ds : Int) else (dval ds : Int))) := Lib.hid (fun h => by
    refine ⟨by unfold pcode; rw [hdg, hbl, h, if_pos rfl], rfl, by unfold pz; rw [hdg, hbl]⟩)
  obtain ⟨z, hz⟩ : ∃ t, pz L = t := ⟨_, rfl⟩
  obtain ⟨pc, hpc⟩ : ∃ t, pcode L = t := ⟨_, rfl⟩
  obtain ⟨pv, hpv⟩ : ∃ t, pval L = t := ⟨_, rfl⟩
  rw [hz, hpc, hpv] at HPZ
  rw [hpc, hpv] at HP11 HP12 ⊢
  clear hz hpc hpv
  obtain ⟨m, hmm⟩ : ∃ z, ds.length = z := ⟨_, rfl⟩
  rw [hmm] at hss IXS hm h0
  have hmI : (m : Int) ≤ 9223372036854775807 := by omega
  have HL := Lib.hid hmm
  obtain ⟨c0, hc0⟩ : ∃ z, (at8 ds 0).toNat = z := ⟨_, rfl⟩
  have IX0 : ∀ W : World, (Instr.index 9 (.string s) (.int .i64 0)).run Try.prog W = .ok (.int .u8 (c0 : Int)) W := fun W => by rw [← hc0]; exact IXS 0 h0 W
  have IXH := Lib.hid IXS
  have HC0 := Lib.hid hc0
  rw [hc0] at h45
  have z45 : ((c0 : Int) == 45) = false := by simp; omega
  have z45' : ¬ (c0 : Int) = 45 := by omega
  have h0I : 0 < (m : Int) := by omega
  have hmz : ((m : Int) == 0) = false := by simp; omega
  have hmz' : ¬ (m : Int) = 0 := by omega
  clear IXS hm hL hbl hdg hds hmm hc0
  rcases Decidable.em (c0 = 48) with hz | hz
  · subst hz
    have z1 : (((48 : Nat) : Int) == 48) = true := by decide
    rcases Nat.lt_or_ge 1 m with h1 | h1
    · have h1I : (1 : Int) < (m : Int) := by omega
      have HP := Lib.hid (HP11.out (numok_nought HC0.out (.inl (by rw [HL.out]; exact h1))))
      go_enter Try.func45, Try.ntmps45
      go_wp2_with fail
      refine bodyPost_ret (by simp [results, Try.results45, go_sem, *]; try rfl) rfl ?_
      exact ⟨⟨_, ret_num2 HP.out.1.symm, by rw [HP.out.2]; exact num_zero' _⟩, by go_grown⟩
    · have h1I : ¬ (1 : Int) < (m : Int) := by omega
      have h1D : decide ((1 : Int) < (m : Int)) = false := decide_eq_false h1I
      go_enter Try.func45, Try.ntmps45
      go_wp2_with fail
      refine wp_gen (fun W0 hW0 => ?_)
      have vR : Var W0 w.heap.size 35 #[.bool false, .slice none 0 0] := by rw [hW0]; exact Var.new _ _ _
      have hB0 : Below w.heap.size w W0 := by rw [hW0]; go_grown
      have r0 : W0.cell? ⟨w.heap.size, 0, none⟩ = some (.bool false) := vR.cell 0
      have r1 : W0.cell? ⟨w.heap.size, 1, none⟩ = some (.slice none 0 0) := vR.cell 1
      have f0 := vR.free 0
      have f1 := vR.free 1
      have zR := vR.lt
      clear hW0
      go_loopw [6] (fun t wr => ∃ i : Nat, t = .int .i64 (i : Int) ∧ i ≤ m ∧ Hid (∀ k, k < i → 48 ≤ (at8 ds k).toNat ∧ (at8 ds k).toNat ≤ 57) ∧ W0 = wr) (fun t _ => (m - intOf t).toNat)
      case atStart => exact ⟨0, rfl, by omega, Lib.hid (fun k hk => absurd hk (by omega)), rfl⟩
      case round =>
        obtain ⟨i, rfl, hi, HG, rfl⟩ := hrel
        rcases Nat.lt_or_ge i m with hlt | hge
        · have hlI : (i : Int) < (m : Int) := by omega
          have IXi := IXH.out i hlt
          have hbad : ¬ (48 ≤ (at8 ds i).toNat ∧ (at8 ds i).toNat ≤ 57) → numok ds false = false := fun h => numok_bad (by rw [HL.out]; exact hlt) h
          have HBAD := Lib.hid hbad
          obtain ⟨ci, hci⟩ : ∃ z, (at8 ds i).toNat = z := ⟨_, rfl⟩
          rw [hci] at IXi HBAD
          have HCI := Lib.hid hci
          clear hbad hci
          rcases Nat.lt_or_ge ci 48 with h1 | h1
          · have h1I : (ci : Int) < 48 := by omega
            have HP := Lib.hid (HP11.out (HBAD.out (by omega)))
            go_wp2_with fail
            refine bodyPost_ret (by simp [results, Try.results45, go_sem, *]; try rfl) rfl ?_
            exact ⟨⟨_, ret_num2 HP.out.1.symm, by rw [HP.out.2]; exact num_zero' _⟩, by go_grown⟩
          · rcases Nat.lt_or_ge 57 ci with h2 | h2
            · have h1I : ¬ (ci : Int) < 48 := by omega
              have h2I : 57 < (ci : Int) := by omega
              have HP := Lib.hid (HP11.out (HBAD.out (by omega)))
              go_wp2_with fail
              refine bodyPost_ret (by simp [results, Try.results45, go_sem, *]; try rfl) rfl ?_
              exact ⟨⟨_, ret_num2 HP.out.1.symm, by rw [HP.out.2]; exact num_zero' _⟩, by go_grown⟩
            · have h1I : ¬ (ci : Int) < 48 := by omega
              have h2I : ¬ 57 < (ci : Int) := by omega
              go_wp2_with fail
              go_roundw
              case rel =>
                refine ⟨i + 1, congrArg (Value.int .i64) (by omega), by omega, Lib.hid (fun k hk => ?_), by trivial⟩
                rcases Nat.lt_or_ge k i with h | h
                · exact HG.out k h
                · rw [show k = i by omega, HCI.out]; exact ⟨h1, h2⟩
              case measure => (first | (simp only [intOf]; omega) | (simp [intOf]; omega))
        · have hgI : ¬ (i : Int) < (m : Int) := by omega
          obtain rfl : i = m := by omega
          have HALL := Lib.hid (show ∀ k, k < i → 48 ≤ (at8 ds k).toNat ∧ (at8 ds k).toNat ≤ 57 from HG.out)
          have HOK := Lib.hid (show numok ds false = true from numok_good (by rw [HL.out]; exact h0) (fun hh => by rw [HL.out] at hh; exact hh.2.elim (fun h => absurd h (by omega)) (fun h => Bool.noConfusion h)) (fun k hk => HG.out k (by rw [HL.out] at hk; omega)))
          rcases Nat.lt_or_ge 60 i with h60 | h60
          · exact absurd h60 (by omega)
          · have h60I : ¬ 60 < (i : Int) := by omega
            go_wp2_with fail
            refine wp_gen (fun W1 hW1 => ?_)
            have vX : Var W1 W0.heap.size 35 #[.bool false, .slice none 0 0] := by rw [hW1]; exact Var.new _ _ _
            have vR1 : Var W1 w.heap.size 35 #[.bool false, .slice none 0 0] := by rw [hW1]; exact vR.alloc _
            have hB1 : Below w.heap.size w W1 := by rw [hW1]; go_grown
            clear hW1 r0 r1 f0 f1
            have HU10 : Hid (∀ W : World, Calls Try.prog 37 #[.int .u64 10] W fun e w' => ∃ v, e = .returned v ∧ MagAt w' v false 10 ∧ Below W.heap.size W w') := Lib.hid (fun W => unsigned_ref 10 (by omega) W)
            have HSM := Lib.hid (fun q (hq : q ≤ i) => dval_sm (ds := ds) (fun k hk => (HALL.out k (by rw [HL.out] at hk; exact hk)).2) (by rw [HL.out]; exact h60) (i := q) (by rw [HL.out]; exact hq))
            go_loopw [8] (fun t wr => ∃ (q : Nat) (A : Option Addr) (n c : Nat) (dn : List Nat), t = .int .i64 (q : Int) ∧ q ≤ i ∧ Var wr W0.heap.size 35 #[.bool false, .slice A n c] ∧ RawAt wr A n c dn ∧ Tight dn ∧ Hid (val dn = dval (ds.take q)) ∧ Var wr w.heap.size 35 #[.bool false, .slice none 0 0] ∧ Below w.heap.size w wr) (fun t _ => (i - intOf t).toNat)
            case atStart => exact ⟨0, none, 0, 0, [], rfl, by omega, vX, ⟨rfl, Nat.le_refl _, by omega, Sl.nil _ _, Digs.nil⟩, Tight.nil, Lib.hid rfl, vR1, hB1⟩
            case round =>
              obtain ⟨q, A, n, c, dn, rfl, hq, hX, hRw, hTi, HV, hR, hBq⟩ := hrel
              clear vX vR1 hB1
              have x0 : wr.cell? ⟨W0.heap.size, 0, none⟩ = some (.bool false) := hX.cell 0
              have x1 : wr.cell? ⟨W0.heap.size, 1, none⟩ = some (.slice A n c) := hX.cell 1
              have zX := hX.lt
              have hn : n ≤ 13 := num_len hRw hTi HV.out (HSM.out q hq)
              rcases Nat.lt_or_ge q i with hlt2 | hge2
              · have hl2I : (q : Int) < (i : Int) := by omega
                have IXq := IXH.out q hlt2
                have hdq := HALL.out q hlt2
                have hst := dval_take (ds := ds) (i := q) (by rw [HL.out]; exact hlt2)
                obtain ⟨cq, hcq⟩ : ∃ z, (at8 ds q).toNat = z := ⟨_, rfl⟩
                rw [hcq] at IXq hdq hst
                obtain ⟨dq, hdq2⟩ : ∃ z, cq - 48 = z := ⟨_, rfl⟩
                rw [hdq2, ← HV.out] at hst
                have E1 : IntKind.u8.wrap ((cq : Int) - 48) = (dq : Int) := by simp only [IntKind.wrap, IntKind.signed, IntKind.bits]; simp; omega
                have hdI : (dq : Int) ≤ 9 := by omega
                have E2 : IntKind.u64.wrap (dq : Int) = (dq : Int) := by rw [IntKind.wrap_u64]; omega
                have HUD := Lib.hid (fun W => unsigned_ref dq (by omega) W)
                have HST := Lib.hid hst
                have hsm13 : Small 13 (val dn) := by rw [HV.out]; exact HSM.out q hq
                have HS13 := Lib.hid hsm13
                clear hcq hdq hdq2 hst hsm13
                go_wp2_with fail
                have hXd : Var wr.drew W0.heap.size 35 #[.bool false, .slice A n c] := hX
                have hRd : RawAt wr.drew A n c dn := hRw.below ((Below.refl _ _).drew)
                have hk0 : Below wr.heap.size wr wr.drew := (Below.refl _ _).drew
                have xd0 : wr.drew.cell? ⟨W0.heap.size, 0, none⟩ = some (.bool false) := x0
                have xd1 : wr.drew.cell? ⟨W0.heap.size, 1, none⟩ = some (.slice A n c) := x1
                go_region_with
                  (first
                    | (go_at_call 56; refine (open_mag (size_any (hr2.below hb_w3) hr3 b2 false (by omega) (by omega) _ (Below.refl _ _))).mono ?_; rintro e w4 ⟨b4, A4, n4, c4, e4, rfl, hs4, hr4, ht4, hv4, hb_w4⟩; obtain rfl := hs4.out; have hk4 := bel_next hk3 hb_w4; have hX4 := hX3.keep hb_w4; have v0 : w4.cell? ⟨W0.heap.size, 0, none⟩ = some (.bool false) := var_c0 hX4; have v1 : w4.cell? ⟨W0.heap.size, 1, none⟩ = some (.slice A n c) := var_c1 hX4; have v2 := hX4.free 0; have v3 := hX4.free 1)
                    | (go_at_call 37; with_reducible refine (open_mag (HUD.out _)).mono ?_; rintro e w3 ⟨b3, A3, n3, c3, e3, rfl, hs3, hr3, ht3, hv3, hb_w3⟩; obtain rfl := hs3.out; have hk3 := bel_next hk2 hb_w3; have hX3 := hX2.keep hb_w3; have l3 : n3 ≤ 1 := num_len hr3 ht3 hv3.out (small_dig (by omega)))
                    | (go_at_call 30; refine (open_mag (mul_ref (hRd.below hb_w1) hr1 false false (by omega) (by omega) _ (Below.refl _ _))).mono ?_; rintro e w2 ⟨b2, A2, n2, c2, e2, rfl, hs2, hr2, ht2, hv2, hb_w2⟩; have hk2 := bel_next hk1 hb_w2; have hX2 := hX1.keep hb_w2; have l2 : n2 ≤ 14 := num_len hr2 ht2 hv2.out (by rw [hv1.out]; exact HS13.out.mul small_ten))
                    | (go_at_call 37; with_reducible refine (open_mag (HU10.out _)).mono ?_; rintro e w1 ⟨b1, A1, n1, c1, e1, rfl, hs1, hr1, ht1, hv1, hb_w1⟩; obtain rfl := hs1.out; have hk1 := bel_next hk0 hb_w1; have hX1 := hXd.keep hb_w1; have u0 : w1.cell? ⟨W0.heap.size, 0, none⟩ = some (.bool false) := var_c0 hX1; have u1 : w1.cell? ⟨W0.heap.size, 1, none⟩ = some (.slice A n c) := var_c1 hX1; have l1 : n1 ≤ 1 := num_len hr1 ht1 hv1.out small_ten))
                all_goals (
                  go_wp2_with fail
                  go_roundw
                  case rel => exact ⟨q + 1, A4, n4, c4, e4, congrArg (Value.int .i64) (by omega), by omega, var_two hX4 _ _, raw_far2 hr4 hX4 _ _, ht4, Lib.hid (by rw [hv4.out, hv2.out, hv3.out, hv1.out, HST.out]), var_far2 (hR.keep hk4) (by omega) _ _, (((hBq.trans (hk4.mono hBq.size)).setCell (p := ⟨W0.heap.size, 0, none⟩) (Nat.le_of_lt zR) _).setCell (p := ⟨W0.heap.size, 1, none⟩) (Nat.le_of_lt zR) _)⟩
                  case measure => (first | (simp only [intOf]; omega) | (simp [intOf]; omega)))
              · obtain rfl : q = i := by omega
                have hq2I : ¬ (q : Int) < (q : Int) := by omega
                have hfull := HV.out
                rw [List.take_of_length_le (by rw [HL.out]; exact Nat.le_refl _)] at hfull
                have hpz := HPZ.out HOK.out
                have hsm := HSM.out q (Nat.le_refl _)
                rw [List.take_of_length_le (by rw [HL.out]; exact Nat.le_refl _)] at hsm
                rw [← hfull] at hpz hsm
                obtain ⟨ft, hft⟩ : ∃ t, decide (-170141183460469231731687303715884105728 ≤ z ∧ z ≤ 170141183460469231731687303715884105727) = t := ⟨_, rfl⟩
                have hsz : Small 13 z.natAbs := by rw [hpz.2.2]; split <;> (first | (rw [Int.natAbs_neg, Int.natAbs_natCast]; exact hsm) | (rw [Int.natAbs_natCast]; exact hsm))
                have HSZ := Lib.hid hsz
                have HPP := Lib.hid (And.intro hpz hft)
                have FT := Lib.hid (fun (w0 : World) (v : Value) (h : NumAt w0 v z) => fits_ref h HSZ.out (by omega) (by omega) w0 (Below.refl _ _))
                rw [hft] at FT
                have f0 := hX.free 0
                have f1 := hX.free 1
                clear hpz hft hsz hsm hfull
                go_wp2_with fail
                refine calls_gen (fun W5 hW5 => ?_)
                have hX5 : Var W5 W0.heap.size 35 #[.bool false, .slice A n c] := by rw [hW5]; exact hX.store 0 _
                have hR5 : Var W5 w.heap.size 35 #[.bool false, .slice none 0 0] := by rw [hW5]; exact hR.far (p := ⟨W0.heap.size, 0, none⟩) (by simp; omega) _
                have rw5 : RawAt W5 A n c dn := by rw [hW5]; exact raw_put hRw hX 0 _
                have hB5 : Below w.heap.size w W5 := by rw [hW5]; exact hBq.setCell (p := ⟨W0.heap.size, 0, none⟩) (Nat.le_of_lt zR) _
                clear hW5
                refine (open_mag (trimmed_any rw5 false _ (Below.refl _ _))).mono ?_
                rintro e w6 ⟨b6, A6, n6, c6, e6, rfl, hs6, hr6, ht6, hv6, hb_w6⟩
                have hz6 : NumAt w6 (.agg #[.bool b6, .slice A6 n6 c6]) z := num_end hr6 ht6 hs6.out hv6.out HPP.out.1.2.2
                have hX6 := hX5.keep hb_w6
                have hR6 := hR5.keep hb_w6
                have hB6 := hB5.trans (hb_w6.mono hB5.size)
                have y0 : w6.cell? ⟨W0.heap.size, 0, none⟩ = some (.bool false) := hX6.cell 0
                have y1 : w6.cell? ⟨W0.heap.size, 1, none⟩ = some (.slice A n c) := hX6.cell 1
                have g0 := hX6.free 0
                have g1 := hX6.free 1
                have zX6 := hX6.lt
                clear x0 x1 f0 f1 hX hRw hTi hR hX5 hR5 rw5 hB5 hb_w6 hr6 ht6 hs6 hv6
                go_wp2_with fail
                refine calls_gen (fun W7 hW7 => ?_)
                have hX7 : Var W7 W0.heap.size 35 #[.bool b6, .slice A6 n6 c6] := by rw [hW7]; exact var_two hX6 _ _
                have hR7 : Var W7 w.heap.size 35 #[.bool false, .slice none 0 0] := by rw [hW7]; exact var_far2 hR6 (by omega) _ _
                have hz7 : NumAt W7 (.agg #[.bool b6, .slice A6 n6 c6]) z := by rw [hW7]; exact MagAt.over hz6 hX6 _ _
                have hB7 : Below w.heap.size w W7 := by rw [hW7]; exact (hB6.setCell (p := ⟨W0.heap.size, 0, none⟩) (Nat.le_of_lt zR) _).setCell (p := ⟨W0.heap.size, 1, none⟩) (Nat.le_of_lt zR) _
                clear hW7 hX6 hR6 hz6 hB6 y0 y1 g0 g1 zX6
                refine (FT.out _ _ hz7).mono ?_
                rintro e w8 ⟨rfl, hb_w8⟩
                have hX8 := hX7.keep hb_w8
                have hR8 := hR7.keep hb_w8
                have hz8 := hz7.below hb_w8
                have hB8 := hB7.trans (hb_w8.mono hB7.size)
                have y0 : w8.cell? ⟨W0.heap.size, 0, none⟩ = some (.bool b6) := hX8.cell 0
                have y1 : w8.cell? ⟨W0.heap.size, 1, none⟩ = some (.slice A6 n6 c6) := hX8.cell 1
                have s0 : w8.cell? ⟨w.heap.size, 0, none⟩ = some (.bool false) := hR8.cell 0
                have s1 : w8.cell? ⟨w.heap.size, 1, none⟩ = some (.slice none 0 0) := hR8.cell 1
                have g0 := hR8.free 0
                have g1 := hR8.free 1
                have zX8 := hX8.lt
                clear hX7 hR7 hz7 hB7 hb_w8
                cases ft with
                | true =>
                  have hin := of_decide_eq_true HPP.out.2
                  have hpc0 := Lib.hid (show pc = 0 by rw [HPP.out.1.1, if_pos hin])
                  have hpv0 := Lib.hid (show pv = z by rw [HPP.out.1.2.1, if_pos hpc0.out])
                  clear hin
                  go_wp2_with fail
                  refine bodyPost_ret (by simp [results, Try.results45, go_sem, *]; try rfl) rfl ?_
                  exact ⟨⟨_, ret_num2 hpc0.out.symm, by rw [hpv0.out]; exact MagAt.over hz8 hR8 _ _⟩, by go_grown⟩
                | false =>
                  have hout := of_decide_eq_false HPP.out.2
                  have hpc0 := Lib.hid (show pc = 12 by rw [HPP.out.1.1, if_neg hout])
                  have hpv0 := Lib.hid (show pv = 0 by rw [HPP.out.1.2.1, if_neg (by rw [hpc0.out]; decide)])
                  clear hout
                  go_wp2_with fail
                  refine bodyPost_ret (by simp [results, Try.results45, go_sem, *]; try rfl) rfl ?_
                  exact ⟨⟨_, ret_num2 hpc0.out.symm, by rw [hpv0.out]; exact num_zero' _⟩, by go_grown⟩
  · have z1 : ((c0 : Int) == 48) = false := by simp; omega
    have z2 : ¬ (c0 : Int) = 48 := by omega
    go_enter Try.func45, Try.ntmps45
    go_wp2_with fail
    refine wp_gen (fun W0 hW0 => ?_)
    have vR : Var W0 w.heap.size 35 #[.bool false, .slice none 0 0] := by rw [hW0]; exact Var.new _ _ _
    have hB0 : Below w.heap.size w W0 := by rw [hW0]; go_grown
    have r0 : W0.cell? ⟨w.heap.size, 0, none⟩ = some (.bool false) := vR.cell 0
    have r1 : W0.cell? ⟨w.heap.size, 1, none⟩ = some (.slice none 0 0) := vR.cell 1
    have f0 := vR.free 0
    have f1 := vR.free 1
    have zR := vR.lt
    clear hW0
    go_loopw [6] (fun t wr => ∃ i : Nat, t = .int .i64 (i : Int) ∧ i ≤ m ∧ Hid (∀ k, k < i → 48 ≤ (at8 ds k).toNat ∧ (at8 ds k).toNat ≤ 57) ∧ W0 = wr) (fun t _ => (m - intOf t).toNat)
    case atStart => exact ⟨0, rfl, by omega, Lib.hid (fun k hk => absurd hk (by omega)), rfl⟩
    case round =>
      obtain ⟨i, rfl, hi, HG, rfl⟩ := hrel
      rcases Nat.lt_or_ge i m with hlt | hge
      · have hlI : (i : Int) < (m : Int) := by omega
        have IXi := IXH.out i hlt
        have hbad : ¬ (48 ≤ (at8 ds i).toNat ∧ (at8 ds i).toNat ≤ 57) → numok ds false = false := fun h => numok_bad (by rw [HL.out]; exact hlt) h
        have HBAD := Lib.hid hbad
        obtain ⟨ci, hci⟩ : ∃ z, (at8 ds i).toNat = z := ⟨_, rfl⟩
        rw [hci] at IXi HBAD
        have HCI := Lib.hid hci
        clear hbad hci
        rcases Nat.lt_or_ge ci 48 with h1 | h1
        · have h1I : (ci : Int) < 48 := by omega
          have HP := Lib.hid (HP11.out (HBAD.out (by omega)))
          go_wp2_with fail
          refine bodyPost_ret (by simp [results, Try.results45, go_sem, *]; try rfl) rfl ?_
          exact ⟨⟨_, ret_num2 HP.out.1.symm, by rw [HP.out.2]; exact num_zero' _⟩, by go_grown⟩
        · rcases Nat.lt_or_ge 57 ci with h2 | h2
          · have h1I : ¬ (ci : Int) < 48 := by omega
            have h2I : 57 < (ci : Int) := by omega
            have HP := Lib.hid (HP11.out (HBAD.out (by omega)))
            go_wp2_with fail
            refine bodyPost_ret (by simp [results, Try.results45, go_sem, *]; try rfl) rfl ?_
            exact ⟨⟨_, ret_num2 HP.out.1.symm, by rw [HP.out.2]; exact num_zero' _⟩, by go_grown⟩
          · have h1I : ¬ (ci : Int) < 48 := by omega
            have h2I : ¬ 57 < (ci : Int) := by omega
            go_wp2_with fail
            go_roundw
            case rel =>
              refine ⟨i + 1, congrArg (Value.int .i64) (by omega), by omega, Lib.hid (fun k hk => ?_), by trivial⟩
              rcases Nat.lt_or_ge k i with h | h
              · exact HG.out k h
              · rw [show k = i by omega, HCI.out]; exact ⟨h1, h2⟩
            case measure => (first | (simp only [intOf]; omega) | (simp [intOf]; omega))
      · have hgI : ¬ (i : Int) < (m : Int) := by omega
        obtain rfl : i = m := by omega
        have HALL := Lib.hid (show ∀ k, k < i → 48 ≤ (at8 ds k).toNat ∧ (at8 ds k).toNat ≤ 57 from HG.out)
        have HOK := Lib.hid (show numok ds false = true from numok_good (by rw [HL.out]; exact h0) (fun hh => hz (by rw [← HC0.out]; exact hh.1)) (fun k hk => HG.out k (by rw [HL.out] at hk; omega)))
        rcases Nat.lt_or_ge 60 i with h60 | h60
        · have h60I : 60 < (i : Int) := by omega
          have HP := Lib.hid (HP12.out HOK.out (by
            have hg := dval_great (i - 1) ds (by rw [HL.out]; omega) (fun c hc => by
              obtain ⟨q, hq, rfl⟩ := List.getElem_of_mem hc
              have := HALL.out q (by rw [← HL.out]; exact hq)
              unfold at8 at this
              rw [List.getD_eq_getElem?_getD, List.getElem?_eq_getElem hq] at this
              exact this) (fun hh => hz (by rw [← HC0.out]; exact hh))
            have h3 : 10 ^ 60 ≤ 10 ^ (i - 1) := Nat.pow_le_pow_right (by omega) (by omega)
            have h4 : (340282366920938463463374607431768211456 : Nat) ≤ 10 ^ 60 := by decide +kernel
            omega))
          go_wp2_with fail
          refine bodyPost_ret (by simp [results, Try.results45, go_sem, *]; try rfl) rfl ?_
          exact ⟨⟨_, ret_num2 HP.out.1.symm, by rw [HP.out.2]; exact num_zero' _⟩, by go_grown⟩
        · have h60I : ¬ 60 < (i : Int) := by omega
          go_wp2_with fail
          refine wp_gen (fun W1 hW1 => ?_)
          have vX : Var W1 W0.heap.size 35 #[.bool false, .slice none 0 0] := by rw [hW1]; exact Var.new _ _ _
          have vR1 : Var W1 w.heap.size 35 #[.bool false, .slice none 0 0] := by rw [hW1]; exact vR.alloc _
          have hB1 : Below w.heap.size w W1 := by rw [hW1]; go_grown
          clear hW1 r0 r1 f0 f1
          have HU10 : Hid (∀ W : World, Calls Try.prog 37 #[.int .u64 10] W fun e w' => ∃ v, e = .returned v ∧ MagAt w' v false 10 ∧ Below W.heap.size W w') := Lib.hid (fun W => unsigned_ref 10 (by omega) W)
          have HSM := Lib.hid (fun q (hq : q ≤ i) => dval_sm (ds := ds) (fun k hk => (HALL.out k (by rw [HL.out] at hk; exact hk)).2) (by rw [HL.out]; exact h60) (i := q) (by rw [HL.out]; exact hq))
          go_loopw [8] (fun t wr => ∃ (q : Nat) (A : Option Addr) (n c : Nat) (dn : List Nat), t = .int .i64 (q : Int) ∧ q ≤ i ∧ Var wr W0.heap.size 35 #[.bool false, .slice A n c] ∧ RawAt wr A n c dn ∧ Tight dn ∧ Hid (val dn = dval (ds.take q)) ∧ Var wr w.heap.size 35 #[.bool false, .slice none 0 0] ∧ Below w.heap.size w wr) (fun t _ => (i - intOf t).toNat)
          case atStart => exact ⟨0, none, 0, 0, [], rfl, by omega, vX, ⟨rfl, Nat.le_refl _, by omega, Sl.nil _ _, Digs.nil⟩, Tight.nil, Lib.hid rfl, vR1, hB1⟩
          case round =>
            obtain ⟨q, A, n, c, dn, rfl, hq, hX, hRw, hTi, HV, hR, hBq⟩ := hrel
            clear vX vR1 hB1
            have x0 : wr.cell? ⟨W0.heap.size, 0, none⟩ = some (.bool false) := hX.cell 0
            have x1 : wr.cell? ⟨W0.heap.size, 1, none⟩ = some (.slice A n c) := hX.cell 1
            have zX := hX.lt
            have hn : n ≤ 13 := num_len hRw hTi HV.out (HSM.out q hq)
            rcases Nat.lt_or_ge q i with hlt2 | hge2
            · have hl2I : (q : Int) < (i : Int) := by omega
              have IXq := IXH.out q hlt2
              have hdq := HALL.out q hlt2
              have hst := dval_take (ds := ds) (i := q) (by rw [HL.out]; exact hlt2)
              obtain ⟨cq, hcq⟩ : ∃ z, (at8 ds q).toNat = z := ⟨_, rfl⟩
              rw [hcq] at IXq hdq hst
              obtain ⟨dq, hdq2⟩ : ∃ z, cq - 48 = z := ⟨_, rfl⟩
              rw [hdq2, ← HV.out] at hst
              have E1 : IntKind.u8.wrap ((cq : Int) - 48) = (dq : Int) := by simp only [IntKind.wrap, IntKind.signed, IntKind.bits]; simp; omega
              have hdI : (dq : Int) ≤ 9 := by omega
              have E2 : IntKind.u64.wrap (dq : Int) = (dq : Int) := by rw [IntKind.wrap_u64]; omega
              have HUD := Lib.hid (fun W => unsigned_ref dq (by omega) W)
              have HST := Lib.hid hst
              have hsm13 : Small 13 (val dn) := by rw [HV.out]; exact HSM.out q hq
              have HS13 := Lib.hid hsm13
              clear hcq hdq hdq2 hst hsm13
              go_wp2_with fail
              have hXd : Var wr.drew W0.heap.size 35 #[.bool false, .slice A n c] := hX
              have hRd : RawAt wr.drew A n c dn := hRw.below ((Below.refl _ _).drew)
              have hk0 : Below wr.heap.size wr wr.drew := (Below.refl _ _).drew
              have xd0 : wr.drew.cell? ⟨W0.heap.size, 0, none⟩ = some (.bool false) := x0
              have xd1 : wr.drew.cell? ⟨W0.heap.size, 1, none⟩ = some (.slice A n c) := x1
              go_region_with
                (first
                  | (go_at_call 56; refine (open_mag (size_any (hr2.below hb_w3) hr3 b2 false (by omega) (by omega) _ (Below.refl _ _))).mono ?_; rintro e w4 ⟨b4, A4, n4, c4, e4, rfl, hs4, hr4, ht4, hv4, hb_w4⟩; obtain rfl := hs4.out; have hk4 := bel_next hk3 hb_w4; have hX4 := hX3.keep hb_w4; have v0 : w4.cell? ⟨W0.heap.size, 0, none⟩ = some (.bool false) := var_c0 hX4; have v1 : w4.cell? ⟨W0.heap.size, 1, none⟩ = some (.slice A n c) := var_c1 hX4; have v2 := hX4.free 0; have v3 := hX4.free 1)
                  | (go_at_call 37; with_reducible refine (open_mag (HUD.out _)).mono ?_; rintro e w3 ⟨b3, A3, n3, c3, e3, rfl, hs3, hr3, ht3, hv3, hb_w3⟩; obtain rfl := hs3.out; have hk3 := bel_next hk2 hb_w3; have hX3 := hX2.keep hb_w3; have l3 : n3 ≤ 1 := num_len hr3 ht3 hv3.out (small_dig (by omega)))
                  | (go_at_call 30; refine (open_mag (mul_ref (hRd.below hb_w1) hr1 false false (by omega) (by omega) _ (Below.refl _ _))).mono ?_; rintro e w2 ⟨b2, A2, n2, c2, e2, rfl, hs2, hr2, ht2, hv2, hb_w2⟩; have hk2 := bel_next hk1 hb_w2; have hX2 := hX1.keep hb_w2; have l2 : n2 ≤ 14 := num_len hr2 ht2 hv2.out (by rw [hv1.out]; exact HS13.out.mul small_ten))
                  | (go_at_call 37; with_reducible refine (open_mag (HU10.out _)).mono ?_; rintro e w1 ⟨b1, A1, n1, c1, e1, rfl, hs1, hr1, ht1, hv1, hb_w1⟩; obtain rfl := hs1.out; have hk1 := bel_next hk0 hb_w1; have hX1 := hXd.keep hb_w1; have u0 : w1.cell? ⟨W0.heap.size, 0, none⟩ = some (.bool false) := var_c0 hX1; have u1 : w1.cell? ⟨W0.heap.size, 1, none⟩ = some (.slice A n c) := var_c1 hX1; have l1 : n1 ≤ 1 := num_len hr1 ht1 hv1.out small_ten))
              all_goals (
                go_wp2_with fail
                go_roundw
                case rel => exact ⟨q + 1, A4, n4, c4, e4, congrArg (Value.int .i64) (by omega), by omega, var_two hX4 _ _, raw_far2 hr4 hX4 _ _, ht4, Lib.hid (by rw [hv4.out, hv2.out, hv3.out, hv1.out, HST.out]), var_far2 (hR.keep hk4) (by omega) _ _, (((hBq.trans (hk4.mono hBq.size)).setCell (p := ⟨W0.heap.size, 0, none⟩) (Nat.le_of_lt zR) _).setCell (p := ⟨W0.heap.size, 1, none⟩) (Nat.le_of_lt zR) _)⟩
                case measure => (first | (simp only [intOf]; omega) | (simp [intOf]; omega)))
            · obtain rfl : q = i := by omega
              have hq2I : ¬ (q : Int) < (q : Int) := by omega
              have hfull := HV.out
              rw [List.take_of_length_le (by rw [HL.out]; exact Nat.le_refl _)] at hfull
              have hpz := HPZ.out HOK.out
              have hsm := HSM.out q (Nat.le_refl _)
              rw [List.take_of_length_le (by rw [HL.out]; exact Nat.le_refl _)] at hsm
              rw [← hfull] at hpz hsm
              obtain ⟨ft, hft⟩ : ∃ t, decide (-170141183460469231731687303715884105728 ≤ z ∧ z ≤ 170141183460469231731687303715884105727) = t := ⟨_, rfl⟩
              have hsz : Small 13 z.natAbs := by rw [hpz.2.2]; split <;> (first | (rw [Int.natAbs_neg, Int.natAbs_natCast]; exact hsm) | (rw [Int.natAbs_natCast]; exact hsm))
              have HSZ := Lib.hid hsz
              have HPP := Lib.hid (And.intro hpz hft)
              have FT := Lib.hid (fun (w0 : World) (v : Value) (h : NumAt w0 v z) => fits_ref h HSZ.out (by omega) (by omega) w0 (Below.refl _ _))
              rw [hft] at FT
              have f0 := hX.free 0
              have f1 := hX.free 1
              clear hpz hft hsz hsm hfull
              go_wp2_with fail
              refine calls_gen (fun W5 hW5 => ?_)
              have hX5 : Var W5 W0.heap.size 35 #[.bool false, .slice A n c] := by rw [hW5]; exact hX.store 0 _
              have hR5 : Var W5 w.heap.size 35 #[.bool false, .slice none 0 0] := by rw [hW5]; exact hR.far (p := ⟨W0.heap.size, 0, none⟩) (by simp; omega) _
              have rw5 : RawAt W5 A n c dn := by rw [hW5]; exact raw_put hRw hX 0 _
              have hB5 : Below w.heap.size w W5 := by rw [hW5]; exact hBq.setCell (p := ⟨W0.heap.size, 0, none⟩) (Nat.le_of_lt zR) _
              clear hW5
              refine (open_mag (trimmed_any rw5 false _ (Below.refl _ _))).mono ?_
              rintro e w6 ⟨b6, A6, n6, c6, e6, rfl, hs6, hr6, ht6, hv6, hb_w6⟩
              have hz6 : NumAt w6 (.agg #[.bool b6, .slice A6 n6 c6]) z := num_end hr6 ht6 hs6.out hv6.out HPP.out.1.2.2
              have hX6 := hX5.keep hb_w6
              have hR6 := hR5.keep hb_w6
              have hB6 := hB5.trans (hb_w6.mono hB5.size)
              have y0 : w6.cell? ⟨W0.heap.size, 0, none⟩ = some (.bool false) := hX6.cell 0
              have y1 : w6.cell? ⟨W0.heap.size, 1, none⟩ = some (.slice A n c) := hX6.cell 1
              have g0 := hX6.free 0
              have g1 := hX6.free 1
              have zX6 := hX6.lt
              clear x0 x1 f0 f1 hX hRw hTi hR hX5 hR5 rw5 hB5 hb_w6 hr6 ht6 hs6 hv6
              go_wp2_with fail
              refine calls_gen (fun W7 hW7 => ?_)
              have hX7 : Var W7 W0.heap.size 35 #[.bool b6, .slice A6 n6 c6] := by rw [hW7]; exact var_two hX6 _ _
              have hR7 : Var W7 w.heap.size 35 #[.bool false, .slice none 0 0] := by rw [hW7]; exact var_far2 hR6 (by omega) _ _
              have hz7 : NumAt W7 (.agg #[.bool b6, .slice A6 n6 c6]) z := by rw [hW7]; exact MagAt.over hz6 hX6 _ _
              have hB7 : Below w.heap.size w W7 := by rw [hW7]; exact (hB6.setCell (p := ⟨W0.heap.size, 0, none⟩) (Nat.le_of_lt zR) _).setCell (p := ⟨W0.heap.size, 1, none⟩) (Nat.le_of_lt zR) _
              clear hW7 hX6 hR6 hz6 hB6 y0 y1 g0 g1 zX6
              refine (FT.out _ _ hz7).mono ?_
              rintro e w8 ⟨rfl, hb_w8⟩
              have hX8 := hX7.keep hb_w8
              have hR8 := hR7.keep hb_w8
              have hz8 := hz7.below hb_w8
              have hB8 := hB7.trans (hb_w8.mono hB7.size)
              have y0 : w8.cell? ⟨W0.heap.size, 0, none⟩ = some (.bool b6) := hX8.cell 0
              have y1 : w8.cell? ⟨W0.heap.size, 1, none⟩ = some (.slice A6 n6 c6) := hX8.cell 1
              have s0 : w8.cell? ⟨w.heap.size, 0, none⟩ = some (.bool false) := hR8.cell 0
              have s1 : w8.cell? ⟨w.heap.size, 1, none⟩ = some (.slice none 0 0) := hR8.cell 1
              have g0 := hR8.free 0
              have g1 := hR8.free 1
              have zX8 := hX8.lt
              clear hX7 hR7 hz7 hB7 hb_w8
              cases ft with
              | true =>
                have hin := of_decide_eq_true HPP.out.2
                have hpc0 := Lib.hid (show pc = 0 by rw [HPP.out.1.1, if_pos hin])
                have hpv0 := Lib.hid (show pv = z by rw [HPP.out.1.2.1, if_pos hpc0.out])
                clear hin
                go_wp2_with fail
                refine bodyPost_ret (by simp [results, Try.results45, go_sem, *]; try rfl) rfl ?_
                exact ⟨⟨_, ret_num2 hpc0.out.symm, by rw [hpv0.out]; exact MagAt.over hz8 hR8 _ _⟩, by go_grown⟩
              | false =>
                have hout := of_decide_eq_false HPP.out.2
                have hpc0 := Lib.hid (show pc = 12 by rw [HPP.out.1.1, if_neg hout])
                have hpv0 := Lib.hid (show pv = 0 by rw [HPP.out.1.2.1, if_neg (by rw [hpc0.out]; decide)])
                clear hout
                go_wp2_with fail
                refine bodyPost_ret (by simp [results, Try.results45, go_sem, *]; try rfl) rfl ?_
                exact ⟨⟨_, ret_num2 hpc0.out.symm, by rw [hpv0.out]; exact num_zero' _⟩, by go_grown⟩

end Go.Proofs.Ytedodoaeecbalaa
