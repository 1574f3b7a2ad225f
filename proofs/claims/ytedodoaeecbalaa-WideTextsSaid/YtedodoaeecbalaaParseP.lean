/-
  Contract of wide.Parse.
-/
import Derived.Test.YtedodoaeecbalaaParseM
import Derived.Test.YtedodoaeecbalaaPrefix
import Derived.Test.YtedodoaeecbalaaQuo
namespace Go.Proofs.Ytedodoaeecbalaa
open Go.RowKit

/-- One digit more, in two words. -/
theorem ten_more {N d h l : Nat} (hh : h = N / 18446744073709551616) (hl : l = N % 18446744073709551616) (hN : N < 340282366920938463463374607431768211456) (hd : d ≤ 9) :
    ∃ ov h1 up l1 : Nat, mulHi (h : Int) 10 = (ov : Int) ∧ mulLo (h : Int) 10 = (h1 : Int) ∧ mulHi (l : Int) 10 = (up : Int) ∧ mulLo (l : Int) 10 = (l1 : Int) ∧
      ∃ l2 c h2 c2 : Nat, addLo (l1 : Int) (d : Int) 0 = (l2 : Int) ∧ addCa (l1 : Int) (d : Int) 0 = (c : Int) ∧ addLo (h1 : Int) (up : Int) (c : Int) = (h2 : Int) ∧ addCa (h1 : Int) (up : Int) (c : Int) = (c2 : Int) ∧
      (ov + c2) * 340282366920938463463374607431768211456 + h2 * 18446744073709551616 + l2 = N * 10 + d ∧ h2 < 18446744073709551616 ∧ l2 < 18446744073709551616 ∧ c ≤ 1 ∧ ov ≤ 9 ∧ up ≤ 9 ∧ h1 < 18446744073709551616 ∧ l1 < 18446744073709551616 ∧ c2 ≤ 1 := by
  refine ⟨h * 10 / 18446744073709551616, h * 10 % 18446744073709551616, l * 10 / 18446744073709551616, l * 10 % 18446744073709551616, ?_, ?_, ?_, ?_, (l * 10 % 18446744073709551616 + d) % 18446744073709551616, (l * 10 % 18446744073709551616 + d) / 18446744073709551616,
    (h * 10 % 18446744073709551616 + l * 10 / 18446744073709551616 + (l * 10 % 18446744073709551616 + d) / 18446744073709551616) % 18446744073709551616, (h * 10 % 18446744073709551616 + l * 10 / 18446744073709551616 + (l * 10 % 18446744073709551616 + d) / 18446744073709551616) / 18446744073709551616, ?_, ?_, ?_, ?_, ?_, ?_, ?_, ?_, ?_, ?_, ?_, ?_, ?_⟩
  · unfold mulHi; omega
  · unfold mulLo; omega
  · unfold mulHi; omega
  · unfold mulLo; omega
  · unfold addLo; omega
  · unfold addCa; omega
  · unfold addLo; omega
  · unfold addCa; omega
  all_goals omega

theorem ret_wide12 {pc pv : Int} (h1 : pc = 12) (h2 : pv = 0) : Ending.returned (.tuple #[.agg #[.int .i64 0, .int .u64 0], .int .i64 12]) = .returned (.tuple #[.agg #[.int .i64 (hi64 pv), .int .u64 (lo64 pv)], .int .i64 pc]) := by
  rw [h1, h2, show hi64 0 = 0 by decide +kernel, show lo64 0 = 0 by decide +kernel]

set_option maxHeartbeats 2000000 in
theorem parse_prog (s : ByteArray) (hm : s.data.toList.length ≤ 9223372036854775807) (w : World) :
    Calls Try.prog 44 #[.string s] w fun e w' => e = .returned (.tuple #[.agg #[.int .i64 (hi64 (pval s.data.toList)), .int .u64 (lo64 (pval s.data.toList))], .int .i64 (pcode s.data.toList)]) ∧ Below w.heap.size w w' := by
  have CP := Lib.hid (fun W => run_CutPrefix s ⟨#[45]⟩ W)
  obtain ⟨L, hL⟩ : ∃ z, s.data.toList = z := ⟨_, rfl⟩
  rw [hL] at CP hm ⊢
  rw [show ((⟨#[45]⟩ : ByteArray)).data.toList = [45] from rfl, show Lib.trimPrefix L [45] = dgs L from rfl, show Lib.hasPrefix L [45] = bel L from rfl] at CP
  have hdm : (dgs L).length ≤ L.length := by
    unfold dgs Lib.trimPrefix
    split
    · rw [List.length_drop]; omega
    · exact Nat.le_refl _
  obtain ⟨D, hD⟩ : ∃ z : ByteArray, ⟨(dgs L).toArray⟩ = z := ⟨_, rfl⟩
  have hDl : D.data.toList = dgs L := by rw [← hD]
  rw [hD] at CP
  obtain ⟨b, hb⟩ : ∃ z, bel L = z := ⟨_, rfl⟩
  have NU := Lib.hid (fun W => numeral_any D b (by rw [hDl]; omega) W)
  rw [hDl] at NU
  rw [hb] at CP
  cases hok : numok (dgs L) b with
  | false =>
    rw [hok] at NU
    have hpv : pval L = 0 := by unfold pval pcode; rw [hb, hok]; rfl
    have hpc' : pcode L = 11 := by unfold pcode; rw [hb, hok]; rfl
    rw [hpv, hpc', show hi64 0 = 0 by decide +kernel, show lo64 0 = 0 by decide +kernel]
    clear hpv hpc' hok
    go_enter Try.func44, Try.ntmps44
    go_wp2_with fail
    refine (CP.out _).mono ?_
    rintro e w1 ⟨rfl, hw1⟩
    obtain rfl : _ = w1 := hw1.symm
    go_wp2_with fail
    refine (NU.out _).mono ?_
    rintro e w2 ⟨rfl, hb_w2⟩
    obtain ⟨hc_w2, hf_w2⟩ := bcell hb_w2
    have hz_w2 := hb_w2.size
    try simp at hz_w2
    have hB_w2 : Below w.heap.size w w2 := Below.trans (by go_grown) (hb_w2.mono (by go_size))
    have hs_w2_0 : w.heap.size < w2.heap.size := by omega
    have vr : Var w2 w.heap.size 26 #[.int .i64 0, .int .u64 0] := (Var.new _ _ _).keep hb_w2
    have r0 : w2.cell? ⟨w.heap.size, 0, none⟩ = some (.int .i64 0) := vr.cell 0
    have r1 : w2.cell? ⟨w.heap.size, 1, none⟩ = some (.int .u64 0) := vr.cell 1
    have f0 := vr.free 0
    have f1 := vr.free 1
    go_wp2_with fail
    refine bodyPost_ret (by simp [results, Try.results44, go_sem, *]; try rfl) rfl ?_
    exact ⟨rfl, by go_grown⟩
  | true =>
    rw [hok] at NU
    have hpc : pcode L = (if -170141183460469231731687303715884105728 ≤ pz L ∧ pz L ≤ 170141183460469231731687303715884105727 then 0 else 12) := by unfold pcode; rw [hb, hok, if_pos rfl]
    obtain ⟨h0, hnz, hall⟩ := numok_says hok
    have hpos : b = true → 0 < dval (dgs L) := fun hb1 => by
      have hr := revd_dval _ (dgs L) rfl h0 (fun c hc => by
        obtain ⟨i, hi, rfl⟩ := List.getElem_of_mem hc
        have := hall i hi
        unfold at8 at this
        rw [List.getD_eq_getElem?_getD, List.getElem?_eq_getElem hi] at this
        exact this) (fun hh => hnz ⟨hh.1, .inl hh.2⟩)
      exact hr.2 (fun hh => hnz ⟨hh, .inr hb1⟩)
    have hz : pz L = if b then -(dval (dgs L) : Int) else (dval (dgs L) : Int) := by unfold pz; rw [hb]
    rw [hz] at hpc
    have hpv : pval L = if pcode L = 0 then (if b then -(dval (dgs L) : Int) else (dval (dgs L) : Int)) else 0 := by unfold pval; rw [hz]
    obtain ⟨pc, hpcc⟩ : ∃ z, pcode L = z := ⟨_, rfl⟩
    obtain ⟨pv, hpvv⟩ : ∃ z, pval L = z := ⟨_, rfl⟩
    rw [hpcc] at hpc hpv ⊢
    rw [hpvv] at hpv ⊢
    have IXD := index_at D
    rw [hDl] at IXD
    have hDs : D.size = (dgs L).length := by rw [Lib.size_eq, hDl]
    obtain ⟨ds, hds⟩ : ∃ z, dgs L = z := ⟨_, rfl⟩
    rw [hds] at IXD hDs hdm hpc hpv hpos hall h0
    obtain ⟨m, hmm⟩ : ∃ z, ds.length = z := ⟨_, rfl⟩
    rw [hmm] at IXD hDs hdm hall h0
    have hmI : (m : Int) ≤ 9223372036854775807 := by omega
    have HML := Lib.hid hmm
    have HALL := Lib.hid (And.intro hall (And.intro hpos (And.intro hpc hpv)))
    have IXH := Lib.hid IXD
    clear hpc hpv hz hpos hall hnz h0 hok hds hDl hD hdm hm hL hb hpcc hpvv IXD hmm
    have HWIDE : Hid (340282366920938463463374607431768211456 ≤ dval ds → pc = 12 ∧ pv = 0) := Lib.hid (fun hw => by
      have h := HALL.out.2.2
      have h12 : pc = 12 := by
        rw [h.1]
        cases b with
        | true => simp only [if_true]; rw [if_neg (by omega)]
        | false => simp only [Bool.false_eq_true, if_false]; rw [if_neg (by omega)]
      refine ⟨h12, ?_⟩
      rw [h.2, if_neg (by omega)])
    go_enter Try.func44, Try.ntmps44
    go_wp2_with fail
    refine (CP.out _).mono ?_
    rintro e w1 ⟨rfl, hw1⟩
    obtain rfl : _ = w1 := hw1.symm
    go_wp2_with fail
    refine (NU.out _).mono ?_
    rintro e w2 ⟨rfl, hb_w2⟩
    obtain ⟨hc_w2, hf_w2⟩ := bcell hb_w2
    have hz_w2 := hb_w2.size
    try simp at hz_w2
    have hB_w2 : Below w.heap.size w w2 := Below.trans (by go_grown) (hb_w2.mono (by go_size))
    have hs_w2_0 : w.heap.size < w2.heap.size := by omega
    have vr : Var w2 w.heap.size 26 #[.int .i64 0, .int .u64 0] := (Var.new _ _ _).keep hb_w2
    have r0 : w2.cell? ⟨w.heap.size, 0, none⟩ = some (.int .i64 0) := vr.cell 0
    have r1 : w2.cell? ⟨w.heap.size, 1, none⟩ = some (.int .u64 0) := vr.cell 1
    have f0 := vr.free 0
    have f1 := vr.free 1
    clear hc_w2 hf_w2 hz_w2 hb_w2
    go_wp2_with fail
    go_loopw [6, 7, 27] (fun t u v wr => ∃ i N : Nat, t = .int .u64 ((N / 18446744073709551616 : Nat) : Int) ∧ u = .int .u64 ((N % 18446744073709551616 : Nat) : Int) ∧ v = .int .i64 (i : Int) ∧ i ≤ m ∧ Hid (N = dval (ds.take i) ∧ N < 340282366920938463463374607431768211456) ∧ w2 = wr) (fun _ _ v _ => (m - intOf v).toNat)
    case atStart => exact ⟨0, 0, rfl, rfl, rfl, by omega, Lib.hid ⟨by simp [dval], by omega⟩, rfl⟩
    case round =>
      obtain ⟨i, N, rfl, rfl, rfl, hi, HN, rfl⟩ := hrel
      obtain ⟨h, hh⟩ : ∃ z, N / 18446744073709551616 = z := ⟨_, rfl⟩
      obtain ⟨l, hl⟩ : ∃ z, N % 18446744073709551616 = z := ⟨_, rfl⟩
      rw [hh, hl]
      have hhI : (h : Int) ≤ 18446744073709551615 := by have := HN.out.2; omega
      have hlI : (l : Int) ≤ 18446744073709551615 := by omega
      rcases Nat.lt_or_ge i m with hlt | hge
      · have hltI : (i : Int) < (m : Int) := by omega
        have IXi := IXH.out i hlt
        have hdg := HALL.out.1 i hlt
        have hstep := dval_take (ds := ds) (i := i) (by rw [HML.out]; exact hlt)
        obtain ⟨ci, hci⟩ : ∃ z, (at8 ds i).toNat = z := ⟨_, rfl⟩
        rw [hci] at IXi hdg hstep
        obtain ⟨d, hd⟩ : ∃ z, ci - 48 = z := ⟨_, rfl⟩
        rw [hd, ← HN.out.1] at hstep
        have E1 : IntKind.u8.wrap ((ci : Int) - 48) = (d : Int) := by simp only [IntKind.wrap, IntKind.signed, IntKind.bits]; simp; omega
        obtain ⟨ov, h1, up, l1, a1, a2, a3, a4, l2, c, h2, c2, b1, b2, b3, b4, hsum, k1, k2, k3, k4, k5, k6, k7, k8⟩ := ten_more hh.symm hl.symm HN.out.2 (d := d) (by omega)
        have MU1 := Lib.hid (fun W => run_Mul64 (h : Int) 10 (by omega) (by omega) W)
        have MU2 := Lib.hid (fun W => run_Mul64 (l : Int) 10 (by omega) (by omega) W)
        rw [a1, a2] at MU1
        rw [a3, a4] at MU2
        have AD1 := fun W => run_Add64 (l1 : Int) (d : Int) 0 (by omega) (by omega) (by omega) W
        have AD2 := fun W => run_Add64 (h1 : Int) (up : Int) (c : Int) (by omega) (by omega) (by omega) W
        rw [b1, b2] at AD1
        rw [b3, b4] at AD2
        have hdI : (d : Int) ≤ 9 := by omega
        have HS := Lib.hid (And.intro hstep (And.intro hsum (And.intro k1 k2)))
        have HDL := Lib.hid (dval_le (ds := ds) _ (i + 1) rfl)
        clear a1 a2 a3 a4 b1 b2 b3 b4 hci hd hdg hstep hsum hh hl
        rcases Nat.eq_zero_or_pos (ov + c2) with hz | hz
        · obtain rfl : ov = 0 := by omega
          obtain rfl : c2 = 0 := by omega
          go_wp2_with fail
          refine (MU1.out _).mono ?_
          rintro e w3 ⟨rfl, hw3⟩
          obtain rfl : w2 = w3 := hw3
          go_wp2_with fail
          refine (MU2.out _).mono ?_
          rintro e w3 ⟨rfl, hw3⟩
          obtain rfl : w2 = w3 := hw3
          go_wp2_with fail
          go_roundw
          case rel =>
            have hs := HS.out
            refine ⟨i + 1, N * 10 + d, congrArg (Value.int .u64) (by omega), congrArg (Value.int .u64) (by omega), congrArg (Value.int .i64) (by omega), by omega, Lib.hid ⟨hs.1.symm, by omega⟩, by trivial⟩
          case measure => (first | (simp only [intOf]; omega) | (simp [intOf]; omega))
        · have hw := Lib.hid (HWIDE.out (by have h1 := HS.out; have h2 := HDL.out; omega))
          have hcase : (ov = 0 ∧ 0 < c2) ∨ 0 < ov := by omega
          rcases hcase with ⟨rfl, hc2⟩ | hov
          · have z1 : ((c2 : Int) == 0) = false := by simp; omega
            have z2 : ¬ (c2 : Int) = 0 := by omega
            go_wp2_with fail
            refine (MU1.out _).mono ?_
            rintro e w3 ⟨rfl, hw3⟩
            obtain rfl : w2 = w3 := hw3
            go_wp2_with fail
            refine (MU2.out _).mono ?_
            rintro e w3 ⟨rfl, hw3⟩
            obtain rfl : w2 = w3 := hw3
            go_wp2_with fail
            refine bodyPost_ret (by simp [results, Try.results44, go_sem, *]; try rfl) rfl ?_
            exact ⟨ret_wide12 hw.out.1 hw.out.2, by go_grown⟩
          · have z1 : ((ov : Int) == 0) = false := by simp; omega
            have z2 : ¬ (ov : Int) = 0 := by omega
            go_wp2_with fail
            refine (MU1.out _).mono ?_
            rintro e w3 ⟨rfl, hw3⟩
            obtain rfl : w2 = w3 := hw3
            go_wp2_with fail
            refine (MU2.out _).mono ?_
            rintro e w3 ⟨rfl, hw3⟩
            obtain rfl : w2 = w3 := hw3
            go_wp2_with fail
            refine bodyPost_ret (by simp [results, Try.results44, go_sem, *]; try rfl) rfl ?_
            exact ⟨ret_wide12 hw.out.1 hw.out.2, by go_grown⟩
      · obtain rfl : i = m := by omega
        have hN := HN.out
        rw [List.take_of_length_le (by rw [HML.out]; exact Nat.le_refl _)] at hN
        have hgeI : ¬ (i : Int) < (i : Int) := by omega
        have SG := fun W => signed_prog (h : Int) (l : Int) (by omega) (by omega) b W
        rw [show of64 (h : Int) (l : Int) = (N : Int) by unfold of64; omega] at SG
        have hall := HALL.out.2
        rw [← hN.1] at hall
        obtain ⟨z, hz⟩ : ∃ z : Int, (if b then -(N : Int) else (N : Int)) = z := ⟨_, rfl⟩
        rw [hz] at SG hall
        have SGH := Lib.hid SG
        have hsg : (-170141183460469231731687303715884105728 ≤ z ∧ z ≤ 170141183460469231731687303715884105727 ∧ pc = 0 ∧ pv = z ∧ decide (hi64 z < 0) = b) ∨ (pc = 12 ∧ pv = 0 ∧ decide (hi64 z < 0) = !b) := by
          rcases Decidable.em (-170141183460469231731687303715884105728 ≤ z ∧ z ≤ 170141183460469231731687303715884105727) with hin | hout
          · left
            have h1 := hall.2.1
            rw [if_pos hin] at h1
            have h2 := hall.2.2
            rw [if_pos h1] at h2
            refine ⟨hin.1, hin.2, h1, h2, ?_⟩
            cases b with
            | true =>
              have := hall.1 rfl
              simp only [if_true] at hz
              exact decide_eq_true ((hi_neg hin).2 (by omega))
            | false =>
              simp only [Bool.false_eq_true, if_false] at hz
              exact decide_eq_false (fun hh => absurd ((hi_neg hin).1 hh) (by omega))
          · right
            have h1 := hall.2.1
            rw [if_neg hout] at h1
            have h2 := hall.2.2
            rw [if_neg (by omega)] at h2
            refine ⟨h1, h2, ?_⟩
            cases b with
            | true =>
              simp only [if_true] at hz
              exact decide_eq_false (by unfold hi64; unfold wrap64; omega)
            | false =>
              simp only [Bool.false_eq_true, if_false] at hz
              exact decide_eq_true (by unfold hi64; unfold wrap64; omega)
        clear hall hz SG hN hh hl
        rcases hsg with ⟨_, _, rfl, rfl, hs⟩ | ⟨rfl, rfl, hs⟩
        · cases b with
          | true =>
            have hsn : hi64 pv < 0 := of_decide_eq_true hs
            go_wp2_with fail
            refine (SGH.out _).mono ?_
            rintro e w5 ⟨rfl, hb_w5⟩
            obtain ⟨hc_w5, hf_w5⟩ := bcell hb_w5
            have hz_w5 := hb_w5.size
            try simp at hz_w5
            have hB_w5 : Below w.heap.size w w5 := Below.trans (by go_grown) (hb_w5.mono (by go_size))
            have hs_w5_0 : w.heap.size < w5.heap.size := by omega
            go_wp2_with fail
            refine bodyPost_ret (by simp [results, Try.results44, go_sem, *]; try rfl) rfl ?_
            exact ⟨rfl, by go_grown⟩
          | false =>
            have hsn : ¬ hi64 pv < 0 := of_decide_eq_false hs
            go_wp2_with fail
            refine (SGH.out _).mono ?_
            rintro e w5 ⟨rfl, hb_w5⟩
            obtain ⟨hc_w5, hf_w5⟩ := bcell hb_w5
            have hz_w5 := hb_w5.size
            try simp at hz_w5
            have hB_w5 : Below w.heap.size w w5 := Below.trans (by go_grown) (hb_w5.mono (by go_size))
            have hs_w5_0 : w.heap.size < w5.heap.size := by omega
            go_wp2_with fail
            refine bodyPost_ret (by simp [results, Try.results44, go_sem, *]; try rfl) rfl ?_
            exact ⟨rfl, by go_grown⟩
        · cases b with
          | true =>
            have hsn : ¬ hi64 z < 0 := of_decide_eq_false hs
            go_wp2_with fail
            refine (SGH.out _).mono ?_
            rintro e w5 ⟨rfl, hb_w5⟩
            obtain ⟨hc_w5, hf_w5⟩ := bcell hb_w5
            have hz_w5 := hb_w5.size
            try simp at hz_w5
            have hB_w5 : Below w.heap.size w w5 := Below.trans (by go_grown) (hb_w5.mono (by go_size))
            have hs_w5_0 : w.heap.size < w5.heap.size := by omega
            go_wp2_with fail
            refine bodyPost_ret (by simp [results, Try.results44, go_sem, *]; try rfl) rfl ?_
            exact ⟨ret_wide12 rfl rfl, by go_grown⟩
          | false =>
            have hsn : hi64 z < 0 := of_decide_eq_true hs
            go_wp2_with fail
            refine (SGH.out _).mono ?_
            rintro e w5 ⟨rfl, hb_w5⟩
            obtain ⟨hc_w5, hf_w5⟩ := bcell hb_w5
            have hz_w5 := hb_w5.size
            try simp at hz_w5
            have hB_w5 : Below w.heap.size w w5 := Below.trans (by go_grown) (hb_w5.mono (by go_size))
            have hs_w5_0 : w.heap.size < w5.heap.size := by omega
            go_wp2_with fail
            refine bodyPost_ret (by simp [results, Try.results44, go_sem, *]; try rfl) rfl ?_
            exact ⟨ret_wide12 rfl rfl, by go_grown⟩

end Go.Proofs.Ytedodoaeecbalaa
