/-
  Contract of (wide.Int).Quo: the quotient and what is left (0 or more), modulo 2^128. (Printed by wip/tools/gen_quop.py.)
-/
import Derived.Test.YtedodoaeecbalaaQuo
import Derived.Test.YtedodoaeecbalaaDiv64
namespace Go.Proofs.Ytedodoaeecbalaa
open Go.RowKit

/-- A size over a number of 64 bits: its two digits. -/
theorem two_words {n m H L : Nat} (hm : 0 < m) (hH : n / 18446744073709551616 = H) (hL : n % 18446744073709551616 = L) :
    of64 ((H / m : Nat) : Int) (((H % m * 18446744073709551616 + L) / m : Nat) : Int) = ((n / m : Nat) : Int) ∧ (H % m * 18446744073709551616 + L) % m = n % m := by
  have a := Nat.div_add_mod H m
  have e : n = (H % m * 18446744073709551616 + L) + m * (H / m * 18446744073709551616) := by
    rw [← Nat.mul_assoc]
    obtain ⟨z, hz⟩ : ∃ z, m * (H / m) = z := ⟨_, rfl⟩
    rw [hz] at a ⊢
    omega
  constructor
  · unfold of64
    rw [show n / m = (H % m * 18446744073709551616 + L) / m + H / m * 18446744073709551616 by rw [e, Nat.add_mul_div_left _ _ hm]]
    omega
  · rw [e, Nat.add_mul_mod_self_left]

/-- The quotient and what is left, by sizes. -/
theorem quo_sizes (x d : Int) (hd : d ≠ 0) :
    (¬ x < 0 → x / d = (if d < 0 then -((x.natAbs / d.natAbs : Nat) : Int) else ((x.natAbs / d.natAbs : Nat) : Int)) ∧ x % d = ((x.natAbs % d.natAbs : Nat) : Int)) ∧
    (x < 0 → x.natAbs % d.natAbs = 0 → x / d = (if d < 0 then ((x.natAbs / d.natAbs : Nat) : Int) else -((x.natAbs / d.natAbs : Nat) : Int)) ∧ x % d = 0) ∧
    (x < 0 → x.natAbs % d.natAbs ≠ 0 → x / d = (if d < 0 then ((x.natAbs / d.natAbs : Nat) : Int) + 1 else -((x.natAbs / d.natAbs : Nat) : Int) - 1) ∧ x % d = (d.natAbs : Int) - ((x.natAbs % d.natAbs : Nat) : Int)) := by
  have a := Nat.div_add_mod x.natAbs d.natAbs
  have b := Nat.mod_lt x.natAbs (show 0 < d.natAbs by omega)
  obtain ⟨q, hq⟩ : ∃ z, x.natAbs / d.natAbs = z := ⟨_, rfl⟩
  obtain ⟨r, hr⟩ : ∃ z, x.natAbs % d.natAbs = z := ⟨_, rfl⟩
  rw [hq, hr] at a
  rw [hr] at b
  rw [hq, hr]
  clear hq hr
  obtain ⟨m, hm⟩ : ∃ z, d.natAbs = z := ⟨_, rfl⟩
  rw [hm] at a b ⊢
  have aI : (m : Int) * (q : Int) + (r : Int) = (x.natAbs : Int) := by rw [← Int.natCast_mul]; omega
  have uniq : ∀ Q R : Int, R + d * Q = x → 0 ≤ R → R < m → x / d = Q ∧ x % d = R := by
    intro Q R h1 h2 h3
    rcases Int.lt_or_le d 0 with h | h
    · have e1 := (Int.ediv_emod_unique (a := x) (b := -d) (q := -Q) (r := R) (by omega)).2 ⟨by rw [Int.neg_mul_neg]; exact h1, h2, by omega⟩
      rw [Int.ediv_neg, Int.emod_neg] at e1
      exact ⟨by omega, e1.2⟩
    · exact (Int.ediv_emod_unique (a := x) (b := d) (by omega)).2 ⟨h1, h2, by omega⟩
  refine ⟨fun h => ?_, fun h h0 => ?_, fun h h0 => ?_⟩
  · split
    · have := uniq (-(q : Int)) r (by rw [show d = -(m : Int) by omega, Int.neg_mul_neg]; omega) (by omega) (by omega)
      exact this
    · exact uniq q r (by rw [show d = (m : Int) by omega]; omega) (by omega) (by omega)
  · subst h0
    split
    · exact uniq q 0 (by rw [show d = -(m : Int) by omega, Int.neg_mul]; omega) (by omega) (by omega)
    · exact uniq (-(q : Int)) 0 (by rw [show d = (m : Int) by omega, Int.mul_neg]; omega) (by omega) (by omega)
  · split
    · refine uniq ((q : Int) + 1) ((m : Int) - r) ?_ (by omega) (by omega)
      rw [show d = -(m : Int) by omega, Int.neg_mul, Int.mul_add, Int.mul_one]; omega
    · refine uniq (-(q : Int) - 1) ((m : Int) - r) ?_ (by omega) (by omega)
      rw [show d = (m : Int) by omega, Int.mul_sub, Int.mul_neg, Int.mul_one]; omega

theorem ret_quo {a b c a' b' c' : Int} (h : a = a') (h1 : b = b') (h2 : c = c') : Ending.returned (.tuple #[.agg #[.int .i64 a, .int .u64 b], .int .u64 c, .int .i64 0]) = .returned (.tuple #[.agg #[.int .i64 a', .int .u64 b'], .int .u64 c', .int .i64 0]) := by rw [h, h1, h2]

set_option maxHeartbeats 1000000 in
theorem quo_prog (x d : Int) (hx : In128 x) (hd : I64 d) (w : World) :
    Calls Try.prog 38 #[.agg #[.int .i64 (hi64 x), .int .u64 (lo64 x)], .int .i64 d] w fun e w' =>
      e = .returned (.tuple #[.agg #[.int .i64 (if d = 0 then 0 else hi64 (x / d)), .int .u64 (if d = 0 then 0 else lo64 (x / d))], .int .u64 (if d = 0 then 0 else x % d), .int .i64 (if d = 0 then 13 else 0)]) ∧ Below w.heap.size w w' := by
  rcases Decidable.em (d = 0) with hd0 | hd0
  · subst hd0
    simp only [if_true]
    go_enter Try.func38, Try.ntmps38
    go_wp2_with fail
    go_returns
    exact ⟨rfl, by go_grown⟩
  · rw [if_neg hd0, if_neg hd0, if_neg hd0, if_neg hd0]
    have hdz := hd0
    have SZ := Lib.hid (fun W => size_prog x hx W)
    have MG := Lib.hid (fun W => magnitude_any d hd W)
    have hq := quo_sizes x d hd0
    have hn := hi_neg hx
    have hb : x.natAbs ≤ 170141183460469231731687303715884105728 := by unfold In128 at hx; omega
    have hmb : d.natAbs ≤ 9223372036854775808 := by unfold I64 at hd; omega
    obtain ⟨n, hn'⟩ : ∃ z, x.natAbs = z := ⟨_, rfl⟩
    obtain ⟨m, hm'⟩ : ∃ z, d.natAbs = z := ⟨_, rfl⟩
    have hm0 : 0 < m := by omega
    rw [hn', hm'] at hq
    rw [hn'] at SZ hb
    rw [hm'] at MG hmb
    obtain ⟨H, hH⟩ : ∃ z, n / 18446744073709551616 = z := ⟨_, rfl⟩
    obtain ⟨L, hL⟩ : ∃ z, n % 18446744073709551616 = z := ⟨_, rfl⟩
    have tw := two_words hm0 hH hL
    rw [hH, hL] at SZ
    have hH1 : H < 18446744073709551616 := by omega
    have hL1 : L < 18446744073709551616 := by omega
    have E1 : (H : Int) / (m : Int) = ((H / m : Nat) : Int) := (Int.natCast_ediv H m).symm
    have E2 : (H : Int) % (m : Int) = ((H % m : Nat) : Int) := (Int.natCast_emod H m).symm
    have hl0 := Nat.mod_lt H hm0
    have hqh := Nat.div_le_self H m
    obtain ⟨L0, hL0⟩ : ∃ z, H % m = z := ⟨_, rfl⟩
    rw [hL0] at E2 tw hl0
    have DV := Lib.hid (fun W => run_Div64 L0 L m hL1 (by omega) hl0 W)
    have hql : (L0 * 18446744073709551616 + L) / m < 18446744073709551616 := by
      rw [Nat.div_lt_iff_lt_mul hm0]
      have := Nat.mul_le_mul_right 18446744073709551616 (show L0 + 1 ≤ m by omega)
      omega
    obtain ⟨QH, hQH⟩ : ∃ z, H / m = z := ⟨_, rfl⟩
    obtain ⟨QL, hQL⟩ : ∃ z, (L0 * 18446744073709551616 + L) / m = z := ⟨_, rfl⟩
    obtain ⟨R, hR⟩ : ∃ z, (L0 * 18446744073709551616 + L) % m = z := ⟨_, rfl⟩
    have hRm : R < m := by rw [← hR]; exact Nat.mod_lt _ hm0
    rw [hQH] at E1 tw hqh
    rw [hQL] at tw hql DV
    rw [hR] at tw DV
    obtain ⟨t1, t2⟩ := tw
    rw [← t2] at hq
    obtain ⟨z, hz⟩ : ∃ z, n / m = z := ⟨_, rfl⟩
    rw [hz] at t1 hq
    have SGT := Lib.hid (fun W => signed_prog (QH : Int) (QL : Int) (by omega) (by omega) true W)
    have SGF := Lib.hid (fun W => signed_prog (QH : Int) (QL : Int) (by omega) (by omega) false W)
    rw [t1] at SGT SGF
    simp only [if_true] at SGT
    simp only [Bool.false_eq_true, if_false] at SGF
    obtain ⟨q, hqq⟩ : ∃ z, x / d = z := ⟨_, rfl⟩
    obtain ⟨r, hrr⟩ : ∃ z, x % d = z := ⟨_, rfl⟩
    rw [hqq, hrr] at hq
    rw [hqq, hrr]
    obtain ⟨zp, hzp⟩ : ∃ t, (z : Int) = t := ⟨_, rfl⟩
    obtain ⟨zn, hzn⟩ : ∃ t, -zp = t := ⟨_, rfl⟩
    rw [hzp] at SGT SGF hq
    rw [hzn] at SGT hq
    have HNH := Lib.hid hn
    obtain ⟨hq1, hq2, hq3⟩ := hq
    have hmz : ¬ (m : Int) = 0 := by omega
    have EW1 : IntKind.u64.wrap (QH : Int) = (QH : Int) := mk_wrap _ (by omega)
    have EW2 : IntKind.u64.wrap ((m : Int) - (R : Int)) = (m : Int) - (R : Int) := by rw [IntKind.wrap_u64]; omega
    have O1 := Lib.hid (fun W => of_any 1 (by omega) W)
    have O2 := Lib.hid (fun W => of_any (-1) (by omega) W)
    have bQH : (QH : Int) ≤ 18446744073709551615 := by omega
    have bR : (R : Int) ≤ 18446744073709551615 := by omega
    have bL0 : (L0 : Int) ≤ 18446744073709551615 := by omega
    have bm : (m : Int) ≤ 18446744073709551615 := by omega
    clear hzp hzn hx hd hb hH hL hH1 hL1 hl0 hqh hL0 hql hQH hQL hR t1 t2 hz hqq hrr hn' hm' hd0 hn hmb hRm
    rcases Int.lt_or_le x 0 with hx0 | hx0
    · have hxn : hi64 x < 0 := HNH.out.2 hx0
      clear HNH
      rcases Int.lt_or_le d 0 with hd0 | hd0
      · have hdn : d < 0 := hd0
        have hdb : decide (d < 0) = true := by simp; omega
        have hxb : decide (hi64 x < 0) = true := by simp; omega
        clear hq1
        rcases Nat.eq_zero_or_pos R with hR0 | hR0
        · obtain ⟨f1, f2⟩ := hq2 hx0 hR0
          subst hR0
          clear hq2 hq3
          rw [if_pos hdn] at f1
          have HF := Lib.hid (And.intro f1 f2)
          clear f1 f2
          go_enter Try.func38, Try.ntmps38
          go_wp2_with fail
          refine (SZ.out _).mono ?_
          rintro e w1 ⟨rfl, hb_w1⟩
          obtain ⟨hc_w1, hf_w1⟩ := bcell hb_w1
          have hz_w1 := hb_w1.size
          try simp at hz_w1
          have hB_w1 : Below w.heap.size w w1 := Below.trans (by go_grown) (hb_w1.mono (by go_size))
          have hs_w1_0 : w.heap.size < w1.heap.size := by omega
          have hs_w1_1 : w.heap.size + 1 < w1.heap.size := by omega
          have vxw1 : Var w1 w.heap.size 26 #[.int .i64 (hi64 x), .int .u64 (lo64 x)] := ((Var.new _ _ _).alloc _).keep hb_w1
          have vrw1 : Var w1 (w.heap.size + 1) 26 #[.int .i64 0, .int .u64 0] := (Var.new' _ _ _ (by simp)).keep hb_w1
          go_wp2_with fail
          refine (MG.out _).mono ?_
          rintro e w2 ⟨rfl, hw2⟩
          obtain rfl : w1 = w2 := hw2
          go_wp2_with fail
          go_region
          go_wp2_with fail
          refine (DV.out _).mono ?_
          rintro e w3 ⟨rfl, hb_w3⟩
          obtain ⟨hc_w3, hf_w3⟩ := bcell hb_w3
          have hz_w3 := hb_w3.size
          try simp at hz_w3
          have hB_w3 : Below w.heap.size w w3 := Below.trans (by go_grown) (hb_w3.mono (by go_size))
          have hs_w3_0 : w.heap.size < w3.heap.size := by omega
          have hs_w3_1 : w.heap.size + 1 < w3.heap.size := by omega
          have vxw3 := vxw1.drew.keep hb_w3
          have vrw3 := vrw1.drew.keep hb_w3
          have cxw3 : w3.cell? ⟨w.heap.size, 0, none⟩ = some (.int .i64 (hi64 x)) := vxw3.cell 0
          have crw3 : w3.cell? ⟨w.heap.size + 1, 0, none⟩ = some (.int .i64 0) := vrw3.cell 0
          have csw3 : w3.cell? ⟨w.heap.size + 1, 1, none⟩ = some (.int .u64 0) := vrw3.cell 1
          have frw3 := vrw3.free 0
          have fsw3 := vrw3.free 1
          go_wp2_with fail
          refine (SGF.out _).mono ?_
          rintro e w4 ⟨rfl, hb_w4⟩
          obtain ⟨hc_w4, hf_w4⟩ := bcell hb_w4
          have hz_w4 := hb_w4.size
          try simp at hz_w4
          have hB_w4 : Below w.heap.size w w4 := Below.trans (by go_grown) (hb_w4.mono (by go_size))
          have hs_w4_0 : w.heap.size < w4.heap.size := by omega
          have hs_w4_1 : w.heap.size + 1 < w4.heap.size := by omega
          have vxw4 := vxw3.keep hb_w4
          have vrw4 := vrw3.keep hb_w4
          have cxw4 : w4.cell? ⟨w.heap.size, 0, none⟩ = some (.int .i64 (hi64 x)) := vxw4.cell 0
          have crw4 : w4.cell? ⟨w.heap.size + 1, 0, none⟩ = some (.int .i64 0) := vrw4.cell 0
          have csw4 : w4.cell? ⟨w.heap.size + 1, 1, none⟩ = some (.int .u64 0) := vrw4.cell 1
          have frw4 := vrw4.free 0
          have fsw4 := vrw4.free 1
          go_wp2_with fail
          refine bodyPost_ret (by simp [results, Try.results38, go_sem, *]; try rfl) rfl ?_
          exact ⟨ret_quo (by rw [HF.out.1]) (by rw [HF.out.1]) (by rw [HF.out.2]), by go_grown⟩
        · obtain ⟨f1, f2⟩ := hq3 hx0 (by omega)
          have hRn : ¬ (R : Int) = 0 := by omega
          clear hq2 hq3
          rw [if_pos hdn] at f1
          have HF := Lib.hid (And.intro f1 f2)
          clear f1 f2
          go_enter Try.func38, Try.ntmps38
          go_wp2_with fail
          refine (SZ.out _).mono ?_
          rintro e w1 ⟨rfl, hb_w1⟩
          obtain ⟨hc_w1, hf_w1⟩ := bcell hb_w1
          have hz_w1 := hb_w1.size
          try simp at hz_w1
          have hB_w1 : Below w.heap.size w w1 := Below.trans (by go_grown) (hb_w1.mono (by go_size))
          have hs_w1_0 : w.heap.size < w1.heap.size := by omega
          have hs_w1_1 : w.heap.size + 1 < w1.heap.size := by omega
          have vxw1 : Var w1 w.heap.size 26 #[.int .i64 (hi64 x), .int .u64 (lo64 x)] := ((Var.new _ _ _).alloc _).keep hb_w1
          have vrw1 : Var w1 (w.heap.size + 1) 26 #[.int .i64 0, .int .u64 0] := (Var.new' _ _ _ (by simp)).keep hb_w1
          go_wp2_with fail
          refine (MG.out _).mono ?_
          rintro e w2 ⟨rfl, hw2⟩
          obtain rfl : w1 = w2 := hw2
          go_wp2_with fail
          go_region
          go_wp2_with fail
          refine (DV.out _).mono ?_
          rintro e w3 ⟨rfl, hb_w3⟩
          obtain ⟨hc_w3, hf_w3⟩ := bcell hb_w3
          have hz_w3 := hb_w3.size
          try simp at hz_w3
          have hB_w3 : Below w.heap.size w w3 := Below.trans (by go_grown) (hb_w3.mono (by go_size))
          have hs_w3_0 : w.heap.size < w3.heap.size := by omega
          have hs_w3_1 : w.heap.size + 1 < w3.heap.size := by omega
          have vxw3 := vxw1.drew.keep hb_w3
          have vrw3 := vrw1.drew.keep hb_w3
          have cxw3 : w3.cell? ⟨w.heap.size, 0, none⟩ = some (.int .i64 (hi64 x)) := vxw3.cell 0
          have crw3 : w3.cell? ⟨w.heap.size + 1, 0, none⟩ = some (.int .i64 0) := vrw3.cell 0
          have csw3 : w3.cell? ⟨w.heap.size + 1, 1, none⟩ = some (.int .u64 0) := vrw3.cell 1
          have frw3 := vrw3.free 0
          have fsw3 := vrw3.free 1
          go_wp2_with fail
          refine (SGF.out _).mono ?_
          rintro e w4 ⟨rfl, hb_w4⟩
          obtain ⟨hc_w4, hf_w4⟩ := bcell hb_w4
          have hz_w4 := hb_w4.size
          try simp at hz_w4
          have hB_w4 : Below w.heap.size w w4 := Below.trans (by go_grown) (hb_w4.mono (by go_size))
          have hs_w4_0 : w.heap.size < w4.heap.size := by omega
          have hs_w4_1 : w.heap.size + 1 < w4.heap.size := by omega
          have vxw4 := vxw3.keep hb_w4
          have vrw4 := vrw3.keep hb_w4
          have cxw4 : w4.cell? ⟨w.heap.size, 0, none⟩ = some (.int .i64 (hi64 x)) := vxw4.cell 0
          have crw4 : w4.cell? ⟨w.heap.size + 1, 0, none⟩ = some (.int .i64 0) := vrw4.cell 0
          have csw4 : w4.cell? ⟨w.heap.size + 1, 1, none⟩ = some (.int .u64 0) := vrw4.cell 1
          have frw4 := vrw4.free 0
          have fsw4 := vrw4.free 1
          go_wp2_with fail
          refine (O1.out _).mono ?_
          rintro e w5 ⟨rfl, hb_w5⟩
          obtain ⟨hc_w5, hf_w5⟩ := bcell hb_w5
          have hz_w5 := hb_w5.size
          try simp at hz_w5
          have hB_w5 : Below w.heap.size w w5 := Below.trans (by go_grown) (hb_w5.mono (by go_size))
          have hs_w5_0 : w.heap.size < w5.heap.size := by omega
          have hs_w5_1 : w.heap.size + 1 < w5.heap.size := by omega
          have hs_w5_2 : w4.heap.size < w5.heap.size := by omega
          have c_w5_wheapsize_0 : w5.cell? ⟨w.heap.size, 0, none⟩ = some (.int .i64 (hi64 x)) := by rw [hc_w5 _ _ (by first | omega | (simp; done) | (simp; omega))]; first | (go_simp; done) | (simp [*]; done)
          have c_w5_wheapsize1_0 : w5.cell? ⟨w.heap.size + 1, 0, none⟩ = some (.int .i64 0) := by rw [hc_w5 _ _ (by first | omega | (simp; done) | (simp; omega))]; first | (go_simp; done) | (simp [*]; done)
          have c_w5_wheapsize1_1 : w5.cell? ⟨w.heap.size + 1, 1, none⟩ = some (.int .u64 0) := by rw [hc_w5 _ _ (by first | omega | (simp; done) | (simp; omega))]; first | (go_simp; done) | (simp [*]; done)
          have f_w5_wheapsize1_0 : w5.frozen? ⟨w.heap.size + 1, 0, none⟩ = false := by rw [hf_w5 _ _ (by first | omega | (simp; done) | (simp; omega))]; first | (go_simp; done) | (simp [*]; done)
          have f_w5_wheapsize1_1 : w5.frozen? ⟨w.heap.size + 1, 1, none⟩ = false := by rw [hf_w5 _ _ (by first | omega | (simp; done) | (simp; omega))]; first | (go_simp; done) | (simp [*]; done)
          have c_w5_w4heapsize_0 : w5.cell? ⟨w4.heap.size, 0, none⟩ = some (.int .i64 (hi64 zp)) := by rw [hc_w5 _ _ (by first | omega | (simp; done) | (simp; omega))]; first | (go_simp; done) | (simp [*]; done)
          have c_w5_w4heapsize_1 : w5.cell? ⟨w4.heap.size, 1, none⟩ = some (.int .u64 (lo64 zp)) := by rw [hc_w5 _ _ (by first | omega | (simp; done) | (simp; omega))]; first | (go_simp; done) | (simp [*]; done)
          have f_w5_w4heapsize_0 : w5.frozen? ⟨w4.heap.size, 0, none⟩ = false := by rw [hf_w5 _ _ (by first | omega | (simp; done) | (simp; omega))]; first | (go_simp; done) | (simp [*]; done)
          have f_w5_w4heapsize_1 : w5.frozen? ⟨w4.heap.size, 1, none⟩ = false := by rw [hf_w5 _ _ (by first | omega | (simp; done) | (simp; omega))]; first | (go_simp; done) | (simp [*]; done)
          go_wp2_with fail
          refine (O2.out _).mono ?_
          rintro e w6 ⟨rfl, hb_w6⟩
          obtain ⟨hc_w6, hf_w6⟩ := bcell hb_w6
          have hz_w6 := hb_w6.size
          try simp at hz_w6
          have hB_w6 : Below w.heap.size w w6 := Below.trans (by go_grown) (hb_w6.mono (by go_size))
          have hs_w6_0 : w.heap.size < w6.heap.size := by omega
          have hs_w6_1 : w.heap.size + 1 < w6.heap.size := by omega
          have hs_w6_2 : w4.heap.size < w6.heap.size := by omega
          have hs_w6_3 : w5.heap.size < w6.heap.size := by omega
          have c_w6_wheapsize_0 : w6.cell? ⟨w.heap.size, 0, none⟩ = some (.int .i64 (hi64 x)) := by rw [hc_w6 _ _ (by first | omega | (simp; done) | (simp; omega))]; first | (go_simp; done) | (simp [*]; done)
          have c_w6_wheapsize1_0 : w6.cell? ⟨w.heap.size + 1, 0, none⟩ = some (.int .i64 0) := by rw [hc_w6 _ _ (by first | omega | (simp; done) | (simp; omega))]; first | (go_simp; done) | (simp [*]; done)
          have c_w6_wheapsize1_1 : w6.cell? ⟨w.heap.size + 1, 1, none⟩ = some (.int .u64 0) := by rw [hc_w6 _ _ (by first | omega | (simp; done) | (simp; omega))]; first | (go_simp; done) | (simp [*]; done)
          have f_w6_wheapsize1_0 : w6.frozen? ⟨w.heap.size + 1, 0, none⟩ = false := by rw [hf_w6 _ _ (by first | omega | (simp; done) | (simp; omega))]; first | (go_simp; done) | (simp [*]; done)
          have f_w6_wheapsize1_1 : w6.frozen? ⟨w.heap.size + 1, 1, none⟩ = false := by rw [hf_w6 _ _ (by first | omega | (simp; done) | (simp; omega))]; first | (go_simp; done) | (simp [*]; done)
          have c_w6_w4heapsize_0 : w6.cell? ⟨w4.heap.size, 0, none⟩ = some (.int .i64 (hi64 zp)) := by rw [hc_w6 _ _ (by first | omega | (simp; done) | (simp; omega))]; first | (go_simp; done) | (simp [*]; done)
          have c_w6_w4heapsize_1 : w6.cell? ⟨w4.heap.size, 1, none⟩ = some (.int .u64 (lo64 zp)) := by rw [hc_w6 _ _ (by first | omega | (simp; done) | (simp; omega))]; first | (go_simp; done) | (simp [*]; done)
          have f_w6_w4heapsize_0 : w6.frozen? ⟨w4.heap.size, 0, none⟩ = false := by rw [hf_w6 _ _ (by first | omega | (simp; done) | (simp; omega))]; first | (go_simp; done) | (simp [*]; done)
          have f_w6_w4heapsize_1 : w6.frozen? ⟨w4.heap.size, 1, none⟩ = false := by rw [hf_w6 _ _ (by first | omega | (simp; done) | (simp; omega))]; first | (go_simp; done) | (simp [*]; done)
          have c_w6_w5heapsize_0 : w6.cell? ⟨w5.heap.size, 0, none⟩ = some (.int .i64 (hi64 1)) := by rw [hc_w6 _ _ (by first | omega | (simp; done) | (simp; omega))]; first | (go_simp; done) | (simp [*]; done)
          have c_w6_w5heapsize_1 : w6.cell? ⟨w5.heap.size, 1, none⟩ = some (.int .u64 (lo64 1)) := by rw [hc_w6 _ _ (by first | omega | (simp; done) | (simp; omega))]; first | (go_simp; done) | (simp [*]; done)
          have f_w6_w5heapsize_0 : w6.frozen? ⟨w5.heap.size, 0, none⟩ = false := by rw [hf_w6 _ _ (by first | omega | (simp; done) | (simp; omega))]; first | (go_simp; done) | (simp [*]; done)
          have f_w6_w5heapsize_1 : w6.frozen? ⟨w5.heap.size, 1, none⟩ = false := by rw [hf_w6 _ _ (by first | omega | (simp; done) | (simp; omega))]; first | (go_simp; done) | (simp [*]; done)
          go_wp2_with fail
          refine (sub_any zp (-1) _).mono ?_
          rintro e w7 ⟨rfl, hb_w7⟩
          obtain ⟨hc_w7, hf_w7⟩ := bcell hb_w7
          have hz_w7 := hb_w7.size
          try simp at hz_w7
          have hB_w7 : Below w.heap.size w w7 := Below.trans (by go_grown) (hb_w7.mono (by go_size))
          have hs_w7_0 : w.heap.size < w7.heap.size := by omega
          have hs_w7_1 : w.heap.size + 1 < w7.heap.size := by omega
          have hs_w7_2 : w4.heap.size < w7.heap.size := by omega
          have hs_w7_3 : w5.heap.size < w7.heap.size := by omega
          have c_w7_wheapsize_0 : w7.cell? ⟨w.heap.size, 0, none⟩ = some (.int .i64 (hi64 x)) := by rw [hc_w7 _ _ (by first | omega | (simp; done) | (simp; omega))]; first | (go_simp; done) | (simp [*]; done)
          have c_w7_wheapsize1_0 : w7.cell? ⟨w.heap.size + 1, 0, none⟩ = some (.int .i64 0) := by rw [hc_w7 _ _ (by first | omega | (simp; done) | (simp; omega))]; first | (go_simp; done) | (simp [*]; done)
          have c_w7_wheapsize1_1 : w7.cell? ⟨w.heap.size + 1, 1, none⟩ = some (.int .u64 0) := by rw [hc_w7 _ _ (by first | omega | (simp; done) | (simp; omega))]; first | (go_simp; done) | (simp [*]; done)
          have f_w7_wheapsize1_0 : w7.frozen? ⟨w.heap.size + 1, 0, none⟩ = false := by rw [hf_w7 _ _ (by first | omega | (simp; done) | (simp; omega))]; first | (go_simp; done) | (simp [*]; done)
          have f_w7_wheapsize1_1 : w7.frozen? ⟨w.heap.size + 1, 1, none⟩ = false := by rw [hf_w7 _ _ (by first | omega | (simp; done) | (simp; omega))]; first | (go_simp; done) | (simp [*]; done)
          have c_w7_w4heapsize_0 : w7.cell? ⟨w4.heap.size, 0, none⟩ = some (.int .i64 (hi64 zp)) := by rw [hc_w7 _ _ (by first | omega | (simp; done) | (simp; omega))]; first | (go_simp; done) | (simp [*]; done)
          have c_w7_w4heapsize_1 : w7.cell? ⟨w4.heap.size, 1, none⟩ = some (.int .u64 (lo64 zp)) := by rw [hc_w7 _ _ (by first | omega | (simp; done) | (simp; omega))]; first | (go_simp; done) | (simp [*]; done)
          have f_w7_w4heapsize_0 : w7.frozen? ⟨w4.heap.size, 0, none⟩ = false := by rw [hf_w7 _ _ (by first | omega | (simp; done) | (simp; omega))]; first | (go_simp; done) | (simp [*]; done)
          have f_w7_w4heapsize_1 : w7.frozen? ⟨w4.heap.size, 1, none⟩ = false := by rw [hf_w7 _ _ (by first | omega | (simp; done) | (simp; omega))]; first | (go_simp; done) | (simp [*]; done)
          go_wp2_with fail
          refine bodyPost_ret (by simp [results, Try.results38, go_sem, *]; try rfl) rfl ?_
          exact ⟨ret_quo (by rw [HF.out.1]) (by rw [HF.out.1]) (by rw [HF.out.2]), by go_grown⟩
      · have hdn : ¬ d < 0 := by omega
        have hdb : decide (d < 0) = false := by simp; omega
        have hxb : decide (hi64 x < 0) = true := by simp; omega
        clear hq1
        rcases Nat.eq_zero_or_pos R with hR0 | hR0
        · obtain ⟨f1, f2⟩ := hq2 hx0 hR0
          subst hR0
          clear hq2 hq3
          rw [if_neg hdn] at f1
          have HF := Lib.hid (And.intro f1 f2)
          clear f1 f2
          go_enter Try.func38, Try.ntmps38
          go_wp2_with fail
          refine (SZ.out _).mono ?_
          rintro e w1 ⟨rfl, hb_w1⟩
          obtain ⟨hc_w1, hf_w1⟩ := bcell hb_w1
          have hz_w1 := hb_w1.size
          try simp at hz_w1
          have hB_w1 : Below w.heap.size w w1 := Below.trans (by go_grown) (hb_w1.mono (by go_size))
          have hs_w1_0 : w.heap.size < w1.heap.size := by omega
          have hs_w1_1 : w.heap.size + 1 < w1.heap.size := by omega
          have vxw1 : Var w1 w.heap.size 26 #[.int .i64 (hi64 x), .int .u64 (lo64 x)] := ((Var.new _ _ _).alloc _).keep hb_w1
          have vrw1 : Var w1 (w.heap.size + 1) 26 #[.int .i64 0, .int .u64 0] := (Var.new' _ _ _ (by simp)).keep hb_w1
          go_wp2_with fail
          refine (MG.out _).mono ?_
          rintro e w2 ⟨rfl, hw2⟩
          obtain rfl : w1 = w2 := hw2
          go_wp2_with fail
          go_region
          go_wp2_with fail
          refine (DV.out _).mono ?_
          rintro e w3 ⟨rfl, hb_w3⟩
          obtain ⟨hc_w3, hf_w3⟩ := bcell hb_w3
          have hz_w3 := hb_w3.size
          try simp at hz_w3
          have hB_w3 : Below w.heap.size w w3 := Below.trans (by go_grown) (hb_w3.mono (by go_size))
          have hs_w3_0 : w.heap.size < w3.heap.size := by omega
          have hs_w3_1 : w.heap.size + 1 < w3.heap.size := by omega
          have vxw3 := vxw1.drew.keep hb_w3
          have vrw3 := vrw1.drew.keep hb_w3
          have cxw3 : w3.cell? ⟨w.heap.size, 0, none⟩ = some (.int .i64 (hi64 x)) := vxw3.cell 0
          have crw3 : w3.cell? ⟨w.heap.size + 1, 0, none⟩ = some (.int .i64 0) := vrw3.cell 0
          have csw3 : w3.cell? ⟨w.heap.size + 1, 1, none⟩ = some (.int .u64 0) := vrw3.cell 1
          have frw3 := vrw3.free 0
          have fsw3 := vrw3.free 1
          go_wp2_with fail
          refine (SGT.out _).mono ?_
          rintro e w4 ⟨rfl, hb_w4⟩
          obtain ⟨hc_w4, hf_w4⟩ := bcell hb_w4
          have hz_w4 := hb_w4.size
          try simp at hz_w4
          have hB_w4 : Below w.heap.size w w4 := Below.trans (by go_grown) (hb_w4.mono (by go_size))
          have hs_w4_0 : w.heap.size < w4.heap.size := by omega
          have hs_w4_1 : w.heap.size + 1 < w4.heap.size := by omega
          have vxw4 := vxw3.keep hb_w4
          have vrw4 := vrw3.keep hb_w4
          have cxw4 : w4.cell? ⟨w.heap.size, 0, none⟩ = some (.int .i64 (hi64 x)) := vxw4.cell 0
          have crw4 : w4.cell? ⟨w.heap.size + 1, 0, none⟩ = some (.int .i64 0) := vrw4.cell 0
          have csw4 : w4.cell? ⟨w.heap.size + 1, 1, none⟩ = some (.int .u64 0) := vrw4.cell 1
          have frw4 := vrw4.free 0
          have fsw4 := vrw4.free 1
          go_wp2_with fail
          refine bodyPost_ret (by simp [results, Try.results38, go_sem, *]; try rfl) rfl ?_
          exact ⟨ret_quo (by rw [HF.out.1]) (by rw [HF.out.1]) (by rw [HF.out.2]), by go_grown⟩
        · obtain ⟨f1, f2⟩ := hq3 hx0 (by omega)
          have hRn : ¬ (R : Int) = 0 := by omega
          clear hq2 hq3
          rw [if_neg hdn] at f1
          have HF := Lib.hid (And.intro f1 f2)
          clear f1 f2
          go_enter Try.func38, Try.ntmps38
          go_wp2_with fail
          refine (SZ.out _).mono ?_
          rintro e w1 ⟨rfl, hb_w1⟩
          obtain ⟨hc_w1, hf_w1⟩ := bcell hb_w1
          have hz_w1 := hb_w1.size
          try simp at hz_w1
          have hB_w1 : Below w.heap.size w w1 := Below.trans (by go_grown) (hb_w1.mono (by go_size))
          have hs_w1_0 : w.heap.size < w1.heap.size := by omega
          have hs_w1_1 : w.heap.size + 1 < w1.heap.size := by omega
          have vxw1 : Var w1 w.heap.size 26 #[.int .i64 (hi64 x), .int .u64 (lo64 x)] := ((Var.new _ _ _).alloc _).keep hb_w1
          have vrw1 : Var w1 (w.heap.size + 1) 26 #[.int .i64 0, .int .u64 0] := (Var.new' _ _ _ (by simp)).keep hb_w1
          go_wp2_with fail
          refine (MG.out _).mono ?_
          rintro e w2 ⟨rfl, hw2⟩
          obtain rfl : w1 = w2 := hw2
          go_wp2_with fail
          go_region
          go_wp2_with fail
          refine (DV.out _).mono ?_
          rintro e w3 ⟨rfl, hb_w3⟩
          obtain ⟨hc_w3, hf_w3⟩ := bcell hb_w3
          have hz_w3 := hb_w3.size
          try simp at hz_w3
          have hB_w3 : Below w.heap.size w w3 := Below.trans (by go_grown) (hb_w3.mono (by go_size))
          have hs_w3_0 : w.heap.size < w3.heap.size := by omega
          have hs_w3_1 : w.heap.size + 1 < w3.heap.size := by omega
          have vxw3 := vxw1.drew.keep hb_w3
          have vrw3 := vrw1.drew.keep hb_w3
          have cxw3 : w3.cell? ⟨w.heap.size, 0, none⟩ = some (.int .i64 (hi64 x)) := vxw3.cell 0
          have crw3 : w3.cell? ⟨w.heap.size + 1, 0, none⟩ = some (.int .i64 0) := vrw3.cell 0
          have csw3 : w3.cell? ⟨w.heap.size + 1, 1, none⟩ = some (.int .u64 0) := vrw3.cell 1
          have frw3 := vrw3.free 0
          have fsw3 := vrw3.free 1
          go_wp2_with fail
          refine (SGT.out _).mono ?_
          rintro e w4 ⟨rfl, hb_w4⟩
          obtain ⟨hc_w4, hf_w4⟩ := bcell hb_w4
          have hz_w4 := hb_w4.size
          try simp at hz_w4
          have hB_w4 : Below w.heap.size w w4 := Below.trans (by go_grown) (hb_w4.mono (by go_size))
          have hs_w4_0 : w.heap.size < w4.heap.size := by omega
          have hs_w4_1 : w.heap.size + 1 < w4.heap.size := by omega
          have vxw4 := vxw3.keep hb_w4
          have vrw4 := vrw3.keep hb_w4
          have cxw4 : w4.cell? ⟨w.heap.size, 0, none⟩ = some (.int .i64 (hi64 x)) := vxw4.cell 0
          have crw4 : w4.cell? ⟨w.heap.size + 1, 0, none⟩ = some (.int .i64 0) := vrw4.cell 0
          have csw4 : w4.cell? ⟨w.heap.size + 1, 1, none⟩ = some (.int .u64 0) := vrw4.cell 1
          have frw4 := vrw4.free 0
          have fsw4 := vrw4.free 1
          go_wp2_with fail
          refine (O1.out _).mono ?_
          rintro e w5 ⟨rfl, hb_w5⟩
          obtain ⟨hc_w5, hf_w5⟩ := bcell hb_w5
          have hz_w5 := hb_w5.size
          try simp at hz_w5
          have hB_w5 : Below w.heap.size w w5 := Below.trans (by go_grown) (hb_w5.mono (by go_size))
          have hs_w5_0 : w.heap.size < w5.heap.size := by omega
          have hs_w5_1 : w.heap.size + 1 < w5.heap.size := by omega
          have hs_w5_2 : w4.heap.size < w5.heap.size := by omega
          have c_w5_wheapsize_0 : w5.cell? ⟨w.heap.size, 0, none⟩ = some (.int .i64 (hi64 x)) := by rw [hc_w5 _ _ (by first | omega | (simp; done) | (simp; omega))]; first | (go_simp; done) | (simp [*]; done)
          have c_w5_wheapsize1_0 : w5.cell? ⟨w.heap.size + 1, 0, none⟩ = some (.int .i64 0) := by rw [hc_w5 _ _ (by first | omega | (simp; done) | (simp; omega))]; first | (go_simp; done) | (simp [*]; done)
          have c_w5_wheapsize1_1 : w5.cell? ⟨w.heap.size + 1, 1, none⟩ = some (.int .u64 0) := by rw [hc_w5 _ _ (by first | omega | (simp; done) | (simp; omega))]; first | (go_simp; done) | (simp [*]; done)
          have f_w5_wheapsize1_0 : w5.frozen? ⟨w.heap.size + 1, 0, none⟩ = false := by rw [hf_w5 _ _ (by first | omega | (simp; done) | (simp; omega))]; first | (go_simp; done) | (simp [*]; done)
          have f_w5_wheapsize1_1 : w5.frozen? ⟨w.heap.size + 1, 1, none⟩ = false := by rw [hf_w5 _ _ (by first | omega | (simp; done) | (simp; omega))]; first | (go_simp; done) | (simp [*]; done)
          have c_w5_w4heapsize_0 : w5.cell? ⟨w4.heap.size, 0, none⟩ = some (.int .i64 (hi64 zn)) := by rw [hc_w5 _ _ (by first | omega | (simp; done) | (simp; omega))]; first | (go_simp; done) | (simp [*]; done)
          have c_w5_w4heapsize_1 : w5.cell? ⟨w4.heap.size, 1, none⟩ = some (.int .u64 (lo64 zn)) := by rw [hc_w5 _ _ (by first | omega | (simp; done) | (simp; omega))]; first | (go_simp; done) | (simp [*]; done)
          have f_w5_w4heapsize_0 : w5.frozen? ⟨w4.heap.size, 0, none⟩ = false := by rw [hf_w5 _ _ (by first | omega | (simp; done) | (simp; omega))]; first | (go_simp; done) | (simp [*]; done)
          have f_w5_w4heapsize_1 : w5.frozen? ⟨w4.heap.size, 1, none⟩ = false := by rw [hf_w5 _ _ (by first | omega | (simp; done) | (simp; omega))]; first | (go_simp; done) | (simp [*]; done)
          go_wp2_with fail
          refine (sub_any zn (1) _).mono ?_
          rintro e w7 ⟨rfl, hb_w7⟩
          obtain ⟨hc_w7, hf_w7⟩ := bcell hb_w7
          have hz_w7 := hb_w7.size
          try simp at hz_w7
          have hB_w7 : Below w.heap.size w w7 := Below.trans (by go_grown) (hb_w7.mono (by go_size))
          have hs_w7_0 : w.heap.size < w7.heap.size := by omega
          have hs_w7_1 : w.heap.size + 1 < w7.heap.size := by omega
          have hs_w7_2 : w4.heap.size < w7.heap.size := by omega
          have hs_w7_3 : w5.heap.size < w7.heap.size := by omega
          have c_w7_wheapsize_0 : w7.cell? ⟨w.heap.size, 0, none⟩ = some (.int .i64 (hi64 x)) := by rw [hc_w7 _ _ (by first | omega | (simp; done) | (simp; omega))]; first | (go_simp; done) | (simp [*]; done)
          have c_w7_wheapsize1_0 : w7.cell? ⟨w.heap.size + 1, 0, none⟩ = some (.int .i64 0) := by rw [hc_w7 _ _ (by first | omega | (simp; done) | (simp; omega))]; first | (go_simp; done) | (simp [*]; done)
          have c_w7_wheapsize1_1 : w7.cell? ⟨w.heap.size + 1, 1, none⟩ = some (.int .u64 0) := by rw [hc_w7 _ _ (by first | omega | (simp; done) | (simp; omega))]; first | (go_simp; done) | (simp [*]; done)
          have f_w7_wheapsize1_0 : w7.frozen? ⟨w.heap.size + 1, 0, none⟩ = false := by rw [hf_w7 _ _ (by first | omega | (simp; done) | (simp; omega))]; first | (go_simp; done) | (simp [*]; done)
          have f_w7_wheapsize1_1 : w7.frozen? ⟨w.heap.size + 1, 1, none⟩ = false := by rw [hf_w7 _ _ (by first | omega | (simp; done) | (simp; omega))]; first | (go_simp; done) | (simp [*]; done)
          have c_w7_w4heapsize_0 : w7.cell? ⟨w4.heap.size, 0, none⟩ = some (.int .i64 (hi64 zn)) := by rw [hc_w7 _ _ (by first | omega | (simp; done) | (simp; omega))]; first | (go_simp; done) | (simp [*]; done)
          have c_w7_w4heapsize_1 : w7.cell? ⟨w4.heap.size, 1, none⟩ = some (.int .u64 (lo64 zn)) := by rw [hc_w7 _ _ (by first | omega | (simp; done) | (simp; omega))]; first | (go_simp; done) | (simp [*]; done)
          have f_w7_w4heapsize_0 : w7.frozen? ⟨w4.heap.size, 0, none⟩ = false := by rw [hf_w7 _ _ (by first | omega | (simp; done) | (simp; omega))]; first | (go_simp; done) | (simp [*]; done)
          have f_w7_w4heapsize_1 : w7.frozen? ⟨w4.heap.size, 1, none⟩ = false := by rw [hf_w7 _ _ (by first | omega | (simp; done) | (simp; omega))]; first | (go_simp; done) | (simp [*]; done)
          go_wp2_with fail
          refine bodyPost_ret (by simp [results, Try.results38, go_sem, *]; try rfl) rfl ?_
          exact ⟨ret_quo (by rw [HF.out.1]) (by rw [HF.out.1]) (by rw [HF.out.2]), by go_grown⟩
    · have hxn : ¬ hi64 x < 0 := fun h => absurd (HNH.out.1 h) (by omega)
      clear HNH
      rcases Int.lt_or_le d 0 with hd0 | hd0
      · have hdn : d < 0 := hd0
        have hdb : decide (d < 0) = true := by simp; omega
        have hxb : decide (hi64 x < 0) = false := by simp; omega
        obtain ⟨f1, f2⟩ := hq1 (by omega)
        clear hq1 hq2 hq3
        rw [if_pos hdn] at f1
        have HF := Lib.hid (And.intro f1 f2)
        clear f1 f2
        go_enter Try.func38, Try.ntmps38
        go_wp2_with fail
        refine (SZ.out _).mono ?_
        rintro e w1 ⟨rfl, hb_w1⟩
        obtain ⟨hc_w1, hf_w1⟩ := bcell hb_w1
        have hz_w1 := hb_w1.size
        try simp at hz_w1
        have hB_w1 : Below w.heap.size w w1 := Below.trans (by go_grown) (hb_w1.mono (by go_size))
        have hs_w1_0 : w.heap.size < w1.heap.size := by omega
        have hs_w1_1 : w.heap.size + 1 < w1.heap.size := by omega
        have vxw1 : Var w1 w.heap.size 26 #[.int .i64 (hi64 x), .int .u64 (lo64 x)] := ((Var.new _ _ _).alloc _).keep hb_w1
        have vrw1 : Var w1 (w.heap.size + 1) 26 #[.int .i64 0, .int .u64 0] := (Var.new' _ _ _ (by simp)).keep hb_w1
        go_wp2_with fail
        refine (MG.out _).mono ?_
        rintro e w2 ⟨rfl, hw2⟩
        obtain rfl : w1 = w2 := hw2
        go_wp2_with fail
        go_region
        go_wp2_with fail
        refine (DV.out _).mono ?_
        rintro e w3 ⟨rfl, hb_w3⟩
        obtain ⟨hc_w3, hf_w3⟩ := bcell hb_w3
        have hz_w3 := hb_w3.size
        try simp at hz_w3
        have hB_w3 : Below w.heap.size w w3 := Below.trans (by go_grown) (hb_w3.mono (by go_size))
        have hs_w3_0 : w.heap.size < w3.heap.size := by omega
        have hs_w3_1 : w.heap.size + 1 < w3.heap.size := by omega
        have vxw3 := vxw1.drew.keep hb_w3
        have vrw3 := vrw1.drew.keep hb_w3
        have cxw3 : w3.cell? ⟨w.heap.size, 0, none⟩ = some (.int .i64 (hi64 x)) := vxw3.cell 0
        have crw3 : w3.cell? ⟨w.heap.size + 1, 0, none⟩ = some (.int .i64 0) := vrw3.cell 0
        have csw3 : w3.cell? ⟨w.heap.size + 1, 1, none⟩ = some (.int .u64 0) := vrw3.cell 1
        have frw3 := vrw3.free 0
        have fsw3 := vrw3.free 1
        go_wp2_with fail
        refine (SGT.out _).mono ?_
        rintro e w4 ⟨rfl, hb_w4⟩
        obtain ⟨hc_w4, hf_w4⟩ := bcell hb_w4
        have hz_w4 := hb_w4.size
        try simp at hz_w4
        have hB_w4 : Below w.heap.size w w4 := Below.trans (by go_grown) (hb_w4.mono (by go_size))
        have hs_w4_0 : w.heap.size < w4.heap.size := by omega
        have hs_w4_1 : w.heap.size + 1 < w4.heap.size := by omega
        have vxw4 := vxw3.keep hb_w4
        have vrw4 := vrw3.keep hb_w4
        have cxw4 : w4.cell? ⟨w.heap.size, 0, none⟩ = some (.int .i64 (hi64 x)) := vxw4.cell 0
        have crw4 : w4.cell? ⟨w.heap.size + 1, 0, none⟩ = some (.int .i64 0) := vrw4.cell 0
        have csw4 : w4.cell? ⟨w.heap.size + 1, 1, none⟩ = some (.int .u64 0) := vrw4.cell 1
        have frw4 := vrw4.free 0
        have fsw4 := vrw4.free 1
        go_wp2_with fail
        refine bodyPost_ret (by simp [results, Try.results38, go_sem, *]; try rfl) rfl ?_
        exact ⟨ret_quo (by rw [HF.out.1]) (by rw [HF.out.1]) (by rw [HF.out.2]), by go_grown⟩
      · have hdn : ¬ d < 0 := by omega
        have hdb : decide (d < 0) = false := by simp; omega
        have hxb : decide (hi64 x < 0) = false := by simp; omega
        obtain ⟨f1, f2⟩ := hq1 (by omega)
        clear hq1 hq2 hq3
        rw [if_neg hdn] at f1
        have HF := Lib.hid (And.intro f1 f2)
        clear f1 f2
        go_enter Try.func38, Try.ntmps38
        go_wp2_with fail
        refine (SZ.out _).mono ?_
        rintro e w1 ⟨rfl, hb_w1⟩
        obtain ⟨hc_w1, hf_w1⟩ := bcell hb_w1
        have hz_w1 := hb_w1.size
        try simp at hz_w1
        have hB_w1 : Below w.heap.size w w1 := Below.trans (by go_grown) (hb_w1.mono (by go_size))
        have hs_w1_0 : w.heap.size < w1.heap.size := by omega
        have hs_w1_1 : w.heap.size + 1 < w1.heap.size := by omega
        have vxw1 : Var w1 w.heap.size 26 #[.int .i64 (hi64 x), .int .u64 (lo64 x)] := ((Var.new _ _ _).alloc _).keep hb_w1
        have vrw1 : Var w1 (w.heap.size + 1) 26 #[.int .i64 0, .int .u64 0] := (Var.new' _ _ _ (by simp)).keep hb_w1
        go_wp2_with fail
        refine (MG.out _).mono ?_
        rintro e w2 ⟨rfl, hw2⟩
        obtain rfl : w1 = w2 := hw2
        go_wp2_with fail
        go_region
        go_wp2_with fail
        refine (DV.out _).mono ?_
        rintro e w3 ⟨rfl, hb_w3⟩
        obtain ⟨hc_w3, hf_w3⟩ := bcell hb_w3
        have hz_w3 := hb_w3.size
        try simp at hz_w3
        have hB_w3 : Below w.heap.size w w3 := Below.trans (by go_grown) (hb_w3.mono (by go_size))
        have hs_w3_0 : w.heap.size < w3.heap.size := by omega
        have hs_w3_1 : w.heap.size + 1 < w3.heap.size := by omega
        have vxw3 := vxw1.drew.keep hb_w3
        have vrw3 := vrw1.drew.keep hb_w3
        have cxw3 : w3.cell? ⟨w.heap.size, 0, none⟩ = some (.int .i64 (hi64 x)) := vxw3.cell 0
        have crw3 : w3.cell? ⟨w.heap.size + 1, 0, none⟩ = some (.int .i64 0) := vrw3.cell 0
        have csw3 : w3.cell? ⟨w.heap.size + 1, 1, none⟩ = some (.int .u64 0) := vrw3.cell 1
        have frw3 := vrw3.free 0
        have fsw3 := vrw3.free 1
        go_wp2_with fail
        refine (SGF.out _).mono ?_
        rintro e w4 ⟨rfl, hb_w4⟩
        obtain ⟨hc_w4, hf_w4⟩ := bcell hb_w4
        have hz_w4 := hb_w4.size
        try simp at hz_w4
        have hB_w4 : Below w.heap.size w w4 := Below.trans (by go_grown) (hb_w4.mono (by go_size))
        have hs_w4_0 : w.heap.size < w4.heap.size := by omega
        have hs_w4_1 : w.heap.size + 1 < w4.heap.size := by omega
        have vxw4 := vxw3.keep hb_w4
        have vrw4 := vrw3.keep hb_w4
        have cxw4 : w4.cell? ⟨w.heap.size, 0, none⟩ = some (.int .i64 (hi64 x)) := vxw4.cell 0
        have crw4 : w4.cell? ⟨w.heap.size + 1, 0, none⟩ = some (.int .i64 0) := vrw4.cell 0
        have csw4 : w4.cell? ⟨w.heap.size + 1, 1, none⟩ = some (.int .u64 0) := vrw4.cell 1
        have frw4 := vrw4.free 0
        have fsw4 := vrw4.free 1
        go_wp2_with fail
        refine bodyPost_ret (by simp [results, Try.results38, go_sem, *]; try rfl) rfl ?_
        exact ⟨ret_quo (by rw [HF.out.1]) (by rw [HF.out.1]) (by rw [HF.out.2]), by go_grown⟩

end Go.Proofs.Ytedodoaeecbalaa
