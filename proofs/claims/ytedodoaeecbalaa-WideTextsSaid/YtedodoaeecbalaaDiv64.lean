/-
  Contract of math/bits.Div64: two digits to the base 2^32, each guessed and brought down.
-/
import Derived.Test.YtedodoaeecbalaaLen
import Derived.Test.YtedodoaeecbalaaDivMath
import Derived.Test.YtedodoaeecbalaaMul
namespace Go.Proofs.Ytedodoaeecbalaa
open Go.RowKit

theorem cast_mul_pow (x s : Nat) : (x : Int) * 2 ^ s = ((x * 2 ^ s : Nat) : Int) := by
  rw [Int.natCast_mul, Int.natCast_pow]; rfl
theorem cast_div_pow (x s : Nat) : (x : Int) / 2 ^ s = ((x / 2 ^ s : Nat) : Int) := by
  rw [Int.natCast_ediv, Int.natCast_pow]; rfl
theorem wrap_pow {x s : Nat} (h : x * 2 ^ s < 18446744073709551616) : IntKind.u64.wrap ((x : Int) * 2 ^ s) = ((x * 2 ^ s : Nat) : Int) := by
  rw [cast_mul_pow]; exact mk_wrap _ h
/-- The dividend, moved up: its upper half and its lower half. -/
theorem moved {h l y s : Nat} (hl : l < 18446744073709551616) (hh : h < y) (hs : s < 64) (h4 : y * 2 ^ s < 18446744073709551616) :
    ∃ U L : Nat, bits .or .u64 (IntKind.u64.wrap ((h : Int) * 2 ^ s)) ((l : Int) / 2 ^ (64 - s)) = (U : Int) ∧ IntKind.u64.wrap ((l : Int) * 2 ^ s) = (L : Int) ∧
      L < 18446744073709551616 ∧ U < y * 2 ^ s ∧ (h * 18446744073709551616 + l) * 2 ^ s = U * 18446744073709551616 + L := by
  have p0 : 0 < 2 ^ s := Nat.pow_pos (by omega)
  have p1 : 2 ^ (64 - s) * 2 ^ s = 18446744073709551616 := by rw [← Nat.pow_add, show 64 - s + s = 64 by omega]
  have a1 : h * 2 ^ s + 2 ^ s ≤ y * 2 ^ s := by
    have := Nat.mul_le_mul_right (2 ^ s) (show h + 1 ≤ y by omega)
    rw [Nat.add_mul, Nat.one_mul] at this
    exact this
  have a2 : l / 2 ^ (64 - s) < 2 ^ s := by
    rw [Nat.div_lt_iff_lt_mul (Nat.pow_pos (by omega)), Nat.mul_comm, p1]; exact hl
  have a3 : l * 2 ^ s / 18446744073709551616 = l / 2 ^ (64 - s) := by rw [← p1, Nat.mul_div_mul_right _ _ p0]
  refine ⟨h * 2 ^ s + l / 2 ^ (64 - s), l * 2 ^ s % 18446744073709551616, ?_, ?_, Nat.mod_lt _ (by omega), by omega, ?_⟩
  · rw [wrap_pow (by omega), cast_div_pow, bits_or_u64_nat _ _ (by omega) (by omega)]
    rw [← Nat.shiftLeft_eq, Nat.shiftLeft_add_eq_or_of_lt a2]
  · rw [cast_mul_pow, mk_mod]
  · have d := Nat.div_add_mod (l * 2 ^ s) 18446744073709551616
    rw [a3] at d
    rw [Nat.add_mul, Nat.add_mul (h * 2 ^ s), Nat.mul_assoc h, Nat.mul_comm 18446744073709551616 (2 ^ s), ← Nat.mul_assoc h, Nat.add_assoc, Nat.mul_comm (l / 2 ^ (64 - s)), d]

theorem ret_dd {a b c d : Int} (h : a = c) (h' : b = d) : Ending.returned (.tuple #[.int .u64 a, .int .u64 b]) = .returned (.tuple #[.int .u64 c, .int .u64 d]) := by rw [h, h']

theorem wrap_digit {U u Y Q R : Nat} (hU : U < Y) (hY : Y < 18446744073709551616) (hQ : (U * 4294967296 + u) / Y = Q) (hR : (U * 4294967296 + u) % Y = R) :
    IntKind.u64.wrap (IntKind.u64.wrap (IntKind.u64.wrap ((U : Int) * 4294967296) + (u : Int)) - IntKind.u64.wrap ((Q : Int) * (Y : Int))) = (R : Int) := by
  have a := Nat.div_add_mod (U * 4294967296 + u) Y
  have b := Nat.mod_lt (U * 4294967296 + u) (show 0 < Y by omega)
  rw [hQ, hR, Nat.mul_comm] at a
  rw [hR] at b
  rw [mk_mul]
  obtain ⟨z, hz⟩ : ∃ z, Q * Y = z := ⟨_, rfl⟩
  rw [hz] at a ⊢
  rw [IntKind.wrap_u64, IntKind.wrap_u64, IntKind.wrap_u64, IntKind.wrap_u64]
  omega

/-- The first guess, as the code reckons it. -/
theorem first_guess {U yn1 : Nat} (_ : 2147483648 ≤ yn1) (hU : U < 18446744073709551616) : ∃ Q P R : Nat, U / yn1 = Q ∧ U - U / yn1 * yn1 = R ∧ (U : Int) / (yn1 : Int) = (Q : Int) ∧
    IntKind.u64.wrap ((Q : Int) * (yn1 : Int)) = (P : Int) ∧ IntKind.u64.wrap ((U : Int) - (P : Int)) = (R : Int) ∧ Q < 18446744073709551616 ∧ IntKind.u64.wrap ((U : Int).tdiv (yn1 : Int)) = (Q : Int) := by
  have hq : U / yn1 < 18446744073709551616 := Nat.lt_of_le_of_lt (Nat.div_le_self U yn1) hU
  have h := Nat.div_mul_le_self U yn1
  refine ⟨_, _, _, rfl, rfl, (Int.natCast_ediv U yn1).symm, by rw [mk_mul]; exact mk_wrap _ (by omega), ?_, hq, by rw [Int.ofNat_tdiv]; exact mk_wrap _ hq⟩
  obtain ⟨P, hP⟩ : ∃ z, U / yn1 * yn1 = z := ⟨_, rfl⟩
  rw [hP] at h ⊢
  rw [IntKind.wrap_u64]
  omega

set_option maxHeartbeats 400000 in
theorem run_Div64 (h l y : Nat) (hl : l < 18446744073709551616) (hy : y < 18446744073709551616) (hh : h < y) (w : World) :
    Calls Try.prog 66 #[.int .u64 (h : Int), .int .u64 (l : Int), .int .u64 (y : Int)] w fun e w' =>
      e = .returned (.tuple #[.int .u64 (((h * 18446744073709551616 + l) / y : Nat) : Int), .int .u64 (((h * 18446744073709551616 + l) % y : Nat) : Int)]) ∧ Below w.heap.size w w' := by
  have n1 : ¬ (y : Int) = 0 := by omega
  have n2 : ¬ (y : Int) ≤ (h : Int) := by omega
  rcases Nat.eq_zero_or_pos h with h0 | h0
  · subst h0
    rw [show 0 * 18446744073709551616 + l = l by omega]
    have e1 : (l : Int) / (y : Int) = ((l / y : Nat) : Int) := (Int.natCast_ediv l y).symm
    have e2 : (l : Int) % (y : Int) = ((l % y : Nat) : Int) := (Int.natCast_emod l y).symm
    obtain ⟨a, ha⟩ : ∃ z, l / y = z := ⟨_, rfl⟩
    obtain ⟨b, hb⟩ : ∃ z, l % y = z := ⟨_, rfl⟩
    rw [ha] at e1 ⊢
    rw [hb] at e2 ⊢
    have hab : a < 18446744073709551616 := by rw [← ha]; exact Nat.lt_of_le_of_lt (Nat.div_le_self l y) hl
    clear ha hb
    go_enter Try.func66, Try.ntmps66
    go_wp2_with fail
    go_region
    all_goals go_wp2_with fail
    all_goals go_ret2
    all_goals exact ⟨ret_dd (by first | rfl | (rw [IntKind.wrap_u64]; omega)) (by first | rfl | exact e2), by go_grown⟩
  · have n3 : ¬ (h : Int) = 0 := by omega
    obtain ⟨s, s1, s2, s3, s4⟩ := bl_fill y (by omega) hy
    have LZ := Lib.hid (fun W => run_LeadingZeros64 (y : Int) W (by omega) (by omega))
    rw [show ((y : Int)).toNat = y by omega, s2] at LZ
    obtain ⟨Y, hY⟩ : ∃ z, y * 2 ^ s = z := ⟨_, rfl⟩
    rw [hY] at s3 s4
    have e1 : IntKind.u64.wrap ((y : Int) * 2 ^ s) = (Y : Int) := by
      rw [← hY]; exact wrap_pow (by rw [hY]; exact s4)
    obtain ⟨yn1, g1⟩ : ∃ z, Y / 4294967296 = z := ⟨_, rfl⟩
    obtain ⟨yn0, g0⟩ : ∃ z, Y % 4294967296 = z := ⟨_, rfl⟩
    have e2 : (Y : Int) / 4294967296 = (yn1 : Int) := by omega
    have e3 : bits .and .u64 (Y : Int) 4294967295 = (yn0 : Int) := by rw [mk_mask Y s4, g0]
    have n4 : ¬ (yn1 : Int) = 0 := by omega
    obtain ⟨U, L, E1, E2, hL, hU, hN⟩ := moved hl hh s1 (by rw [hY]; exact s4)
    rw [hY] at hU
    obtain ⟨u1, k1⟩ : ∃ z, L / 4294967296 = z := ⟨_, rfl⟩
    obtain ⟨u0, k0⟩ : ∃ z, L % 4294967296 = z := ⟨_, rfl⟩
    have E3 : (L : Int) / 4294967296 = (u1 : Int) := by omega
    have E4 : bits .and .u64 (L : Int) 4294967295 = (u0 : Int) := by rw [mk_mask L hL, k0]
    have G0 := guess_start (U := U) (u := u1) (yn1 := yn1) (yn0 := yn0) (by omega) (by omega) (by omega)
    obtain ⟨Q0, P, R0, q1, q2, E5, E6, E7, bQ, _⟩ := first_guess (U := U) (yn1 := yn1) (by omega) (by omega)
    rw [q2, q1] at G0
    have G1 := Lib.hid G0
    obtain ⟨Q1, d1⟩ : ∃ z, (U * 4294967296 + u1) / Y = z := ⟨_, rfl⟩
    obtain ⟨U1, d2⟩ : ∃ z, (U * 4294967296 + u1) % Y = z := ⟨_, rfl⟩
    have hU1 : U1 < Y := by rw [← d2]; exact Nat.mod_lt _ (by omega)
    have M1 := wrap_digit hU s4 d1 d2
    have G0' := guess_start (U := U1) (u := u0) (yn1 := yn1) (yn0 := yn0) (by omega) (by omega) (by omega)
    obtain ⟨Q0', P', R0', q1', q2', _, M3, M4, bQ', M2⟩ := first_guess (U := U1) (yn1 := yn1) (by omega) (by omega)
    rw [q2', q1'] at G0'
    have G2 := Lib.hid G0'
    have MID := Lib.hid (And.intro M1 (And.intro M2 (And.intro M3 M4)))
    obtain ⟨Q2, d3⟩ : ∃ z, (U1 * 4294967296 + u0) / Y = z := ⟨_, rfl⟩
    obtain ⟨R, d4⟩ : ∃ z, (U1 * 4294967296 + u0) % Y = z := ⟨_, rfl⟩
    have D := digits_two (N := (h * 18446744073709551616 + l) * 2 ^ s) (Y := Y) (U := U) (u1 := u1) (u0 := u0) (by omega) (by rw [hN]; omega)
    rw [d1, d2, d3, d4, ← hY, Nat.mul_div_mul_right _ _ (Nat.pow_pos (by omega)), Nat.mul_mod_mul_right] at D
    have Z1 := wrap_digit hU1 s4 d3 d4
    have hQ1 : Q1 < 4294967296 := by rw [← d1]; exact digit_lt hU (by omega)
    have hQ2 : Q2 < 4294967296 := by rw [← d3]; exact digit_lt hU1 (by omega)
    obtain ⟨A, hA⟩ : ∃ z, (h * 18446744073709551616 + l) / y = z := ⟨_, rfl⟩
    obtain ⟨B, hB⟩ : ∃ z, (h * 18446744073709551616 + l) % y = z := ⟨_, rfl⟩
    rw [hA, hB] at D
    rw [hA, hB]
    have Z2 : IntKind.u64.wrap (IntKind.u64.wrap ((Q1 : Int) * 4294967296) + (Q2 : Int)) = (A : Int) := by rw [IntKind.wrap_u64, IntKind.wrap_u64]; have := D.1; omega
    have FA := Lib.hid (show (Q1 : Int) * 4294967296 + (Q2 : Int) = (A : Int) ∧ IntKind.u64.wrap ((Q1 : Int) * 4294967296 + (Q2 : Int)) = (A : Int) ∧ IntKind.u64.wrap (IntKind.u64.wrap ((Q1 : Int) * 4294967296) + (Q2 : Int)) = (A : Int) from ⟨by have := D.1; omega, by rw [IntKind.wrap_u64]; have := D.1; omega, Z2⟩)
    have Z3 : (R : Int) / 2 ^ s = (B : Int) := by rw [cast_div_pow, D.2, Nat.mul_div_cancel _ (Nat.pow_pos (by omega))]
    have FIN := Lib.hid (And.intro Z1 (And.intro Z2 Z3))
    have DQ1 := Lib.hid d1
    have DQ2 := Lib.hid d3
    have KN1 := Lib.hid (show yn1 * 4294967296 + yn0 = Y ∧ Y < 18446744073709551616 ∧ U < Y ∧ 2147483648 ≤ yn1 ∧ yn0 < 4294967296 ∧ u1 < 4294967296 from ⟨by omega, s4, hU, by omega, by omega, by omega⟩)
    have KN2 := Lib.hid (show yn1 * 4294967296 + yn0 = Y ∧ Y < 18446744073709551616 ∧ U1 < Y ∧ 2147483648 ≤ yn1 ∧ yn0 < 4294967296 ∧ u0 < 4294967296 from ⟨by omega, s4, hU1, by omega, by omega, by omega⟩)
    clear hl hy hh s2 hY s3 s4 g1 g0 hL hU hN k1 k0 q1 q2 G0 d1 d2 hU1 M1 M2 M3 M4 q1' q2' G0' d3 d4 D Z1 hQ1 hQ2 hA hB Z2 Z3
    go_enter Try.func66, Try.ntmps66
    go_wp2_with fail
    refine (LZ.out _).mono ?_
    rintro e w1 ⟨rfl, hw1⟩
    obtain rfl : w = w1 := hw1.symm
    go_wp2_with fail
    clear E1 E2 E3 E4 E5 E6 E7 e1 e2 e3
    go_loopw [15, 16] (fun t u wr => w = wr ∧ ∃ q r : Nat, t = .int .u64 (q : Int) ∧ u = .int .u64 (r : Int) ∧ Guess U u1 yn1 yn0 q r) (fun _ u _ => (8589934592 - intOf u).toNat)
    case atStart => exact ⟨rfl, _, _, rfl, rfl, G1.out⟩
    case round =>
      obtain ⟨rfl, q, r, rfl, rfl, g⟩ := hrel
      obtain ⟨hY1, hY2, hU, hy1, hy2, hu⟩ := KN1.out
      have gl := guess_le g hy1 (by omega)
      have g2 := g.lim
      obtain ⟨m, hm⟩ : ∃ z, q * yn0 % 18446744073709551616 = z := ⟨_, rfl⟩
      obtain ⟨v, hv⟩ : ∃ z, r * 4294967296 + u1 = z := ⟨_, rfl⟩
      obtain ⟨r1, hr1⟩ : ∃ z, r + yn1 = z := ⟨_, rfl⟩
      obtain ⟨q1, hq1⟩ : ∃ z, q - 1 = z := ⟨_, rfl⟩
      have F1 : IntKind.u64.wrap ((q : Int) * (yn0 : Int)) = (m : Int) := by rw [mk_mul, mk_mod, hm]
      have F2 : IntKind.u64.wrap (IntKind.u64.wrap (4294967296 * (r : Int)) + (u1 : Int)) = (v : Int) := by rw [IntKind.wrap_u64, IntKind.wrap_u64]; omega
      have F3 : IntKind.u64.wrap ((r : Int) + (yn1 : Int)) = (r1 : Int) := by rw [IntKind.wrap_u64]; omega
      have hmul : q < 4294967296 → m = q * yn0 := by
        intro hq
        rw [← hm]
        have := Nat.mul_le_mul (show q ≤ 4294967295 by omega) (show yn0 ≤ 4294967295 by omega)
        exact Nat.mod_eq_of_lt (by omega)
      rcases Nat.lt_or_ge q 4294967296 with c1 | c1
      · have C1 : ¬ 4294967296 ≤ (q : Int) := by omega
        rcases Nat.lt_or_ge v m with c2 | c2
        · have C2 : (v : Int) < (m : Int) := by omega
          have hd := guess_down g (by rw [hY1]; exact hU) hu hy2 (Or.inr (by rw [hv, ← hmul c1]; exact c2))
          have F4 : IntKind.u64.wrap ((q : Int) - 1) = (q1 : Int) := by rw [IntKind.wrap_u64]; omega
          rw [hq1, hr1] at hd
          have HD := Lib.hid hd
          have HR := Lib.hid (And.intro hr1 hy1)
          clear hm hmul g gl hv hr1 hq1 g2 hd c1 c2 hY1 hY2 hU hy1 hy2 hu
          rcases Nat.lt_or_ge r1 4294967296 with c3 | c3
          · have C3 : ¬ 4294967296 ≤ (r1 : Int) := by omega
            go_wp2_with fail
            go_roundw
            case rel => exact ⟨by trivial, q1, r1, rfl, rfl, HD.out.2.1, c3, HD.out.2.2⟩
            case measure => have := HR.out; simp only [intOf]; omega
          · have C3 : 4294967296 ≤ (r1 : Int) := by omega
            obtain rfl : q1 = Q1 := by
              have := KN1.out
              rw [← DQ1.out, ← this.1]
              exact guess_break HD.out.2.1 HD.out.2.2 c3 (by rw [this.1]; exact this.2.2.1) this.2.2.2.2.1 (by omega)
            go_wp2_with fail
            clear F1 F2 F3 F4
            simp only [MID.out.1, MID.out.2.1, MID.out.2.2.1, MID.out.2.2.2]
            go_loopw [18, 16] (fun t u wr => w = wr ∧ ∃ q r : Nat, t = .int .u64 (q : Int) ∧ u = .int .u64 (r : Int) ∧ Guess U1 u0 yn1 yn0 q r) (fun _ u _ => (8589934592 - intOf u).toNat)
            case atStart => exact ⟨rfl, _, _, rfl, rfl, G2.out⟩
            case round =>
              obtain ⟨rfl, q, r, rfl, rfl, g⟩ := hrel
              obtain ⟨hY1, hY2, hU, hy1, hy2, hu⟩ := KN2.out
              have gl := guess_le g hy1 (by omega)
              have g2 := g.lim
              obtain ⟨m, hm⟩ : ∃ z, q * yn0 % 18446744073709551616 = z := ⟨_, rfl⟩
              obtain ⟨v, hv⟩ : ∃ z, r * 4294967296 + u0 = z := ⟨_, rfl⟩
              obtain ⟨r1, hr1⟩ : ∃ z, r + yn1 = z := ⟨_, rfl⟩
              obtain ⟨q1, hq1⟩ : ∃ z, q - 1 = z := ⟨_, rfl⟩
              have F1 : IntKind.u64.wrap ((q : Int) * (yn0 : Int)) = (m : Int) := by rw [mk_mul, mk_mod, hm]
              have F2 : IntKind.u64.wrap (IntKind.u64.wrap (4294967296 * (r : Int)) + (u0 : Int)) = (v : Int) := by rw [IntKind.wrap_u64, IntKind.wrap_u64]; omega
              have F3 : IntKind.u64.wrap ((r : Int) + (yn1 : Int)) = (r1 : Int) := by rw [IntKind.wrap_u64]; omega
              have hmul : q < 4294967296 → m = q * yn0 := by
                intro hq
                rw [← hm]
                have := Nat.mul_le_mul (show q ≤ 4294967295 by omega) (show yn0 ≤ 4294967295 by omega)
                exact Nat.mod_eq_of_lt (by omega)
              rcases Nat.lt_or_ge q 4294967296 with c1 | c1
              · have C1 : ¬ 4294967296 ≤ (q : Int) := by omega
                rcases Nat.lt_or_ge v m with c2 | c2
                · have C2 : (v : Int) < (m : Int) := by omega
                  have hd := guess_down g (by rw [hY1]; exact hU) hu hy2 (Or.inr (by rw [hv, ← hmul c1]; exact c2))
                  have F4 : IntKind.u64.wrap ((q : Int) - 1) = (q1 : Int) := by rw [IntKind.wrap_u64]; omega
                  rw [hq1, hr1] at hd
                  have HD := Lib.hid hd
                  have HR := Lib.hid (And.intro hr1 hy1)
                  clear hm hmul g gl hv hr1 hq1 g2 hd c1 c2 hY1 hY2 hU hy1 hy2 hu
                  rcases Nat.lt_or_ge r1 4294967296 with c3 | c3
                  · have C3 : ¬ 4294967296 ≤ (r1 : Int) := by omega
                    go_wp2_with fail
                    go_roundw
                    case rel => exact ⟨by trivial, q1, r1, rfl, rfl, HD.out.2.1, c3, HD.out.2.2⟩
                    case measure => have := HR.out; simp only [intOf]; omega
                  · have C3 : 4294967296 ≤ (r1 : Int) := by omega
                    obtain rfl : q1 = Q2 := by
                      have := KN2.out
                      rw [← DQ2.out, ← this.1]
                      exact guess_break HD.out.2.1 HD.out.2.2 c3 (by rw [this.1]; exact this.2.2.1) this.2.2.2.2.1 (by omega)
                    go_wp2_with fail
                    clear F1 F2 F3 F4
                    simp only [FIN.out.1]
                    try simp only [FIN.out.2.1]
                    simp only [FIN.out.2.2]
                    go_ret2
                    exact ⟨ret_dd (by first | (with_reducible rfl) | exact FA.out.1 | exact FA.out.2.1 | exact FA.out.2.2) (by with_reducible rfl), by go_grown⟩
                · have C2 : ¬ (v : Int) < (m : Int) := by omega
                  obtain rfl : q = Q2 := by
                    rw [← DQ2.out, ← hY1]
                    exact guess_done g.sum g.top (by rw [hv, ← hmul c1]; exact c2)
                  clear hm hmul g gl hv hr1 hq1 g2 c1 c2 hY1 hY2 hU hy1 hy2 hu
                  go_wp2_with fail
                  clear F1 F2 F3
                  simp only [FIN.out.1]
                  try simp only [FIN.out.2.1]
                  simp only [FIN.out.2.2]
                  go_ret2
                  exact ⟨ret_dd (by first | (with_reducible rfl) | exact FA.out.1 | exact FA.out.2.1 | exact FA.out.2.2) (by with_reducible rfl), by go_grown⟩
              · have C1 : 4294967296 ≤ (q : Int) := by omega
                have hd := guess_down g (by rw [hY1]; exact hU) hu hy2 (Or.inl c1)
                have F4 : IntKind.u64.wrap ((q : Int) - 1) = (q1 : Int) := by rw [IntKind.wrap_u64]; omega
                rw [hq1, hr1] at hd
                have HD := Lib.hid hd
                have HR := Lib.hid (And.intro hr1 hy1)
                clear hm hmul g gl hv hr1 hq1 g2 hd c1 hY1 hY2 hU hy1 hy2 hu
                rcases Nat.lt_or_ge r1 4294967296 with c3 | c3
                · have C3 : ¬ 4294967296 ≤ (r1 : Int) := by omega
                  go_wp2_with fail
                  go_roundw
                  case rel => exact ⟨by trivial, q1, r1, rfl, rfl, HD.out.2.1, c3, HD.out.2.2⟩
                  case measure => have := HR.out; simp only [intOf]; omega
                · have C3 : 4294967296 ≤ (r1 : Int) := by omega
                  obtain rfl : q1 = Q2 := by
                    have := KN2.out
                    rw [← DQ2.out, ← this.1]
                    exact guess_break HD.out.2.1 HD.out.2.2 c3 (by rw [this.1]; exact this.2.2.1) this.2.2.2.2.1 (by omega)
                  go_wp2_with fail
                  clear F1 F2 F3 F4
                  simp only [FIN.out.1]
                  try simp only [FIN.out.2.1]
                  simp only [FIN.out.2.2]
                  go_ret2
                  exact ⟨ret_dd (by first | (with_reducible rfl) | exact FA.out.1 | exact FA.out.2.1 | exact FA.out.2.2) (by with_reducible rfl), by go_grown⟩
        · have C2 : ¬ (v : Int) < (m : Int) := by omega
          obtain rfl : q = Q1 := by
            rw [← DQ1.out, ← hY1]
            exact guess_done g.sum g.top (by rw [hv, ← hmul c1]; exact c2)
          clear hm hmul g gl hv hr1 hq1 g2 c1 c2 hY1 hY2 hU hy1 hy2 hu
          go_wp2_with fail
          clear F1 F2 F3
          simp only [MID.out.1, MID.out.2.1, MID.out.2.2.1, MID.out.2.2.2]
          go_loopw [18, 16] (fun t u wr => w = wr ∧ ∃ q r : Nat, t = .int .u64 (q : Int) ∧ u = .int .u64 (r : Int) ∧ Guess U1 u0 yn1 yn0 q r) (fun _ u _ => (8589934592 - intOf u).toNat)
          case atStart => exact ⟨rfl, _, _, rfl, rfl, G2.out⟩
          case round =>
            obtain ⟨rfl, q, r, rfl, rfl, g⟩ := hrel
            obtain ⟨hY1, hY2, hU, hy1, hy2, hu⟩ := KN2.out
            have gl := guess_le g hy1 (by omega)
            have g2 := g.lim
            obtain ⟨m, hm⟩ : ∃ z, q * yn0 % 18446744073709551616 = z := ⟨_, rfl⟩
            obtain ⟨v, hv⟩ : ∃ z, r * 4294967296 + u0 = z := ⟨_, rfl⟩
            obtain ⟨r1, hr1⟩ : ∃ z, r + yn1 = z := ⟨_, rfl⟩
            obtain ⟨q1, hq1⟩ : ∃ z, q - 1 = z := ⟨_, rfl⟩
            have F1 : IntKind.u64.wrap ((q : Int) * (yn0 : Int)) = (m : Int) := by rw [mk_mul, mk_mod, hm]
            have F2 : IntKind.u64.wrap (IntKind.u64.wrap (4294967296 * (r : Int)) + (u0 : Int)) = (v : Int) := by rw [IntKind.wrap_u64, IntKind.wrap_u64]; omega
            have F3 : IntKind.u64.wrap ((r : Int) + (yn1 : Int)) = (r1 : Int) := by rw [IntKind.wrap_u64]; omega
            have hmul : q < 4294967296 → m = q * yn0 := by
              intro hq
              rw [← hm]
              have := Nat.mul_le_mul (show q ≤ 4294967295 by omega) (show yn0 ≤ 4294967295 by omega)
              exact Nat.mod_eq_of_lt (by omega)
            rcases Nat.lt_or_ge q 4294967296 with c1 | c1
            · have C1 : ¬ 4294967296 ≤ (q : Int) := by omega
              rcases Nat.lt_or_ge v m with c2 | c2
              · have C2 : (v : Int) < (m : Int) := by omega
                have hd := guess_down g (by rw [hY1]; exact hU) hu hy2 (Or.inr (by rw [hv, ← hmul c1]; exact c2))
                have F4 : IntKind.u64.wrap ((q : Int) - 1) = (q1 : Int) := by rw [IntKind.wrap_u64]; omega
                rw [hq1, hr1] at hd
                have HD := Lib.hid hd
                have HR := Lib.hid (And.intro hr1 hy1)
                clear hm hmul g gl hv hr1 hq1 g2 hd c1 c2 hY1 hY2 hU hy1 hy2 hu
                rcases Nat.lt_or_ge r1 4294967296 with c3 | c3
                · have C3 : ¬ 4294967296 ≤ (r1 : Int) := by omega
                  go_wp2_with fail
                  go_roundw
                  case rel => exact ⟨by trivial, q1, r1, rfl, rfl, HD.out.2.1, c3, HD.out.2.2⟩
                  case measure => have := HR.out; simp only [intOf]; omega
                · have C3 : 4294967296 ≤ (r1 : Int) := by omega
                  obtain rfl : q1 = Q2 := by
                    have := KN2.out
                    rw [← DQ2.out, ← this.1]
                    exact guess_break HD.out.2.1 HD.out.2.2 c3 (by rw [this.1]; exact this.2.2.1) this.2.2.2.2.1 (by omega)
                  go_wp2_with fail
                  clear F1 F2 F3 F4
                  simp only [FIN.out.1]
                  try simp only [FIN.out.2.1]
                  simp only [FIN.out.2.2]
                  go_ret2
                  exact ⟨ret_dd (by first | (with_reducible rfl) | exact FA.out.1 | exact FA.out.2.1 | exact FA.out.2.2) (by with_reducible rfl), by go_grown⟩
              · have C2 : ¬ (v : Int) < (m : Int) := by omega
                obtain rfl : q = Q2 := by
                  rw [← DQ2.out, ← hY1]
                  exact guess_done g.sum g.top (by rw [hv, ← hmul c1]; exact c2)
                clear hm hmul g gl hv hr1 hq1 g2 c1 c2 hY1 hY2 hU hy1 hy2 hu
                go_wp2_with fail
                clear F1 F2 F3
                simp only [FIN.out.1]
                try simp only [FIN.out.2.1]
                simp only [FIN.out.2.2]
                go_ret2
                exact ⟨ret_dd (by first | (with_reducible rfl) | exact FA.out.1 | exact FA.out.2.1 | exact FA.out.2.2) (by with_reducible rfl), by go_grown⟩
            · have C1 : 4294967296 ≤ (q : Int) := by omega
              have hd := guess_down g (by rw [hY1]; exact hU) hu hy2 (Or.inl c1)
              have F4 : IntKind.u64.wrap ((q : Int) - 1) = (q1 : Int) := by rw [IntKind.wrap_u64]; omega
              rw [hq1, hr1] at hd
              have HD := Lib.hid hd
              have HR := Lib.hid (And.intro hr1 hy1)
              clear hm hmul g gl hv hr1 hq1 g2 hd c1 hY1 hY2 hU hy1 hy2 hu
              rcases Nat.lt_or_ge r1 4294967296 with c3 | c3
              · have C3 : ¬ 4294967296 ≤ (r1 : Int) := by omega
                go_wp2_with fail
                go_roundw
                case rel => exact ⟨by trivial, q1, r1, rfl, rfl, HD.out.2.1, c3, HD.out.2.2⟩
                case measure => have := HR.out; simp only [intOf]; omega
              · have C3 : 4294967296 ≤ (r1 : Int) := by omega
                obtain rfl : q1 = Q2 := by
                  have := KN2.out
                  rw [← DQ2.out, ← this.1]
                  exact guess_break HD.out.2.1 HD.out.2.2 c3 (by rw [this.1]; exact this.2.2.1) this.2.2.2.2.1 (by omega)
                go_wp2_with fail
                clear F1 F2 F3 F4
                simp only [FIN.out.1]
                try simp only [FIN.out.2.1]
                simp only [FIN.out.2.2]
                go_ret2
                exact ⟨ret_dd (by first | (with_reducible rfl) | exact FA.out.1 | exact FA.out.2.1 | exact FA.out.2.2) (by with_reducible rfl), by go_grown⟩
      · have C1 : 4294967296 ≤ (q : Int) := by omega
        have hd := guess_down g (by rw [hY1]; exact hU) hu hy2 (Or.inl c1)
        have F4 : IntKind.u64.wrap ((q : Int) - 1) = (q1 : Int) := by rw [IntKind.wrap_u64]; omega
        rw [hq1, hr1] at hd
        have HD := Lib.hid hd
        have HR := Lib.hid (And.intro hr1 hy1)
        clear hm hmul g gl hv hr1 hq1 g2 hd c1 hY1 hY2 hU hy1 hy2 hu
        rcases Nat.lt_or_ge r1 4294967296 with c3 | c3
        · have C3 : ¬ 4294967296 ≤ (r1 : Int) := by omega
          go_wp2_with fail
          go_roundw
          case rel => exact ⟨by trivial, q1, r1, rfl, rfl, HD.out.2.1, c3, HD.out.2.2⟩
          case measure => have := HR.out; simp only [intOf]; omega
        · have C3 : 4294967296 ≤ (r1 : Int) := by omega
          obtain rfl : q1 = Q1 := by
            have := KN1.out
            rw [← DQ1.out, ← this.1]
            exact guess_break HD.out.2.1 HD.out.2.2 c3 (by rw [this.1]; exact this.2.2.1) this.2.2.2.2.1 (by omega)
          go_wp2_with fail
          clear F1 F2 F3 F4
          simp only [MID.out.1, MID.out.2.1, MID.out.2.2.1, MID.out.2.2.2]
          go_loopw [18, 16] (fun t u wr => w = wr ∧ ∃ q r : Nat, t = .int .u64 (q : Int) ∧ u = .int .u64 (r : Int) ∧ Guess U1 u0 yn1 yn0 q r) (fun _ u _ => (8589934592 - intOf u).toNat)
          case atStart => exact ⟨rfl, _, _, rfl, rfl, G2.out⟩
          case round =>
            obtain ⟨rfl, q, r, rfl, rfl, g⟩ := hrel
            obtain ⟨hY1, hY2, hU, hy1, hy2, hu⟩ := KN2.out
            have gl := guess_le g hy1 (by omega)
            have g2 := g.lim
            obtain ⟨m, hm⟩ : ∃ z, q * yn0 % 18446744073709551616 = z := ⟨_, rfl⟩
            obtain ⟨v, hv⟩ : ∃ z, r * 4294967296 + u0 = z := ⟨_, rfl⟩
            obtain ⟨r1, hr1⟩ : ∃ z, r + yn1 = z := ⟨_, rfl⟩
            obtain ⟨q1, hq1⟩ : ∃ z, q - 1 = z := ⟨_, rfl⟩
            have F1 : IntKind.u64.wrap ((q : Int) * (yn0 : Int)) = (m : Int) := by rw [mk_mul, mk_mod, hm]
            have F2 : IntKind.u64.wrap (IntKind.u64.wrap (4294967296 * (r : Int)) + (u0 : Int)) = (v : Int) := by rw [IntKind.wrap_u64, IntKind.wrap_u64]; omega
            have F3 : IntKind.u64.wrap ((r : Int) + (yn1 : Int)) = (r1 : Int) := by rw [IntKind.wrap_u64]; omega
            have hmul : q < 4294967296 → m = q * yn0 := by
              intro hq
              rw [← hm]
              have := Nat.mul_le_mul (show q ≤ 4294967295 by omega) (show yn0 ≤ 4294967295 by omega)
              exact Nat.mod_eq_of_lt (by omega)
            rcases Nat.lt_or_ge q 4294967296 with c1 | c1
            · have C1 : ¬ 4294967296 ≤ (q : Int) := by omega
              rcases Nat.lt_or_ge v m with c2 | c2
              · have C2 : (v : Int) < (m : Int) := by omega
                have hd := guess_down g (by rw [hY1]; exact hU) hu hy2 (Or.inr (by rw [hv, ← hmul c1]; exact c2))
                have F4 : IntKind.u64.wrap ((q : Int) - 1) = (q1 : Int) := by rw [IntKind.wrap_u64]; omega
                rw [hq1, hr1] at hd
                have HD := Lib.hid hd
                have HR := Lib.hid (And.intro hr1 hy1)
                clear hm hmul g gl hv hr1 hq1 g2 hd c1 c2 hY1 hY2 hU hy1 hy2 hu
                rcases Nat.lt_or_ge r1 4294967296 with c3 | c3
                · have C3 : ¬ 4294967296 ≤ (r1 : Int) := by omega
                  go_wp2_with fail
                  go_roundw
                  case rel => exact ⟨by trivial, q1, r1, rfl, rfl, HD.out.2.1, c3, HD.out.2.2⟩
                  case measure => have := HR.out; simp only [intOf]; omega
                · have C3 : 4294967296 ≤ (r1 : Int) := by omega
                  obtain rfl : q1 = Q2 := by
                    have := KN2.out
                    rw [← DQ2.out, ← this.1]
                    exact guess_break HD.out.2.1 HD.out.2.2 c3 (by rw [this.1]; exact this.2.2.1) this.2.2.2.2.1 (by omega)
                  go_wp2_with fail
                  clear F1 F2 F3 F4
                  simp only [FIN.out.1]
                  try simp only [FIN.out.2.1]
                  simp only [FIN.out.2.2]
                  go_ret2
                  exact ⟨ret_dd (by first | (with_reducible rfl) | exact FA.out.1 | exact FA.out.2.1 | exact FA.out.2.2) (by with_reducible rfl), by go_grown⟩
              · have C2 : ¬ (v : Int) < (m : Int) := by omega
                obtain rfl : q = Q2 := by
                  rw [← DQ2.out, ← hY1]
                  exact guess_done g.sum g.top (by rw [hv, ← hmul c1]; exact c2)
                clear hm hmul g gl hv hr1 hq1 g2 c1 c2 hY1 hY2 hU hy1 hy2 hu
                go_wp2_with fail
                clear F1 F2 F3
                simp only [FIN.out.1]
                try simp only [FIN.out.2.1]
                simp only [FIN.out.2.2]
                go_ret2
                exact ⟨ret_dd (by first | (with_reducible rfl) | exact FA.out.1 | exact FA.out.2.1 | exact FA.out.2.2) (by with_reducible rfl), by go_grown⟩
            · have C1 : 4294967296 ≤ (q : Int) := by omega
              have hd := guess_down g (by rw [hY1]; exact hU) hu hy2 (Or.inl c1)
              have F4 : IntKind.u64.wrap ((q : Int) - 1) = (q1 : Int) := by rw [IntKind.wrap_u64]; omega
              rw [hq1, hr1] at hd
              have HD := Lib.hid hd
              have HR := Lib.hid (And.intro hr1 hy1)
              clear hm hmul g gl hv hr1 hq1 g2 hd c1 hY1 hY2 hU hy1 hy2 hu
              rcases Nat.lt_or_ge r1 4294967296 with c3 | c3
              · have C3 : ¬ 4294967296 ≤ (r1 : Int) := by omega
                go_wp2_with fail
                go_roundw
                case rel => exact ⟨by trivial, q1, r1, rfl, rfl, HD.out.2.1, c3, HD.out.2.2⟩
                case measure => have := HR.out; simp only [intOf]; omega
              · have C3 : 4294967296 ≤ (r1 : Int) := by omega
                obtain rfl : q1 = Q2 := by
                  have := KN2.out
                  rw [← DQ2.out, ← this.1]
                  exact guess_break HD.out.2.1 HD.out.2.2 c3 (by rw [this.1]; exact this.2.2.1) this.2.2.2.2.1 (by omega)
                go_wp2_with fail
                clear F1 F2 F3 F4
                simp only [FIN.out.1]
                try simp only [FIN.out.2.1]
                simp only [FIN.out.2.2]
                go_ret2
                exact ⟨ret_dd (by first | (with_reducible rfl) | exact FA.out.1 | exact FA.out.2.1 | exact FA.out.2.2) (by with_reducible rfl), by go_grown⟩

end Go.Proofs.Ytedodoaeecbalaa
