/-
  Contract of (wide.Int).Sqrt: the square root, bit by bit.
-/
import Derived.Test.YtedodoaeecbalaaQuo
namespace Go.Proofs.Ytedodoaeecbalaa
open Go.RowKit

/-- r is the root of X, its j lowest bits still unknown. -/
structure RootAt (X j r : Nat) : Prop where
  mult : ∃ q, r = q * 2 ^ j
  lim : r < 18446744073709551616
  low : r * r ≤ X
  top : X < (r + 2 ^ j) * (r + 2 ^ j)

theorem root_start {X : Nat} (h : X < 340282366920938463463374607431768211456) : RootAt X 64 0 := ⟨⟨0, by omega⟩, by omega, by omega, by
  rw [Nat.zero_add, ← Nat.pow_add]
  exact h⟩

theorem root_step {X k r : Nat} (hk : k < 64) (h : RootAt X (k + 1) r) : bits .or .u64 (r : Int) ((2 ^ k : Nat) : Int) = ((r + 2 ^ k : Nat) : Int) ∧ r + 2 ^ k < 18446744073709551616 ∧
    ((r + 2 ^ k) * (r + 2 ^ k) ≤ X → RootAt X k (r + 2 ^ k)) ∧ (X < (r + 2 ^ k) * (r + 2 ^ k) → RootAt X k r) := by
  obtain ⟨⟨q, hq⟩, hl, h1, h2⟩ := h
  have p0 : 0 < 2 ^ k := Nat.pow_pos (by omega)
  have p1 : 2 ^ (k + 1) = 2 ^ k + 2 ^ k := by rw [Nat.pow_succ]; omega
  have p2 : 2 ^ (63 - k) * 2 ^ (k + 1) = 18446744073709551616 := by rw [← Nat.pow_add, show 63 - k + (k + 1) = 64 by omega]
  have m1 : q * 2 ^ (k + 1) = 2 * q * 2 ^ k := by rw [Nat.pow_succ, Nat.mul_comm (2 ^ k) 2, ← Nat.mul_assoc, Nat.mul_comm q 2]
  have q1 : q < 2 ^ (63 - k) := by
    rcases Nat.lt_or_ge q (2 ^ (63 - k)) with h | h
    · exact h
    · have := Nat.mul_le_mul_right (2 ^ (k + 1)) h
      omega
  have hlim : r + 2 ^ (k + 1) ≤ 18446744073709551616 := by
    have := Nat.mul_le_mul_right (2 ^ (k + 1)) (show q + 1 ≤ 2 ^ (63 - k) by omega)
    rw [Nat.add_mul, Nat.one_mul, p2] at this
    omega
  have hb : r + 2 ^ k < 18446744073709551616 := by omega
  refine ⟨?_, hb, fun h => ⟨⟨2 * q + 1, ?_⟩, hb, h, ?_⟩, fun h => ⟨⟨2 * q, ?_⟩, hl, h1, h⟩⟩
  · rw [bits_or_u64_nat _ _ hl (by omega), hq, ← Nat.shiftLeft_eq, Nat.shiftLeft_add_eq_or_of_lt (by omega)]
  · rw [hq, m1, Nat.add_mul, Nat.one_mul]
  · rw [Nat.add_assoc, ← p1]; exact h2
  · rw [hq, m1]

theorem root_end {X r : Nat} (h : RootAt X 0 r) : r * r ≤ X ∧ X < (r + 1) * (r + 1) := ⟨h.low, h.top⟩

/-- There is one root. -/
theorem root_one {X a b : Nat} (ha : a * a ≤ X ∧ X < (a + 1) * (a + 1)) (hb : b * b ≤ X ∧ X < (b + 1) * (b + 1)) : a = b := by
  rcases Nat.lt_trichotomy a b with h | h | h
  · have := Nat.mul_le_mul (show a + 1 ≤ b by omega) (show a + 1 ≤ b by omega); omega
  · exact h
  · have := Nat.mul_le_mul (show b + 1 ≤ a by omega) (show b + 1 ≤ a by omega); omega

/-- What Sqrt answers. -/
def SqrtAns (x : Int) (r : Nat) : Prop := (x < 0 → r = 0) ∧ (¬ x < 0 → r * r ≤ x.toNat ∧ x.toNat < (r + 1) * (r + 1))
theorem ret_sqrt {a b : Int} (h : a = b) : Ending.returned (.tuple #[.int .u64 a, .int .i64 0]) = .returned (.tuple #[.int .u64 b, .int .i64 0]) := by rw [h]

set_option maxHeartbeats 400000 in
theorem sqrt_prog (x : Int) (hx : In128 x) (w : World) :
    Calls Try.prog 40 #[.agg #[.int .i64 (hi64 x), .int .u64 (lo64 x)]] w fun e w' =>
      (∃ r : Nat, e = .returned (.tuple #[.int .u64 (r : Int), .int .i64 (if x < 0 then 10 else 0)]) ∧ SqrtAns x r) ∧ Below w.heap.size w w' := by
  have hn := hi_neg hx
  rcases Int.lt_or_le x 0 with h0 | h0
  · have h1 : hi64 x < 0 := hn.2 h0
    rw [if_pos h0]
    have HA := Lib.hid (show SqrtAns x 0 from ⟨fun _ => rfl, fun h => absurd h0 h⟩)
    clear hn hx
    go_enter Try.func40, Try.ntmps40
    go_wp2_with fail
    go_ret2
    exact ⟨⟨0, rfl, HA.out⟩, by go_grown⟩
  · have h1 : 0 ≤ hi64 x := by omega
    rw [if_neg (by omega)]
    obtain ⟨X, rfl⟩ := Int.eq_ofNat_of_zero_le h0
    have hh : hi64 (X : Int) = ((X / 18446744073709551616 : Nat) : Int) ∧ lo64 (X : Int) = ((X % 18446744073709551616 : Nat) : Int) ∧ X < 170141183460469231731687303715884105728 := by
      unfold In128 at hx; unfold hi64 lo64; unfold wrap64; omega
    obtain ⟨e1, e2, e3⟩ := hh
    rw [e1, e2]
    obtain ⟨h, hH⟩ : ∃ z, X / 18446744073709551616 = z := ⟨_, rfl⟩
    obtain ⟨l, hL⟩ : ∃ z, X % 18446744073709551616 = z := ⟨_, rfl⟩
    rw [hH, hL]
    have hh1 : (h : Int) ≤ 9223372036854775807 := by omega
    have hn2 : ¬ (h : Int) < 0 := by omega
    have hl1 : (l : Int) ≤ 18446744073709551615 := by omega
    have HX := Lib.hid (And.intro hH (And.intro hL e3))
    clear e1 e2 e3 hH hL h1 hn hx h0
    have hpost : ∀ r : Nat, RootAt X 0 r → SqrtAns (X : Int) r := fun r hr => ⟨fun h => absurd h (by omega), fun _ => by rw [show ((X : Int)).toNat = X by omega]; exact root_end hr⟩
    have HPOST := Lib.hid hpost
    clear hpost
    go_enter Try.func40, Try.ntmps40
    go_wp2_with fail
    go_loopw [4, 5] (fun t u wr => ∃ r b j : Nat, t = .int .u64 (r : Int) ∧ u = .int .u64 (b : Int) ∧ b < 18446744073709551616 ∧ Hid (j ≤ 64 ∧ b = 2 ^ j / 2 ∧ RootAt X j r) ∧ Var wr w.heap.size 26 #[.int .i64 (h : Int), .int .u64 (l : Int)] ∧ Below w.heap.size w wr) (fun _ u _ => (intOf u).toNat)
    case atStart => exact ⟨0, 9223372036854775808, 64, rfl, rfl, by omega, Lib.hid ⟨Nat.le_refl _, by decide +kernel, root_start (by have := HX.out; omega)⟩, Var.new _ _ _, by go_grown⟩
    case round =>
      obtain ⟨r, b, j, rfl, rfl, hb, HJ, hv, hB⟩ := hrel
      have c0 := hv.cell 0
      have c1 := hv.cell 1
      have hz := hv.lt
      rcases Nat.eq_zero_or_pos b with hb0 | hb0
      · subst hb0
        have hj0 : j = 0 := by
          rcases Nat.eq_zero_or_pos j with h | h
          · exact h
          · exfalso
            have h2 := HJ.out.2.1
            obtain ⟨k, rfl⟩ : ∃ k, j = k + 1 := ⟨j - 1, by omega⟩
            have p := Nat.pow_pos (n := k) (show 0 < 2 by omega)
            rw [Nat.pow_succ] at h2
            omega
        subst hj0
        go_wp2_with fail
        go_ret2
        exact ⟨⟨r, rfl, HPOST.out r HJ.out.2.2⟩, hB⟩
      · have hb1 : ((b : Int) == 0) = false := by simp; omega
        have hb2 : ¬ (b : Int) = 0 := by omega
        obtain ⟨k, rfl⟩ : ∃ k, j = k + 1 := ⟨j - 1, by
          have h2 := HJ.out.2.1
          rcases Nat.eq_zero_or_pos j with h | h
          · subst h; simp at h2; omega
          · omega⟩
        have hbk : b = 2 ^ k := by have h2 := HJ.out.2.1; rw [Nat.pow_succ] at h2; omega
        have st := root_step (by have := HJ.out.1; omega) HJ.out.2.2
        rw [← hbk] at st
        obtain ⟨s1, s2, s3, s4⟩ := st
        obtain ⟨T, hT⟩ : ∃ z, r + b = z := ⟨_, rfl⟩
        rw [hT] at s1 s2 s3 s4
        have MU := Lib.hid (fun W => run_Mul64 (T : Int) (T : Int) (by omega) (by omega) W)
        have m1 : mulHi (T : Int) (T : Int) = ((T * T / 18446744073709551616 : Nat) : Int) := by unfold mulHi; rw [mk_mul]; omega
        have m2 : mulLo (T : Int) (T : Int) = ((T * T % 18446744073709551616 : Nat) : Int) := by unfold mulLo; rw [mk_mul]; omega
        rw [m1, m2] at MU
        obtain ⟨TT, hTT⟩ : ∃ z, T * T = z := ⟨_, rfl⟩
        rw [hTT] at MU s3 s4
        obtain ⟨a, ha⟩ : ∃ z, TT / 18446744073709551616 = z := ⟨_, rfl⟩
        obtain ⟨c, hc⟩ : ∃ z, TT % 18446744073709551616 = z := ⟨_, rfl⟩
        rw [ha, hc] at MU
        have hx := HX.out
        have S3 := Lib.hid s3
        have S4 := Lib.hid s4
        have hdec : (a < h ∧ TT ≤ X) ∨ (a = h ∧ c ≤ l ∧ TT ≤ X) ∨ (h < a ∧ X < TT) ∨ (a = h ∧ l < c ∧ X < TT) := by omega
        have KB := Lib.hid (show k ≤ 64 ∧ b / 2 = 2 ^ k / 2 from ⟨by have := HJ.out.1; omega, by rw [hbk]⟩)
        have KJ := Lib.hid (show b / 2 < b from by omega)
        clear hx s3 s4 m1 m2 hTT ha hc hbk
        rcases hdec with ⟨d1, d2⟩ | ⟨d1, d2, d3⟩ | ⟨d1, d2⟩ | ⟨d1, d2, d3⟩
        · have D1 : (a : Int) < (h : Int) := by omega
          clear d1
          go_wp2_with fail
          refine (MU.out _).mono ?_
          rintro e w1 ⟨rfl, hw1⟩
          obtain rfl : wr = w1 := hw1
          go_wp2_with fail
          go_roundw
          case rel => exact ⟨T, b / 2, k, rfl, congrArg (Value.int .u64) (by omega), by omega, Lib.hid ⟨KB.out.1, KB.out.2, S3.out d2⟩, hv, hB⟩
          case measure => have := KJ.out; (first | (simp only [intOf]; omega) | (simp [intOf]; omega))
        · subst d1
          have D1 : (c : Int) ≤ (l : Int) := by omega
          clear d2
          go_wp2_with fail
          refine (MU.out _).mono ?_
          rintro e w1 ⟨rfl, hw1⟩
          obtain rfl : wr = w1 := hw1
          go_wp2_with fail
          go_roundw
          case rel => exact ⟨T, b / 2, k, rfl, congrArg (Value.int .u64) (by omega), by omega, Lib.hid ⟨KB.out.1, KB.out.2, S3.out d3⟩, hv, hB⟩
          case measure => have := KJ.out; (first | (simp only [intOf]; omega) | (simp [intOf]; omega))
        · have D1 : ¬ (a : Int) < (h : Int) := by omega
          have D2 : ((a : Int) == (h : Int)) = false := by simp; omega
          clear d1
          go_wp2_with fail
          refine (MU.out _).mono ?_
          rintro e w1 ⟨rfl, hw1⟩
          obtain rfl : wr = w1 := hw1
          go_wp2_with fail
          go_roundw
          case rel => exact ⟨r, b / 2, k, rfl, congrArg (Value.int .u64) (by omega), by omega, Lib.hid ⟨KB.out.1, KB.out.2, S4.out d2⟩, hv, hB⟩
          case measure => have := KJ.out; (first | (simp only [intOf]; omega) | (simp [intOf]; omega))
        · subst d1
          have D1 : ¬ (c : Int) ≤ (l : Int) := by omega
          clear d2
          go_wp2_with fail
          refine (MU.out _).mono ?_
          rintro e w1 ⟨rfl, hw1⟩
          obtain rfl : wr = w1 := hw1
          go_wp2_with fail
          go_roundw
          case rel => exact ⟨r, b / 2, k, rfl, congrArg (Value.int .u64) (by omega), by omega, Lib.hid ⟨KB.out.1, KB.out.2, S4.out d3⟩, hv, hB⟩
          case measure => have := KJ.out; (first | (simp only [intOf]; omega) | (simp [intOf]; omega))

end Go.Proofs.Ytedodoaeecbalaa
