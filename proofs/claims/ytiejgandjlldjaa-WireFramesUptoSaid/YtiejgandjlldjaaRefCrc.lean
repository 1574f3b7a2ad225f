/-
  The document's Crc, Frame.
-/
import Derived.Test.YtiejgandjlldjaaRefFix
import Derived.Test.YtiejgandjlldjaaFrmM
namespace Go.Proofs.Ytiejgandjlldjaa
open Go.RowKit

theorem mul_bit (x y P : Nat) (hx : x < 2) (hy : y < 2) : (x ^^^ y) * P = x * P ^^^ y * P := by
  have h1 : x = 0 ∨ x = 1 := by omega
  have h2 : y = 0 ∨ y = 1 := by omega
  rcases h1 with rfl | rfl <;> rcases h2 with rfl | rfl <;> simp
theorem stp_xor (a b : Nat) : stp (a ^^^ b) = stp a ^^^ stp b := by
  unfold stp
  have h1 : (a ^^^ b) / 2 = a / 2 ^^^ b / 2 := xor_div a b 1
  have h2 : (a ^^^ b) % 2 = a % 2 ^^^ b % 2 := Nat.xor_mod_two_pow (n := 1)
  rw [h1, h2, mul_bit _ _ _ (by omega) (by omega)]
  simp only [Nat.xor_assoc]
  congr 1
  rw [← Nat.xor_assoc, Nat.xor_comm (b / 2), Nat.xor_assoc]
theorem stps_xor (a b : Nat) : ∀ n, stps n (a ^^^ b) = stps n a ^^^ stps n b
  | 0 => rfl
  | n + 1 => by simp only [stps]; rw [stps_xor a b n, stp_xor]
theorem stps_shift (q : Nat) : ∀ n, n ≤ 8 → stps n (256 * q) = 2 ^ (8 - n) * q
  | 0, _ => rfl
  | n + 1, h => by
    simp only [stps]
    rw [stps_shift q n (by omega), show 8 - n = (8 - (n + 1)) + 1 by omega, Nat.pow_succ]
    unfold stp
    rw [show 2 ^ (8 - (n + 1)) * 2 * q = 2 * (2 ^ (8 - (n + 1)) * q) by rw [Nat.mul_comm (2 ^ (8 - (n + 1))) 2, Nat.mul_assoc]]
    rw [Nat.mul_mod_right, Nat.mul_div_cancel_left _ (by omega)]
    simp
theorem xor_parts (x : Nat) : x = 256 * (x / 256) ^^^ x % 256 := by
  have h := Nat.two_pow_add_eq_or_of_lt (i := 8) (b := x % 256) (show x % 256 < 2 ^ 8 by omega) (x / 256)
  have h2 : 256 * (x / 256) ^^^ x % 256 = 256 * (x / 256) + x % 256 := by
    have := Nat.two_pow_add_eq_or_of_lt (i := 8) (b := x % 256) (show x % 256 < 2 ^ 8 by omega) (x / 256)
    rw [show (256 : Nat) = 2 ^ 8 from rfl] at *
    rw [this]
    apply Nat.eq_of_testBit_eq
    intro i
    rw [Nat.testBit_xor, Nat.testBit_or, Nat.testBit_two_pow_mul, Nat.testBit_mod_two_pow]
    by_cases hi : i < 8
    · simp [hi, show ¬ 8 ≤ i by omega]
    · simp [hi]
  rw [h2]
  omega
/-- A byte's step of the sum, bit by bit. -/
theorem stps_byte (r : Nat) (c : UInt8) : stps 8 (r ^^^ c.toNat) = r / 256 ^^^ tbl ((r % 256) ^^^ c.toNat) := by
  have h : r ^^^ c.toNat = 256 * (r / 256) ^^^ ((r % 256) ^^^ c.toNat) := by
    conv => lhs; rw [xor_parts r]
    rw [Nat.xor_assoc]
  rw [h, stps_xor, stps_shift _ 8 (by omega)]
  simp [tbl]

set_option maxRecDepth 100000 in
set_option maxHeartbeats 2000000 in
theorem crc_ref (A : Option Addr) (n c : Nat) (l : List UInt8) (w : World) (hs : Bs w A n c l) :
    Calls Try.prog 24 #[.slice A n c] w fun e w' => e = .returned (.int .u32 (crcN l : Int)) ∧ Below w.heap.size w w' := by
  have hn := hs.len
  subst hn
  have hbig := hs.big
  have hcap := hs.cap
  unfold maxLen at hbig
  obtain ⟨C, hC⟩ : ∃ z, crcN l = z := ⟨_, rfl⟩
  rw [hC]
  have HC := Lib.hid hC
  clear hC
  go_enter Try.func24, Try.ntmps24
  go_wp2_with fail
  go_loop [3, 4, 5, 6] (fun x t u v => ∃ k : Nat, k ≤ l.length ∧ t = .int .i64 (k : Int) ∧ x = .int .u32 ((mor 4294967295 (l.take k) : Nat) : Int)) (fun _ t _ _ => l.length - (intOf t).toNat)
  case atStart => exact ⟨0, by omega, rfl, rfl⟩
  case round =>
    obtain ⟨k, hk, rfl, rfl⟩ := hrel
    rcases Nat.lt_or_ge k l.length with hlt | hge
    · obtain ⟨g, o, rfl, hg, hc⟩ := hs.pos (by omega)
      have hck := hc k l[k] (List.getElem?_eq_getElem hlt)
      unfold B8 at hck
      have hnx := mor_take 4294967295 l hlt
      rw [← stps_byte] at hnx
      have hm := mor_lt (r := 4294967295) (by omega) (l.take k)
      obtain ⟨b, hb⟩ : ∃ z : Nat, l[k].toNat = z := ⟨_, rfl⟩
      have hb8 : b < 256 := by rw [← hb]; exact UInt8.toNat_lt _
      obtain ⟨x, hx⟩ : ∃ z : Nat, mor 4294967295 (l.take k) = z := ⟨_, rfl⟩
      rw [hb] at hck hnx
      rw [hx] at hnx hm
      rw [hx]
      have hx32 := u32_xor_nat x b (by omega) (by omega)
      obtain ⟨x0, hx0⟩ : ∃ z : Nat, x ^^^ b = z := ⟨_, rfl⟩
      have hx0l : x0 < 4294967296 := by rw [← hx0]; exact Nat.xor_lt_two_pow (n := 32) (by omega) (by omega)
      rw [hx0] at hx32 hnx
      have hk' : (k : Int) < (l.length : Int) := by omega
      have hb' : (b : Int) < 4294967296 := by omega
      have HN := Lib.hid hnx
      clear hc hnx hb hx hx0
      go_wp2_with fail
      go_loop [3, 5, 6] (fun r t v => ∃ j : Nat, j ≤ 8 ∧ t = .int .i64 (j : Int) ∧ r = .int .u32 ((stps j x0 : Nat) : Int)) (fun _ t _ => 8 - (intOf t).toNat)
      case atStart => exact ⟨0, by omega, rfl, rfl⟩
      case round =>
        obtain ⟨j, hj, rfl, rfl⟩ := hrel
        rcases Nat.lt_or_ge j 8 with hlt8 | hge8
        · have hjI : (j : Int) < 8 := by omega
          have hyl := stps_lt hx0l j
          have hnx : stps (j + 1) x0 = stp (stps j x0) := rfl
          obtain ⟨y, hy⟩ : ∃ z : Nat, stps j x0 = z := ⟨_, rfl⟩
          rw [hy] at hyl hnx
          rw [hy]
          have HJ := Lib.hid hnx
          clear hnx hy
          have hways : y % 2 = 1 ∨ y % 2 = 0 := by omega
          rcases hways with h2 | h2
          · have hm1 : bits .and .u32 (y : Int) 1 = 1 := by
              have := u32_and_nat y 1 hyl (by omega)
              rw [Nat.and_one_is_mod, h2] at this
              exact this
            have hxo := u32_xor_nat (y / 2) 3988292384 (by omega) (by omega)
            have hst : stp y = y / 2 ^^^ 3988292384 := by unfold stp; rw [h2]
            rw [← hst] at hxo
            replace hxo : bits .xor .u32 ((y : Int) / 2) 3988292384 = ((stp y : Nat) : Int) := hxo
            obtain ⟨z, hz⟩ : ∃ z, stp y = z := ⟨_, rfl⟩
            rw [hz] at hxo
            have HZ := Lib.hid hz
            clear hz hst h2
            go_wp2_with fail
            go_round
            case rel => exact ⟨j + 1, by omega, by go_num, congrArg (fun z : Nat => Value.int .u32 (z : Int)) (HZ.out.symm.trans HJ.out.symm)⟩
            case measure => simp [intOf]; omega
          · have hm1 : bits .and .u32 (y : Int) 1 = 0 := by
              have := u32_and_nat y 1 hyl (by omega)
              rw [Nat.and_one_is_mod, h2] at this
              exact this
            have hst : stp y = y / 2 := by unfold stp; rw [h2]; simp
            have HZ := Lib.hid hst
            clear hst h2
            go_wp2_with fail
            go_round
            case rel => exact ⟨j + 1, by omega, by go_num, congrArg (Value.int .u32) ((show ((y : Int) / 2) = ((y / 2 : Nat) : Int) by omega).trans (congrArg (fun z : Nat => (z : Int)) (HJ.out.trans HZ.out).symm))⟩
            case measure => simp [intOf]; omega
        · obtain rfl : j = 8 := by omega
          go_wp2_with fail
          go_round
          case rel => exact ⟨k + 1, by omega, by go_num, by rw [HN.out]⟩
          case measure => simp [intOf]; omega
    · obtain rfl : k = l.length := by omega
      rw [List.take_length]
      have hm := mor_lt (r := 4294967295) (by omega) l
      have hC : 4294967295 - mor 4294967295 l = C := HC.out
      obtain ⟨y, hy⟩ : ∃ z : Nat, mor 4294967295 l = z := ⟨_, rfl⟩
      rw [hy] at hC hm
      rw [hy]
      have hnot := not_u32 (y := y) (z := C) hm (by omega)
      have HZ := Lib.hid (show (4294967295 : Int) - (y : Int) = (C : Int) by omega)
      clear hC hm hy
      go_wp2_with fail
      go_ret
      exact ⟨rfl, by go_grown⟩

end Go.Proofs.Ytiejgandjlldjaa
