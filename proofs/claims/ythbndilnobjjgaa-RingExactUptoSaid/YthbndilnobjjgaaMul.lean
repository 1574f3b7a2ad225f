/-
  Contracts of math/bits.Mul64, wide.Mul and wide.CmpMul: the product of two numbers of 64 bits, whole; two products held against one another.
-/
import Derived.Test.YthbndilnobjjgaaWide
import Derived.Lib.Mul64
import Derived.Laws.Bits64b
namespace Go.Proofs.Ythbndilnobjjgaa
open Go.RowKit

theorem mk_mask (a : Nat) (ha : a < 18446744073709551616) : bits .and .u64 (a : Int) 4294967295 = ((a % 4294967296 : Nat) : Int) := by
  have h := bits_and_u64_nat a 4294967295 ha (by omega)
  have e : a &&& 4294967295 = a % 4294967296 := Nat.and_two_pow_sub_one_eq_mod a 32
  rw [e] at h
  exact h
theorem mk_div (a : Nat) : (a : Int) / 4294967296 = ((a / 4294967296 : Nat) : Int) := by omega
theorem mk_mul (a b : Nat) : (a : Int) * (b : Int) = ((a * b : Nat) : Int) := (Int.natCast_mul a b).symm
theorem mk_add (a b : Nat) : (a : Int) + (b : Int) = ((a + b : Nat) : Int) := (Int.natCast_add a b).symm
theorem mk_wrap (a : Nat) (ha : a < 18446744073709551616) : IntKind.u64.wrap (a : Int) = (a : Int) := by rw [IntKind.wrap_u64]; omega
theorem mk_mod (a : Nat) : IntKind.u64.wrap (a : Int) = ((a % 18446744073709551616 : Nat) : Int) := by rw [IntKind.wrap_u64]; omega

def mulHi (x y : Int) : Int := x * y / 18446744073709551616
def mulLo (x y : Int) : Int := x * y % 18446744073709551616

set_option maxHeartbeats 1000000 in
theorem run_Mul64 (x y : Int) (hx0 : 0 ≤ x ∧ x ≤ 18446744073709551615) (hy0 : 0 ≤ y ∧ y ≤ 18446744073709551615) (w : World) :
    Calls Try.prog 59 #[.int .u64 x, .int .u64 y] w fun e w' => e = .returned (.tuple #[.int .u64 (mulHi x y), .int .u64 (mulLo x y)]) ∧ w = w' := by
  obtain ⟨x, rfl⟩ := Int.eq_ofNat_of_zero_le hx0.1
  obtain ⟨y, rfl⟩ := Int.eq_ofNat_of_zero_le hy0.1
  have hx : x < 18446744073709551616 := by omega
  have hy : y < 18446744073709551616 := by omega
  have e1 : mulHi (x : Int) (y : Int) = ((x * y / 18446744073709551616 : Nat) : Int) := by unfold mulHi; rw [mk_mul]; omega
  have e2 : mulLo (x : Int) (y : Int) = ((x * y % 18446744073709551616 : Nat) : Int) := by unfold mulLo; rw [mk_mul]; omega
  rw [e1, e2]
  clear e1 e2 hx0 hy0
  obtain ⟨bd, bt, bw, hhi⟩ := Lib.mul64_hi x y hx hy
  have ba := Lib.half_mul_le (a := x / 4294967296) (b := y / 4294967296) (by omega) (by omega)
  have bb := Lib.half_mul_le (a := x / 4294967296) (b := y % 4294967296) (by omega) (by omega)
  have bc := Lib.half_mul_le (a := x % 4294967296) (b := y / 4294967296) (by omega) (by omega)
  have ba' : x / 4294967296 * (y / 4294967296) < 18446744073709551616 := by omega
  have bb' : x / 4294967296 * (y % 4294967296) < 18446744073709551616 := by omega
  have bc' : x % 4294967296 * (y / 4294967296) < 18446744073709551616 := by omega
  have bh1 : x / 4294967296 * (y / 4294967296) + (x / 4294967296 * (y % 4294967296) + x % 4294967296 * (y % 4294967296) / 4294967296) / 4294967296 < 18446744073709551616 := by omega
  have bh : x / 4294967296 * (y / 4294967296) + (x / 4294967296 * (y % 4294967296) + x % 4294967296 * (y % 4294967296) / 4294967296) / 4294967296 + ((x / 4294967296 * (y % 4294967296) + x % 4294967296 * (y % 4294967296) / 4294967296) % 4294967296 + x % 4294967296 * (y / 4294967296)) / 4294967296 < 18446744073709551616 := by omega
  go_enter Try.func59, Try.ntmps59
  go_wp2
  simp only [mk_mask x hx, mk_mask y hy, mk_div, mk_mul, mk_add, mk_wrap _ bd, mk_wrap _ bb', mk_wrap _ bt, mk_mask _ bt, mk_wrap _ bc', mk_wrap _ bw, mk_wrap _ ba', mk_wrap _ bh1, mk_wrap _ bh, mk_mod (x * y)]
  rw [hhi]
  go_ret2
  exact ⟨rfl, rfl⟩

def I64 (a : Int) : Prop := -9223372036854775808 ≤ a ∧ a ≤ 9223372036854775807
theorem mul_in {a b : Int} (ha : I64 a) (hb : I64 b) : In128 (a * b) := by
  unfold I64 at ha hb
  have h1 : a.natAbs ≤ 9223372036854775808 := by omega
  have h2 : b.natAbs ≤ 9223372036854775808 := by omega
  have h3 := Nat.mul_le_mul h1 h2
  rw [← Int.natAbs_mul] at h3
  unfold In128
  omega
theorem mul_fin {a b A B H : Int} (ha : A = a ∨ A = a + 18446744073709551616) (hb : B = b ∨ B = b + 18446744073709551616)
    (hH : (H - A * B / 18446744073709551616 + (if A = a then 0 else B) + (if B = b then 0 else A)) % 18446744073709551616 = 0) : wrap64 H = hi64 (a * b) ∧ mulLo A B = lo64 (a * b) := by
  unfold hi64 lo64 mulLo
  rcases ha with rfl | rfl
  · rcases hb with rfl | rfl
    · rw [if_pos rfl, if_pos rfl] at hH
      generalize A * B = z at *
      unfold wrap64; omega
    · have e : A * (b + 18446744073709551616) = A * b + 18446744073709551616 * A := by grind
      rw [if_pos rfl, if_neg (by omega), e] at hH
      rw [e]
      generalize A * b = z at *
      unfold wrap64; omega
  · rcases hb with rfl | rfl
    · have e : (a + 18446744073709551616) * B = a * B + 18446744073709551616 * B := by grind
      rw [if_pos rfl, if_neg (by omega), e] at hH
      rw [e]
      generalize a * B = z at *
      unfold wrap64; omega
    · have e : (a + 18446744073709551616) * (b + 18446744073709551616) = a * b + 18446744073709551616 * a + 18446744073709551616 * b + 340282366920938463463374607431768211456 := by grind
      rw [if_neg (by omega), if_neg (by omega), e] at hH
      rw [e]
      generalize a * b = z at *
      unfold wrap64; omega
theorem ret_int128 {a b c d : Int} (h : a = c ∧ b = d) : Ending.returned (.agg #[.int .i64 a, .int .u64 b]) = .returned (.agg #[.int .i64 c, .int .u64 d]) := by rw [h.1, h.2]

set_option maxHeartbeats 1000000 in
theorem mul_any (a b : Int) (ha : I64 a) (hb : I64 b) (w : World) :
    Calls Try.prog 40 #[.int .i64 a, .int .i64 b] w fun e w' =>
      e = .returned (.agg #[.int .i64 (hi64 (a * b)), .int .u64 (lo64 (a * b))]) ∧ Below w.heap.size w w' := by
  have HM := fun W => run_Mul64 (IntKind.u64.wrap a) (IntKind.u64.wrap b) (by rw [IntKind.wrap_u64]; omega) (by rw [IntKind.wrap_u64]; omega) W
  have HI := Lib.hid HM
  clear HM
  have HA := Lib.hid (show IntKind.u64.wrap a = if a < 0 then a + 18446744073709551616 else a by rw [IntKind.wrap_u64]; unfold I64 at ha; split <;> omega)
  have HB0 := Lib.hid (show IntKind.u64.wrap b = if b < 0 then b + 18446744073709551616 else b by rw [IntKind.wrap_u64]; unfold I64 at hb; split <;> omega)
  clear ha hb
  go_enter Try.func40, Try.ntmps40
  go_wp2_with fail
  refine (HI.out _).mono ?_
  rintro e w1 ⟨rfl, rfl⟩
  go_wp2
  all_goals
    go_returns
    refine ⟨ret_int128 (mul_fin ?_ ?_ ?_), by go_grown⟩
  all_goals
    have hA := HA.out
    have hB := HB0.out
    clear HA HB0 HI
    generalize IntKind.u64.wrap a = A at *
    generalize IntKind.u64.wrap b = B at *
    split at hA <;> split at hB
    all_goals first
      | omega
      | (unfold mulHi; generalize A * B = z; (try simp only [IntKind.wrap_u64]); (repeat' split) <;> omega)


end Go.Proofs.Ythbndilnobjjgaa
