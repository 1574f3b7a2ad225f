/-
  Contracts of package wide's functions on numbers of 128 bits: each computes what it says, and leaves older memory alone.
-/
import Derived.Test.YthbndilnobjjgaaFrame
import Derived.Test.YthbndilnobjjgaaWideMath
import Derived.Outline
import Derived.WalkSpells
import Derived.WalkLawsBesides
import Derived.Lib.Hide
import Derived.Laws.Externs
import Derived.Shelf.Spec.BitsCarry
import Derived.Handy
import Derived.BigQuiet
import Derived.Deep.RegionHeld3
namespace Go.Proofs.Ythbndilnobjjgaa
open Go.RowKit

theorem run_Add64 (x y c : Int) (hx : 0 ≤ x) (hy : 0 ≤ y) (hc : 0 ≤ c ∧ c ≤ 1) (w : World) :
    (callFunc 58 #[.int .u64 x, .int .u64 y, .int .u64 c]).run Try.prog w = .ok (.value (.tuple #[.int .u64 (addLo x y c), .int .u64 (addCa x y c)])) w := by
  rw [run_callFunc_extern Try.func58 (by kernel_rfl) (by kernel_rfl) (by kernel_rfl) (e := add64Entry) (by kernel_rfl), run_add64 x y c hx hy hc.1 hc.2]
  rfl
theorem run_Sub64 (x y c : Int) (hx : 0 ≤ x) (hy : 0 ≤ y ∧ y ≤ 18446744073709551615) (hc : 0 ≤ c ∧ c ≤ 1) (w : World) :
    (callFunc 60 #[.int .u64 x, .int .u64 y, .int .u64 c]).run Try.prog w = .ok (.value (.tuple #[.int .u64 (subLo x y c), .int .u64 (subBo x y c)])) w := by
  obtain ⟨X, rfl⟩ := Int.eq_ofNat_of_zero_le hx
  obtain ⟨Y, rfl⟩ := Int.eq_ofNat_of_zero_le hy.1
  obtain ⟨C, rfl⟩ := Int.eq_ofNat_of_zero_le hc.1
  rw [run_callFunc_extern Try.func60 (by kernel_rfl) (by kernel_rfl) (by kernel_rfl) (e := Go.Proofs.sub64Entry) (by kernel_rfl), Go.Proofs.run_sub64 X Y C (by omega)]
  simp only [Result.andThen]
  have e1 : (((X + 18446744073709551616 - Y - C) % 18446744073709551616 : Nat) : Int) = subLo X Y C := by unfold subLo; omega
  have e2 : ((if X < Y + C then 1 else 0 : Nat) : Int) = subBo X Y C := by unfold subBo; split <;> split <;> omega
  rw [e1, e2]

theorem ret_intw {k : IntKind} {a b : Int} (h : a = b) : Ending.returned (.int k a) = .returned (.int k b) := by rw [h]

theorem add_any (x y : Int) (w : World) :
    Calls Try.prog 39 #[.agg #[.int .i64 (hi64 x), .int .u64 (lo64 x)], .agg #[.int .i64 (hi64 y), .int .u64 (lo64 y)]] w fun e w' =>
      e = .returned (.agg #[.int .i64 (hi64 (x + y)), .int .u64 (lo64 (x + y))]) ∧ Below w.heap.size w w' := by
  have bx := lo_bd x
  have by_ := lo_bd y
  have hc := addCa_bd bx by_
  have h1 := fun W => run_Add64 (lo64 x) (lo64 y) 0 bx.1 by_.1 (by omega) W
  have h2 := fun W => run_Add64 (IntKind.u64.wrap (hi64 x)) (IntKind.u64.wrap (hi64 y)) (addCa (lo64 x) (lo64 y) 0) (by rw [IntKind.wrap_u64]; omega) (by rw [IntKind.wrap_u64]; omega) hc W
  have e1 := add_lo x y
  have e2 := add_hi x y
  go_enter Try.func39, Try.ntmps39
  go_wp2
  go_returns
  exact ⟨rfl, by go_grown⟩

theorem sub_any (x y : Int) (w : World) :
    Calls Try.prog 41 #[.agg #[.int .i64 (hi64 x), .int .u64 (lo64 x)], .agg #[.int .i64 (hi64 y), .int .u64 (lo64 y)]] w fun e w' =>
      e = .returned (.agg #[.int .i64 (hi64 (x - y)), .int .u64 (lo64 (x - y))]) ∧ Below w.heap.size w w' := by
  have bx := lo_bd x
  have by_ := lo_bd y
  have hc := subBo_bd (lo64 x) (lo64 y) 0
  have h1 := fun W => run_Sub64 (lo64 x) (lo64 y) 0 bx.1 by_ (by omega) W
  have h2 := fun W => run_Sub64 (IntKind.u64.wrap (hi64 x)) (IntKind.u64.wrap (hi64 y)) (subBo (lo64 x) (lo64 y) 0) (by rw [IntKind.wrap_u64]; omega) (by rw [IntKind.wrap_u64]; omega) hc W
  have e1 := sub_lo x y
  have e2 := sub_hi x y
  go_enter Try.func41, Try.ntmps41
  go_wp2
  go_returns
  exact ⟨rfl, by go_grown⟩

theorem neg_any (x : Int) (w : World) :
    Calls Try.prog 27 #[.agg #[.int .i64 (hi64 x), .int .u64 (lo64 x)]] w fun e w' =>
      e = .returned (.agg #[.int .i64 (hi64 (-x)), .int .u64 (lo64 (-x))]) ∧ Below w.heap.size w w' := by
  have hs := fun W => sub_any 0 x W
  rw [show hi64 0 = 0 by decide +kernel, show lo64 0 = 0 by decide +kernel, Int.zero_sub] at hs
  have HS := Lib.hid hs
  clear hs
  go_enter Try.func27, Try.ntmps27
  go_wp2_with fail
  refine (HS.out _).mono ?_
  rintro e w1 ⟨rfl, hb_w1⟩
  obtain ⟨hc_w1, hf_w1⟩ := bcell hb_w1
  have hz_w1 := hb_w1.size
  try simp at hz_w1
  have hB_w1 : Below w.heap.size w w1 := Below.trans (by go_grown) (hb_w1.mono (by go_size))
  go_wp2
  refine bodyPost_ret (by simp [results, Try.results27, go_sem, *]; try rfl) rfl ?_
  exact ⟨rfl, by go_grown⟩

theorem cmp_any (x y : Int) (hx : In128 x) (hy : In128 y) (w : World) :
    Calls Try.prog 72 #[.agg #[.int .i64 (hi64 x), .int .u64 (lo64 x)], .agg #[.int .i64 (hi64 y), .int .u64 (lo64 y)]] w fun e w' =>
      e = .returned (.int .i64 (cmpI x y)) ∧ Below w.heap.size w w' := by
  go_enter Try.func72, Try.ntmps72
  go_wp2
  all_goals
    go_returns
    refine ⟨ret_intw ?_, by go_grown⟩
    have h1 := in_eq hx hy
    have h2 := in_lt hx hy
    unfold cmpI
    split <;> (try split) <;> omega
theorem sign_any (x : Int) (hx : In128 x) (w : World) :
    Calls Try.prog 26 #[.agg #[.int .i64 (hi64 x), .int .u64 (lo64 x)]] w fun e w' =>
      e = .returned (.int .i64 (cmpI x 0)) ∧ Below w.heap.size w w' := by
  go_enter Try.func26, Try.ntmps26
  go_wp2
  all_goals
    go_returns
    refine ⟨ret_intw ?_, by go_grown⟩
    have h1 := sign_math hx
    omega

theorem magnitude_any (v : Int) (hv : -9223372036854775808 ≤ v ∧ v ≤ 9223372036854775807) (w : World) :
    Calls Try.prog 81 #[.int .i64 v] w fun e w' => e = .returned (.int .u64 v.natAbs) ∧ w = w' := by
  go_enter Try.func81, Try.ntmps81
  go_wp2
  all_goals
    go_ret
    refine ⟨ret_intw ?_, rfl⟩
    try rw [IntKind.wrap_u64, IntKind.wrap_u64]
    omega

theorem cmp_zero (x : Int) (hx : In128 x) (w : World) :
    Calls Try.prog 72 #[.agg #[.int .i64 (hi64 x), .int .u64 (lo64 x)], .agg #[.int .i64 0, .int .u64 0]] w fun e w' =>
      e = .returned (.int .i64 (cmpI x 0)) ∧ Below w.heap.size w w' := by
  have h := cmp_any x 0 hx (by unfold In128; omega) w
  rw [show hi64 0 = 0 by decide +kernel, show lo64 0 = 0 by decide +kernel] at h
  exact h

/-! The same, said of whatever halves: no premise. -/
theorem cmp_s (x y : Int) (w : World) :
    Calls Try.prog 72 #[.agg #[.int .i64 (hi64 x), .int .u64 (lo64 x)], .agg #[.int .i64 (hi64 y), .int .u64 (lo64 y)]] w fun e w' =>
      e = .returned (.int .i64 (cmpI (s128 x) (s128 y))) ∧ Below w.heap.size w w' := by
  have h := cmp_any (s128 x) (s128 y) (s128_in x) (s128_in y) w
  rw [(s128_hi x).1, (s128_hi x).2, (s128_hi y).1, (s128_hi y).2] at h
  exact h
theorem cmp_s0 (x : Int) (w : World) :
    Calls Try.prog 72 #[.agg #[.int .i64 (hi64 x), .int .u64 (lo64 x)], .agg #[.int .i64 0, .int .u64 0]] w fun e w' =>
      e = .returned (.int .i64 (cmpI (s128 x) 0)) ∧ Below w.heap.size w w' := by
  have h := cmp_zero (s128 x) (s128_in x) w
  rw [(s128_hi x).1, (s128_hi x).2] at h
  exact h
theorem sign_s (x : Int) (w : World) :
    Calls Try.prog 26 #[.agg #[.int .i64 (hi64 x), .int .u64 (lo64 x)]] w fun e w' =>
      e = .returned (.int .i64 (cmpI (s128 x) 0)) ∧ Below w.heap.size w w' := by
  have h := sign_any (s128 x) (s128_in x) w
  rw [(s128_hi x).1, (s128_hi x).2] at h
  exact h

end Go.Proofs.Ythbndilnobjjgaa
