/-
  wide.Gcd alone (taken from XMuls).
-/
import Derived.Test.YthbndilnobjjgaaMul
import Derived.Test.YthbndilnobjjgaaTail
namespace Go.Proofs.Ythbndilnobjjgaa
open Go.RowKit

theorem ret_gcd {a b : Nat} (h : a = b) : Ending.returned (.int .u64 (a : Int)) = .returned (.int .u64 (b : Int)) := by rw [h]

set_option maxHeartbeats 400000 in
theorem gcd_any (a b : Int) (ha : I64 a) (hb : I64 b) (w : World) :
    Calls Try.prog 80 #[.int .i64 a, .int .i64 b] w fun e w' => e = .returned (.int .u64 (Nat.gcd a.natAbs b.natAbs : Nat)) ∧ Below w.heap.size w w' := by
  have M1 := Lib.hid (fun W => magnitude_any a ha W)
  have M2 := Lib.hid (fun W => magnitude_any b hb W)
  have b1 : a.natAbs ≤ 9223372036854775808 := by unfold I64 at ha; omega
  have b2 : b.natAbs ≤ 9223372036854775808 := by unfold I64 at hb; omega
  clear ha hb
  obtain ⟨p, hp⟩ : ∃ z, a.natAbs = z := ⟨_, rfl⟩
  obtain ⟨q, hq⟩ : ∃ z, b.natAbs = z := ⟨_, rfl⟩
  rw [hp] at M1 b1 ⊢
  rw [hq] at M2 b2 ⊢
  clear hp hq
  go_enter Try.func80, Try.ntmps80
  go_wp2_with fail
  refine (M1.out _).mono ?_
  rintro e w1 ⟨rfl, rfl⟩
  go_wp2_with fail
  refine (M2.out _).mono ?_
  rintro e w1 ⟨rfl, rfl⟩
  go_wp2_with fail
  go_loopw [5, 6] (fun t u wr => ∃ x y : Nat, t = .int .u64 (x : Int) ∧ u = .int .u64 (y : Int) ∧ x ≤ 9223372036854775808 ∧ y ≤ 9223372036854775808 ∧ Nat.gcd x y = Nat.gcd p q ∧ Below w.heap.size w wr)
    (fun _ u _ => (intOf u).toNat)
  case atStart => exact ⟨p, q, rfl, rfl, b1, b2, rfl, Below.refl _ _⟩
  case round =>
    obtain ⟨x, y, rfl, rfl, hx, hy, hg, hB⟩ := hrel
    have HG := Lib.hid hg
    clear hg
    rcases Nat.eq_zero_or_pos y with h0 | h0
    · subst h0
      have hfin : x = Nat.gcd p q := by rw [← HG.out, Nat.gcd_zero_right]
      have HF := Lib.hid hfin
      clear hfin
      go_wp2_with fail
      go_ret
      exact ⟨ret_gcd HF.out, hB⟩
    · have hy0 : ¬ (y : Int) = 0 := by omega
      have hy1 : ((y : Int) == 0) = false := by simp; omega
      have hm := Nat.mod_lt x h0
      have hzr := hB.size
      go_wp2_with fail
      have hq_wr := @wd_cell wr
      refine wp_region_wd (by kernel_rfl) (by kernel_rfl) ?_
      repeat (go_big_quiet_step ((first | (fail))))
      refine wpQuiet_nil ?_
      rintro w8 ⟨⟨wx, hb_w8⟩, hwx⟩
      obtain rfl : w8 = wx := hwx
      clear hq_wr
      have hz_w8 := hb_w8.size
      obtain ⟨hc_w8, hf_w8⟩ := bcell hb_w8
      have hB_w8 : Below w.heap.size w w8 := Below.trans (by go_grown) (hb_w8.mono (by go_size))
      go_wp2_with fail
      go_roundw
      case rel =>
        refine ⟨y, x % y, rfl, congrArg (Value.int .u64) ?_, hy, by omega, ?_, hB.trans (hb_w8.mono hB.size)⟩
        · first | (rw [IntKind.wrap_u64]; omega) | omega | (simp; done)
        · rw [← HG.out, Nat.gcd_comm x y, Nat.gcd_rec y x, Nat.gcd_comm]
      case measure => first | (simp [intOf]; done) | (simp [intOf]; omega)

end Go.Proofs.Ythbndilnobjjgaa
