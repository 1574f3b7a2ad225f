/-
  Contract of the reference's Gcd.
-/
import Derived.Test.YtohnglcdophkfaaRef
import Derived.Test.YtohnglcdophkfaaMul
namespace Go.Proofs.Ytohnglcdophkfaa
open Go.RowKit

theorem field_D (s : Bool) (A : Option Addr) (n c : Nat) (W : World) : (Instr.field 67 (.agg #[.bool s, .slice A n c]) 1).run Try.prog W = .ok (.slice A n c) W := by kernel_rfl
theorem gcd_step1 {x y : Nat} (_ : y ≤ x) : Nat.gcd (x % y) y = Nat.gcd x y := by rw [← Nat.gcd_rec, Nat.gcd_comm]
theorem gcd_step2 {x y : Nat} : Nat.gcd x (y % x) = Nat.gcd x y := by rw [Nat.gcd_comm x (y % x), ← Nat.gcd_rec]

set_option maxHeartbeats 600000 in
set_option maxRecDepth 100000 in
theorem gcd_ref (a b : Int) (ha : I64 a) (hb : I64 b) (w : World) :
    Calls Try.prog 48 #[.int .i64 a, .int .i64 b] w fun e w' => e = .returned (.int .u64 (Nat.gcd a.natAbs b.natAbs : Nat)) ∧ Below w.heap.size w w' := by
  have OA := Lib.hid (fun W => of_ref a ha W)
  have OB := Lib.hid (fun W => of_ref b hb W)
  have b1 : a.natAbs ≤ 9223372036854775808 := by unfold I64 at ha; omega
  have b2 : b.natAbs ≤ 9223372036854775808 := by unfold I64 at hb; omega
  clear ha hb
  have hfd := field_D
  go_enter Try.func48, Try.ntmps48
  go_wp2_with fail
  refine (open_num (OA.out _)).mono ?_
  rintro e w1 ⟨s1, A1, n1, c1, d1, rfl, hs1, hr1, ht1, hv1, hb_w1⟩
  obtain ⟨hc_w1, hf_w1⟩ := bcell hb_w1
  have hz_w1 := hb_w1.size
  try simp at hz_w1
  have hB_w1 : Below w.heap.size w w1 := Below.trans (by go_grown) (hb_w1.mono (by go_size))
  have l1 : n1 ≤ 4 := num_len hr1 ht1 hv1.out (small_word (by omega))
  go_wp2_with fail
  refine (word_ref hr1 l1 (by rw [hv1.out]; omega) false _ (by go_grown)).mono ?_
  rintro e w2 ⟨rfl, hb_w2⟩
  obtain ⟨hc_w2, hf_w2⟩ := bcell hb_w2
  have hz_w2 := hb_w2.size
  try simp at hz_w2
  have hB_w2 : Below w.heap.size w w2 := Below.trans (by go_grown) (hb_w2.mono (by go_size))
  go_wp2_with fail
  refine (open_num (OB.out _)).mono ?_
  rintro e w3 ⟨s2, A2, n2, c2, d2, rfl, hs2, hr2, ht2, hv2, hb_w3⟩
  obtain ⟨hc_w3, hf_w3⟩ := bcell hb_w3
  have hz_w3 := hb_w3.size
  try simp at hz_w3
  have hB_w3 : Below w.heap.size w w3 := Below.trans (by go_grown) (hb_w3.mono (by go_size))
  have l2 : n2 ≤ 4 := num_len hr2 ht2 hv2.out (small_word (by omega))
  go_wp2_with fail
  refine (word_ref hr2 l2 (by rw [hv2.out]; omega) false _ (by go_grown)).mono ?_
  rintro e w4 ⟨rfl, hb_w4⟩
  obtain ⟨hc_w4, hf_w4⟩ := bcell hb_w4
  have hz_w4 := hb_w4.size
  try simp at hz_w4
  have hB_w4 : Below w.heap.size w w4 := Below.trans (by go_grown) (hb_w4.mono (by go_size))
  go_wp2_with fail
  have b3 : val d1 ≤ 9223372036854775808 := by rw [hv1.out]; exact b1
  have b4 : val d2 ≤ 9223372036854775808 := by rw [hv2.out]; exact b2
  have hgg : Nat.gcd (val d1) (val d2) = Nat.gcd a.natAbs b.natAbs := by rw [hv1.out, hv2.out]
  have hB4 : Below w.heap.size w w4 := by go_grown
  go_loopw [5, 6] (fun t u wr => wr = w4 ∧ ∃ x y : Nat, t = .int .u64 (x : Int) ∧ u = .int .u64 (y : Int) ∧ x ≤ 9223372036854775808 ∧ y ≤ 9223372036854775808 ∧ Nat.gcd x y = Nat.gcd a.natAbs b.natAbs)
    (fun t u _ => (intOf t).toNat + (intOf u).toNat)
  case atStart => exact ⟨rfl, val d1, val d2, rfl, rfl, b3, b4, hgg⟩
  case round =>
    obtain ⟨rfl, x, y, rfl, rfl, hx, hy, hg⟩ := hrel
    have HG := Lib.hid hg
    clear hg hgg
    rcases Nat.eq_zero_or_pos x with h0 | h0
    · subst h0
      have hfin : 0 + y = Nat.gcd a.natAbs b.natAbs := by rw [← HG.out, Nat.gcd_zero_left]; omega
      have HF := Lib.hid hfin
      clear hfin
      go_wp2_with fail
      all_goals
        go_ret
        exact ⟨ret_intw (by rw [← HF.out]; first | (rw [IntKind.wrap_u64]; omega) | omega | (simp; done)), hB4⟩
    · rcases Nat.eq_zero_or_pos y with h1 | h1
      · subst h1
        have hfin : x + 0 = Nat.gcd a.natAbs b.natAbs := by rw [← HG.out, Nat.gcd_zero_right]; omega
        have HF := Lib.hid hfin
        clear hfin
        go_wp2_with fail
        all_goals
          go_ret
          exact ⟨ret_intw (by rw [← HF.out]; first | (rw [IntKind.wrap_u64]; omega) | omega | (simp; done)), hB4⟩
      · have hx0 : ¬ (x : Int) = 0 := by omega
        have hy0 : ¬ (y : Int) = 0 := by omega
        have hm1 := Nat.mod_lt x h1
        have hm2 := Nat.mod_lt y h0
        rcases Nat.lt_or_ge x y with hlt | hge
        · go_wp2_with fail
          go_roundw
          case rel => exact ⟨trivial, x, y % x, by first | rfl | (congr 1; rw [IntKind.wrap_u64]; omega) | (congr 1; omega) | (congr 1; simp; done), by first | rfl | (congr 1; rw [IntKind.wrap_u64]; omega) | (congr 1; omega) | (congr 1; simp; done), hx, by omega, gcd_step2.trans HG.out⟩
          case measure => first | (simp [intOf]; done) | (simp [intOf]; omega)
        · go_wp2_with fail
          go_roundw
          case rel => exact ⟨trivial, x % y, y, by first | rfl | (congr 1; rw [IntKind.wrap_u64]; omega) | (congr 1; omega) | (congr 1; simp; done), by first | rfl | (congr 1; rw [IntKind.wrap_u64]; omega) | (congr 1; omega) | (congr 1; simp; done), by omega, hy, (gcd_step1 hge).trans HG.out⟩
          case measure => first | (simp [intOf]; done) | (simp [intOf]; omega)

end Go.Proofs.Ytohnglcdophkfaa
