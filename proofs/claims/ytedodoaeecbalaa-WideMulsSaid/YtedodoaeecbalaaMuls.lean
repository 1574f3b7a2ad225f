/-
  Contracts for WideMuls: wide.CmpMul, wide.CmpFrac, wide.Gcd; the reference's CmpMul, CmpFrac, Gcd.
-/
import Derived.Test.YtedodoaeecbalaaMul
import Derived.Test.YtedodoaeecbalaaInts
import Derived.Test.YtedodoaeecbalaaRefD
import Derived.Test.YtedodoaeecbalaaRefE
namespace Go.Proofs.Ytedodoaeecbalaa
open Go.RowKit

theorem cmpmul_any (a b c d : Int) (ha : I64 a) (hb : I64 b) (hc : I64 c) (hd : I64 d) (w : World) :
    Calls Try.prog 28 #[.int .i64 a, .int .i64 b, .int .i64 c, .int .i64 d] w fun e w' =>
      e = .returned (.int .i64 (cmpI (a * b) (c * d))) ∧ Below w.heap.size w w' := by
  have H1 := Lib.hid (fun W => mul_any a b ha hb W)
  have H2 := Lib.hid (fun W => mul_any c d hc hd W)
  have H3 := Lib.hid (fun W => cmp_any (a * b) (c * d) (mul_in ha hb) (mul_in hc hd) W)
  clear ha hb hc hd
  go_enter Try.func28, Try.ntmps28
  go_wp2_with fail
  refine (H1.out _).mono ?_
  rintro e w1 ⟨rfl, hb_w1⟩
  obtain ⟨hc_w1, hf_w1⟩ := bcell hb_w1
  have hz_w1 := hb_w1.size
  try simp at hz_w1
  have hB_w1 : Below w.heap.size w w1 := Below.trans (by go_grown) (hb_w1.mono (by go_size))
  go_wp2_with fail
  refine (H2.out _).mono ?_
  rintro e w2 ⟨rfl, hb_w2⟩
  obtain ⟨hc_w2, hf_w2⟩ := bcell hb_w2
  have hz_w2 := hb_w2.size
  try simp at hz_w2
  have hB_w2 : Below w.heap.size w w2 := Below.trans (by go_grown) (hb_w2.mono (by go_size))
  go_wp2_with fail
  refine (H3.out _).mono ?_
  rintro e w3 ⟨rfl, hb_w3⟩
  obtain ⟨hc_w3, hf_w3⟩ := bcell hb_w3
  have hz_w3 := hb_w3.size
  try simp at hz_w3
  have hB_w3 : Below w.heap.size w w3 := Below.trans (by go_grown) (hb_w3.mono (by go_size))
  go_wp2_with fail
  refine bodyPost_ret (by simp [results, Try.results28, go_sem, *]; try rfl) rfl ?_
  exact ⟨rfl, by go_grown⟩

theorem small_i64 {h : Int} (bh : I64 h) : Small 9 h.natAbs := small_64 bh
theorem small_m64 {a b : Int} (ha : I64 a) (hb : I64 b) : Small 9 (a * b).natAbs := small_in (mul_in ha hb)

theorem cmp_bd (p q : Int) : -1 ≤ cmpI p q ∧ cmpI p q ≤ 1 := by unfold cmpI; split <;> (try split) <;> omega
theorem ret_gcd {a b : Nat} (h : a = b) : Ending.returned (.int .u64 (a : Int)) = .returned (.int .u64 (b : Int)) := by rw [h]

set_option maxHeartbeats 400000 in
theorem gcd_any (a b : Int) (ha : I64 a) (hb : I64 b) (w : World) :
    Calls Try.prog 33 #[.int .i64 a, .int .i64 b] w fun e w' => e = .returned (.int .u64 (Nat.gcd a.natAbs b.natAbs : Nat)) ∧ Below w.heap.size w w' := by
  have M1 := Lib.hid (fun W => magnitude_any a ha W)
  have M2 := Lib.hid (fun W => magnitude_any b hb W)
  have b1 : a.natAbs ≤ 9223372036854775808 := by unfold I64 at ha; omega
  have b2 : b.natAbs ≤ 9223372036854775808 := by unfold I64 at hb; omega
  clear ha hb
  obtain ⟨p, hp⟩ : ∃ z, a.natAbs = z := ⟨_, rfl⟩
  obtain ⟨q, hq⟩ : ∃ z, b.natAbs = z := ⟨_, rfl⟩
  rw [hp] at M1 b1 ⊢
  rw [hq] at M2 b2 ⊢
  clear hp hq
  go_enter Try.func33, Try.ntmps33
  go_wp2_with fail
  refine (M1.out _).mono ?_
  rintro e w1 ⟨rfl, rfl⟩
  go_wp2_with fail
  refine (M2.out _).mono ?_
  rintro e w1 ⟨rfl, rfl⟩
  go_wp2_with fail
  go_loopw [5, 6] (fun t u wr => ∃ x y : Nat, t = .int .u64 (x : Int) ∧ u = .int .u64 (y : Int) ∧ x ≤ 9223372036854775808 ∧ y ≤ 9223372036854775808 ∧ Nat.gcd x y = Nat.gcd p q ∧ Below w.heap.size w wr)
    (fun _ u _ => (intOf u).toNat)
  case atStart => exact ⟨p, q, rfl, rfl, b1, b2, rfl, Below.refl _ _⟩
  case round =>
    obtain ⟨x, y, rfl, rfl, hx, hy, hg, hB⟩ := hrel
    have HG := Lib.hid hg
    clear hg
    rcases Nat.eq_zero_or_pos y with h0 | h0
    · subst h0
      have hfin : x = Nat.gcd p q := by rw [← HG.out, Nat.gcd_zero_right]
      have HF := Lib.hid hfin
      clear hfin
      go_wp2_with fail
      go_ret
      exact ⟨ret_gcd HF.out, hB⟩
    · have hy0 : ¬ (y : Int) = 0 := by omega
      have hy1 : ((y : Int) == 0) = false := by simp; omega
      have hm := Nat.mod_lt x h0
      have hzr := hB.size
      go_wp2_with fail
      have hq_wr := @wd_cell wr
      refine wp_region_wd (by kernel_rfl) (by kernel_rfl) ?_
      repeat (go_big_quiet_step ((first | (fail))))
      refine wpQuiet_nil ?_
      rintro w8 ⟨⟨wx, hb_w8⟩, hwx⟩
      obtain rfl : w8 = wx := hwx
      clear hq_wr
      obtain ⟨hc_w8, hf_w8⟩ := bcell hb_w8
      have hB_w8 : Below w.heap.size w w8 := Below.trans (by go_grown) (hb_w8.mono (by go_size))
      go_wp2_with fail
      go_roundw
      case rel =>
        refine ⟨y, x % y, rfl, congrArg (Value.int .u64) ?_, hy, by omega, ?_, hB.trans (hb_w8.mono hB.size)⟩
        · first | (rw [IntKind.wrap_u64]; omega) | omega | (simp; done)
        · rw [← HG.out, Nat.gcd_comm x y, Nat.gcd_rec y x, Nat.gcd_comm]
      case measure => first | (simp [intOf]; done) | (simp [intOf]; omega)

/-- What CmpFrac answers: the order of a / b and c / d, and an error's number. -/
def frac (a b c d : Int) : Int := if b = 0 ∨ d = 0 then 0 else if (b < 0) = (d < 0) then cmpI (a * d) (c * b) else -cmpI (a * d) (c * b)
def fracE (b d : Int) : Int := if b = 0 ∨ d = 0 then 13 else 0
theorem ret_frac {a b c d : Int} (h : a = c) (h' : b = d) : Ending.returned (.tuple #[.int .i64 a, .int .i64 b]) = .returned (.tuple #[.int .i64 c, .int .i64 d]) := by rw [h, h']

set_option maxHeartbeats 400000 in
theorem cmpfrac_any (a b c d : Int) (ha : I64 a) (hb : I64 b) (hc : I64 c) (hd : I64 d) (w : World) :
    Calls Try.prog 26 #[.int .i64 a, .int .i64 b, .int .i64 c, .int .i64 d] w fun e w' =>
      e = .returned (.tuple #[.int .i64 (frac a b c d), .int .i64 (fracE b d)]) ∧ Below w.heap.size w w' := by
  have H1 := Lib.hid (fun W => cmpmul_any a d c b ha hd hc hb W)
  have hbd := cmp_bd (a * d) (c * b)
  have hng : wrap64 (-cmpI (a * d) (c * b)) = -cmpI (a * d) (c * b) := by unfold wrap64; omega
  clear ha hb hc hd
  obtain ⟨k, hk⟩ : ∃ z, cmpI (a * d) (c * b) = z := ⟨_, rfl⟩
  unfold frac
  rw [hk] at H1 hng ⊢
  clear hk hbd
  rcases Decidable.em (b = 0) with h1 | h1
  · subst h1
    rw [if_pos (.inl rfl), show fracE 0 d = 13 by simp [fracE]]
    go_enter Try.func26, Try.ntmps26
    go_wp2_with fail
    go_ret2
    exact ⟨rfl, by go_grown⟩
  · rcases Decidable.em (d = 0) with h2 | h2
    · subst h2
      rw [if_pos (.inr rfl), show fracE b 0 = 13 by simp [fracE]]
      have h1' : (b == 0) = false := by simp; exact h1
      clear h1
      go_enter Try.func26, Try.ntmps26
      go_wp2_with fail
      go_ret2
      exact ⟨rfl, by go_grown⟩
    · rw [if_neg (by omega), show fracE b d = 0 by unfold fracE; rw [if_neg (by omega)]]
      have h1' : (b == 0) = false := by simp; exact h1
      have h2' : (d == 0) = false := by simp; exact h2
      clear h1 h2
      have e3 : ∀ {z : Int}, z < 0 → decide (z < 0) = true := fun h => decide_eq_true h
      have e4 : ∀ {z : Int}, 0 ≤ z → decide (z < 0) = false := fun h => decide_eq_false (by omega)
      rcases Int.lt_or_le b 0 with h3 | h3
      all_goals rcases Int.lt_or_le d 0 with h4 | h4
      all_goals
        first | rw [if_pos (by simp; omega)] | rw [if_neg (by simp; omega)]
        first | have h3' := e3 h3 | have h3' := e4 h3
        first | have h4' := e3 h4 | have h4' := e4 h4
        clear h3 h4 e3 e4
        go_enter Try.func26, Try.ntmps26
        go_wp2_with fail
        refine (H1.out _).mono ?_
        rintro e w1 ⟨rfl, hb_w1⟩
        obtain ⟨hc_w1, hf_w1⟩ := bcell hb_w1
        have hz_w1 := hb_w1.size
        try simp at hz_w1
        have hB_w1 : Below w.heap.size w w1 := Below.trans (by go_grown) (hb_w1.mono (by go_size))
        go_wp2_with fail
        go_ret2
        exact ⟨ret_frac (by first | rfl | exact hng) rfl, by go_grown⟩

end Go.Proofs.Ytedodoaeecbalaa
