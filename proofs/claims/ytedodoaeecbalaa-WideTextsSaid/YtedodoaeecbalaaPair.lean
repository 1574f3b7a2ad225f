/-
  Contract of the reference's Pair: Hi times 2^64, and Lo.
-/
import Derived.Test.YtedodoaeecbalaaRefG
import Derived.Test.YtedodoaeecbalaaWide
namespace Go.Proofs.Ytedodoaeecbalaa
open Go.RowKit

theorem num_of_mag {w : World} {v : Value} {m : Nat} (h : MagAt w v false m) : NumAt w v (m : Int) := by
  unfold NumAt
  rw [show decide ((m : Int) < 0) = false by simp; done, Int.natAbs_natCast]
  exact h
theorem small_64 {h : Int} (bh : -9223372036854775808 ≤ h ∧ h ≤ 9223372036854775807) : Small 9 h.natAbs := by
  unfold Small
  have : (65536 : Nat) ^ 9 = 22300745198530623141535718272648361505980416 := by decide +kernel
  omega
theorem small_p64 : Small 9 ((2 : Int) ^ 64).natAbs := by unfold Small; decide +kernel
theorem small_prod {h : Int} (bh : -9223372036854775808 ≤ h ∧ h ≤ 9223372036854775807) : Small 9 (h * 2 ^ 64).natAbs := by
  unfold Small
  have : (65536 : Nat) ^ 9 = 22300745198530623141535718272648361505980416 := by decide +kernel
  have h2 : (2 : Int) ^ 64 = 18446744073709551616 := by decide +kernel
  rw [h2]
  omega
theorem of64_eq (h l : Int) : h * 2 ^ 64 + l = of64 h l := by
  have h2 : (2 : Int) ^ 64 = 18446744073709551616 := by decide +kernel
  rw [h2]; rfl

theorem pair_ref (h l : Int) (bh : -9223372036854775808 ≤ h ∧ h ≤ 9223372036854775807) (bl : 0 ≤ l ∧ l ≤ 18446744073709551615) (w : World) :
    Calls Try.prog 54 #[.int .i64 h, .int .u64 l] w fun e w' => ∃ u, e = .returned u ∧ NumAt w' u (of64 h l) ∧ Below w.heap.size w w' := by
  obtain ⟨m, rfl⟩ := Int.eq_ofNat_of_zero_le bl.1
  have HO := Lib.hid (fun W => of_ref h bh W)
  have HP := Lib.hid (fun W => power_ref 64 (by omega) W)
  have HU := Lib.hid (fun W => unsigned_ref m (by omega) W)
  have K1 := Lib.hid (And.intro (small_64 bh) (small_prod bh))
  have K2 : Small 9 ((m : Int)).natAbs := by
    unfold Small
    have : (65536 : Nat) ^ 9 = 22300745198530623141535718272648361505980416 := by decide +kernel
    omega
  have K3 := Lib.hid K2
  clear bh bl K2
  go_enter Try.func54, Try.ntmps54
  go_wp2_with fail
  refine (HO.out _).mono ?_
  rintro e w1 ⟨v1, rfl, hn1, hb_w1⟩
  obtain ⟨hc_w1, hf_w1⟩ := bcell hb_w1
  have hz_w1 := hb_w1.size
  try simp at hz_w1
  have hB_w1 : Below w.heap.size w w1 := Below.trans (by go_grown) (hb_w1.mono (by go_size))
  have hs_w1_0 : w.heap.size < w1.heap.size := by omega
  go_wp2_with fail
  refine (HP.out _).mono ?_
  rintro e w2 ⟨v2, rfl, hn2, hb_w2⟩
  obtain ⟨hc_w2, hf_w2⟩ := bcell hb_w2
  have hz_w2 := hb_w2.size
  try simp at hz_w2
  have hB_w2 : Below w.heap.size w w2 := Below.trans (by go_grown) (hb_w2.mono (by go_size))
  have hs_w2_0 : w.heap.size < w2.heap.size := by omega
  go_wp2_with fail
  refine (mul_num (hn1.below hb_w2) hn2 K1.out.1 small_p64 (by omega) _ (Below.refl _ _)).mono ?_
  rintro e w3 ⟨v3, rfl, hn3, hb_w3⟩
  obtain ⟨hc_w3, hf_w3⟩ := bcell hb_w3
  have hz_w3 := hb_w3.size
  try simp at hz_w3
  have hB_w3 : Below w.heap.size w w3 := Below.trans (by go_grown) (hb_w3.mono (by go_size))
  have hs_w3_0 : w.heap.size < w3.heap.size := by omega
  go_wp2_with fail
  refine (HU.out _).mono ?_
  rintro e w4 ⟨v4, rfl, hn4, hb_w4⟩
  obtain ⟨hc_w4, hf_w4⟩ := bcell hb_w4
  have hz_w4 := hb_w4.size
  try simp at hz_w4
  have hB_w4 : Below w.heap.size w w4 := Below.trans (by go_grown) (hb_w4.mono (by go_size))
  have hs_w4_0 : w.heap.size < w4.heap.size := by omega
  go_wp2_with fail
  refine (open_num (add_ref (hn3.below hb_w4) (num_of_mag hn4) K1.out.2 K3.out (by omega) _ (Below.refl _ _))).mono ?_
  rintro e w5 ⟨b5, A5, n5, c5, d5, rfl, hs5, hr5, ht5, hv5, hb_w5⟩
  obtain ⟨hc_w5, hf_w5⟩ := bcell hb_w5
  have hz_w5 := hb_w5.size
  try simp at hz_w5
  have hB_w5 : Below w.heap.size w w5 := Below.trans (by go_grown) (hb_w5.mono (by go_size))
  have hs_w5_0 : w.heap.size < w5.heap.size := by omega
  have vR : Var w5 w.heap.size 35 #[.bool false, .slice none 0 0] := (((((Var.new _ _ _).keep hb_w1).keep hb_w2).keep hb_w3).keep hb_w4).keep hb_w5
  go_wp2_with fail
  refine bodyPost_ret (by simp [results, Try.results54, go_sem, *]; try rfl) rfl ?_
  rw [of64_eq] at hs5 hv5
  exact ⟨_, rfl, num_mk (hr5.over vR _ _) ht5 hs5.out hv5.out, by go_grown⟩

end Go.Proofs.Ytedodoaeecbalaa
