/-
  Contracts for WideMuls: the reference's CmpMul, CmpFrac, Gcd.
-/
import Derived.Test.YtedodoaeecbalaaMuls
namespace Go.Proofs.Ytedodoaeecbalaa
open Go.RowKit

set_option maxHeartbeats 600000 in
theorem cmpmul_ref (a b c d : Int) (ha : I64 a) (hb : I64 b) (hc : I64 c) (hd : I64 d) (w : World) :
    Calls Try.prog 29 #[.int .i64 a, .int .i64 b, .int .i64 c, .int .i64 d] w fun e w' => e = .returned (.int .i64 (cmpI (a * b) (c * d))) ∧ Below w.heap.size w w' := by
  have OA := Lib.hid (fun W => of_ref a ha W)
  have OB := Lib.hid (fun W => of_ref b hb W)
  have OC := Lib.hid (fun W => of_ref c hc W)
  have OD := Lib.hid (fun W => of_ref d hd W)
  have K := Lib.hid (And.intro (small_i64 ha) (And.intro (small_i64 hb) (And.intro (small_i64 hc) (And.intro (small_i64 hd) (And.intro (small_m64 ha hb) (small_m64 hc hd))))))
  clear ha hb hc hd
  go_enter Try.func29, Try.ntmps29
  go_wp2_with fail
  refine (OA.out _).mono ?_
  rintro e w1 ⟨v1, rfl, n1, hb_w1⟩
  obtain ⟨hc_w1, hf_w1⟩ := bcell hb_w1
  have hz_w1 := hb_w1.size
  try simp at hz_w1
  have hB_w1 : Below w.heap.size w w1 := Below.trans (by go_grown) (hb_w1.mono (by go_size))
  go_wp2_with fail
  refine (OB.out _).mono ?_
  rintro e w2 ⟨v2, rfl, n2, hb_w2⟩
  obtain ⟨hc_w2, hf_w2⟩ := bcell hb_w2
  have hz_w2 := hb_w2.size
  try simp at hz_w2
  have hB_w2 : Below w.heap.size w w2 := Below.trans (by go_grown) (hb_w2.mono (by go_size))
  go_wp2_with fail
  refine (mul_num (n1.below hb_w2) n2 K.out.1 K.out.2.1 (by omega) _ (Below.refl _ _)).mono ?_
  rintro e w3 ⟨v3, rfl, n3, hb_w3⟩
  obtain ⟨hc_w3, hf_w3⟩ := bcell hb_w3
  have hz_w3 := hb_w3.size
  try simp at hz_w3
  have hB_w3 : Below w.heap.size w w3 := Below.trans (by go_grown) (hb_w3.mono (by go_size))
  go_wp2_with fail
  refine (OC.out _).mono ?_
  rintro e w4 ⟨v4, rfl, n4, hb_w4⟩
  obtain ⟨hc_w4, hf_w4⟩ := bcell hb_w4
  have hz_w4 := hb_w4.size
  try simp at hz_w4
  have hB_w4 : Below w.heap.size w w4 := Below.trans (by go_grown) (hb_w4.mono (by go_size))
  go_wp2_with fail
  refine (OD.out _).mono ?_
  rintro e w5 ⟨v5, rfl, n5, hb_w5⟩
  obtain ⟨hc_w5, hf_w5⟩ := bcell hb_w5
  have hz_w5 := hb_w5.size
  try simp at hz_w5
  have hB_w5 : Below w.heap.size w w5 := Below.trans (by go_grown) (hb_w5.mono (by go_size))
  go_wp2_with fail
  refine (mul_num (n4.below hb_w5) n5 K.out.2.2.1 K.out.2.2.2.1 (by omega) _ (Below.refl _ _)).mono ?_
  rintro e w6 ⟨v6, rfl, n6, hb_w6⟩
  obtain ⟨hc_w6, hf_w6⟩ := bcell hb_w6
  have hz_w6 := hb_w6.size
  try simp at hz_w6
  have hB_w6 : Below w.heap.size w w6 := Below.trans (by go_grown) (hb_w6.mono (by go_size))
  go_wp2_with fail
  refine (cmp_ref (((n3.below hb_w4).below hb_w5).below hb_w6) n6 K.out.2.2.2.2.1 K.out.2.2.2.2.2 (by omega) _ (Below.refl _ _)).mono ?_
  rintro e w7 ⟨rfl, hb_w7⟩
  obtain ⟨hc_w7, hf_w7⟩ := bcell hb_w7
  have hz_w7 := hb_w7.size
  try simp at hz_w7
  have hB_w7 : Below w.heap.size w w7 := Below.trans (by go_grown) (hb_w7.mono (by go_size))
  go_wp2_with fail
  refine bodyPost_ret (by simp [results, Try.results29, go_sem, *]; try rfl) rfl ?_
  exact ⟨rfl, by go_grown⟩

set_option maxHeartbeats 1000000 in
theorem cmpfrac_ref (a b c d : Int) (ha : I64 a) (hb : I64 b) (hc : I64 c) (hd : I64 d) (w : World) :
    Calls Try.prog 27 #[.int .i64 a, .int .i64 b, .int .i64 c, .int .i64 d] w fun e w' =>
      e = .returned (.tuple #[.int .i64 (frac a b c d), .int .i64 (fracE b d)]) ∧ Below w.heap.size w w' := by
  have OA := Lib.hid (fun W => of_ref a ha W)
  have OB := Lib.hid (fun W => of_ref b hb W)
  have OC := Lib.hid (fun W => of_ref c hc W)
  have OD := Lib.hid (fun W => of_ref d hd W)
  have K := Lib.hid (And.intro (small_i64 ha) (And.intro (small_i64 hb) (And.intro (small_i64 hc) (And.intro (small_i64 hd) (And.intro (small_m64 ha hd) (small_m64 hc hb))))))
  have hbd := cmp_bd (a * d) (c * b)
  have hng : wrap64 (-cmpI (a * d) (c * b)) = -cmpI (a * d) (c * b) := by unfold wrap64; omega
  have hcr := fun (W0 : World) (v v' : Value) (h : NumAt W0 v (a * d)) (h' : NumAt W0 v' (c * b)) => cmp_ref h h' K.out.2.2.2.2.1 K.out.2.2.2.2.2 (by omega) W0 (Below.refl _ _)
  clear ha hb hc hd
  obtain ⟨k, hk⟩ : ∃ z, cmpI (a * d) (c * b) = z := ⟨_, rfl⟩
  unfold frac
  rw [hk] at hng hcr ⊢
  have HC := Lib.hid hcr
  clear hk hbd hcr
  rcases Decidable.em (b = 0) with h1 | h1
  · subst h1
    rw [if_pos (.inl rfl), show fracE 0 d = 13 by simp [fracE]]
    go_enter Try.func27, Try.ntmps27
    go_wp2_with fail
    go_ret2
    exact ⟨rfl, by go_grown⟩
  · rcases Decidable.em (d = 0) with h2 | h2
    · subst h2
      rw [if_pos (.inr rfl), show fracE b 0 = 13 by simp [fracE]]
      have h1' : (b == 0) = false := by simp; exact h1
      clear h1
      go_enter Try.func27, Try.ntmps27
      go_wp2_with fail
      go_ret2
      exact ⟨rfl, by go_grown⟩
    · rw [if_neg (by omega), show fracE b d = 0 by unfold fracE; rw [if_neg (by omega)]]
      have h1' : (b == 0) = false := by simp; exact h1
      have h2' : (d == 0) = false := by simp; exact h2
      clear h1 h2
      have e3 : ∀ {z : Int}, z < 0 → decide (z < 0) = true := fun h => decide_eq_true h
      have e4 : ∀ {z : Int}, 0 ≤ z → decide (z < 0) = false := fun h => decide_eq_false (by omega)
      rcases Int.lt_or_le b 0 with h3 | h3
      all_goals rcases Int.lt_or_le d 0 with h4 | h4
      all_goals
        first | rw [if_pos (by simp; omega)] | rw [if_neg (by simp; omega)]
        first | have h3' := e3 h3 | have h3' := e4 h3
        first | have h4' := e3 h4 | have h4' := e4 h4
        clear h3 h4 e3 e4
        go_enter Try.func27, Try.ntmps27
        go_wp2_with fail
        refine (OA.out _).mono ?_
        rintro e w1 ⟨v1, rfl, n1, hb_w1⟩
        obtain ⟨hc_w1, hf_w1⟩ := bcell hb_w1
        have hz_w1 := hb_w1.size
        try simp at hz_w1
        have hB_w1 : Below w.heap.size w w1 := Below.trans (by go_grown) (hb_w1.mono (by go_size))
        go_wp2_with fail
        refine (OD.out _).mono ?_
        rintro e w2 ⟨v2, rfl, n2, hb_w2⟩
        obtain ⟨hc_w2, hf_w2⟩ := bcell hb_w2
        have hz_w2 := hb_w2.size
        try simp at hz_w2
        have hB_w2 : Below w.heap.size w w2 := Below.trans (by go_grown) (hb_w2.mono (by go_size))
        go_wp2_with fail
        refine (mul_num (n1.below hb_w2) n2 K.out.1 K.out.2.2.2.1 (by omega) _ (Below.refl _ _)).mono ?_
        rintro e w3 ⟨v3, rfl, n3, hb_w3⟩
        obtain ⟨hc_w3, hf_w3⟩ := bcell hb_w3
        have hz_w3 := hb_w3.size
        try simp at hz_w3
        have hB_w3 : Below w.heap.size w w3 := Below.trans (by go_grown) (hb_w3.mono (by go_size))
        go_wp2_with fail
        refine (OC.out _).mono ?_
        rintro e w4 ⟨v4, rfl, n4, hb_w4⟩
        obtain ⟨hc_w4, hf_w4⟩ := bcell hb_w4
        have hz_w4 := hb_w4.size
        try simp at hz_w4
        have hB_w4 : Below w.heap.size w w4 := Below.trans (by go_grown) (hb_w4.mono (by go_size))
        go_wp2_with fail
        refine (OB.out _).mono ?_
        rintro e w5 ⟨v5, rfl, n5, hb_w5⟩
        obtain ⟨hc_w5, hf_w5⟩ := bcell hb_w5
        have hz_w5 := hb_w5.size
        try simp at hz_w5
        have hB_w5 : Below w.heap.size w w5 := Below.trans (by go_grown) (hb_w5.mono (by go_size))
        go_wp2_with fail
        refine (mul_num (n4.below hb_w5) n5 K.out.2.2.1 K.out.2.1 (by omega) _ (Below.refl _ _)).mono ?_
        rintro e w6 ⟨v6, rfl, n6, hb_w6⟩
        obtain ⟨hc_w6, hf_w6⟩ := bcell hb_w6
        have hz_w6 := hb_w6.size
        try simp at hz_w6
        have hB_w6 : Below w.heap.size w w6 := Below.trans (by go_grown) (hb_w6.mono (by go_size))
        go_wp2_with fail
        refine (HC.out _ _ _ (((n3.below hb_w4).below hb_w5).below hb_w6) n6).mono ?_
        rintro e w7 ⟨rfl, hb_w7⟩
        obtain ⟨hc_w7, hf_w7⟩ := bcell hb_w7
        have hz_w7 := hb_w7.size
        try simp at hz_w7
        have hB_w7 : Below w.heap.size w w7 := Below.trans (by go_grown) (hb_w7.mono (by go_size))
        go_wp2_with fail
        go_ret2
        exact ⟨ret_frac (by first | rfl | exact hng) rfl, by go_grown⟩

end Go.Proofs.Ytedodoaeecbalaa
