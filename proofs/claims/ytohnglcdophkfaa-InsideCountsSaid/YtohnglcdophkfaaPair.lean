/-
  Contract of the reference's Pair: Hi times 2^64, and Lo.
  Contracts of the reference's Int64 and of the law's num and is: from the contract of Round.
  Contract of the reference's Round: a whole number's two halves, modulo 2^128.
-/
import Derived.Test.YtohnglcdophkfaaRef
import Derived.Test.YtohnglcdophkfaaWide
import Derived.Test.YtohnglcdophkfaaRoundA
import Derived.Test.YtohnglcdophkfaaRoundB
import Derived.Test.YtohnglcdophkfaaRoundC
namespace Go.Proofs.Ytohnglcdophkfaa
open Go.RowKit


theorem num_of_mag {w : World} {v : Value} {m : Nat} (h : MagAt w v false m) : NumAt w v (m : Int) := by
  unfold NumAt
  rw [show decide ((m : Int) < 0) = false by simp; done, Int.natAbs_natCast]
  exact h
theorem small_64 {h : Int} (bh : -9223372036854775808 ≤ h ∧ h ≤ 9223372036854775807) : Small 9 h.natAbs := by
  unfold Small
  have : (65536 : Nat) ^ 9 = 22300745198530623141535718272648361505980416 := by decide +kernel
  omega
theorem small_p64 : Small 9 ((2 : Int) ^ 64).natAbs := by unfold Small; decide +kernel
theorem small_prod {h : Int} (bh : -9223372036854775808 ≤ h ∧ h ≤ 9223372036854775807) : Small 9 (h * 2 ^ 64).natAbs := by
  unfold Small
  have : (65536 : Nat) ^ 9 = 22300745198530623141535718272648361505980416 := by decide +kernel
  have h2 : (2 : Int) ^ 64 = 18446744073709551616 := by decide +kernel
  rw [h2]
  omega
theorem of64_eq (h l : Int) : h * 2 ^ 64 + l = of64 h l := by
  have h2 : (2 : Int) ^ 64 = 18446744073709551616 := by decide +kernel
  rw [h2]; rfl

/-- What Round's contract says. -/
def RoundSays : Prop := ∀ {w0 : World} {v : Value} {x : Int} {k : Nat}, NumAt w0 v x → Small k x.natAbs → k ≤ 40000 → ∀ (w : World), Below w0.heap.size w0 w →
  Calls Try.prog 83 #[v] w fun e w' => e = .returned (.tuple #[.int .i64 (hi64 x), .int .u64 (lo64 x)]) ∧ Below w.heap.size w w'

theorem ret_bool' {a b : Bool} (h : a = b) : Ending.returned (.bool a) = .returned (.bool b) := by rw [h]

theorem ret_ib {a c : Int} {b : Bool} (h : a = c) : Ending.returned (.tuple #[.int .i64 a, .bool b]) = .returned (.tuple #[.int .i64 c, .bool b]) := by rw [h]

theorem small_in {x : Int} (h : In128 x) : Small 9 x.natAbs := by
  unfold Small
  unfold In128 at h
  have : (65536 : Nat) ^ 9 = 22300745198530623141535718272648361505980416 := by decide +kernel
  omega

set_option maxRecDepth 100000 in
set_option maxHeartbeats 600000 in
theorem int64_ref (HR : RoundSays) {w0 : World} {v : Value} {x : Int} (hx : NumAt w0 v x) (hin : In128 x) (w : World) (hw : Below w0.heap.size w0 w) :
    Calls Try.prog 51 #[v] w fun e w' => e = .returned (.tuple #[.int .i64 (if -9223372036854775808 ≤ x ∧ x ≤ 9223372036854775807 then x else 0), .bool (decide (-9223372036854775808 ≤ x ∧ x ≤ 9223372036854775807))]) ∧ Below w.heap.size w w' := by
  have hx1 := hx.below hw
  have p63 := fun W => power_ref 63 (by omega) W
  have S63 : Small 9 ((2 : Int) ^ 63).natAbs := by unfold Small; decide +kernel
  have S64 : Small 9 (-(2 : Int) ^ 63).natAbs := by unfold Small; decide +kernel
  have e63 : (2 : Int) ^ 63 = 9223372036854775808 := by decide +kernel
  obtain ⟨pw, hpw⟩ : ∃ z, (2 : Int) ^ 63 = z := ⟨_, rfl⟩
  rw [hpw] at p63 S63 S64 e63
  have P63 := Lib.hid p63
  clear p63 hpw
  have HS := Lib.hid (small_in hin)
  have C := Lib.hid (fun W (h : Below w.heap.size w W) => HR hx1 (small_in hin) (by omega) W h)
  have HX := Lib.hid hx1
  obtain ⟨b, A, n, c, ds, rfl, hs, hr, ht, hv⟩ := num_open hx1
  clear hx hw hx1 hs hr ht hv HR
  have hc1 : ∀ (W' : World) (vn : Value), Below w.heap.size w W' → NumAt W' vn (-pw) → Calls Try.prog 80 #[.agg #[.bool b, .slice A n c], vn] W' fun e w' => e = .returned (.int .i64 (cmpI x (-pw))) ∧ Below W'.heap.size W' w' :=
    fun _ _ hK hn => cmp_ref (HX.out.below hK) hn HS.out S64 (by omega) _ (Below.refl _ _)
  have hc2 : ∀ (W' : World) (vn : Value), Below w.heap.size w W' → NumAt W' vn pw → Calls Try.prog 80 #[.agg #[.bool b, .slice A n c], vn] W' fun e w' => e = .returned (.int .i64 (cmpI x pw)) ∧ Below W'.heap.size W' w' :=
    fun _ _ hK hn => cmp_ref (HX.out.below hK) hn HS.out S63 (by omega) _ (Below.refl _ _)
  have w1 := cmp_ways x (-pw)
  have w2 := cmp_ways x pw
  obtain ⟨k1, hk1⟩ : ∃ z, cmpI x (-pw) = z := ⟨_, rfl⟩
  obtain ⟨k2, hk2⟩ : ∃ z, cmpI x pw = z := ⟨_, rfl⟩
  rw [hk1] at hc1 w1
  rw [hk2] at hc2 w2
  rw [e63] at w1 w2
  clear hk1 hk2
  rcases Int.lt_or_le x (-9223372036854775808) with hlo | hlo
  · rw [if_neg (by omega), decide_eq_false (by omega)]
    obtain rfl : k1 = -1 := by omega
    have HC1 := Lib.hid hc1
    have HC2 := Lib.hid hc2
    clear w1 w2 hc1 hc2 hlo e63
    go_enter Try.func51, Try.ntmps51
    go_wp2_with fail
    refine wp_gen (fun W hW => ?_)
    have vA : Var W w.heap.size 67 #[.bool b, .slice A n c] := by rw [hW]; exact Var.new _ _ _
    have hB_W : Below w.heap.size w W := by rw [hW]; go_grown
    clear hW
    have x0 : W.cell? ⟨w.heap.size, 0, none⟩ = some (.bool b) := vA.cell 0
    have x1 : W.cell? ⟨w.heap.size, 1, none⟩ = some (.slice A n c) := vA.cell 1
    have z0 := vA.lt
    go_region_with (first
        | (go_at_call 82; refine (P63.out _).mono ?_; rintro e wp ⟨vp, rfl, hp, hb_wp⟩; (first | replace hb_wp := undrew hb_wp | skip); obtain ⟨hc_wp, hf_wp⟩ := bcell hb_wp; have hz_wp := hb_wp.size; have hsp : w.heap.size < wp.heap.size := (by omega); have hK_wp : Below w.heap.size w wp := hB_W.trans (hb_wp.mono (Nat.le_of_lt z0)))
        | (go_at_call 81; refine (neg_ref hp _ (Below.refl _ _)).mono ?_; rintro e wn ⟨vn, rfl, hn, hb_wn⟩; obtain ⟨hc_wn, hf_wn⟩ := bcell hb_wn; have hz_wn := hb_wn.size; have hsn : w.heap.size < wn.heap.size := (by omega); have hK_wn : Below w.heap.size w wn := hK_wp.trans (hb_wn.mono (by omega)))
        | (go_at_call 80; refine (HC1.out _ _ hK_wn hn).mono ?_; rintro e wc ⟨rfl, hb_wc⟩; have hK_wc : Below w.heap.size w wc := hK_wn.trans (hb_wc.mono (by omega))))
    all_goals
      go_wp2_with fail
      go_ret2
      exact ⟨rfl, hK_wc⟩
  · have d1 : ¬ k1 < 0 := by omega
    have d1' : decide (k1 < 0) = false := by simp; omega
    rcases Int.lt_or_le x 9223372036854775808 with hhi | hhi
    · rw [if_pos (by omega), decide_eq_true (by omega)]
      obtain rfl : k2 = -1 := by omega
      have i1 := (int64_math hin).1 (by omega)
      have HC1 := Lib.hid hc1
      have HC2 := Lib.hid hc2
      clear w1 w2 hc1 hc2 hlo hhi e63
      go_enter Try.func51, Try.ntmps51
      go_wp2_with fail
      refine wp_gen (fun W hW => ?_)
      have vA : Var W w.heap.size 67 #[.bool b, .slice A n c] := by rw [hW]; exact Var.new _ _ _
      have hB_W : Below w.heap.size w W := by rw [hW]; go_grown
      clear hW
      have x0 : W.cell? ⟨w.heap.size, 0, none⟩ = some (.bool b) := vA.cell 0
      have x1 : W.cell? ⟨w.heap.size, 1, none⟩ = some (.slice A n c) := vA.cell 1
      have z0 := vA.lt
      go_region_held3 (fun w' => Below W.heap.size W w' ∧ (∀ b o, b < W.heap.size → w'.cell? ⟨b, o, none⟩ = W.cell? ⟨b, o, none⟩))
        (first | assumption | exact held_start _)
        (first
          | (go_at_call 82; refine (P63.out _).mono ?_; rintro e wp ⟨vp, rfl, hp, hb_wp⟩; (first | replace hb_wp := undrew hb_wp | skip); have hS_wp := held_step hb_wp (W0 := W) (by first | assumption | exact held_refl _); have hK_wp : Below w.heap.size w wp := hB_W.trans (hS_wp.1.mono (Nat.le_of_lt z0)))
          | (go_at_call 81; refine (neg_ref hp _ (Below.refl _ _)).mono ?_; rintro e wn ⟨vn, rfl, hn, hb_wn⟩; (first | replace hb_wn := undrew hb_wn | skip); have hS_wn := held_step hb_wn (W0 := W) (by first | assumption | exact held_refl _); have hK_wn : Below w.heap.size w wn := hB_W.trans (hS_wn.1.mono (Nat.le_of_lt z0)))
          | (go_at_call 80; with_reducible refine (HC2.out _ _ hK_wp hp).mono ?_; rintro e wq ⟨rfl, hb_wq⟩; have hS_wq := held_step hb_wq (W0 := W) (by first | assumption | exact held_refl _))
          | (go_at_call 80; with_reducible refine (HC1.out _ _ hK_wn hn).mono ?_; rintro e wc ⟨rfl, hb_wc⟩; have hS_wc := held_step hb_wc (W0 := W) (by first | assumption | exact held_refl _)))
      all_goals
        have hBq : Below w.heap.size w wq := hB_W.trans (hS_wq.1.mono (Nat.le_of_lt z0))
        have zwq : w.heap.size < wq.heap.size := Nat.lt_of_lt_of_le z0 hS_wq.1.size
        go_wp2_with fail
        refine (C.out _ hBq).mono ?_
        rintro e w5 ⟨rfl, hb_w5⟩
        obtain ⟨hc_w5, hf_w5⟩ := bcell hb_w5
        have hz_w5 := hb_w5.size
        try simp at hz_w5
        have hB_w5 : Below w.heap.size w w5 := Below.trans (by go_grown) (hb_w5.mono (by go_size))
        have hs_w5_0 : w.heap.size < w5.heap.size := by omega
        go_wp2_with fail
        go_ret2
        exact ⟨ret_ib i1, hB_w5⟩
    · rw [if_neg (by omega), decide_eq_false (by omega)]
      have d2 : 0 ≤ k2 := by omega
      have d2' : decide (0 ≤ k2) = true := by simp; omega
      have HC1 := Lib.hid hc1
      have HC2 := Lib.hid hc2
      clear w1 w2 hc1 hc2 hlo hhi e63
      go_enter Try.func51, Try.ntmps51
      go_wp2_with fail
      refine wp_gen (fun W hW => ?_)
      have vA : Var W w.heap.size 67 #[.bool b, .slice A n c] := by rw [hW]; exact Var.new _ _ _
      have hB_W : Below w.heap.size w W := by rw [hW]; go_grown
      clear hW
      have x0 : W.cell? ⟨w.heap.size, 0, none⟩ = some (.bool b) := vA.cell 0
      have x1 : W.cell? ⟨w.heap.size, 1, none⟩ = some (.slice A n c) := vA.cell 1
      have z0 := vA.lt
      go_region_held3 (fun w' => Below W.heap.size W w' ∧ (∀ b o, b < W.heap.size → w'.cell? ⟨b, o, none⟩ = W.cell? ⟨b, o, none⟩))
        (first | assumption | exact held_start _)
        (first
          | (go_at_call 82; refine (P63.out _).mono ?_; rintro e wp ⟨vp, rfl, hp, hb_wp⟩; (first | replace hb_wp := undrew hb_wp | skip); have hS_wp := held_step hb_wp (W0 := W) (by first | assumption | exact held_refl _); have hK_wp : Below w.heap.size w wp := hB_W.trans (hS_wp.1.mono (Nat.le_of_lt z0)))
          | (go_at_call 81; refine (neg_ref hp _ (Below.refl _ _)).mono ?_; rintro e wn ⟨vn, rfl, hn, hb_wn⟩; (first | replace hb_wn := undrew hb_wn | skip); have hS_wn := held_step hb_wn (W0 := W) (by first | assumption | exact held_refl _); have hK_wn : Below w.heap.size w wn := hB_W.trans (hS_wn.1.mono (Nat.le_of_lt z0)))
          | (go_at_call 80; with_reducible refine (HC2.out _ _ hK_wp hp).mono ?_; rintro e wq ⟨rfl, hb_wq⟩; have hS_wq := held_step hb_wq (W0 := W) (by first | assumption | exact held_refl _))
          | (go_at_call 80; with_reducible refine (HC1.out _ _ hK_wn hn).mono ?_; rintro e wc ⟨rfl, hb_wc⟩; have hS_wc := held_step hb_wc (W0 := W) (by first | assumption | exact held_refl _)))
      all_goals
        go_wp2_with fail
        go_ret2
        exact ⟨rfl, hB_W.trans (hS_wq.1.mono (Nat.le_of_lt z0))⟩

theorem round_math {x : Int} {r : Nat} (h : (r : Int) = x % 340282366920938463463374607431768211456) : wrap64 ((r / 18446744073709551616 : Nat) : Int) = hi64 x ∧ ((r % 18446744073709551616 : Nat) : Int) = lo64 x := by
  unfold hi64 lo64
  unfold wrap64
  omega
theorem ret_pair64 {a b c d : Int} (h : a = c ∧ b = d) : Ending.returned (.tuple #[.int .i64 a, .int .u64 b]) = .returned (.tuple #[.int .i64 c, .int .u64 d]) := by rw [h.1, h.2]
theorem round_says : RoundSays := by
  intro w0 v x k hx hk hk9 w hw
  have p128 : ((2 : Int) ^ 128).natAbs = 340282366920938463463374607431768211456 := by decide +kernel
  obtain ⟨b, A, n, c, ds, rfl, hs, hr, ht, hv⟩ := num_open hx
  have hn := num_len hr ht hv.out hk
  have hvv := hv.out
  rcases Int.lt_or_le x 0 with hneg | hpos
  · obtain rfl : b = true := by rw [hs.out]; simp [hneg]
    rcases Decidable.em (val ds % ((2 : Int) ^ 128).natAbs = 0) with hz | hz
    · refine (round_B hr (by omega) hz w hw).mono ?_
      rintro e w' ⟨r, rfl, hr', hb⟩
      rw [p128] at hz
      exact ⟨ret_pair64 (round_math (by omega)), hb⟩
    · refine (round_C hr (by omega) hz w hw).mono ?_
      rintro e w' ⟨r, rfl, hr', hb⟩
      rw [p128] at hz hr'
      exact ⟨ret_pair64 (round_math (by omega)), hb⟩
  · obtain rfl : b = false := by rw [hs.out]; simp; omega
    refine (round_A hr (by omega) w hw).mono ?_
    rintro e w' ⟨r, rfl, hr', hb⟩
    rw [p128] at hr'
    exact ⟨ret_pair64 (round_math (by omega)), hb⟩

end Go.Proofs.Ytohnglcdophkfaa
