/-
  Contracts of the reference's Int64 and of the law's num and is: from the contract of Round.
-/
import Derived.Test.YtedodoaeecbalaaPair
import Derived.Test.YtedodoaeecbalaaRefF
import Derived.Test.YtedodoaeecbalaaCut
namespace Go.Proofs.Ytedodoaeecbalaa
open Go.RowKit

/-- What Round's contract says. -/
def RoundSays : Prop := ∀ {w0 : World} {v : Value} {x : Int} {k : Nat}, NumAt w0 v x → Small k x.natAbs → k ≤ 40000 → ∀ (w : World), Below w0.heap.size w0 w →
  Calls Try.prog 55 #[v] w fun e w' => e = .returned (.tuple #[.int .i64 (hi64 x), .int .u64 (lo64 x)]) ∧ Below w.heap.size w w'

theorem ret_bool' {a b : Bool} (h : a = b) : Ending.returned (.bool a) = .returned (.bool b) := by rw [h]

theorem ret_ib {a c : Int} {b : Bool} (h : a = c) : Ending.returned (.tuple #[.int .i64 a, .bool b]) = .returned (.tuple #[.int .i64 c, .bool b]) := by rw [h]

theorem is_ref (HR : RoundSays) {w0 : World} {v : Value} {z : Int} {k : Nat} (hz : NumAt w0 v z) (hk : Small k z.natAbs) (hk9 : k ≤ 40000) (x : Int) (w : World) (hw : Below w0.heap.size w0 w) :
    Calls Try.prog 18 #[.agg #[.int .i64 (hi64 x), .int .u64 (lo64 x)], v] w fun e w' => e = .returned (.bool (decide (hi64 x = hi64 z ∧ lo64 x = lo64 z))) ∧ Below w.heap.size w w' := by
  have hz1 := hz.below hw
  have C := Lib.hid (fun W (h : Below w.heap.size w W) => HR hz1 hk hk9 W h)
  obtain ⟨b, A, n, c, ds, rfl, hs, hr, ht, hv⟩ := num_open hz1
  clear hz hw hk hk9 HR
  go_enter Try.func18, Try.ntmps18
  go_wp2_with fail
  refine (C.out _ (by go_grown)).mono ?_
  rintro e w1 ⟨rfl, hb_w1⟩
  obtain ⟨hc_w1, hf_w1⟩ := bcell hb_w1
  have hz_w1 := hb_w1.size
  try simp at hz_w1
  have hB_w1 : Below w.heap.size w w1 := Below.trans (by go_grown) (hb_w1.mono (by go_size))
  have hs_w1_0 : w.heap.size < w1.heap.size := by omega
  have hs_w1_1 : w.heap.size + 1 < w1.heap.size := by omega
  go_wp2
  all_goals
    go_ret
    refine ⟨ret_bool' ?_, by go_grown⟩
    rw [Bool.eq_iff_iff]
    first | (simp; done) | (simp; omega)

theorem num_law (h l : Int) (bh : -9223372036854775808 ≤ h ∧ h ≤ 9223372036854775807) (bl : 0 ≤ l ∧ l ≤ 18446744073709551615) (w : World) :
    Calls Try.prog 17 #[.agg #[.int .i64 h, .int .u64 l]] w fun e w' => ∃ b A n c ds, e = .returned (.agg #[.bool b, .slice A n c]) ∧ NumAt w' (.agg #[.bool b, .slice A n c]) (of64 h l) ∧ RawAt w' A n c ds ∧ Below w.heap.size w w' := by
  have HP := Lib.hid (fun W => pair_ref h l bh bl W)
  clear bh bl
  go_enter Try.func17, Try.ntmps17
  go_wp2_with fail
  refine (open_num (HP.out _)).mono ?_
  rintro e w5 ⟨b5, A5, n5, c5, d5, rfl, hs5, hr5, ht5, hv5, hb_w5⟩
  obtain ⟨hc_w5, hf_w5⟩ := bcell hb_w5
  have hz_w5 := hb_w5.size
  try simp at hz_w5
  have hB_w5 : Below w.heap.size w w5 := Below.trans (by go_grown) (hb_w5.mono (by go_size))
  have hs_w5_0 : w.heap.size < w5.heap.size := by omega
  have hs_w5_1 : w.heap.size + 1 < w5.heap.size := by omega
  have vR : Var w5 (w.heap.size + 1) 35 #[.bool false, .slice none 0 0] := (Var.new' _ _ _ (by simp)).keep hb_w5
  go_wp2_with fail
  refine bodyPost_ret (by simp [results, Try.results17, go_sem, *]; try rfl) rfl ?_
  exact ⟨_, _, _, _, _, rfl, num_mk (hr5.over vR _ _) ht5 hs5.out hv5.out, hr5.over vR _ _, by go_grown⟩

theorem small_in {x : Int} (h : In128 x) : Small 9 x.natAbs := by
  unfold Small
  unfold In128 at h
  have : (65536 : Nat) ^ 9 = 22300745198530623141535718272648361505980416 := by decide +kernel
  omega

set_option maxRecDepth 100000 in
set_option maxHeartbeats 600000 in
theorem int64_ref (HR : RoundSays) {w0 : World} {v : Value} {x : Int} (hx : NumAt w0 v x) (hin : In128 x) (w : World) (hw : Below w0.heap.size w0 w) :
    Calls Try.prog 23 #[v] w fun e w' => e = .returned (.tuple #[.int .i64 (if -9223372036854775808 ≤ x ∧ x ≤ 9223372036854775807 then x else 0), .bool (decide (-9223372036854775808 ≤ x ∧ x ≤ 9223372036854775807))]) ∧ Below w.heap.size w w' := by
  have hx1 := hx.below hw
  have p63 := fun W => power_ref 63 (by omega) W
  have S63 : Small 9 ((2 : Int) ^ 63).natAbs := by unfold Small; decide +kernel
  have S64 : Small 9 (-(2 : Int) ^ 63).natAbs := by unfold Small; decide +kernel
  have e63 : (2 : Int) ^ 63 = 9223372036854775808 := by decide +kernel
  obtain ⟨pw, hpw⟩ : ∃ z, (2 : Int) ^ 63 = z := ⟨_, rfl⟩
  rw [hpw] at p63 S63 S64 e63
  have P63 := Lib.hid p63
  clear p63 hpw
  have HS := Lib.hid (small_in hin)
  have C := Lib.hid (fun W (h : Below w.heap.size w W) => HR hx1 (small_in hin) (by omega) W h)
  have HX := Lib.hid hx1
  obtain ⟨b, A, n, c, ds, rfl, hs, hr, ht, hv⟩ := num_open hx1
  clear hx hw hx1 hs hr ht hv HR
  have hc1 : ∀ (W' : World) (vn : Value), Below w.heap.size w W' → NumAt W' vn (-pw) → Calls Try.prog 25 #[.agg #[.bool b, .slice A n c], vn] W' fun e w' => e = .returned (.int .i64 (cmpI x (-pw))) ∧ Below W'.heap.size W' w' :=
    fun _ _ hK hn => cmp_ref (HX.out.below hK) hn HS.out S64 (by omega) _ (Below.refl _ _)
  have hc2 : ∀ (W' : World) (vn : Value), Below w.heap.size w W' → NumAt W' vn pw → Calls Try.prog 25 #[.agg #[.bool b, .slice A n c], vn] W' fun e w' => e = .returned (.int .i64 (cmpI x pw)) ∧ Below W'.heap.size W' w' :=
    fun _ _ hK hn => cmp_ref (HX.out.below hK) hn HS.out S63 (by omega) _ (Below.refl _ _)
  have w1 := cmp_ways x (-pw)
  have w2 := cmp_ways x pw
  obtain ⟨k1, hk1⟩ : ∃ z, cmpI x (-pw) = z := ⟨_, rfl⟩
  obtain ⟨k2, hk2⟩ : ∃ z, cmpI x pw = z := ⟨_, rfl⟩
  rw [hk1] at hc1 w1
  rw [hk2] at hc2 w2
  rw [e63] at w1 w2
  clear hk1 hk2
  rcases Int.lt_or_le x (-9223372036854775808) with hlo | hlo
  · rw [if_neg (by omega), decide_eq_false (by omega)]
    obtain rfl : k1 = -1 := by omega
    have HC1 := Lib.hid hc1
    have HC2 := Lib.hid hc2
    clear w1 w2 hc1 hc2 hlo e63
    go_enter Try.func23, Try.ntmps23
    go_wp2_with fail
    refine wp_gen (fun W hW => ?_)
    have vA : Var W w.heap.size 35 #[.bool b, .slice A n c] := by rw [hW]; exact Var.new _ _ _
    have hB_W : Below w.heap.size w W := by rw [hW]; go_grown
    clear hW
    have x0 : W.cell? ⟨w.heap.size, 0, none⟩ = some (.bool b) := vA.cell 0
    have x1 : W.cell? ⟨w.heap.size, 1, none⟩ = some (.slice A n c) := vA.cell 1
    have z0 := vA.lt
    go_region_with (first
        | (go_at_call 60; refine (P63.out _).mono ?_; rintro e wp ⟨vp, rfl, hp, hb_wp⟩; (first | replace hb_wp := undrew hb_wp | skip); obtain ⟨hc_wp, hf_wp⟩ := bcell hb_wp; have hz_wp := hb_wp.size; have hsp : w.heap.size < wp.heap.size := (by omega); have hK_wp : Below w.heap.size w wp := hB_W.trans (hb_wp.mono (Nat.le_of_lt z0)))
        | (go_at_call 21; refine (neg_ref hp _ (Below.refl _ _)).mono ?_; rintro e wn ⟨vn, rfl, hn, hb_wn⟩; obtain ⟨hc_wn, hf_wn⟩ := bcell hb_wn; have hz_wn := hb_wn.size; have hsn : w.heap.size < wn.heap.size := (by omega); have hK_wn : Below w.heap.size w wn := hK_wp.trans (hb_wn.mono (by omega)))
        | (go_at_call 25; refine (HC1.out _ _ hK_wn hn).mono ?_; rintro e wc ⟨rfl, hb_wc⟩; have hK_wc : Below w.heap.size w wc := hK_wn.trans (hb_wc.mono (by omega))))
    all_goals
      go_wp2_with fail
      go_ret2
      exact ⟨rfl, hK_wc⟩
  · have d1 : ¬ k1 < 0 := by omega
    have d1' : decide (k1 < 0) = false := by simp; omega
    rcases Int.lt_or_le x 9223372036854775808 with hhi | hhi
    · rw [if_pos (by omega), decide_eq_true (by omega)]
      obtain rfl : k2 = -1 := by omega
      have i1 := (int64_math hin).1 (by omega)
      have HC1 := Lib.hid hc1
      have HC2 := Lib.hid hc2
      clear w1 w2 hc1 hc2 hlo hhi e63
      go_enter Try.func23, Try.ntmps23
      go_wp2_with fail
      refine wp_gen (fun W hW => ?_)
      have vA : Var W w.heap.size 35 #[.bool b, .slice A n c] := by rw [hW]; exact Var.new _ _ _
      have hB_W : Below w.heap.size w W := by rw [hW]; go_grown
      clear hW
      have x0 : W.cell? ⟨w.heap.size, 0, none⟩ = some (.bool b) := vA.cell 0
      have x1 : W.cell? ⟨w.heap.size, 1, none⟩ = some (.slice A n c) := vA.cell 1
      have z0 := vA.lt
      go_region_held3 (fun w' => Below W.heap.size W w' ∧ (∀ b o, b < W.heap.size → w'.cell? ⟨b, o, none⟩ = W.cell? ⟨b, o, none⟩))
        (first | assumption | exact held_start _)
        (first
          | (go_at_call 60; refine (P63.out _).mono ?_; rintro e wp ⟨vp, rfl, hp, hb_wp⟩; (first | replace hb_wp := undrew hb_wp | skip); have hS_wp := held_step hb_wp (W0 := W) (by first | assumption | exact held_refl _); have hK_wp : Below w.heap.size w wp := hB_W.trans (hS_wp.1.mono (Nat.le_of_lt z0)))
          | (go_at_call 21; refine (neg_ref hp _ (Below.refl _ _)).mono ?_; rintro e wn ⟨vn, rfl, hn, hb_wn⟩; (first | replace hb_wn := undrew hb_wn | skip); have hS_wn := held_step hb_wn (W0 := W) (by first | assumption | exact held_refl _); have hK_wn : Below w.heap.size w wn := hB_W.trans (hS_wn.1.mono (Nat.le_of_lt z0)))
          | (go_at_call 25; with_reducible refine (HC2.out _ _ hK_wp hp).mono ?_; rintro e wq ⟨rfl, hb_wq⟩; have hS_wq := held_step hb_wq (W0 := W) (by first | assumption | exact held_refl _))
          | (go_at_call 25; with_reducible refine (HC1.out _ _ hK_wn hn).mono ?_; rintro e wc ⟨rfl, hb_wc⟩; have hS_wc := held_step hb_wc (W0 := W) (by first | assumption | exact held_refl _)))
      all_goals
        have hBq : Below w.heap.size w wq := hB_W.trans (hS_wq.1.mono (Nat.le_of_lt z0))
        have zwq : w.heap.size < wq.heap.size := Nat.lt_of_lt_of_le z0 hS_wq.1.size
        go_wp2_with fail
        refine (C.out _ hBq).mono ?_
        rintro e w5 ⟨rfl, hb_w5⟩
        obtain ⟨hc_w5, hf_w5⟩ := bcell hb_w5
        have hz_w5 := hb_w5.size
        try simp at hz_w5
        have hB_w5 : Below w.heap.size w w5 := Below.trans (by go_grown) (hb_w5.mono (by go_size))
        have hs_w5_0 : w.heap.size < w5.heap.size := by omega
        go_wp2_with fail
        go_ret2
        exact ⟨ret_ib i1, hB_w5⟩
    · rw [if_neg (by omega), decide_eq_false (by omega)]
      have d2 : 0 ≤ k2 := by omega
      have d2' : decide (0 ≤ k2) = true := by simp; omega
      have HC1 := Lib.hid hc1
      have HC2 := Lib.hid hc2
      clear w1 w2 hc1 hc2 hlo hhi e63
      go_enter Try.func23, Try.ntmps23
      go_wp2_with fail
      refine wp_gen (fun W hW => ?_)
      have vA : Var W w.heap.size 35 #[.bool b, .slice A n c] := by rw [hW]; exact Var.new _ _ _
      have hB_W : Below w.heap.size w W := by rw [hW]; go_grown
      clear hW
      have x0 : W.cell? ⟨w.heap.size, 0, none⟩ = some (.bool b) := vA.cell 0
      have x1 : W.cell? ⟨w.heap.size, 1, none⟩ = some (.slice A n c) := vA.cell 1
      have z0 := vA.lt
      go_region_held3 (fun w' => Below W.heap.size W w' ∧ (∀ b o, b < W.heap.size → w'.cell? ⟨b, o, none⟩ = W.cell? ⟨b, o, none⟩))
        (first | assumption | exact held_start _)
        (first
          | (go_at_call 60; refine (P63.out _).mono ?_; rintro e wp ⟨vp, rfl, hp, hb_wp⟩; (first | replace hb_wp := undrew hb_wp | skip); have hS_wp := held_step hb_wp (W0 := W) (by first | assumption | exact held_refl _); have hK_wp : Below w.heap.size w wp := hB_W.trans (hS_wp.1.mono (Nat.le_of_lt z0)))
          | (go_at_call 21; refine (neg_ref hp _ (Below.refl _ _)).mono ?_; rintro e wn ⟨vn, rfl, hn, hb_wn⟩; (first | replace hb_wn := undrew hb_wn | skip); have hS_wn := held_step hb_wn (W0 := W) (by first | assumption | exact held_refl _); have hK_wn : Below w.heap.size w wn := hB_W.trans (hS_wn.1.mono (Nat.le_of_lt z0)))
          | (go_at_call 25; with_reducible refine (HC2.out _ _ hK_wp hp).mono ?_; rintro e wq ⟨rfl, hb_wq⟩; have hS_wq := held_step hb_wq (W0 := W) (by first | assumption | exact held_refl _))
          | (go_at_call 25; with_reducible refine (HC1.out _ _ hK_wn hn).mono ?_; rintro e wc ⟨rfl, hb_wc⟩; have hS_wc := held_step hb_wc (W0 := W) (by first | assumption | exact held_refl _)))
      all_goals
        go_wp2_with fail
        go_ret2
        exact ⟨rfl, hB_W.trans (hS_wq.1.mono (Nat.le_of_lt z0))⟩

end Go.Proofs.Ytedodoaeecbalaa
