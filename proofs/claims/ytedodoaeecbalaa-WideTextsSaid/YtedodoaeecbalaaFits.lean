/-
  Contract of the reference's Fits.
-/
import Derived.Test.YtedodoaeecbalaaInts
namespace Go.Proofs.Ytedodoaeecbalaa
open Go.RowKit

set_option maxHeartbeats 1000000 in
theorem fits_ref {w0 : World} {v : Value} {x : Int} {k : Nat} (hx : NumAt w0 v x) (hk : Small k x.natAbs) (hk9 : 9 ≤ k) (hk90 : k ≤ 90000) (w : World) (hw : Below w0.heap.size w0 w) :
    Calls Try.prog 71 #[v] w fun e w' => e = .returned (.bool (decide (-170141183460469231731687303715884105728 ≤ x ∧ x ≤ 170141183460469231731687303715884105727))) ∧ Below w.heap.size w w' := by
  have hx1 := hx.below hw
  have p63 := fun W => power_ref 127 (by omega) W
  have S63 : Small k ((2 : Int) ^ 127).natAbs := Small.mono (k := 9) (by unfold Small; decide +kernel) hk9
  have S64 : Small k (-(2 : Int) ^ 127).natAbs := Small.mono (k := 9) (by unfold Small; decide +kernel) hk9
  have e63 : (2 : Int) ^ 127 = 170141183460469231731687303715884105728 := by decide +kernel
  obtain ⟨pw, hpw⟩ : ∃ z, (2 : Int) ^ 127 = z := ⟨_, rfl⟩
  rw [hpw] at p63 S63 S64 e63
  have P63 := Lib.hid p63
  clear p63 hpw
  have HS := Lib.hid hk
  have HX := Lib.hid hx1
  obtain ⟨b, A, n, c, ds, rfl, hs, hr, ht, hv⟩ := num_open hx1
  clear hx hw hx1 hs hr ht hv hk
  have hc1 : ∀ (W' : World) (vn : Value), Below w.heap.size w W' → NumAt W' vn (-pw) → Calls Try.prog 25 #[.agg #[.bool b, .slice A n c], vn] W' fun e w' => e = .returned (.int .i64 (cmpI x (-pw))) ∧ Below W'.heap.size W' w' :=
    fun _ _ hK hn => cmp_ref (HX.out.below hK) hn HS.out S64 hk90 _ (Below.refl _ _)
  have hc2 : ∀ (W' : World) (vn : Value), Below w.heap.size w W' → NumAt W' vn pw → Calls Try.prog 25 #[.agg #[.bool b, .slice A n c], vn] W' fun e w' => e = .returned (.int .i64 (cmpI x pw)) ∧ Below W'.heap.size W' w' :=
    fun _ _ hK hn => cmp_ref (HX.out.below hK) hn HS.out S63 hk90 _ (Below.refl _ _)
  have w1 := cmp_ways x (-pw)
  have w2 := cmp_ways x pw
  obtain ⟨k1, hk1⟩ : ∃ z, cmpI x (-pw) = z := ⟨_, rfl⟩
  obtain ⟨k2, hk2⟩ : ∃ z, cmpI x pw = z := ⟨_, rfl⟩
  rw [hk1] at hc1 w1
  rw [hk2] at hc2 w2
  rw [e63] at w1 w2
  clear hk1 hk2
  rcases Int.lt_or_le x (-170141183460469231731687303715884105728) with hlo | hlo
  · rw [decide_eq_false (by omega)]
    obtain rfl : k1 = -1 := by omega
    have HC1 := Lib.hid hc1
    clear w1 w2 hc1 hc2 hlo e63
    go_enter Try.func71, Try.ntmps71
    go_wp2_with fail
    refine wp_gen (fun W hW => ?_)
    have vA : Var W w.heap.size 35 #[.bool b, .slice A n c] := by rw [hW]; exact Var.new _ _ _
    have hB_W : Below w.heap.size w W := by rw [hW]; go_grown
    clear hW
    have x0 : W.cell? ⟨w.heap.size, 0, none⟩ = some (.bool b) := vA.cell 0
    have x1 : W.cell? ⟨w.heap.size, 1, none⟩ = some (.slice A n c) := vA.cell 1
    have z0 := vA.lt
    go_region_with (first
        | (go_at_call 60; refine (P63.out _).mono ?_; rintro e wp ⟨vp, rfl, hp, hb_wp⟩; (first | replace hb_wp := undrew hb_wp | skip); obtain ⟨hc_wp, hf_wp⟩ := bcell hb_wp; have hz_wp := hb_wp.size; have hsp : w.heap.size < wp.heap.size := (by omega); have hK_wp : Below w.heap.size w wp := hB_W.trans (hb_wp.mono (Nat.le_of_lt z0)))
        | (go_at_call 21; refine (neg_ref hp _ (Below.refl _ _)).mono ?_; rintro e wn ⟨vn, rfl, hn, hb_wn⟩; obtain ⟨hc_wn, hf_wn⟩ := bcell hb_wn; have hz_wn := hb_wn.size; have hsn : w.heap.size < wn.heap.size := (by omega); have hK_wn : Below w.heap.size w wn := hK_wp.trans (hb_wn.mono (by omega)))
        | (go_at_call 25; refine (HC1.out _ _ hK_wn hn).mono ?_; rintro e wc ⟨rfl, hb_wc⟩; have hK_wc : Below w.heap.size w wc := hK_wn.trans (hb_wc.mono (by omega))))
    all_goals
      go_wp2_with fail
      go_ret
      exact ⟨rfl, hK_wc⟩
  · have d1 : 0 ≤ k1 := by omega
    have d1' : decide (0 ≤ k1) = true := by simp; omega
    have hb2 : decide (-170141183460469231731687303715884105728 ≤ x ∧ x ≤ 170141183460469231731687303715884105727) = decide (k2 < 0) := by
      apply decide_eq_decide.2
      omega
    rw [hb2]
    have hkk : k2 < 0 ∨ ¬ k2 < 0 := Decidable.em _
    have HC1 := Lib.hid hc1
    have HC2 := Lib.hid hc2
    clear w1 w2 hc1 hc2 hlo e63 hb2
    go_enter Try.func71, Try.ntmps71
    go_wp2_with fail
    refine wp_gen (fun W hW => ?_)
    have vA : Var W w.heap.size 35 #[.bool b, .slice A n c] := by rw [hW]; exact Var.new _ _ _
    have hB_W : Below w.heap.size w W := by rw [hW]; go_grown
    clear hW
    have x0 : W.cell? ⟨w.heap.size, 0, none⟩ = some (.bool b) := vA.cell 0
    have x1 : W.cell? ⟨w.heap.size, 1, none⟩ = some (.slice A n c) := vA.cell 1
    have z0 := vA.lt
    go_region_held3 (fun w' => Below W.heap.size W w' ∧ (∀ b o, b < W.heap.size → w'.cell? ⟨b, o, none⟩ = W.cell? ⟨b, o, none⟩))
      (first | assumption | exact held_start _)
      (first
        | (go_at_call 60; refine (P63.out _).mono ?_; rintro e wp ⟨vp, rfl, hp, hb_wp⟩; (first | replace hb_wp := undrew hb_wp | skip); have hS_wp := held_step hb_wp (W0 := W) (by first | assumption | exact held_refl _); have hK_wp : Below w.heap.size w wp := hB_W.trans (hS_wp.1.mono (Nat.le_of_lt z0)))
        | (go_at_call 21; refine (neg_ref hp _ (Below.refl _ _)).mono ?_; rintro e wn ⟨vn, rfl, hn, hb_wn⟩; (first | replace hb_wn := undrew hb_wn | skip); have hS_wn := held_step hb_wn (W0 := W) (by first | assumption | exact held_refl _); have hK_wn : Below w.heap.size w wn := hB_W.trans (hS_wn.1.mono (Nat.le_of_lt z0)))
        | (go_at_call 25; with_reducible refine (HC2.out _ _ hK_wp hp).mono ?_; rintro e wq ⟨rfl, hb_wq⟩; have hS_wq := held_step hb_wq (W0 := W) (by first | assumption | exact held_refl _))
        | (go_at_call 25; with_reducible refine (HC1.out _ _ hK_wn hn).mono ?_; rintro e wc ⟨rfl, hb_wc⟩; have hS_wc := held_step hb_wc (W0 := W) (by first | assumption | exact held_refl _)))
    all_goals
      go_wp2_with fail
      go_ret
      exact ⟨by first | rfl | (simp [*]), hB_W.trans (hS_wq.1.mono (Nat.le_of_lt z0))⟩

end Go.Proofs.Ytedodoaeecbalaa
