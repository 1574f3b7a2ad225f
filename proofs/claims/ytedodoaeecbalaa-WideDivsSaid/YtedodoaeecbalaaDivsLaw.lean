/-
  The law WideDivs returns true for any number and any divisor. (Printed by wip/tools/gen_divs.py.)
-/
import Derived.Test.YtedodoaeecbalaaQuoR
import Derived.Test.YtedodoaeecbalaaSqrtP
import Derived.Test.YtedodoaeecbalaaSqrtR
import Derived.Test.YtedodoaeecbalaaAdds
namespace Go.Proofs.Ytedodoaeecbalaa
open Go.RowKit

theorem cmpI_same (x : Int) : cmpI x x = 0 := by unfold cmpI; simp
theorem small_quo {x : Int} (hx : In128 x) (d : Int) (hd : d ≠ 0) : Small 9 (x / d).natAbs := by
  have h := quo_sizes x d hd
  have h1 := Nat.div_le_self x.natAbs d.natAbs
  have : (65536 : Nat) ^ 9 = 22300745198530623141535718272648361505980416 := by decide +kernel
  obtain ⟨z, hz⟩ : ∃ z, x.natAbs / d.natAbs = z := ⟨_, rfl⟩
  rw [hz] at h h1
  unfold Small In128 at *
  rcases Int.lt_or_le x 0 with a | a
  · rcases Decidable.em (x.natAbs % d.natAbs = 0) with b | b
    · have := (h.2.1 a b).1
      split at this <;> omega
    · have := (h.2.2 a b).1
      split at this <;> omega
  · have := (h.1 (by omega)).1
    split at this <;> omega
theorem rest_nat {d : Int} (hd : I64 d) (hd0 : d ≠ 0) (x : Int) : ∃ n : Nat, x % d = (n : Int) ∧ n < 18446744073709551616 := by
  have h1 := Int.emod_nonneg x hd0
  have h2 := Int.emod_lt x hd0
  obtain ⟨n, hn⟩ := Int.eq_ofNat_of_zero_le h1
  unfold I64 at hd
  exact ⟨n, hn, by omega⟩
theorem small_rest {n : Nat} (h : n < 18446744073709551616) : Small 9 ((n : Int)).natAbs := by
  unfold Small
  have : (65536 : Nat) ^ 9 = 22300745198530623141535718272648361505980416 := by decide +kernel
  omega

set_option maxHeartbeats 4000000 in
set_option maxRecDepth 100000 in
theorem wideDivs_core (HR : RoundSays) (x d : Int) (hx : In128 x) (hd : I64 d) (w : World) :
    Calls Try.prog 7 #[.agg #[.int .i64 (hi64 x), .int .u64 (lo64 x)], .int .i64 d] w fun e w' => e = .returned (.bool true) ∧ Below w.heap.size w w' := by
  have nx := fun W => num_law (hi64 x) (lo64 x) (hi_bd x) (lo_bd x) W
  rw [show of64 (hi64 x) (lo64 x) = x from s128_of hx] at nx
  have NX := Lib.hid nx
  clear nx
  have qp := fun W => quo_prog x d hx hd W
  have sp := fun W => sqrt_prog x hx W
  have hn := hi_neg hx
  rcases Decidable.em (d = 0) with hd0 | hd0
  · subst hd0
    simp only [if_true] at qp
    have QP := Lib.hid qp
    clear qp
    rcases Int.lt_or_le x 0 with hx0 | hx0
    · have hxn : hi64 x < 0 := hn.2 hx0
      have HXN := Lib.hid hx0
      rw [if_pos hx0] at sp
      have SP := Lib.hid sp
      clear sp hn hx0
      clear hx hd HR
      go_enter Try.func7, Try.ntmps7
      go_wp2_with fail
      refine (lawof_any _ _).mono ?_
      rintro e w1 ⟨rfl, hb_w1⟩
      obtain ⟨hc_w1, hf_w1⟩ := bcell hb_w1
      have hz_w1 := hb_w1.size
      try simp at hz_w1
      have hB_w1 : Below w.heap.size w w1 := Below.trans (by go_grown) (hb_w1.mono (by go_size))
      have hs_w1_0 : w.heap.size < w1.heap.size := by omega
      go_wp2_with fail
      refine (QP.out _).mono ?_
      rintro e w2 ⟨rfl, hb_w2⟩
      obtain ⟨hc_w2, hf_w2⟩ := bcell hb_w2
      have hz_w2 := hb_w2.size
      try simp at hz_w2
      have hB_w2 : Below w.heap.size w w2 := Below.trans (by go_grown) (hb_w2.mono (by go_size))
      have hs_w2_0 : w.heap.size < w2.heap.size := by omega
      go_wp2_with fail
      refine (lawof_any _ _).mono ?_
      rintro e w5 ⟨rfl, hb_w5⟩
      obtain ⟨hc_w5, hf_w5⟩ := bcell hb_w5
      have hz_w5 := hb_w5.size
      try simp at hz_w5
      have hB_w5 : Below w.heap.size w w5 := Below.trans (by go_grown) (hb_w5.mono (by go_size))
      have hs_w5_0 : w.heap.size < w5.heap.size := by omega
      go_wp2_with fail
      refine (SP.out _).mono ?_
      rintro e w6 ⟨⟨rt, rfl, hrt⟩, hb_w6⟩
      obtain ⟨hc_w6, hf_w6⟩ := bcell hb_w6
      have hz_w6 := hb_w6.size
      try simp at hz_w6
      have hB_w6 : Below w.heap.size w w6 := Below.trans (by go_grown) (hb_w6.mono (by go_size))
      have hs_w6_0 : w.heap.size < w6.heap.size := by omega
      obtain rfl : rt = 0 := hrt.1 (by have := HXN.out; omega)
      go_wp2_with fail
      go_ret
      exact ⟨rfl, by go_grown⟩
    · have hxn : ¬ hi64 x < 0 := fun h => absurd (hn.1 h) (by omega)
      have HXN := Lib.hid (show ¬ x < 0 from by omega)
      rw [if_neg HXN.out] at sp
      have SP := Lib.hid sp
      have XT := Lib.hid (show (x.toNat : Int) = x ∧ x.toNat < 170141183460469231731687303715884105728 from by unfold In128 at hx; omega)
      clear sp hn hx0
      clear hx hd HR
      go_enter Try.func7, Try.ntmps7
      go_wp2_with fail
      refine (lawof_any _ _).mono ?_
      rintro e w1 ⟨rfl, hb_w1⟩
      obtain ⟨hc_w1, hf_w1⟩ := bcell hb_w1
      have hz_w1 := hb_w1.size
      try simp at hz_w1
      have hB_w1 : Below w.heap.size w w1 := Below.trans (by go_grown) (hb_w1.mono (by go_size))
      have hs_w1_0 : w.heap.size < w1.heap.size := by omega
      go_wp2_with fail
      refine (QP.out _).mono ?_
      rintro e w2 ⟨rfl, hb_w2⟩
      obtain ⟨hc_w2, hf_w2⟩ := bcell hb_w2
      have hz_w2 := hb_w2.size
      try simp at hz_w2
      have hB_w2 : Below w.heap.size w w2 := Below.trans (by go_grown) (hb_w2.mono (by go_size))
      have hs_w2_0 : w.heap.size < w2.heap.size := by omega
      go_wp2_with fail
      refine (lawof_any _ _).mono ?_
      rintro e w5 ⟨rfl, hb_w5⟩
      obtain ⟨hc_w5, hf_w5⟩ := bcell hb_w5
      have hz_w5 := hb_w5.size
      try simp at hz_w5
      have hB_w5 : Below w.heap.size w w5 := Below.trans (by go_grown) (hb_w5.mono (by go_size))
      have hs_w5_0 : w.heap.size < w5.heap.size := by omega
      go_wp2_with fail
      refine (SP.out _).mono ?_
      rintro e w6 ⟨⟨rt, rfl, hrt⟩, hb_w6⟩
      obtain ⟨hc_w6, hf_w6⟩ := bcell hb_w6
      have hz_w6 := hb_w6.size
      try simp at hz_w6
      have hB_w6 : Below w.heap.size w w6 := Below.trans (by go_grown) (hb_w6.mono (by go_size))
      have hs_w6_0 : w.heap.size < w6.heap.size := by omega
      have HRT := Lib.hid (hrt.2 (by have := HXN.out; omega))
      clear hrt
      go_wp2_with fail
      refine (NX.out _).mono ?_
      rintro e w7 ⟨bm, Am, nm, cm, dm, rfl, hm, hrm, hb_w7⟩
      obtain ⟨hc_w7, hf_w7⟩ := bcell hb_w7
      have hz_w7 := hb_w7.size
      try simp at hz_w7
      have hB_w7 : Below w.heap.size w w7 := Below.trans (by go_grown) (hb_w7.mono (by go_size))
      have hs_w7_0 : w.heap.size < w7.heap.size := by omega
      go_wp2_with fail
      have hm7 : NumAt w7 (.agg #[.bool bm, .slice Am nm cm]) (x.toNat : Int) := by rw [XT.out.1]; exact hm
      refine (sqrt_ref hm7 XT.out.2 _ (Below.refl _ _)).mono ?_
      rintro e w8 ⟨⟨rr, rfl, hrr⟩, hb_w8⟩
      obtain ⟨hc_w8, hf_w8⟩ := bcell hb_w8
      have hz_w8 := hb_w8.size
      try simp at hz_w8
      have hB_w8 : Below w.heap.size w w8 := Below.trans (by go_grown) (hb_w8.mono (by go_size))
      have hs_w8_0 : w.heap.size < w8.heap.size := by omega
      obtain rfl : rt = rr := root_one HRT.out hrr.out
      go_wp2_with fail
      go_ret
      exact ⟨rfl, by go_grown⟩
  · rw [if_neg hd0, if_neg hd0, if_neg hd0, if_neg hd0] at qp
    obtain ⟨rn, hrn, hrl⟩ := rest_nat hd hd0 x
    have QR := Lib.hid (fun (w0 : World) (v : Value) (h : NumAt w0 v x) (W : World) (hW : Below w0.heap.size w0 W) => quo_ref h hx d hd hd0 W hW)
    have sq := small_quo hx d hd0
    rw [hrn] at qp QR
    obtain ⟨q, hq⟩ : ∃ z, x / d = z := ⟨_, rfl⟩
    rw [hq] at qp QR sq
    have IA := Lib.hid (fun (w0 : World) (v : Value) (h : NumAt w0 v q) (W : World) (hW : Below w0.heap.size w0 W) => is_same HR h sq (by omega) W hW)
    have UN := Lib.hid (fun W => unsigned_ref rn hrl W)
    have CR := Lib.hid (fun (W0 : World) (v v' : Value) (h : NumAt W0 v (rn : Int)) (h' : NumAt W0 v' (rn : Int)) => cmp_ref h h' (small_rest hrl) (small_rest hrl) (by omega) W0 (Below.refl _ _))
    rw [cmpI_same] at CR
    have QP := Lib.hid qp
    clear qp hrn hq hrl sq
    rcases Int.lt_or_le x 0 with hx0 | hx0
    · have hxn : hi64 x < 0 := hn.2 hx0
      have HXN := Lib.hid hx0
      rw [if_pos hx0] at sp
      have SP := Lib.hid sp
      clear sp hn hx0
      clear hx hd HR
      go_enter Try.func7, Try.ntmps7
      go_wp2_with fail
      refine (lawof_any _ _).mono ?_
      rintro e w1 ⟨rfl, hb_w1⟩
      obtain ⟨hc_w1, hf_w1⟩ := bcell hb_w1
      have hz_w1 := hb_w1.size
      try simp at hz_w1
      have hB_w1 : Below w.heap.size w w1 := Below.trans (by go_grown) (hb_w1.mono (by go_size))
      have hs_w1_0 : w.heap.size < w1.heap.size := by omega
      go_wp2_with fail
      refine (QP.out _).mono ?_
      rintro e w2 ⟨rfl, hb_w2⟩
      obtain ⟨hc_w2, hf_w2⟩ := bcell hb_w2
      have hz_w2 := hb_w2.size
      try simp at hz_w2
      have hB_w2 : Below w.heap.size w w2 := Below.trans (by go_grown) (hb_w2.mono (by go_size))
      have hs_w2_0 : w.heap.size < w2.heap.size := by omega
      go_wp2_with fail
      refine (NX.out _).mono ?_
      rintro e w3 ⟨bm, Am, nm, cm, dm, rfl, hm, hrm, hb_w3⟩
      obtain ⟨hc_w3, hf_w3⟩ := bcell hb_w3
      have hz_w3 := hb_w3.size
      try simp at hz_w3
      have hB_w3 : Below w.heap.size w w3 := Below.trans (by go_grown) (hb_w3.mono (by go_size))
      have hs_w3_0 : w.heap.size < w3.heap.size := by omega
      have hs_w3_1 : w2.heap.size < w3.heap.size := by omega
      go_wp2_with fail
      refine (QR.out _ _ hm _ (Below.refl _ _)).mono ?_
      rintro e w4 ⟨⟨u, u', rfl, hu, hu'⟩, hb_w4⟩
      obtain ⟨hc_w4, hf_w4⟩ := bcell hb_w4
      have hz_w4 := hb_w4.size
      try simp at hz_w4
      have hB_w4 : Below w.heap.size w w4 := Below.trans (by go_grown) (hb_w4.mono (by go_size))
      have hs_w4_0 : w.heap.size < w4.heap.size := by omega
      have hs_w4_1 : w2.heap.size < w4.heap.size := by omega
      obtain ⟨bu, Au, nu, cu, du, rfl, _, _, _, _⟩ := num_open hu
      obtain ⟨bv, Av, nv, cv, dv, rfl, _, _, _, _⟩ := num_open hu'
      go_wp2_with fail
      refine wp_gen (fun W hW => ?_)
      have gx0 : W.cell? ⟨w.heap.size, 0, none⟩ = some (.int .i64 (hi64 x)) := by rw [hW]; first | (go_simp; done) | (simp [*]; done)
      have gx1 : W.cell? ⟨w.heap.size, 1, none⟩ = some (.int .u64 (lo64 x)) := by rw [hW]; first | (go_simp; done) | (simp [*]; done)
      have gq0 : W.cell? ⟨w2.heap.size, 0, none⟩ = some (.int .i64 (hi64 q)) := by rw [hW]; first | (go_simp; done) | (simp [*]; done)
      have gq1 : W.cell? ⟨w2.heap.size, 1, none⟩ = some (.int .u64 (lo64 q)) := by rw [hW]; first | (go_simp; done) | (simp [*]; done)
      have gu0 : W.cell? ⟨w4.heap.size, 0, none⟩ = some (.bool bu) := by rw [hW]; first | (go_simp; done) | (simp [*]; done)
      have gu1 : W.cell? ⟨w4.heap.size, 1, none⟩ = some (.slice Au nu cu) := by rw [hW]; first | (go_simp; done) | (simp [*]; done)
      have gv0 : W.cell? ⟨w4.heap.size + 1, 0, none⟩ = some (.bool bv) := by rw [hW]; first | (go_simp; done) | (simp [*]; done)
      have gv1 : W.cell? ⟨w4.heap.size + 1, 1, none⟩ = some (.slice Av nv cv) := by rw [hW]; first | (go_simp; done) | (simp [*]; done)
      have hB_W : Below w.heap.size w W := by rw [hW]; go_grown
      have hU : NumAt W (.agg #[.bool bu, .slice Au nu cu]) q := hu.below (by rw [hW]; go_grown)
      have hV : NumAt W (.agg #[.bool bv, .slice Av nv cv]) (rn : Int) := hu'.below (by rw [hW]; go_grown)
      have zz_w : w.heap.size < W.heap.size := by rw [hW]; first | omega | (simp; done) | (simp; omega)
      have zz_w2 : w2.heap.size < W.heap.size := by rw [hW]; first | omega | (simp; done) | (simp; omega)
      have zz_w4 : w4.heap.size < W.heap.size := by rw [hW]; first | omega | (simp; done) | (simp; omega)
      have zz_w4_1 : w4.heap.size + 1 < W.heap.size := by rw [hW]; first | omega | (simp; done) | (simp; omega)
      clear hW hu hu' hm hrm hc_w1 hf_w1 hz_w1 hc_w2 hf_w2 hz_w2 hc_w3 hf_w3 hz_w3 hc_w4 hf_w4 hz_w4 hb_w1 hb_w2 hb_w3 hb_w4 hB_w1 hB_w2 hB_w3 hB_w4
      go_region_held3 (fun w' => Below W.heap.size W w' ∧ (∀ b o, b < W.heap.size → w'.cell? ⟨b, o, none⟩ = W.cell? ⟨b, o, none⟩))
        (first | assumption | exact held_start _)
        (first
          | (go_at_call 18; refine (IA.out _ _ hU _ (by first | exact Below.refl _ _ | exact (Below.refl _ _).drew)).mono ?_; rintro e wi ⟨rfl, hb_wi⟩; (first | replace hb_wi := undrew hb_wi | skip); have hS_wi := held_step hb_wi (W0 := W) (by first | assumption | exact held_refl _))
          | (go_at_call 37; refine (UN.out _).mono ?_; rintro e wu ⟨vu, rfl, mu, hb_wu⟩; (first | replace hb_wu := undrew hb_wu | skip); have hS_wu := held_step hb_wu (W0 := W) (by first | assumption | exact held_refl _))
          | (go_at_call 25; refine (CR.out _ _ _ (num_of_mag mu) (hV.below hS_wu.1)).mono ?_; rintro e wc ⟨rfl, hb_wc⟩; (first | replace hb_wc := undrew hb_wc | skip); have hS_wc := held_step hb_wc (W0 := W) (by first | assumption | exact held_refl _)))
      all_goals
        have hBq : Below w.heap.size w wc := hB_W.trans (hS_wc.1.mono (Nat.le_of_lt zz_w))
        have zq := Nat.lt_of_lt_of_le zz_w hS_wc.1.size
        have hx0' : wc.cell? ⟨w.heap.size, 0, none⟩ = some (.int .i64 (hi64 x)) := (hS_wc.2 _ _ zz_w).trans gx0
        have hx1' : wc.cell? ⟨w.heap.size, 1, none⟩ = some (.int .u64 (lo64 x)) := (hS_wc.2 _ _ zz_w).trans gx1
        clear hb_wi hb_wu hb_wc mu hU hV hB_W gq0 gq1 gu0 gu1 gv0 gv1
        go_wp2_with fail
        refine (lawof_any _ _).mono ?_
        rintro e w5 ⟨rfl, hb_w5⟩
        obtain ⟨hc_w5, hf_w5⟩ := bcell hb_w5
        have hz_w5 := hb_w5.size
        try simp at hz_w5
        have hB_w5 : Below w.heap.size w w5 := Below.trans (by go_grown) (hb_w5.mono (by go_size))
        have hs_w5_0 : w.heap.size < w5.heap.size := by omega
        go_wp2_with fail
        refine (SP.out _).mono ?_
        rintro e w6 ⟨⟨rt, rfl, hrt⟩, hb_w6⟩
        obtain ⟨hc_w6, hf_w6⟩ := bcell hb_w6
        have hz_w6 := hb_w6.size
        try simp at hz_w6
        have hB_w6 : Below w.heap.size w w6 := Below.trans (by go_grown) (hb_w6.mono (by go_size))
        have hs_w6_0 : w.heap.size < w6.heap.size := by omega
        obtain rfl : rt = 0 := hrt.1 (by have := HXN.out; omega)
        go_wp2_with fail
        go_ret
        exact ⟨rfl, by go_grown⟩
    · have hxn : ¬ hi64 x < 0 := fun h => absurd (hn.1 h) (by omega)
      have HXN := Lib.hid (show ¬ x < 0 from by omega)
      rw [if_neg HXN.out] at sp
      have SP := Lib.hid sp
      have XT := Lib.hid (show (x.toNat : Int) = x ∧ x.toNat < 170141183460469231731687303715884105728 from by unfold In128 at hx; omega)
      clear sp hn hx0
      clear hx hd HR
      go_enter Try.func7, Try.ntmps7
      go_wp2_with fail
      refine (lawof_any _ _).mono ?_
      rintro e w1 ⟨rfl, hb_w1⟩
      obtain ⟨hc_w1, hf_w1⟩ := bcell hb_w1
      have hz_w1 := hb_w1.size
      try simp at hz_w1
      have hB_w1 : Below w.heap.size w w1 := Below.trans (by go_grown) (hb_w1.mono (by go_size))
      have hs_w1_0 : w.heap.size < w1.heap.size := by omega
      go_wp2_with fail
      refine (QP.out _).mono ?_
      rintro e w2 ⟨rfl, hb_w2⟩
      obtain ⟨hc_w2, hf_w2⟩ := bcell hb_w2
      have hz_w2 := hb_w2.size
      try simp at hz_w2
      have hB_w2 : Below w.heap.size w w2 := Below.trans (by go_grown) (hb_w2.mono (by go_size))
      have hs_w2_0 : w.heap.size < w2.heap.size := by omega
      go_wp2_with fail
      refine (NX.out _).mono ?_
      rintro e w3 ⟨bm, Am, nm, cm, dm, rfl, hm, hrm, hb_w3⟩
      obtain ⟨hc_w3, hf_w3⟩ := bcell hb_w3
      have hz_w3 := hb_w3.size
      try simp at hz_w3
      have hB_w3 : Below w.heap.size w w3 := Below.trans (by go_grown) (hb_w3.mono (by go_size))
      have hs_w3_0 : w.heap.size < w3.heap.size := by omega
      have hs_w3_1 : w2.heap.size < w3.heap.size := by omega
      go_wp2_with fail
      refine (QR.out _ _ hm _ (Below.refl _ _)).mono ?_
      rintro e w4 ⟨⟨u, u', rfl, hu, hu'⟩, hb_w4⟩
      obtain ⟨hc_w4, hf_w4⟩ := bcell hb_w4
      have hz_w4 := hb_w4.size
      try simp at hz_w4
      have hB_w4 : Below w.heap.size w w4 := Below.trans (by go_grown) (hb_w4.mono (by go_size))
      have hs_w4_0 : w.heap.size < w4.heap.size := by omega
      have hs_w4_1 : w2.heap.size < w4.heap.size := by omega
      obtain ⟨bu, Au, nu, cu, du, rfl, _, _, _, _⟩ := num_open hu
      obtain ⟨bv, Av, nv, cv, dv, rfl, _, _, _, _⟩ := num_open hu'
      go_wp2_with fail
      refine wp_gen (fun W hW => ?_)
      have gx0 : W.cell? ⟨w.heap.size, 0, none⟩ = some (.int .i64 (hi64 x)) := by rw [hW]; first | (go_simp; done) | (simp [*]; done)
      have gx1 : W.cell? ⟨w.heap.size, 1, none⟩ = some (.int .u64 (lo64 x)) := by rw [hW]; first | (go_simp; done) | (simp [*]; done)
      have gq0 : W.cell? ⟨w2.heap.size, 0, none⟩ = some (.int .i64 (hi64 q)) := by rw [hW]; first | (go_simp; done) | (simp [*]; done)
      have gq1 : W.cell? ⟨w2.heap.size, 1, none⟩ = some (.int .u64 (lo64 q)) := by rw [hW]; first | (go_simp; done) | (simp [*]; done)
      have gu0 : W.cell? ⟨w4.heap.size, 0, none⟩ = some (.bool bu) := by rw [hW]; first | (go_simp; done) | (simp [*]; done)
      have gu1 : W.cell? ⟨w4.heap.size, 1, none⟩ = some (.slice Au nu cu) := by rw [hW]; first | (go_simp; done) | (simp [*]; done)
      have gv0 : W.cell? ⟨w4.heap.size + 1, 0, none⟩ = some (.bool bv) := by rw [hW]; first | (go_simp; done) | (simp [*]; done)
      have gv1 : W.cell? ⟨w4.heap.size + 1, 1, none⟩ = some (.slice Av nv cv) := by rw [hW]; first | (go_simp; done) | (simp [*]; done)
      have hB_W : Below w.heap.size w W := by rw [hW]; go_grown
      have hU : NumAt W (.agg #[.bool bu, .slice Au nu cu]) q := hu.below (by rw [hW]; go_grown)
      have hV : NumAt W (.agg #[.bool bv, .slice Av nv cv]) (rn : Int) := hu'.below (by rw [hW]; go_grown)
      have zz_w : w.heap.size < W.heap.size := by rw [hW]; first | omega | (simp; done) | (simp; omega)
      have zz_w2 : w2.heap.size < W.heap.size := by rw [hW]; first | omega | (simp; done) | (simp; omega)
      have zz_w4 : w4.heap.size < W.heap.size := by rw [hW]; first | omega | (simp; done) | (simp; omega)
      have zz_w4_1 : w4.heap.size + 1 < W.heap.size := by rw [hW]; first | omega | (simp; done) | (simp; omega)
      clear hW hu hu' hm hrm hc_w1 hf_w1 hz_w1 hc_w2 hf_w2 hz_w2 hc_w3 hf_w3 hz_w3 hc_w4 hf_w4 hz_w4 hb_w1 hb_w2 hb_w3 hb_w4 hB_w1 hB_w2 hB_w3 hB_w4
      go_region_held3 (fun w' => Below W.heap.size W w' ∧ (∀ b o, b < W.heap.size → w'.cell? ⟨b, o, none⟩ = W.cell? ⟨b, o, none⟩))
        (first | assumption | exact held_start _)
        (first
          | (go_at_call 18; refine (IA.out _ _ hU _ (by first | exact Below.refl _ _ | exact (Below.refl _ _).drew)).mono ?_; rintro e wi ⟨rfl, hb_wi⟩; (first | replace hb_wi := undrew hb_wi | skip); have hS_wi := held_step hb_wi (W0 := W) (by first | assumption | exact held_refl _))
          | (go_at_call 37; refine (UN.out _).mono ?_; rintro e wu ⟨vu, rfl, mu, hb_wu⟩; (first | replace hb_wu := undrew hb_wu | skip); have hS_wu := held_step hb_wu (W0 := W) (by first | assumption | exact held_refl _))
          | (go_at_call 25; refine (CR.out _ _ _ (num_of_mag mu) (hV.below hS_wu.1)).mono ?_; rintro e wc ⟨rfl, hb_wc⟩; (first | replace hb_wc := undrew hb_wc | skip); have hS_wc := held_step hb_wc (W0 := W) (by first | assumption | exact held_refl _)))
      all_goals
        have hBq : Below w.heap.size w wc := hB_W.trans (hS_wc.1.mono (Nat.le_of_lt zz_w))
        have zq := Nat.lt_of_lt_of_le zz_w hS_wc.1.size
        have hx0' : wc.cell? ⟨w.heap.size, 0, none⟩ = some (.int .i64 (hi64 x)) := (hS_wc.2 _ _ zz_w).trans gx0
        have hx1' : wc.cell? ⟨w.heap.size, 1, none⟩ = some (.int .u64 (lo64 x)) := (hS_wc.2 _ _ zz_w).trans gx1
        clear hb_wi hb_wu hb_wc mu hU hV hB_W gq0 gq1 gu0 gu1 gv0 gv1
        go_wp2_with fail
        refine (lawof_any _ _).mono ?_
        rintro e w5 ⟨rfl, hb_w5⟩
        obtain ⟨hc_w5, hf_w5⟩ := bcell hb_w5
        have hz_w5 := hb_w5.size
        try simp at hz_w5
        have hB_w5 : Below w.heap.size w w5 := Below.trans (by go_grown) (hb_w5.mono (by go_size))
        have hs_w5_0 : w.heap.size < w5.heap.size := by omega
        go_wp2_with fail
        refine (SP.out _).mono ?_
        rintro e w6 ⟨⟨rt, rfl, hrt⟩, hb_w6⟩
        obtain ⟨hc_w6, hf_w6⟩ := bcell hb_w6
        have hz_w6 := hb_w6.size
        try simp at hz_w6
        have hB_w6 : Below w.heap.size w w6 := Below.trans (by go_grown) (hb_w6.mono (by go_size))
        have hs_w6_0 : w.heap.size < w6.heap.size := by omega
        have HRT := Lib.hid (hrt.2 (by have := HXN.out; omega))
        clear hrt
        go_wp2_with fail
        refine (NX.out _).mono ?_
        rintro e w7 ⟨bm, Am, nm, cm, dm, rfl, hm, hrm, hb_w7⟩
        obtain ⟨hc_w7, hf_w7⟩ := bcell hb_w7
        have hz_w7 := hb_w7.size
        try simp at hz_w7
        have hB_w7 : Below w.heap.size w w7 := Below.trans (by go_grown) (hb_w7.mono (by go_size))
        have hs_w7_0 : w.heap.size < w7.heap.size := by omega
        go_wp2_with fail
        have hm7 : NumAt w7 (.agg #[.bool bm, .slice Am nm cm]) (x.toNat : Int) := by rw [XT.out.1]; exact hm
        refine (sqrt_ref hm7 XT.out.2 _ (Below.refl _ _)).mono ?_
        rintro e w8 ⟨⟨rr, rfl, hrr⟩, hb_w8⟩
        obtain ⟨hc_w8, hf_w8⟩ := bcell hb_w8
        have hz_w8 := hb_w8.size
        try simp at hz_w8
        have hB_w8 : Below w.heap.size w w8 := Below.trans (by go_grown) (hb_w8.mono (by go_size))
        have hs_w8_0 : w.heap.size < w8.heap.size := by omega
        obtain rfl : rt = rr := root_one HRT.out hrr.out
        go_wp2_with fail
        go_ret
        exact ⟨rfl, by go_grown⟩

end Go.Proofs.Ytedodoaeecbalaa
