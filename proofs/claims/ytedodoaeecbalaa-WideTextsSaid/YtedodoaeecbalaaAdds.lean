/-
  WideAdds' walk, from Round's contract.
-/
import Derived.Test.YtedodoaeecbalaaInts
import Derived.Test.YtedodoaeecbalaaLawOne
import Derived.Test.YtedodoaeecbalaaRefD
namespace Go.Proofs.Ytedodoaeecbalaa
open Go.RowKit

theorem is_same (HR : RoundSays) {w0 : World} {v : Value} {z : Int} {k : Nat} (hz : NumAt w0 v z) (hk : Small k z.natAbs) (hk9 : k ≤ 40000) (w : World) (hw : Below w0.heap.size w0 w) :
    Calls Try.prog 18 #[.agg #[.int .i64 (hi64 z), .int .u64 (lo64 z)], v] w fun e w' => e = .returned (.bool true) ∧ Below w.heap.size w w' := by
  have h := is_ref HR hz hk hk9 z w hw
  rw [decide_eq_true (by exact ⟨rfl, rfl⟩)] at h
  exact h
theorem s128_of {x : Int} (hx : In128 x) : of64 (hi64 x) (lo64 x) = x := by
  have h := s128_eq hx
  unfold s128 at h
  exact h
theorem small_sum {x y : Int} (hx : In128 x) (hy : In128 y) : Small 9 (x + y).natAbs ∧ Small 9 (x - y).natAbs ∧ Small 9 (-x).natAbs := by
  unfold Small In128 at *
  have : (65536 : Nat) ^ 9 = 22300745198530623141535718272648361505980416 := by decide +kernel
  omega

set_option maxHeartbeats 4000000 in
set_option maxRecDepth 100000 in
theorem wideAdds_core (HR : RoundSays) (x y : Int) (hx : In128 x) (hy : In128 y) (w : World) :
    Calls Try.prog 5 #[.agg #[.int .i64 (hi64 x), .int .u64 (lo64 x)], .agg #[.int .i64 (hi64 y), .int .u64 (lo64 y)]] w fun e w' => e = .returned (.bool true) ∧ Below w.heap.size w w' := by
  have nx := fun W => num_law (hi64 x) (lo64 x) (hi_bd x) (lo_bd x) W
  have ny := fun W => num_law (hi64 y) (lo64 y) (hi_bd y) (lo_bd y) W
  rw [show of64 (hi64 x) (lo64 x) = x from s128_of hx] at nx
  rw [show of64 (hi64 y) (lo64 y) = y from s128_of hy] at ny
  have NX := Lib.hid nx
  have NY := Lib.hid ny
  clear nx ny
  have K := Lib.hid (And.intro (small_in hx) (And.intro (small_in hy) (small_sum hx hy)))
  have j1 := fun W => int64_any x hx W
  have j2 := fun (w0 : World) (v : Value) (h : NumAt w0 v x) (W : World) (hW : Below w0.heap.size w0 W) => int64_ref HR h hx W hW
  obtain ⟨vv, hvv⟩ : ∃ z, (if -9223372036854775808 ≤ x ∧ x ≤ 9223372036854775807 then x else 0) = z := ⟨_, rfl⟩
  obtain ⟨bb, hbb⟩ : ∃ z, decide (-9223372036854775808 ≤ x ∧ x ≤ 9223372036854775807) = z := ⟨_, rfl⟩
  rw [hvv, hbb] at j1 j2
  have I1 := Lib.hid j1
  have I2 := Lib.hid j2
  clear j1 j2 hvv hbb
  have SG := Lib.hid (fun W => sign_any x hx W)
  have CP := Lib.hid (fun W => cmp_any x y hx hy W)
  have IA := Lib.hid (fun (w0 : World) (v : Value) (h : NumAt w0 v (x + y)) (W : World) (hW : Below w0.heap.size w0 W) => is_same HR h (small_sum hx hy).1 (by omega) W hW)
  have IB := Lib.hid (fun (w0 : World) (v : Value) (h : NumAt w0 v (x - y)) (W : World) (hW : Below w0.heap.size w0 W) => is_same HR h (small_sum hx hy).2.1 (by omega) W hW)
  have IC := Lib.hid (fun (w0 : World) (v : Value) (h : NumAt w0 v (-x)) (W : World) (hW : Below w0.heap.size w0 W) => is_same HR h (small_sum hx hy).2.2 (by omega) W hW)
  clear hx hy HR
  go_enter Try.func5, Try.ntmps5
  go_wp2_with fail
  refine (lawof_any _ _).mono ?_
  rintro e w1 ⟨rfl, hb_w1⟩
  obtain ⟨hc_w1, hf_w1⟩ := bcell hb_w1
  have hz_w1 := hb_w1.size
  try simp at hz_w1
  have hB_w1 : Below w.heap.size w w1 := Below.trans (by go_grown) (hb_w1.mono (by go_size))
  have hs_w1_0 : w.heap.size < w1.heap.size := by omega
  have hs_w1_1 : w.heap.size + 1 < w1.heap.size := by omega
  go_wp2_with fail
  refine (lawof_any _ _).mono ?_
  rintro e w2 ⟨rfl, hb_w2⟩
  obtain ⟨hc_w2, hf_w2⟩ := bcell hb_w2
  have hz_w2 := hb_w2.size
  try simp at hz_w2
  have hB_w2 : Below w.heap.size w w2 := Below.trans (by go_grown) (hb_w2.mono (by go_size))
  have hs_w2_0 : w.heap.size < w2.heap.size := by omega
  have hs_w2_1 : w.heap.size + 1 < w2.heap.size := by omega
  have hs_w2_2 : w1.heap.size < w2.heap.size := by omega
  go_wp2_with fail
  refine (NX.out _).mono ?_
  rintro e w3 ⟨bm, Am, nm, cm, dm, rfl, hm, hrm, hb_w3⟩
  obtain ⟨hc_w3, hf_w3⟩ := bcell hb_w3
  have hz_w3 := hb_w3.size
  try simp at hz_w3
  have hB_w3 : Below w.heap.size w w3 := Below.trans (by go_grown) (hb_w3.mono (by go_size))
  have hs_w3_0 : w.heap.size < w3.heap.size := by omega
  have hs_w3_1 : w.heap.size + 1 < w3.heap.size := by omega
  have hs_w3_2 : w1.heap.size < w3.heap.size := by omega
  have hs_w3_3 : w2.heap.size < w3.heap.size := by omega
  go_wp2_with fail
  refine (NY.out _).mono ?_
  rintro e w4 ⟨bn, An, nn, cn, dn, rfl, hn, hrn, hb_w4⟩
  obtain ⟨hc_w4, hf_w4⟩ := bcell hb_w4
  have hz_w4 := hb_w4.size
  try simp at hz_w4
  have hB_w4 : Below w.heap.size w w4 := Below.trans (by go_grown) (hb_w4.mono (by go_size))
  have hs_w4_0 : w.heap.size < w4.heap.size := by omega
  have hs_w4_1 : w.heap.size + 1 < w4.heap.size := by omega
  have hs_w4_2 : w1.heap.size < w4.heap.size := by omega
  have hs_w4_3 : w2.heap.size < w4.heap.size := by omega
  have hs_w4_4 : w3.heap.size < w4.heap.size := by omega
  go_wp2_with fail
  have hm4 : NumAt w4 (.agg #[.bool bm, .slice Am nm cm]) x := (hm.below ((Below.refl _ _).alloc (Nat.le_refl _) _)).below hb_w4
  refine wp_gen (fun W hW => ?_)
  have g0 : W.cell? ⟨w1.heap.size, 0, none⟩ = some (.int .i64 (hi64 x)) := by rw [hW]; first | (go_simp; done) | (simp [*]; done)
  have g1 : W.cell? ⟨w1.heap.size, 1, none⟩ = some (.int .u64 (lo64 x)) := by rw [hW]; first | (go_simp; done) | (simp [*]; done)
  have g2 : W.cell? ⟨w2.heap.size, 0, none⟩ = some (.int .i64 (hi64 y)) := by rw [hW]; first | (go_simp; done) | (simp [*]; done)
  have g3 : W.cell? ⟨w2.heap.size, 1, none⟩ = some (.int .u64 (lo64 y)) := by rw [hW]; first | (go_simp; done) | (simp [*]; done)
  have g4 : W.cell? ⟨w3.heap.size, 0, none⟩ = some (.bool bm) := by rw [hW]; first | (go_simp; done) | (simp [*]; done)
  have g5 : W.cell? ⟨w3.heap.size, 1, none⟩ = some (.slice Am nm cm) := by rw [hW]; first | (go_simp; done) | (simp [*]; done)
  have g6 : W.cell? ⟨w4.heap.size, 0, none⟩ = some (.bool bn) := by rw [hW]; first | (go_simp; done) | (simp [*]; done)
  have g7 : W.cell? ⟨w4.heap.size, 1, none⟩ = some (.slice An nn cn) := by rw [hW]; first | (go_simp; done) | (simp [*]; done)
  have hB_W : Below w.heap.size w W := by rw [hW]; go_grown
  have hM : NumAt W (.agg #[.bool bm, .slice Am nm cm]) x := hm4.below (by rw [hW]; go_grown)
  have hN : NumAt W (.agg #[.bool bn, .slice An nn cn]) y := hn.below (by rw [hW]; go_grown)
  have zz_w : w.heap.size < W.heap.size := by rw [hW]; first | omega | (simp; done) | (simp; omega)
  have zz_w1 : w1.heap.size < W.heap.size := by rw [hW]; first | omega | (simp; done) | (simp; omega)
  have zz_w2 : w2.heap.size < W.heap.size := by rw [hW]; first | omega | (simp; done) | (simp; omega)
  have zz_w3 : w3.heap.size < W.heap.size := by rw [hW]; first | omega | (simp; done) | (simp; omega)
  have zz_w4 : w4.heap.size < W.heap.size := by rw [hW]; first | omega | (simp; done) | (simp; omega)
  clear hW hm hn hrm hrn hm4
  go_region_held3 (fun w' => Below W.heap.size W w' ∧ (∀ b o, b < W.heap.size → w'.cell? ⟨b, o, none⟩ = W.cell? ⟨b, o, none⟩))
    (first | assumption | exact held_start _)
    (first
      | (go_at_call 12; refine (add_any x y _).mono ?_; rintro e wa ⟨rfl, hb_wa⟩; (first | replace hb_wa := undrew hb_wa | skip); have hS_wa := held_step hb_wa (W0 := W) (by first | assumption | exact held_refl _))
      | (go_at_call 13; refine (sub_any x y _).mono ?_; rintro e ws ⟨rfl, hb_ws⟩; (first | replace hb_ws := undrew hb_ws | skip); have hS_ws := held_step hb_ws (W0 := W) (by first | assumption | exact held_refl _))
      | (go_at_call 14; refine (neg_any x _).mono ?_; rintro e wn ⟨rfl, hb_wn⟩; (first | replace hb_wn := undrew hb_wn | skip); have hS_wn := held_step hb_wn (W0 := W) (by first | assumption | exact held_refl _))
      | (go_at_call 19; refine (add_ref (hM.below hS_wa.1) (hN.below hS_wa.1) K.out.1 K.out.2.1 (by omega) _ (Below.refl _ _)).mono ?_; rintro e wra ⟨ua, rfl, hua, hb_wra⟩; (first | replace hb_wra := undrew hb_wra | skip); have hS_wra := held_step hb_wra (W0 := W) (by first | assumption | exact held_refl _))
      | (go_at_call 20; refine (sub_ref (hM.below hS_ws.1) (hN.below hS_ws.1) K.out.1 K.out.2.1 (by omega) _ (Below.refl _ _)).mono ?_; rintro e wrs ⟨us, rfl, hus, hb_wrs⟩; (first | replace hb_wrs := undrew hb_wrs | skip); have hS_wrs := held_step hb_wrs (W0 := W) (by first | assumption | exact held_refl _))
      | (go_at_call 21; refine (neg_ref (hM.below hS_wn.1) _ (Below.refl _ _)).mono ?_; rintro e wrn ⟨un, rfl, hun, hb_wrn⟩; (first | replace hb_wrn := undrew hb_wrn | skip); have hS_wrn := held_step hb_wrn (W0 := W) (by first | assumption | exact held_refl _))
      | (go_at_call 18; with_reducible refine (IC.out _ _ hun _ (Below.refl _ _)).mono ?_; rintro e wic ⟨rfl, hb_wic⟩; (first | replace hb_wic := undrew hb_wic | skip); have hS_wic := held_step hb_wic (W0 := W) (by first | assumption | exact held_refl _))
      | (go_at_call 18; with_reducible refine (IB.out _ _ hus _ (Below.refl _ _)).mono ?_; rintro e wib ⟨rfl, hb_wib⟩; (first | replace hb_wib := undrew hb_wib | skip); have hS_wib := held_step hb_wib (W0 := W) (by first | assumption | exact held_refl _))
      | (go_at_call 18; with_reducible refine (IA.out _ _ hua _ (Below.refl _ _)).mono ?_; rintro e wia ⟨rfl, hb_wia⟩; (first | replace hb_wia := undrew hb_wia | skip); have hS_wia := held_step hb_wia (W0 := W) (by first | assumption | exact held_refl _)))
  all_goals
    have hBq : Below w.heap.size w wic := hB_W.trans (hS_wic.1.mono (Nat.le_of_lt zz_w))
    have hcq := hS_wic.2
    have zs := hS_wic.1.size
    have zq_w : w.heap.size < wic.heap.size := Nat.lt_of_lt_of_le zz_w zs
    have zq_w1 : w1.heap.size < wic.heap.size := Nat.lt_of_lt_of_le zz_w1 zs
    have zq_w2 : w2.heap.size < wic.heap.size := Nat.lt_of_lt_of_le zz_w2 zs
    have zq_w3 : w3.heap.size < wic.heap.size := Nat.lt_of_lt_of_le zz_w3 zs
    have zq_w4 : w4.heap.size < wic.heap.size := Nat.lt_of_lt_of_le zz_w4 zs
    have zq_1 : w.heap.size + 1 < wic.heap.size := Nat.lt_of_lt_of_le (by omega) zq_w1
    go_wp2_with fail
    refine (I1.out _).mono ?_
    rintro e w8 ⟨rfl, hb_w8⟩
    obtain ⟨hc_w8, hf_w8⟩ := bcell hb_w8
    have hz_w8 := hb_w8.size
    try simp at hz_w8
    have hB_w8 : Below w.heap.size w w8 := Below.trans (by go_grown) (hb_w8.mono (by go_size))
    have hs_w8_0 : w.heap.size < w8.heap.size := by omega
    have hs_w8_1 : w.heap.size + 1 < w8.heap.size := by omega
    have hs_w8_2 : w1.heap.size < w8.heap.size := by omega
    have hs_w8_3 : w2.heap.size < w8.heap.size := by omega
    have hs_w8_4 : w3.heap.size < w8.heap.size := by omega
    have hs_w8_5 : w4.heap.size < w8.heap.size := by omega
    go_wp2_with fail
    refine (I2.out _ _ (hM.below hS_wic.1) _ (by go_grown)).mono ?_
    rintro e w9 ⟨rfl, hb_w9⟩
    obtain ⟨hc_w9, hf_w9⟩ := bcell hb_w9
    have hz_w9 := hb_w9.size
    try simp at hz_w9
    have hB_w9 : Below w.heap.size w w9 := Below.trans (by go_grown) (hb_w9.mono (by go_size))
    have hs_w9_0 : w.heap.size < w9.heap.size := by omega
    have hs_w9_1 : w.heap.size + 1 < w9.heap.size := by omega
    have hs_w9_2 : w1.heap.size < w9.heap.size := by omega
    have hs_w9_3 : w2.heap.size < w9.heap.size := by omega
    have hs_w9_4 : w3.heap.size < w9.heap.size := by omega
    have hs_w9_5 : w4.heap.size < w9.heap.size := by omega
    go_wp2_with fail
    have hM9 : NumAt w9 (.agg #[.bool bm, .slice Am nm cm]) x := ((hM.below hS_wic.1).below hb_w8).below hb_w9
    have hN9 : NumAt w9 (.agg #[.bool bn, .slice An nn cn]) y := ((hN.below hS_wic.1).below hb_w8).below hb_w9
    have hq_w9 := @wd_cell w9
    refine wp_region_wd (by kernel_rfl) (by kernel_rfl) ?_
    repeat (go_big_quiet_step ((first | (go_at_call 16; with_reducible exact quiet_wd (SG.out _)) | (go_at_call 24; with_reducible exact quiet_wd (sign_ref hM9 K.out.1 (by omega) _ (Wd.h _))) | (go_at_call 15; with_reducible exact quiet_wd (CP.out _)) | (go_at_call 25; with_reducible exact quiet_wd (cmp_ref hM9 hN9 K.out.1 K.out.2.1 (by omega) _ (Wd.h _))))))
    refine wpQuiet_nil ?_
    rintro w10 ⟨⟨wx, hb_w10⟩, hwx⟩
    obtain rfl : w10 = wx := hwx
    clear hq_w9
    obtain ⟨hc_w10, hf_w10⟩ := bcell hb_w10
    have hB_w10 : Below w.heap.size w w10 := Below.trans (by go_grown) (hb_w10.mono (by go_size))
    go_wp2_with fail
    go_ret
    exact ⟨rfl, by go_grown⟩

end Go.Proofs.Ytedodoaeecbalaa
