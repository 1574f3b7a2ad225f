/-
  WideMuls' walk, from Round's contract.
-/
import Derived.Test.YtedodoaeecbalaaGcdR
import Derived.Test.YtedodoaeecbalaaAdds
namespace Go.Proofs.Ytedodoaeecbalaa
open Go.RowKit

set_option maxHeartbeats 4000000 in
set_option maxRecDepth 100000 in
theorem wideMuls_core (HR : RoundSays) (a b c d : Int) (ha : I64 a) (hb : I64 b) (hc : I64 c) (hd : I64 d) (w : World) :
    Calls Try.prog 6 #[.agg #[.int .i64 a, .int .i64 b, .int .i64 c, .int .i64 d]] w fun e w' => e = .returned (.bool true) ∧ Below w.heap.size w w' := by
  have f1 := fun W => cmpfrac_any a b c d ha hb hc hd W
  have f2 := fun W => cmpfrac_ref a b c d ha hb hc hd W
  have c1 := fun W => cmpmul_any a b c d ha hb hc hd W
  have c2 := fun W => cmpmul_ref a b c d ha hb hc hd W
  obtain ⟨fr, hfr⟩ : ∃ z, frac a b c d = z := ⟨_, rfl⟩
  obtain ⟨fe, hfe⟩ : ∃ z, fracE b d = z := ⟨_, rfl⟩
  obtain ⟨cm, hcm⟩ : ∃ z, cmpI (a * b) (c * d) = z := ⟨_, rfl⟩
  rw [hfr, hfe] at f1 f2
  rw [hcm] at c1 c2
  have F1 := Lib.hid f1
  have F2 := Lib.hid f2
  have C1 := Lib.hid c1
  have C2 := Lib.hid c2
  clear f1 f2 c1 c2 hfr hfe hcm
  have OA := Lib.hid (fun W => of_ref a ha W)
  have OB := Lib.hid (fun W => of_ref b hb W)
  have MP := Lib.hid (fun W => mul_any a b ha hb W)
  have G1 := Lib.hid (fun W => gcd_any a b ha hb W)
  have G2 := Lib.hid (fun W => gcd_ref a b ha hb W)
  have PA := Lib.hid (fun W => of_any a ha W)
  obtain ⟨m, hm⟩ : ∃ m : Nat, IntKind.u64.wrap a = (m : Int) := ⟨(IntKind.u64.wrap a).toNat, by rw [IntKind.wrap_u64]; omega⟩
  have hmb : (m : Int) ≤ 18446744073709551615 := by rw [← hm, IntKind.wrap_u64]; omega
  have PU := Lib.hid (fun W => unsigned_any (m : Int) (by omega) W)
  have RU := Lib.hid (fun W => unsigned_ref m (by omega) W)
  have KU : Small 9 ((m : Int)).natAbs := by
    unfold Small
    have : (65536 : Nat) ^ 9 = 22300745198530623141535718272648361505980416 := by decide +kernel
    omega
  have K := Lib.hid (And.intro (small_i64 ha) (And.intro (small_i64 hb) (small_m64 ha hb)))
  have IM := Lib.hid (fun (w0 : World) (v : Value) (h : NumAt w0 v (a * b)) (W : World) (hW : Below w0.heap.size w0 W) => is_same HR h (small_m64 ha hb) (by omega) W hW)
  have IA := Lib.hid (fun (w0 : World) (v : Value) (h : NumAt w0 v a) (W : World) (hW : Below w0.heap.size w0 W) => is_same HR h (small_i64 ha) (by omega) W hW)
  have IU := Lib.hid (fun (w0 : World) (v : Value) (h : NumAt w0 v (m : Int)) (W : World) (hW : Below w0.heap.size w0 W) => is_same HR h KU (by omega) W hW)
  clear ha hb hc hd HR KU hmb
  go_enter Try.func6, Try.ntmps6
  go_wp2_with fail
  refine (F1.out _).mono ?_
  rintro e w1 ⟨rfl, hb_w1⟩
  obtain ⟨hc_w1, hf_w1⟩ := bcell hb_w1
  have hz_w1 := hb_w1.size
  try simp at hz_w1
  have hB_w1 : Below w.heap.size w w1 := Below.trans (by go_grown) (hb_w1.mono (by go_size))
  have hs_w1_0 : w.heap.size < w1.heap.size := by omega
  go_wp2_with fail
  refine (F2.out _).mono ?_
  rintro e w2 ⟨rfl, hb_w2⟩
  obtain ⟨hc_w2, hf_w2⟩ := bcell hb_w2
  have hz_w2 := hb_w2.size
  try simp at hz_w2
  have hB_w2 : Below w.heap.size w w2 := Below.trans (by go_grown) (hb_w2.mono (by go_size))
  have hs_w2_0 : w.heap.size < w2.heap.size := by omega
  go_wp2_with fail
  refine wp_gen (fun Qw3 hW0 => ?_)
  have hB_Qw3 : Below w.heap.size w Qw3 := by rw [hW0]; go_grown
  have hs_Qw3_0 : w.heap.size < Qw3.heap.size := by rw [hW0]; first | omega | (simp; done) | (simp; omega)
  have hg_Qw3_0 : Qw3.cell? ⟨w.heap.size, 0, none⟩ = some (.int .i64 a) := by rw [hW0]; first | (go_simp; done) | (simp [*]; done)
  have hg_Qw3_1 : Qw3.cell? ⟨w.heap.size, 1, none⟩ = some (.int .i64 b) := by rw [hW0]; first | (go_simp; done) | (simp [*]; done)
  have hg_Qw3_2 : Qw3.cell? ⟨w.heap.size, 2, none⟩ = some (.int .i64 c) := by rw [hW0]; first | (go_simp; done) | (simp [*]; done)
  have hg_Qw3_3 : Qw3.cell? ⟨w.heap.size, 3, none⟩ = some (.int .i64 d) := by rw [hW0]; first | (go_simp; done) | (simp [*]; done)
  clear hW0
  have hq_Qw3 := @wd_cell Qw3
  refine wp_region_wd (by kernel_rfl) (by kernel_rfl) ?_
  repeat (go_big_quiet_step ((first | (go_at_call 28; with_reducible exact quiet_wd (C1.out _)) | (go_at_call 29; with_reducible exact quiet_wd (C2.out _)))))
  refine wpQuiet_nil ?_
  rintro w3 ⟨⟨wx, hb_w3⟩, hwx⟩
  obtain rfl : w3 = wx := hwx
  clear hq_Qw3
  obtain ⟨hc_w3, hf_w3⟩ := bcell hb_w3
  have hB_w3 : Below w.heap.size w w3 := Below.trans (by go_grown) (hb_w3.mono (by go_size))
  have hs_w3_0 : w.heap.size < w3.heap.size := Nat.lt_of_lt_of_le hs_Qw3_0 hb_w3.size
  go_wp2_with fail
  have z3 := hB_w3.size
  have zq3 : w.heap.size < w3.heap.size := by omega
  go_region_held3 (fun w' => Below w3.heap.size w3 w' ∧ (∀ b o, b < w3.heap.size → w'.cell? ⟨b, o, none⟩ = w3.cell? ⟨b, o, none⟩))
    (first | assumption | (repeat' (first | assumption | (with_reducible exact held_refl _) | (with_reducible refine held_drew ?_) | (with_reducible refine held_alloc _ ?_) | (with_reducible refine held_set _ (by omega) ?_))))
    (first
      | (go_at_call 30; refine (open_num (mul_num (hO2.below (by go_grown)) (ho2.below (by go_grown)) K.out.1 K.out.2.1 (by omega) _ (Below.refl _ _))).mono ?_; rintro e wm ⟨bm, Am, nm, cm2, dm, rfl, hsm, hrm, htm, hvm, hb_wm⟩; have hS_wm := held_step hb_wm (W0 := w3) (by first | assumption | (repeat' (first | assumption | (with_reducible exact held_refl _) | (with_reducible refine held_drew ?_) | (with_reducible refine held_alloc _ ?_)))); have hG_wm := hS_wm.1; obtain ⟨hc_wm, hf_wm⟩ := bcell hb_wm; have hz_wm := hb_wm.size; (try simp at hz_wm); (try have hs1 : w3.heap.size < wm.heap.size := (by omega)); (try have hs2 : wo.heap.size < wm.heap.size := (by omega)); (try have hs3 : wo2.heap.size < wm.heap.size := (by omega)))
      | (go_at_call 31; with_reducible refine (OA.out _).mono ?_; rintro e wo ⟨vo, rfl, ho, hb_wo⟩; (first | replace hb_wo := undrew hb_wo | skip); have hS_wo := held_step hb_wo (W0 := w3) (by first | assumption | (repeat' (first | assumption | (with_reducible exact held_refl _) | (with_reducible refine held_drew ?_) | (with_reducible refine held_alloc _ ?_)))); have hG_wo := hS_wo.1; obtain ⟨hc_wo, hf_wo⟩ := bcell hb_wo; have hz_wo := hb_wo.size; (try simp at hz_wo); (try have hs4 : w3.heap.size < wo.heap.size := (by omega)))
      | (go_at_call 31; with_reducible refine (OB.out _).mono ?_; rintro e wo2 ⟨vo2, rfl, ho2, hb_wo2⟩; (first | replace hb_wo2 := undrew hb_wo2 | skip); have hS_wo2 := held_step hb_wo2 (W0 := w3) (by first | assumption | (repeat' (first | assumption | (with_reducible exact held_refl _) | (with_reducible refine held_drew ?_) | (with_reducible refine held_alloc _ ?_)))); have hG_wo2 := hS_wo2.1; obtain ⟨hc_wo2, hf_wo2⟩ := bcell hb_wo2; have hz_wo2 := hb_wo2.size; (try simp at hz_wo2); have hO2 : NumAt wo2 vo a := ho.below (by first | exact hb_wo2 | exact Below.trans ((Below.refl _ _).alloc (Nat.le_refl _) _) (hb_wo2.mono (by simp))); (try have hs5 : w3.heap.size < wo2.heap.size := (by omega)); (try have hs6 : wo.heap.size < wo2.heap.size := (by omega))))
  all_goals
    have hM6 : NumAt wm (.agg #[.bool bm, .slice Am nm cm2]) (a * b) := num_mk hrm htm hsm.out hvm.out
    clear hrm htm hsm hvm
    go_wp2_with fail
    refine wp_gen (fun W hW => ?_)
    have hS : Below w3.heap.size w3 W ∧ (∀ b o, b < w3.heap.size → W.cell? ⟨b, o, none⟩ = w3.cell? ⟨b, o, none⟩) := by
      rw [hW]
      repeat' (first | assumption | (with_reducible exact held_refl _) | (with_reducible refine held_drew ?_) | (with_reducible refine held_alloc _ ?_) | (with_reducible refine held_set _ (by omega) ?_))
    have g0 : W.cell? ⟨w.heap.size, 0, none⟩ = some (.int .i64 a) := (hS.2 _ _ zq3).trans (by first | (go_simp; done) | (simp [*]; done))
    have g1 : W.cell? ⟨w.heap.size, 1, none⟩ = some (.int .i64 b) := (hS.2 _ _ zq3).trans (by first | (go_simp; done) | (simp [*]; done))
    have hM : NumAt W (.agg #[.bool bm, .slice Am nm cm2]) (a * b) := by
      rw [hW]
      first
        | exact MagAt.over hM6 (cs := #[.bool false, .slice none 0 0]) (by repeat' (first | (with_reducible exact Var.new' _ _ _ (by first | rfl | (simp; done) | (simp; omega))) | (with_reducible refine Var.drew ?_) | (with_reducible refine Var.alloc ?_ _) | (with_reducible refine Var.keep ?_ hb_wm) | (with_reducible refine Var.keep ?_ hb_wo2) | (with_reducible refine Var.keep ?_ hb_wo))) _ _
        | exact hM6.below (by go_grown)
    have hB_W : Below w.heap.size w W := hB_w3.trans (hS.1.mono z3)
    first
      | (have g2 : W.cell? ⟨wm.heap.size, 0, none⟩ = some (.bool bm) := (by rw [hW]; first | (go_simp; done) | (simp [*]; done)); have g3 : W.cell? ⟨wm.heap.size, 1, none⟩ = some (.slice Am nm cm2) := (by rw [hW]; first | (go_simp; done) | (simp [*]; done)); have zz6 : wm.heap.size < W.heap.size := (by rw [hW]; first | omega | (simp; done) | (simp; omega)))
      | (have g2 : W.cell? ⟨wo2.heap.size, 0, none⟩ = some (.bool bm) := (by rw [hW]; first | (go_simp; done) | (simp [*]; done)); have g3 : W.cell? ⟨wo2.heap.size, 1, none⟩ = some (.slice Am nm cm2) := (by rw [hW]; first | (go_simp; done) | (simp [*]; done)); have zz6 : wo2.heap.size < W.heap.size := (by rw [hW]; first | omega | (simp; done) | (simp; omega)))
      | (have g2 : W.cell? ⟨wo.heap.size, 0, none⟩ = some (.bool bm) := (by rw [hW]; first | (go_simp; done) | (simp [*]; done)); have g3 : W.cell? ⟨wo.heap.size, 1, none⟩ = some (.slice Am nm cm2) := (by rw [hW]; first | (go_simp; done) | (simp [*]; done)); have zz6 : wo.heap.size < W.heap.size := (by rw [hW]; first | omega | (simp; done) | (simp; omega)))
      | (have g2 : W.cell? ⟨w3.heap.size, 0, none⟩ = some (.bool bm) := (by rw [hW]; first | (go_simp; done) | (simp [*]; done)); have g3 : W.cell? ⟨w3.heap.size, 1, none⟩ = some (.slice Am nm cm2) := (by rw [hW]; first | (go_simp; done) | (simp [*]; done)); have zz6 : w3.heap.size < W.heap.size := (by rw [hW]; first | omega | (simp; done) | (simp; omega)))
    have zz : w.heap.size < W.heap.size := Nat.lt_of_lt_of_le zq3 hS.1.size
    have zzB := hB_W.size
    clear hW hM6
    have hq_W := @wd_cell W
    refine wp_region_wd (by kernel_rfl) (by kernel_rfl) ?_
    repeat (go_big_quiet_step ((first | (go_at_call 32; with_reducible exact quiet_wd (MP.out _)) | (go_at_call 18; with_reducible exact quiet_wd (IM.out _ _ hM _ (Wd.h _))) | (go_at_call 33; with_reducible exact quiet_wd (G1.out _)) | (go_at_call 34; with_reducible exact quiet_wd (G2.out _)))))
    refine wpQuiet_nil ?_
    rintro w7 ⟨⟨wx, hb_w7⟩, hwx⟩
    obtain rfl : w7 = wx := hwx
    clear hq_W
    obtain ⟨hc_w7, hf_w7⟩ := bcell hb_w7
    have hB_w7 : Below w.heap.size w w7 := Below.trans (by go_grown) (hb_w7.mono (by go_size))
    have hs_w7_0 : w.heap.size < w7.heap.size := Nat.lt_of_lt_of_le (by assumption) hb_w7.size
    go_wp2_with fail
    have z7 := hb_w7.size
    have k7 : w7.cell? ⟨w.heap.size, 0, none⟩ = some (.int .i64 a) := (hc_w7 _ _ zz).trans g0
    have zq7 : w.heap.size < w7.heap.size := by omega
    go_region_held3 (fun w' => Below w7.heap.size w7 w' ∧ (∀ b o, b < w7.heap.size → w'.cell? ⟨b, o, none⟩ = w7.cell? ⟨b, o, none⟩))
      (first | assumption | exact held_start _)
      (first
        | (go_at_call 35; refine (PA.out _).mono ?_; rintro e wa ⟨rfl, hb_wa⟩; (first | replace hb_wa := undrew hb_wa | skip); have hS_wa := held_step hb_wa (W0 := w7) (by first | assumption | exact held_refl _))
        | (go_at_call 31; refine (OA.out _).mono ?_; rintro e wo ⟨vo, rfl, ho, hb_wo⟩; (first | replace hb_wo := undrew hb_wo | skip); have hS_wo := held_step hb_wo (W0 := w7) (by first | assumption | exact held_refl _))
        | (go_at_call 36; refine (PU.out _).mono ?_; rintro e wu ⟨rfl, hb_wu⟩; (first | replace hb_wu := undrew hb_wu | skip); have hS_wu := held_step hb_wu (W0 := w7) (by first | assumption | exact held_refl _))
        | (go_at_call 37; refine (RU.out _).mono ?_; rintro e wr ⟨vr, rfl, hr0, hb_wr⟩; have hr := num_of_mag hr0; (first | replace hb_wr := undrew hb_wr | skip); have hS_wr := held_step hb_wr (W0 := w7) (by first | assumption | exact held_refl _))
        | (go_at_call 18; with_reducible refine (IU.out _ _ hr _ (Below.refl _ _)).mono ?_; rintro e wi ⟨rfl, hb_wi⟩; have hS_wi := held_step hb_wi (W0 := w7) (by first | assumption | exact held_refl _))
        | (go_at_call 18; with_reducible refine (IA.out _ _ ho _ (Below.refl _ _)).mono ?_; rintro e wj ⟨rfl, hb_wj⟩; have hS_wj := held_step hb_wj (W0 := w7) (by first | assumption | exact held_refl _)))
    all_goals
      go_wp2_with fail
      go_ret
      exact ⟨rfl, hB_w7.trans (hS_wi.1.mono (by omega))⟩

end Go.Proofs.Ytedodoaeecbalaa
