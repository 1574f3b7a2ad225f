/-
  Proved: the law SegMeets returns true for any two segments. No condition.
-/
import Derived.Test.YtpjgghakeaajbaaMeetRf
import Derived.Test.YtpjgghakeaajbaaMeetC
import Derived.Test.YtpjgghakeaajbaaOpenQuad
namespace Go.Proofs.Ytpjgghakeaajbaa
open Go.ChangeShapes Go.WideShapes Go.ChangeAt Go.RowKit

set_option maxHeartbeats 3200000 in
set_option maxRecDepth 100000 in
theorem segMeets_core (a1 a2 b1 b2 c1 c2 d1 d2 : Int) (w : World) :
    Calls Try.prog 3 #[.agg #[.int .i32 a1, .int .i32 a2, .int .i32 b1, .int .i32 b2, .int .i32 c1, .int .i32 c2, .int .i32 d1, .int .i32 d2]] w fun e w' => e = .returned (.bool true) ∧ Below w.heap.size w w' := by
  have m1 := fun W => by have z := meet_r (a1, a2) (b1, b2) (c1, c2) (d1, d2) W; rw [meetR_is] at z; unfold MtV at z; exact z
  have m2 := fun W => meet_says (a1, a2) (b1, b2) (c1, c2) (d1, d2) W
  have m3 := fun W => touch_of meet_says (a1, a2) (b1, b2) (c1, c2) (d1, d2) W
  have LV := Lib.hid (fun W => lives_of meet_says W)
  have ht : touches (a1, a2) (b1, b2) (c1, c2) (d1, d2) = !((meet (a1, a2) (b1, b2) (c1, c2) (d1, d2)).k == 0) := by
    unfold touches
    rw [Bool.eq_iff_iff]
    simp
  rw [ht] at m3
  obtain ⟨⟨mk, mi, ⟨f1, f2⟩, ⟨t1, t2⟩⟩, hm⟩ : ∃ z, meet (a1, a2) (b1, b2) (c1, c2) (d1, d2) = z := ⟨_, rfl⟩
  rw [hm] at m1 m2 m3
  obtain ⟨q, hq⟩ : ∃ q, (mk == 0) = q := ⟨_, rfl⟩
  dsimp only at m1 m2 m3
  rw [hq] at m3
  have M1 := Lib.hid m1
  have M2 := Lib.hid m2
  have M3 := Lib.hid m3
  clear m1 m2 m3 ht hm
  cases q
  · simp only [Bool.not_true, Bool.not_false] at M3
    have hq2 : (mk != 0) = true := by rw [bne, hq]; rfl
    go_enter Try.func3, Try.ntmps3
    go_wp2_with fail
    refine (M1.out _).mono ?_
    rintro e w1 ⟨rfl, hb_w1⟩
    obtain ⟨hc_w1, hf_w1⟩ := bcell hb_w1
    have hz_w1 := hb_w1.size
    try simp at hz_w1
    have hB_w1 : Below w.heap.size w w1 := Below.trans (by go_grown) (hb_w1.mono (by go_size))
    have hs_w1_0 : w.heap.size < w1.heap.size := by omega
    go_wp2_with fail
    refine wp_gen (fun Qw2 hW0 => ?_)
    have hB_Qw2 : Below w.heap.size w Qw2 := by rw [hW0]; go_grown
    have hs_Qw2_0 : w.heap.size < Qw2.heap.size := by rw [hW0]; first | omega | (simp; done) | (simp; omega)
    have hs_Qw2_1 : w1.heap.size < Qw2.heap.size := by rw [hW0]; first | omega | (simp; done) | (simp; omega)
    have hg_Qw2_0 : Qw2.cell? ⟨w.heap.size, 0, none⟩ = some (.int .i32 a1) := by rw [hW0]; first | (go_simp; done) | (simp [*]; done)
    have hg_Qw2_1 : Qw2.cell? ⟨w.heap.size, 1, none⟩ = some (.int .i32 a2) := by rw [hW0]; first | (go_simp; done) | (simp [*]; done)
    have hg_Qw2_2 : Qw2.cell? ⟨w.heap.size, 2, none⟩ = some (.int .i32 b1) := by rw [hW0]; first | (go_simp; done) | (simp [*]; done)
    have hg_Qw2_3 : Qw2.cell? ⟨w.heap.size, 3, none⟩ = some (.int .i32 b2) := by rw [hW0]; first | (go_simp; done) | (simp [*]; done)
    have hg_Qw2_4 : Qw2.cell? ⟨w.heap.size, 4, none⟩ = some (.int .i32 c1) := by rw [hW0]; first | (go_simp; done) | (simp [*]; done)
    have hg_Qw2_5 : Qw2.cell? ⟨w.heap.size, 5, none⟩ = some (.int .i32 c2) := by rw [hW0]; first | (go_simp; done) | (simp [*]; done)
    have hg_Qw2_6 : Qw2.cell? ⟨w.heap.size, 6, none⟩ = some (.int .i32 d1) := by rw [hW0]; first | (go_simp; done) | (simp [*]; done)
    have hg_Qw2_7 : Qw2.cell? ⟨w.heap.size, 7, none⟩ = some (.int .i32 d2) := by rw [hW0]; first | (go_simp; done) | (simp [*]; done)
    have hg_Qw2_8 : Qw2.cell? ⟨w1.heap.size, 0, none⟩ = some (.int .u8 mk) := by rw [hW0]; first | (go_simp; done) | (simp [*]; done)
    have hg_Qw2_9 : Qw2.cell? ⟨w1.heap.size, 1, none⟩ = some (.bool mi) := by rw [hW0]; first | (go_simp; done) | (simp [*]; done)
    have hg_Qw2_10 : Qw2.cell? ⟨w1.heap.size, 2, none⟩ = some (.int .i64 f1) := by rw [hW0]; first | (go_simp; done) | (simp [*]; done)
    have hg_Qw2_11 : Qw2.cell? ⟨w1.heap.size, 3, none⟩ = some (.int .i64 f2) := by rw [hW0]; first | (go_simp; done) | (simp [*]; done)
    have hg_Qw2_12 : Qw2.cell? ⟨w1.heap.size, 4, none⟩ = some (.int .i64 t1) := by rw [hW0]; first | (go_simp; done) | (simp [*]; done)
    have hg_Qw2_13 : Qw2.cell? ⟨w1.heap.size, 5, none⟩ = some (.int .i64 t2) := by rw [hW0]; first | (go_simp; done) | (simp [*]; done)
    clear hW0
    have hq_Qw2 := @wd_cell Qw2
    refine wp_region_wd (by kernel_rfl) (by kernel_rfl) ?_
    repeat (go_big_quiet_step ((first | (go_at_call 8; with_reducible exact quiet_wd (M2.out _)) | (go_at_call 9; with_reducible exact quiet_wd (M3.out _)) | (go_at_call 10; with_reducible exact quiet_wd (LV.out _)))))
    refine wpQuiet_nil ?_
    rintro w2 ⟨⟨wx, hb_w2⟩, hwx⟩
    obtain rfl : w2 = wx := hwx
    clear hq_Qw2
    obtain ⟨hc_w2, hf_w2⟩ := bcell hb_w2
    have hB_w2 : Below w.heap.size w w2 := Below.trans (by go_grown) (hb_w2.mono (by go_size))
    have hs_w2_0 : w.heap.size < w2.heap.size := Nat.lt_of_lt_of_le hs_Qw2_0 hb_w2.size
    have hs_w2_1 : w1.heap.size < w2.heap.size := Nat.lt_of_lt_of_le hs_Qw2_1 hb_w2.size
    go_wp2_with fail
    refine bodyPost_ret (by simp [results, Try.results3, go_sem, *]; try rfl) rfl ?_
    exact ⟨rfl, by go_grown⟩
  · simp only [Bool.not_true, Bool.not_false] at M3
    have hq2 : (mk != 0) = false := by rw [bne, hq]; rfl
    go_enter Try.func3, Try.ntmps3
    go_wp2_with fail
    refine (M1.out _).mono ?_
    rintro e w1 ⟨rfl, hb_w1⟩
    obtain ⟨hc_w1, hf_w1⟩ := bcell hb_w1
    have hz_w1 := hb_w1.size
    try simp at hz_w1
    have hB_w1 : Below w.heap.size w w1 := Below.trans (by go_grown) (hb_w1.mono (by go_size))
    have hs_w1_0 : w.heap.size < w1.heap.size := by omega
    go_wp2_with fail
    refine wp_gen (fun Qw2 hW0 => ?_)
    have hB_Qw2 : Below w.heap.size w Qw2 := by rw [hW0]; go_grown
    have hs_Qw2_0 : w.heap.size < Qw2.heap.size := by rw [hW0]; first | omega | (simp; done) | (simp; omega)
    have hs_Qw2_1 : w1.heap.size < Qw2.heap.size := by rw [hW0]; first | omega | (simp; done) | (simp; omega)
    have hg_Qw2_0 : Qw2.cell? ⟨w.heap.size, 0, none⟩ = some (.int .i32 a1) := by rw [hW0]; first | (go_simp; done) | (simp [*]; done)
    have hg_Qw2_1 : Qw2.cell? ⟨w.heap.size, 1, none⟩ = some (.int .i32 a2) := by rw [hW0]; first | (go_simp; done) | (simp [*]; done)
    have hg_Qw2_2 : Qw2.cell? ⟨w.heap.size, 2, none⟩ = some (.int .i32 b1) := by rw [hW0]; first | (go_simp; done) | (simp [*]; done)
    have hg_Qw2_3 : Qw2.cell? ⟨w.heap.size, 3, none⟩ = some (.int .i32 b2) := by rw [hW0]; first | (go_simp; done) | (simp [*]; done)
    have hg_Qw2_4 : Qw2.cell? ⟨w.heap.size, 4, none⟩ = some (.int .i32 c1) := by rw [hW0]; first | (go_simp; done) | (simp [*]; done)
    have hg_Qw2_5 : Qw2.cell? ⟨w.heap.size, 5, none⟩ = some (.int .i32 c2) := by rw [hW0]; first | (go_simp; done) | (simp [*]; done)
    have hg_Qw2_6 : Qw2.cell? ⟨w.heap.size, 6, none⟩ = some (.int .i32 d1) := by rw [hW0]; first | (go_simp; done) | (simp [*]; done)
    have hg_Qw2_7 : Qw2.cell? ⟨w.heap.size, 7, none⟩ = some (.int .i32 d2) := by rw [hW0]; first | (go_simp; done) | (simp [*]; done)
    have hg_Qw2_8 : Qw2.cell? ⟨w1.heap.size, 0, none⟩ = some (.int .u8 mk) := by rw [hW0]; first | (go_simp; done) | (simp [*]; done)
    have hg_Qw2_9 : Qw2.cell? ⟨w1.heap.size, 1, none⟩ = some (.bool mi) := by rw [hW0]; first | (go_simp; done) | (simp [*]; done)
    have hg_Qw2_10 : Qw2.cell? ⟨w1.heap.size, 2, none⟩ = some (.int .i64 f1) := by rw [hW0]; first | (go_simp; done) | (simp [*]; done)
    have hg_Qw2_11 : Qw2.cell? ⟨w1.heap.size, 3, none⟩ = some (.int .i64 f2) := by rw [hW0]; first | (go_simp; done) | (simp [*]; done)
    have hg_Qw2_12 : Qw2.cell? ⟨w1.heap.size, 4, none⟩ = some (.int .i64 t1) := by rw [hW0]; first | (go_simp; done) | (simp [*]; done)
    have hg_Qw2_13 : Qw2.cell? ⟨w1.heap.size, 5, none⟩ = some (.int .i64 t2) := by rw [hW0]; first | (go_simp; done) | (simp [*]; done)
    clear hW0
    have hq_Qw2 := @wd_cell Qw2
    refine wp_region_wd (by kernel_rfl) (by kernel_rfl) ?_
    repeat (go_big_quiet_step ((first | (go_at_call 8; with_reducible exact quiet_wd (M2.out _)) | (go_at_call 9; with_reducible exact quiet_wd (M3.out _)) | (go_at_call 10; with_reducible exact quiet_wd (LV.out _)))))
    refine wpQuiet_nil ?_
    rintro w2 ⟨⟨wx, hb_w2⟩, hwx⟩
    obtain rfl : w2 = wx := hwx
    clear hq_Qw2
    obtain ⟨hc_w2, hf_w2⟩ := bcell hb_w2
    have hB_w2 : Below w.heap.size w w2 := Below.trans (by go_grown) (hb_w2.mono (by go_size))
    have hs_w2_0 : w.heap.size < w2.heap.size := Nat.lt_of_lt_of_le hs_Qw2_0 hb_w2.size
    have hs_w2_1 : w1.heap.size < w2.heap.size := Nat.lt_of_lt_of_le hs_Qw2_1 hb_w2.size
    go_wp2_with fail
    refine bodyPost_ret (by simp [results, Try.results3, go_sem, *]; try rfl) rfl ?_
    exact ⟨rfl, by go_grown⟩

set_option maxRecDepth 100000 in
theorem segMeets_walk (W : World) (base : Nat) (v0 : Value) (k0 : Value.okWide Try.prog W .any base 25 v0) {H : Type} {enc : TypeId × Value → H} {d0 : DataW H} {p0 : List MemPlace} (_ : DataW.Trod enc Try.prog W 0 (fun _ => true) true 25 v0 d0 p0) :
    Calls Try.prog 3 #[v0] W fun e w' => e = .returned (.bool true) ∧ Below W.heap.size W w' := by
  obtain ⟨a, b, c, d, e, f, g, h, h1, h2, h3, h4, h5, h6, h7, h8, rfl⟩ := open_quad k0
  exact segMeets_core a b c d e f g h W


set_option maxRecDepth 100000 in
theorem segMeets_lifted (os : Os) (started : os.Started) (H : Type) (enc : TypeId × Value → H) :
    ReturnsInHanded {} Try.checked os 3 .any (Rows.segMeetsSpec.pre6 enc Try.prog Try.f3 Rows.segMeetsRow.domain false) (Rows.segMeetsSpec.post enc Try.prog Try.f3 false true false false) := by
  refine returnsInHanded_of_change (C := Try.checked) own started (by kernel_rfl) Try.func3
    (ChangeSpec.witness6 (enc := enc) (C := Try.checked) false ⟨#[], #[.agg #[.int .i32 0, .int .i32 0, .int .i32 0, .int .i32 0, .int .i32 0, .int .i32 0, .int .i32 0, .int .i32 0]], []⟩ 8 (by kernel_rfl) (by kernel_rfl) (by kernel_rfl) (by kernel_rfl)) ?_
  intro W base args ds gs before hval0 hW hcnd _
  have hval : ∀ (j : Nat) t v, Try.f3.params[j]? = some t → args[j]? = some v → Value.okWide Try.prog W .any base t v := hval0
  have hW' := hW
  obtain ⟨p, q, hA0, hV, rfl, hfz, hnd⟩ := hW
  have hA : DataW.TrodAll enc Try.prog W 0 (fun _ => true) true Try.f3.params.toList args.toList ds p := hA0
  rw [Try.params3] at hA hval
  obtain ⟨v0, d0, rfl, rfl, h0⟩ := trodAll_one hA
  obtain ⟨rfl, rfl⟩ := trodVars_none hV
  clear hA0 hval0
  refine (segMeets_walk W base v0 (hval 0 25 v0 rfl rfl) h0).mono fun e W' ⟨he, hb⟩ => ?_
  subst he
  exact ⟨_, rfl, law_post laidOut (by kernel_rfl) hW' rfl rfl Try.underlying4 rfl rfl rfl hb⟩

/-- For every input, whatever it is: the call returns true, and each argument reads as it did. -/
theorem segMeets_holds : Rows.SegMeetsSaid :=
  OpenClaim.holds_of_wide 3 Try.f3 rfl rfl rfl rfl rfl rfl rfl ⟨rfl, rfl, rfl, rfl, rfl⟩ rfl rfl rfl rfl rfl (by kernel_rfl) Try.func3 (by kernel_rfl)
    (of_decide_eq_true (by kernel_rfl)) (by unfold Func.isWrapper; first | (rw [if_pos (by decide +kernel)]; kernel_rfl) | (rw [if_neg (by decide +kernel)]; exact ⟨rfl, rfl⟩))
    (fun os started H enc _ => segMeets_lifted os started H enc)
#print axioms segMeets_holds


end Go.Proofs.Ytpjgghakeaajbaa
