/-
  Proved: the law SegNears returns true for any two segments and any radius. No condition.
-/
import Derived.Test.YtpjgghakeaajbaaNearM
import Derived.Test.YtpjgghakeaajbaaMeetC
import Derived.Test.YtpjgghakeaajbaaLives
import Derived.Lib.SmallJoins
namespace Go.Proofs.Ytpjgghakeaajbaa
open Go.ChangeShapes Go.WideShapes Go.ChangeAt Go.RowKit

set_option maxRecDepth 100000 in
theorem open_quad {W : World} {base : Nat} {v : Value} (hv : Value.okWide Try.prog W .any base 25 v) : ∃ a b c d e f g h, I32 a ∧ I32 b ∧ I32 c ∧ I32 d ∧ I32 e ∧ I32 f ∧ I32 g ∧ I32 h ∧ v = .agg #[.int .i32 a, .int .i32 b, .int .i32 c, .int .i32 d, .int .i32 e, .int .i32 f, .int .i32 g, .int .i32 h] := by
  obtain ⟨cs, rfl, hl, hall⟩ := open_cells (ts := [21, 21, 21, 21, 21, 21, 21, 21]) Try.underlying25 (by kernel_rfl) (by kernel_rfl) hv
  match cs, hl with
  | [c0, c1, c2, c3, c4, c5, c6, c7], _ =>
    obtain ⟨t0, e0, h0⟩ := hall 0 c0 rfl
    obtain ⟨t1, e1, h1⟩ := hall 1 c1 rfl
    obtain ⟨t2, e2, h2⟩ := hall 2 c2 rfl
    obtain ⟨t3, e3, h3⟩ := hall 3 c3 rfl
    obtain ⟨t4, e4, h4⟩ := hall 4 c4 rfl
    obtain ⟨t5, e5, h5⟩ := hall 5 c5 rfl
    obtain ⟨t6, e6, h6⟩ := hall 6 c6 rfl
    obtain ⟨t7, e7, h7⟩ := hall 7 c7 rfl
    injection e0 with e0
    injection e1 with e1
    injection e2 with e2
    injection e3 with e3
    injection e4 with e4
    injection e5 with e5
    injection e6 with e6
    injection e7 with e7
    subst e0 e1 e2 e3 e4 e5 e6 e7
    obtain ⟨x0, rfl, k0⟩ := cell_int Try.underlying21 h0
    obtain ⟨x1, rfl, k1⟩ := cell_int Try.underlying21 h1
    obtain ⟨x2, rfl, k2⟩ := cell_int Try.underlying21 h2
    obtain ⟨x3, rfl, k3⟩ := cell_int Try.underlying21 h3
    obtain ⟨x4, rfl, k4⟩ := cell_int Try.underlying21 h4
    obtain ⟨x5, rfl, k5⟩ := cell_int Try.underlying21 h5
    obtain ⟨x6, rfl, k6⟩ := cell_int Try.underlying21 h6
    obtain ⟨x7, rfl, k7⟩ := cell_int Try.underlying21 h7
    exact ⟨x0, x1, x2, x3, x4, x5, x6, x7, has_i32 k0, has_i32 k1, has_i32 k2, has_i32 k3, has_i32 k4, has_i32 k5, has_i32 k6, has_i32 k7, rfl⟩

set_option maxHeartbeats 6400000 in
set_option maxRecDepth 100000 in
theorem segNears_core (a1 a2 b1 b2 c1 c2 d1 d2 r : Int) (hr : I64 r) (ha : I32 a1 ∧ I32 a2) (hb : I32 b1 ∧ I32 b2) (hc : I32 c1 ∧ I32 c2) (hd : I32 d1 ∧ I32 d2) (w : World) :
    Calls Try.prog 5 #[.agg #[.int .i32 a1, .int .i32 a2, .int .i32 b1, .int .i32 b2, .int .i32 c1, .int .i32 c2, .int .i32 d1, .int .i32 d2], .int .i64 r] w fun e w' => e = .returned (.bool true) ∧ Below w.heap.size w w' := by
  have f1 := fun W => foot_any (a1, a2) (c1, c2) (d1, d2) W
  have f2 := fun W => rfoot_any (a1, a2) (c1, c2) (d1, d2) ha hc hd W
  have f3 := fun W => foot_any (a1, a2) (c1, c2) (c1, c2) W
  have f4 := fun W => rfoot_any (a1, a2) (c1, c2) (c1, c2) ha hc hc W
  obtain ⟨⟨u1, u2⟩, hu⟩ : ∃ z, foot (a1, a2) (c1, c2) (d1, d2) = z := ⟨_, rfl⟩
  obtain ⟨⟨v1, v2⟩, hv⟩ : ∃ z, foot (a1, a2) (c1, c2) (c1, c2) = z := ⟨_, rfl⟩
  rw [hu] at f1 f2
  rw [hv] at f3 f4
  dsimp only at f1 f2 f3 f4
  have n1 := fun W => near_any (a1, a2) (c1, c2) (d1, d2) r hr W
  have n2 := fun W => by have z := near_r (a1, a2) (c1, c2) (d1, d2) r hr ha hc hd W; rw [nearD_is] at z; exact z
  have n3 := fun W => nearSeg_of meet_says (a1, a2) (b1, b2) (c1, c2) (d1, d2) r hr W
  have n4 := fun W => rnearSeg_any (a1, a2) (b1, b2) (c1, c2) (d1, d2) r hr ha hb hc hd W
  obtain ⟨x, hx⟩ : ∃ z, near (a1, a2) (c1, c2) (d1, d2) r = z := ⟨_, rfl⟩
  obtain ⟨y, hy⟩ : ∃ z, nearSeg (a1, a2) (b1, b2) (c1, c2) (d1, d2) r = z := ⟨_, rfl⟩
  rw [hx] at n1 n2
  rw [hy] at n3 n4
  dsimp only at n1 n2 n3 n4
  have LV := Lib.hid (fun W => lives_of meet_says W)
  have F1 := Lib.hid f1
  have F2 := Lib.hid f2
  have F3 := Lib.hid f3
  have F4 := Lib.hid f4
  have N1 := Lib.hid n1
  have N2 := Lib.hid n2
  have N3 := Lib.hid n3
  have N4 := Lib.hid n4
  clear f1 f2 f3 f4 n1 n2 n3 n4 hu hv hx hy hr ha hb hc hd
  go_enter Try.func5, Try.ntmps5
  go_wp2_with fail
  refine wp_gen (fun Qw2 hW0 => ?_)
  have hB_Qw2 : Below w.heap.size w Qw2 := by rw [hW0]; go_grown
  have hs_Qw2_0 : w.heap.size < Qw2.heap.size := by rw [hW0]; first | omega | (simp; done) | (simp; omega)
  have hg_Qw2_0 : Qw2.cell? ⟨w.heap.size, 0, none⟩ = some (.int .i32 a1) := by rw [hW0]; first | (go_simp; done) | (simp [*]; done)
  have hg_Qw2_1 : Qw2.cell? ⟨w.heap.size, 1, none⟩ = some (.int .i32 a2) := by rw [hW0]; first | (go_simp; done) | (simp [*]; done)
  have hg_Qw2_2 : Qw2.cell? ⟨w.heap.size, 2, none⟩ = some (.int .i32 b1) := by rw [hW0]; first | (go_simp; done) | (simp [*]; done)
  have hg_Qw2_3 : Qw2.cell? ⟨w.heap.size, 3, none⟩ = some (.int .i32 b2) := by rw [hW0]; first | (go_simp; done) | (simp [*]; done)
  have hg_Qw2_4 : Qw2.cell? ⟨w.heap.size, 4, none⟩ = some (.int .i32 c1) := by rw [hW0]; first | (go_simp; done) | (simp [*]; done)
  have hg_Qw2_5 : Qw2.cell? ⟨w.heap.size, 5, none⟩ = some (.int .i32 c2) := by rw [hW0]; first | (go_simp; done) | (simp [*]; done)
  have hg_Qw2_6 : Qw2.cell? ⟨w.heap.size, 6, none⟩ = some (.int .i32 d1) := by rw [hW0]; first | (go_simp; done) | (simp [*]; done)
  have hg_Qw2_7 : Qw2.cell? ⟨w.heap.size, 7, none⟩ = some (.int .i32 d2) := by rw [hW0]; first | (go_simp; done) | (simp [*]; done)
  clear hW0
  have hq_Qw2 := @wd_cell Qw2
  refine wp_region_wd (by kernel_rfl) (by kernel_rfl) ?_
  try simp only [List.append_eq, List.cons_append, List.nil_append]
  repeat (go_big_quiet_step ((first | (go_at_call 15; with_reducible exact quiet_wd (F1.out _)) | (go_at_call 16; with_reducible exact quiet_wd (F2.out _)) | (go_at_call 15; with_reducible exact quiet_wd (F3.out _)) | (go_at_call 16; with_reducible exact quiet_wd (F4.out _)))))
  refine wpQuiet_nil ?_
  rintro w2 ⟨⟨wx, hb_w2⟩, hwx⟩
  obtain rfl : w2 = wx := hwx
  clear hq_Qw2
  obtain ⟨hc_w2, hf_w2⟩ := bcell hb_w2
  have hB_w2 : Below w.heap.size w w2 := Below.trans (by go_grown) (hb_w2.mono (by go_size))
  have hs_w2_0 : w.heap.size < w2.heap.size := Nat.lt_of_lt_of_le hs_Qw2_0 hb_w2.size
  go_wp2_with fail
  have hs_x : w.heap.size < w2.heap.size := by omega
  have hq_w2 := @wd_cell w2
  refine wp_region_wd (by kernel_rfl) (by kernel_rfl) ?_
  try simp only [List.append_eq, List.cons_append, List.nil_append]
  repeat (go_big_quiet_step ((first | (go_at_call 13; with_reducible exact quiet_wd (N1.out _)) | (go_at_call 17; with_reducible exact quiet_wd (N2.out _)) | (go_at_call 12; with_reducible exact quiet_wd (N3.out _)) | (go_at_call 18; with_reducible exact quiet_wd (N4.out _)) | (go_at_call 10; with_reducible exact quiet_wd (LV.out _)))))
  refine wpQuiet_nil ?_
  rintro w4 ⟨⟨wx, hb_w4⟩, hwx⟩
  obtain rfl : w4 = wx := hwx
  clear hq_w2
  have hz_w4 := hb_w4.size
  obtain ⟨hc_w4, hf_w4⟩ := bcell hb_w4
  have hs_w4_0 : w.heap.size < w4.heap.size := Nat.lt_of_lt_of_le (by assumption) hb_w4.size
  go_wp2_with fail
  refine bodyPost_ret (by simp [results, Try.results5, go_sem, *]; try rfl) rfl ?_
  exact ⟨rfl, Below.trans hB_w2 (hb_w4.mono hB_w2.size)⟩

set_option maxRecDepth 100000 in
theorem segNears_walk (W : World) (base : Nat) (v0 v1 : Value) (k0 : Value.okWide Try.prog W .any base 25 v0) (k1 : Value.okWide Try.prog W .any base 2 v1) {H : Type} {enc : TypeId × Value → H} {d0 d1 : DataW H} {p0 p1 : List MemPlace} (_ : DataW.Trod enc Try.prog W 0 (fun _ => true) true 25 v0 d0 p0) (_ : DataW.Trod enc Try.prog W 0 (fun _ => true) true 2 v1 d1 p1) :
    Calls Try.prog 5 #[v0, v1] W fun e w' => e = .returned (.bool true) ∧ Below W.heap.size W w' := by
  obtain ⟨a, b, c, d, e, f, g, h, h1, h2, h3, h4, h5, h6, h7, h8, rfl⟩ := open_quad k0
  obtain ⟨r, rfl, hr⟩ := cell_int Try.underlying2 k1
  exact segNears_core a b c d e f g h r (has_i64 hr) ⟨h1, h2⟩ ⟨h3, h4⟩ ⟨h5, h6⟩ ⟨h7, h8⟩ W


set_option maxRecDepth 100000 in
theorem segNears_lifted (os : Os) (started : os.Started) (H : Type) (enc : TypeId × Value → H) :
    ReturnsInHanded {} Try.checked os 5 .any (Rows.segNearsSpec.pre6 enc Try.prog Try.f5 Rows.segNearsRow.domain false) (Rows.segNearsSpec.post enc Try.prog Try.f5 false true false false) := by
  refine returnsInHanded_of_change (C := Try.checked) own started (by kernel_rfl) Try.func5
    (ChangeSpec.witness6 (enc := enc) (C := Try.checked) false ⟨#[], #[.agg #[.int .i32 0, .int .i32 0, .int .i32 0, .int .i32 0, .int .i32 0, .int .i32 0, .int .i32 0, .int .i32 0], .int .i64 0], []⟩ 8 (by kernel_rfl) (by kernel_rfl) (by kernel_rfl) (by kernel_rfl)) ?_
  intro W base args ds gs before hval0 hW hcnd _
  have hval : ∀ (j : Nat) t v, Try.f5.params[j]? = some t → args[j]? = some v → Value.okWide Try.prog W .any base t v := hval0
  have hW' := hW
  obtain ⟨p, q, hA0, hV, rfl, hfz, hnd⟩ := hW
  have hA : DataW.TrodAll enc Try.prog W 0 (fun _ => true) true Try.f5.params.toList args.toList ds p := hA0
  rw [Try.params5] at hA hval
  obtain ⟨v0, v1, d0, d1, p0, p1, rfl, rfl, rfl, h0, h1⟩ := trodAll_two hA
  obtain ⟨rfl, rfl⟩ := trodVars_none hV
  clear hA0 hval0
  refine (segNears_walk W base v0 v1 (hval 0 25 v0 rfl rfl) (hval 1 2 v1 rfl rfl) h0 h1).mono fun e W' ⟨he, hb⟩ => ?_
  subst he
  exact ⟨_, rfl, law_post laidOut (by kernel_rfl) hW' rfl rfl Try.underlying4 rfl rfl rfl hb⟩

/-- For every input, whatever it is: the call returns true, and each argument reads as it did. -/
theorem segNears_holds : Rows.SegNearsSaid :=
  OpenClaim.holds_of_wide 5 Try.f5 rfl rfl rfl rfl rfl rfl rfl ⟨rfl, rfl, rfl, rfl, rfl⟩ rfl rfl rfl rfl rfl (by kernel_rfl) Try.func5 (by kernel_rfl)
    (of_decide_eq_true (by kernel_rfl)) (by unfold Func.isWrapper; first | (rw [if_pos (by decide +kernel)]; kernel_rfl) | (rw [if_neg (by decide +kernel)]; exact ⟨rfl, rfl⟩))
    (fun os started H enc _ => segNears_lifted os started H enc)
#print axioms segNears_holds


end Go.Proofs.Ytpjgghakeaajbaa
