/-
  Package seg: along.
-/
import Derived.Test.YthbndilnobjjgaaSegB
namespace Go.Proofs.Ythbndilnobjjgaa
open Go.RowKit

def MtV (m : Mt) : Value := .agg #[.int .u8 (m).k, .bool (m).inn, .int .i64 (m).f.1, .int .i64 (m).f.2, .int .i64 (m).t.1, .int .i64 (m).t.2]
theorem mt_if {p : Prop} [Decidable p] {a b : Mt} (h : p) : (if p then a else b) = a := if_pos h
set_option maxRecDepth 100000 in
set_option maxHeartbeats 800000 in
theorem along_any (u : Pt) (c d : Int) (hu : DvS u) (hL : 0 < dt u u) (hc : -9223372036854775807 ≤ c ∧ c ≤ 9223372036854775807) (hd : -9223372036854775807 ≤ d ∧ d ≤ 9223372036854775807) (w : World) :
    Calls Try.prog 70 #[.agg #[.int .i64 u.1, .int .i64 u.2], .int .i64 c, .int .i64 d] w fun e w' => e = .returned (.agg #[.int .u8 (mtAlong (dt u u) c d).k, .bool (mtAlong (dt u u) c d).inn, .int .i64 (mtAlong (dt u u) c d).f.1, .int .i64 (mtAlong (dt u u) c d).f.2, .int .i64 (mtAlong (dt u u) c d).t.1, .int .i64 (mtAlong (dt u u) c d).t.2]) ∧ Below w.heap.size w w' := by
  have HD := Lib.hid (fun W => vdot_any u u hu hu W)
  have hm : dt u u ≤ 9223372036854775807 := by
    have b1 := pr_bd hu.1 hu.1
    have b2 := pr_bd hu.2 hu.2
    unfold dt
    omega
  obtain ⟨L, hLe⟩ : ∃ L, dt u u = L := ⟨_, rfl⟩
  rw [hLe] at HD hL hm ⊢
  clear hLe hu
  have x1 : 0 ≤ max 0 (min c d) ∧ max 0 (min c d) ≤ 9223372036854775807 := by omega
  have y1 : min L (max c d) ≤ L ∧ -9223372036854775807 ≤ min L (max c d) := by omega
  unfold mtAlong
  obtain ⟨lo, hlo⟩ : ∃ x, min c d = x := ⟨_, rfl⟩
  obtain ⟨hi, hhi⟩ : ∃ x, max c d = x := ⟨_, rfl⟩
  rw [hlo] at x1 ⊢
  rw [hhi] at y1 ⊢
  obtain ⟨x, hx⟩ : ∃ x, max 0 lo = x := ⟨_, rfl⟩
  obtain ⟨y, hy⟩ : ∃ y, min L hi = y := ⟨_, rfl⟩
  rw [hx] at x1 ⊢
  rw [hy] at y1 ⊢
  have HO := Lib.hid (fun (h : Fr x L) W => one_any x L false h W)
  have HF1 := Lib.hid (fun (h : Fr x L) W => frac_any x L h W)
  have HF2 := Lib.hid (fun (h : Fr y L) W => frac_any y L h W)
  have f1 : (if d < c then d else c) = lo := by rw [← hlo]; split <;> omega
  have f2 : (if 0 < lo then lo else 0) = x := by rw [← hx]; split <;> omega
  have f3 : (if c < d then d else c) = hi := by rw [← hhi]; split <;> omega
  have f4 : (if hi < L then hi else L) = y := by rw [← hy]; split <;> omega
  clear hlo hhi hx hy hc hd
  rcases Int.lt_or_le y x with hyx | hyx
  · rw [if_pos hyx]
    clear HO HF1 HF2
    go_enter Try.func70, Try.ntmps70
    go_wp2_with fail
    refine (HD.out _).mono ?_
    rintro e w1 ⟨rfl, hb_w1⟩
    obtain ⟨hc_w1, hf_w1⟩ := bcell hb_w1
    have hz_w1 := hb_w1.size
    try simp at hz_w1
    have hB_w1 : Below w.heap.size w w1 := Below.trans (by go_grown) (hb_w1.mono (by go_size))
    have hs_w1_0 : w.heap.size < w1.heap.size := by omega
    have hs_w1_1 : w.heap.size + 1 < w1.heap.size := by omega
    have vR : Var w1 (w.heap.size + 1) 77 #[.int .u8 0, .bool false, .int .i64 0, .int .i64 0, .int .i64 0, .int .i64 0] := (Var.new' _ _ _ (by simp)).keep hb_w1
    clear hc_w1 hf_w1
    go_wp2_with (refine wpList_store6 rfl 77 (.tmp 6) (.tmp 26) rfl (w.heap.size + 1) _ _ _ _ _ _ rfl rfl _ _ _ _ _ _ (vR) (by kernel_rfl) (six_cells rfl rfl rfl rfl rfl rfl) ?_; intro wS vM hbM hsM; obtain ⟨m0, m1, m2, m3, m4, m5⟩ := var6 vM)
    refine bodyPost_ret (by simp [results, Try.results70, go_sem, *]; try rfl) rfl ?_
    exact ⟨rfl, Below.trans (by go_grown) (hbM.mono (by omega))⟩
  · rcases Decidable.em (x = y) with hxy | hxy
    · subst hxy
      rw [if_neg (by omega), if_pos rfl]
      have HO1 := Lib.hid (HO.out ⟨⟨x1.1, x1.2⟩, hL, hm⟩)
      show Calls _ _ _ _ fun e w' => e = .returned (.agg #[.int .u8 1, .bool false, .int .i64 (fr x L).1, .int .i64 (fr x L).2, .int .i64 (fr x L).1, .int .i64 (fr x L).2]) ∧ _
      obtain ⟨q1, hq1⟩ : ∃ q, (fr x L).1 = q := ⟨_, rfl⟩
      obtain ⟨q2, hq2⟩ : ∃ q, (fr x L).2 = q := ⟨_, rfl⟩
      rw [hq1, hq2] at HO1 ⊢
      clear HO HF1 HF2 hq1 hq2
      go_enter Try.func70, Try.ntmps70
      go_wp2_with fail
      refine (HD.out _).mono ?_
      rintro e w1 ⟨rfl, hb_w1⟩
      obtain ⟨hc_w1, hf_w1⟩ := bcell hb_w1
      have hz_w1 := hb_w1.size
      try simp at hz_w1
      have hB_w1 : Below w.heap.size w w1 := Below.trans (by go_grown) (hb_w1.mono (by go_size))
      have hs_w1_0 : w.heap.size < w1.heap.size := by omega
      have hs_w1_1 : w.heap.size + 1 < w1.heap.size := by omega
      have vR : Var w1 (w.heap.size + 1) 77 #[.int .u8 0, .bool false, .int .i64 0, .int .i64 0, .int .i64 0, .int .i64 0] := (Var.new' _ _ _ (by simp)).keep hb_w1
      clear hc_w1 hf_w1
      go_wp2_with fail
      refine (HO1.out _).mono ?_
      rintro e w2 ⟨rfl, hb_w2⟩
      obtain ⟨hc_w2, hf_w2⟩ := bcell hb_w2
      have hz_w2 := hb_w2.size
      try simp at hz_w2
      have hB_w2 : Below w.heap.size w w2 := Below.trans (by go_grown) (hb_w2.mono (by go_size))
      have hs_w2_0 : w.heap.size + 1 < w2.heap.size := by omega
      have vR2 := vR.keep hb_w2
      clear hc_w2 hf_w2
      go_wp2_with (refine wpList_store6 rfl 77 (.tmp 6) (.tmp 33) rfl (w.heap.size + 1) _ _ _ _ _ _ rfl rfl _ _ _ _ _ _ (vR2) (by kernel_rfl) (six_cells rfl rfl rfl rfl rfl rfl) ?_; intro wS vM hbM hsM; obtain ⟨m0, m1, m2, m3, m4, m5⟩ := var6 vM)
      refine bodyPost_ret (by simp [results, Try.results70, go_sem, *]; try rfl) rfl ?_
      exact ⟨rfl, Below.trans (by go_grown) (hbM.mono (by omega))⟩
    · rw [if_neg (by omega), if_neg hxy]
      have HX := Lib.hid (HF1.out ⟨⟨x1.1, x1.2⟩, hL, hm⟩)
      have HY := Lib.hid (HF2.out ⟨⟨by omega, by omega⟩, hL, hm⟩)
      show Calls _ _ _ _ fun e w' => e = .returned (.agg #[.int .u8 2, .bool false, .int .i64 (fr x L).1, .int .i64 (fr x L).2, .int .i64 (fr y L).1, .int .i64 (fr y L).2]) ∧ _
      obtain ⟨q1, hq1⟩ : ∃ q, (fr x L).1 = q := ⟨_, rfl⟩
      obtain ⟨q2, hq2⟩ : ∃ q, (fr x L).2 = q := ⟨_, rfl⟩
      obtain ⟨q3, hq3⟩ : ∃ q, (fr y L).1 = q := ⟨_, rfl⟩
      obtain ⟨q4, hq4⟩ : ∃ q, (fr y L).2 = q := ⟨_, rfl⟩
      rw [hq1, hq2] at HX
      rw [hq3, hq4] at HY
      rw [hq1, hq2, hq3, hq4]
      clear HO HF1 HF2 hq1 hq2 hq3 hq4
      go_enter Try.func70, Try.ntmps70
      go_wp2_with fail
      refine (HD.out _).mono ?_
      rintro e w1 ⟨rfl, hb_w1⟩
      obtain ⟨hc_w1, hf_w1⟩ := bcell hb_w1
      have hz_w1 := hb_w1.size
      try simp at hz_w1
      have hB_w1 : Below w.heap.size w w1 := Below.trans (by go_grown) (hb_w1.mono (by go_size))
      have hs_w1_0 : w.heap.size < w1.heap.size := by omega
      have hs_w1_1 : w.heap.size + 1 < w1.heap.size := by omega
      have vR : Var w1 (w.heap.size + 1) 77 #[.int .u8 0, .bool false, .int .i64 0, .int .i64 0, .int .i64 0, .int .i64 0] := (Var.new' _ _ _ (by simp)).keep hb_w1
      clear hc_w1 hf_w1
      go_wp2_with fail
      refine (HX.out _).mono ?_
      rintro e w2 ⟨rfl, hb_w2⟩
      obtain ⟨hc_w2, hf_w2⟩ := bcell hb_w2
      have hz_w2 := hb_w2.size
      try simp at hz_w2
      have hB_w2 : Below w.heap.size w w2 := Below.trans (by go_grown) (hb_w2.mono (by go_size))
      have hs_w2_0 : w.heap.size + 1 < w2.heap.size := by omega
      have vR2 := vR.keep hb_w2
      clear hc_w2 hf_w2
      go_wp2_with fail
      refine (HY.out _).mono ?_
      rintro e w3 ⟨rfl, hb_w3⟩
      obtain ⟨hc_w3, hf_w3⟩ := bcell hb_w3
      have hz_w3 := hb_w3.size
      try simp at hz_w3
      have hB_w3 : Below w.heap.size w w3 := Below.trans (by go_grown) (hb_w3.mono (by go_size))
      have hs_w3_0 : w.heap.size + 1 < w3.heap.size := by omega
      have vR3 := vR2.keep hb_w3
      clear hc_w3 hf_w3
      go_wp2_with (refine wpList_store6 rfl 77 (.tmp 6) (.tmp 40) rfl (w.heap.size + 1) _ _ _ _ _ _ rfl rfl _ _ _ _ _ _ (vR3) (by kernel_rfl) (six_cells rfl rfl rfl rfl rfl rfl) ?_; intro wS vM hbM hsM; obtain ⟨m0, m1, m2, m3, m4, m5⟩ := var6 vM)
      refine bodyPost_ret (by simp [results, Try.results70, go_sem, *]; try rfl) rfl ?_
      exact ⟨rfl, Below.trans (by go_grown) (hbM.mono (by omega))⟩

end Go.Proofs.Ythbndilnobjjgaa
