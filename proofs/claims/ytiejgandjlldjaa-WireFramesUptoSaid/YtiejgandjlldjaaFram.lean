/-
  Package wire: Frame.
-/
import Derived.Test.YtiejgandjlldjaaOpen3
namespace Go.Proofs.Ytiejgandjlldjaa
open Go.RowKit

theorem OutFr.no {w : World} {O base : Nat} {l : List UInt8} (h : OutFr w O base l) : ∀ o b, w.cell? ⟨O, o, none⟩ ≠ some (B8 b) := by obtain ⟨A, n, c, h1, _⟩ := h; exact out_no h1

set_option maxRecDepth 100000 in
set_option maxHeartbeats 800000 in
theorem frame_any (A : Option Addr) (n c : Nat) (l : List UInt8) (w : World) (hs : Bs w A n c l) (hn : n ≤ 8184) :
    Calls Try.prog 11 #[.slice A n c] w fun e w' => ∃ A' c', e = .returned (.tuple #[.slice A' (n + 8) c', .int .i64 0]) ∧ Bs w' A' (n + 8) c' (frameB l) ∧ Fr w' w.heap.size A' (n + 8) ∧ Below w.heap.size w w' := by
  have hz : ∀ W, (zeroValue 85).run Try.prog W = .ok (.agg z256) W := (zero_of_info (P := Try.prog) (t := 85) (v := .agg z256) (n := 256) (by kernel_rfl)).1
  have hl := hs.len
  have hn' : ¬ (8184 : Int) < (n : Int) := by omega
  have hn2 : (n : Int) ≤ 8184 := by omega
  go_enter Try.func11, Try.ntmps11
  go_wp2_with fail
  obtain ⟨O, hO⟩ : ∃ O, O = w.heap.size := ⟨_, rfl⟩
  have hW0 : Below w.heap.size w ((w.alloc (.cells #[.slice none 0 0] 35)).alloc (.cells #[.int .u8 80, .int .u8 100] 5)) := by go_grown
  have ho0 : OutFr ((w.alloc (.cells #[.slice none 0 0] 35)).alloc (.cells #[.int .u8 80, .int .u8 100] 5)) w.heap.size w.heap.size [] := ⟨none, 0, 0, (Var.new _ _ _).alloc _, Bs.nil _, .inl rfl⟩
  have hk0 : Bs ((w.alloc (.cells #[.slice none 0 0] 35)).alloc (.cells #[.int .u8 80, .int .u8 100] 5)) (some ⟨w.heap.size + 1, 0, none⟩) 2 2 [80, 100] := ⟨rfl, by omega, by unfold maxLen; omega, .inr ⟨w.heap.size + 1, 0, rfl, by simp, fun j b hj => by
    have hv : Var ((w.alloc (.cells #[.slice none 0 0] 35)).alloc (.cells #[.int .u8 80, .int .u8 100] 5)) (w.heap.size + 1) 5 #[.int .u8 80, .int .u8 100] := Var.new' _ _ _ (by simp)
    rw [hv.cell (0 + j)]
    match j, hj with
    | 0, hj => injection hj with hj; rw [← hj]; rfl
    | 1, hj => injection hj with hj; rw [← hj]; rfl
    | j + 2, hj => simp at hj⟩⟩
  have hs0 := hs.below hW0
  refine (add_fr w.heap.size w.heap.size [] _ 2 2 [80, 100] _ ho0 (by simp; omega) hk0 (by simp)).mono ?_
  rintro e w1 ⟨⟨_, rfl⟩, ho1, hu1⟩
  have hs1 := bs_upd hs0 hu1 ho0.no
  have hB1 : Below w.heap.size w w1 := Upd.below hW0 hu1 (Nat.le_refl _) (by simp; omega)
  rw [List.nil_append] at ho1
  clear hu1 ho0 hk0 hs0 hW0
  go_wp2_with fail
  refine (put_u16 _ n (by omega) w1 (lays_fr ho1 hB1.size (leN 2 n) (by rw [leN_length]; simp))).mono ?_
  rintro e w2 ⟨⟨_, rfl⟩, ho2, hu2⟩
  have hs2 := bs_upd hs1 hu2 ho1.no
  have hB2 := Upd.below hB1 hu2 (Nat.le_refl _) hB1.size
  rw [show [80, 100] ++ leN 2 n = headB l by unfold headB; rw [hl]] at ho2
  clear hu2 ho1 hs1 hB1
  go_wp2_with fail
  have z2 := ho2.lt
  refine (sums_any w2).mono ?_
  rintro e w3 ⟨rfl, hb_w3⟩
  obtain ⟨hc_w3, hf_w3⟩ := bcell hb_w3
  have hz_w3 := hb_w3.size
  try simp at hz_w3
  have hs_w3_0 : w.heap.size < w3.heap.size := by omega
  have ho3 := ho2.keep hb_w3
  have hs3 := hs2.below hb_w3
  have hB3 := hB2.trans (hb_w3.mono hB2.size)
  clear ho2 hs2 hB2 hc_w3 hf_w3
  obtain ⟨A3, n3, c3, hv3, hbs3, hfr3⟩ := ho3
  have hl3 := hbs3.len
  rw [headB_length] at hl3
  subst hl3
  go_wp2_with (refine wpList_storeV rfl 85 (.tmp 5) (.tmp 15) rfl w3.heap.size tab z256 rfl rfl (Var.new _ _ _) (by kernel_rfl) (by simp [z256, tab]) tab_cells ?_; intro w4 hT4 hO4 hb4 hz4; have hb34 : Below w3.heap.size w3 w4 := Below.trans (by go_grown) hb4; have hv4 := hv3.keep hb34; have c4 : w4.cell? ⟨w.heap.size, 0, none⟩ = some (.slice A3 4 c3) := hv4.cell 0; have z4 := hv4.lt)
  have hs4 := hs3.below hb34
  have hbs4 := hbs3.below hb34
  have hfr4 := hfr3.keep hb34
  have hB4 := hB3.trans (hb34.mono hB3.size)
  have HC := Lib.hid (crc_any w3.heap.size A3 A 4 c3 n c (headB l) l w4 hT4 hbs4 hs4)
  clear hs3 hbs3 hfr3 hB3 hv3 hT4 hO4 hb4 hb34
  refine HC.out.mono ?_
  rintro e w5 ⟨rfl, hb5⟩
  have hs5 := hs4.below hb5
  have ho5 : OutFr w5 w.heap.size w.heap.size (headB l) := ⟨A3, 4, c3, hv4.keep hb5, hbs4.below hb5, hfr4.keep hb5⟩
  have hB5 := hB4.trans (hb5.mono hB4.size)
  clear hs4 hbs4 hfr4 hB4 hv4 hb5 c4 HC
  obtain ⟨x, hx⟩ : ∃ x, crcN (headB l ++ l) = x := ⟨_, rfl⟩
  have hxb := crcN_lt (headB l ++ l)
  rw [hx] at hxb ⊢
  go_wp2_with fail
  refine (put_u32 _ x hxb w5 (lays_fr ho5 hB5.size (leN 4 x) (by rw [leN_length, headB_length]; omega))).mono ?_
  rintro e w6 ⟨⟨_, rfl⟩, ho6, hu6⟩
  have hs6 := bs_upd hs5 hu6 ho5.no
  have hB6 := Upd.below hB5 hu6 (Nat.le_refl _) hB5.size
  clear hu6 ho5 hs5 hB5
  go_wp2_with fail
  refine (add_fr w.heap.size w.heap.size _ A n c l w6 ho6 hB6.size hs6 (by rw [List.length_append, leN_length, headB_length]; omega)).mono ?_
  rintro e w7 ⟨⟨_, rfl⟩, ho7, hu7⟩
  have hB7 := Upd.below hB6 hu7 (Nat.le_refl _) hB6.size
  rw [← hx, show headB l ++ leN 4 (crcN (headB l ++ l)) ++ l = frameB l from rfl] at ho7
  clear hu7 ho6 hs6 hB6 hx
  obtain ⟨A7, n7, c7, hv7, hbs7, hfr7⟩ := ho7
  have hl7 := hbs7.len
  rw [frameB_length, hl] at hl7
  subst hl7
  have c70 : w7.cell? ⟨w.heap.size, 0, none⟩ = some (.slice A7 (n + 8) c7) := hv7.cell 0
  go_wp2_with fail
  go_ret2
  exact ⟨A7, c7, rfl, hbs7, hfr7, hB7⟩

end Go.Proofs.Ytiejgandjlldjaa
