/-
  wire.Frame: what it answers may be appended to; bytes that are filled in place.
-/
import Derived.Test.YtiejgandjlldjaaStreamW
import Derived.Test.YtiejgandjlldjaaStands
namespace Go.Proofs.Ytiejgandjlldjaa
open Go.RowKit

/-- The slice is clipped, or the row behind it is one's own, to its end. -/
def Ap (w : World) (base : Nat) (A : Option Addr) (n c : Nat) (l : List UInt8) : Prop := n = c ∨ w.ownsRow base 5 1 (.slice A n c) n (l.map B8)
section
variable {w w' : World} {base n c X : Nat} {A : Option Addr} {l : List UInt8} {T : TypeId} {cs : Array Value}
theorem Ap.keep (h : Ap w base A n c l) (hb : Below w.heap.size w w') : Ap w' base A n c l := h.elim .inl fun h => .inr (own_keep h hb)
theorem Ap.updT (h : Ap w base A n c l) (hX : Var w X T cs) (hT : T ≠ 5) (hu : Upd X w w') : Ap w' base A n c l := h.elim .inl fun h => .inr (own_updT h hX hT hu)
theorem Ap.mono {base' : Nat} (h : Ap w base A n c l) (hb : base' ≤ base) : Ap w base' A n c l := h.elim .inl fun h => .inr (own_mono h hb)
end

/-- An Out whose bytes lie from base on and may be appended to. -/
def OutFc (w : World) (O base : Nat) (l : List UInt8) : Prop := ∃ A n c, Var w O 35 #[.slice A n c] ∧ Bs w A n c l ∧ Fr w base A n ∧ Ap w base A n c l
theorem OutFc.keep {w w' : World} {O base : Nat} {l : List UInt8} (h : OutFc w O base l) (hb : Below w.heap.size w w') : OutFc w' O base l := by obtain ⟨A, n, c, h1, h2, h3, h4⟩ := h; exact ⟨A, n, c, h1.keep hb, h2.below hb, h3.keep hb, h4.keep hb⟩
theorem OutFc.lt {w : World} {O base : Nat} {l : List UInt8} (h : OutFc w O base l) : O < w.heap.size := by obtain ⟨A, n, c, h1, _⟩ := h; exact h1.lt
theorem OutFc.no {w : World} {O base : Nat} {l : List UInt8} (h : OutFc w O base l) : ∀ o b, w.cell? ⟨O, o, none⟩ ≠ some (B8 b) := by obtain ⟨A, n, c, h1, _⟩ := h; exact out_no h1

set_option maxRecDepth 100000 in
set_option maxHeartbeats 800000 in
theorem add_fc (O base : Nat) (l : List UInt8) (B : Option Addr) (m d : Nat) (k : List UInt8) (w : World) (hO : OutFc w O base l) (hbase : base ≤ w.heap.size) (hk : Bs w B m d k) (hlen : l.length + m ≤ 225000000000000) :
    Calls Try.prog 35 #[.pointer (some ⟨O, 0, none⟩), .slice B m d] w fun e w' => Void e ∧ OutFc w' O base (l ++ k) ∧ Upd O w w' := by
  obtain ⟨A, n, c, hv, hs, hfr, _⟩ := hO
  have hkl := hk.len
  rw [hs.len] at hlen
  have H := Lib.hid (fun W => clip_any A n c W hs.cap hs.big)
  have c0 : w.cell? ⟨O, 0, none⟩ = some (.slice A n c) := hv.cell 0
  have hlt := hv.lt
  rcases Nat.eq_zero_or_pos m with hm | hm
  · subst hm
    have hk0 : k = [] := List.eq_nil_of_length_eq_zero hkl
    subst hk0
    go_enter Try.func35, Try.ntmps35
    go_wp2_with fail
    refine (H.out _).mono ?_
    rintro e w1 ⟨rfl, hb_w1⟩
    obtain ⟨hc_w1, hf_w1⟩ := bcell hb_w1
    have hz_w1 := hb_w1.size
    try simp at hz_w1
    have hB_w1 : Below w.heap.size w w1 := Below.trans (by go_grown) (hb_w1.mono (by go_size))
    have hs_w1_0 : O < w1.heap.size := by omega
    have hv1 := hv.keep hb_w1
    have c1 : w1.cell? ⟨O, 0, none⟩ = some (.slice A n c) := hv1.cell 0
    have f1 := hv1.free 0
    have f0 := hv.free 0
    go_wp2_with (at_builtin; refine wpList_join0 rfl (.tmp 11) (.tmp 12) rfl rfl rfl (hk.below hb_w1) ?_)
    go_end0
    rw [List.append_nil]
    refine ⟨⟨_, rfl⟩, ⟨A, n, n, hv1.store 0 _, bs_upd (hs.below hb_w1).clip (Upd.set _) (out_no hv1), (hfr.keep hb_w1).upd (Upd.set _) hv1 (by decide), .inl rfl⟩, (Upd.of_below hb_w1).trans (Upd.set _)⟩
  · go_enter Try.func35, Try.ntmps35
    go_wp2_with fail
    refine (H.out _).mono ?_
    rintro e w1 ⟨rfl, hb_w1⟩
    obtain ⟨hc_w1, hf_w1⟩ := bcell hb_w1
    have hz_w1 := hb_w1.size
    try simp at hz_w1
    have hB_w1 : Below w.heap.size w w1 := Below.trans (by go_grown) (hb_w1.mono (by go_size))
    have hs_w1_0 : O < w1.heap.size := by omega
    have hv1 := hv.keep hb_w1
    have c1 : w1.cell? ⟨O, 0, none⟩ = some (.slice A n c) := hv1.cell 0
    go_wp2_with (at_builtin; refine wpList_join rfl (.tmp 11) (.tmp 12) rfl rfl rfl (hs.below hb_w1).clip (hk.below hb_w1) (by omega) ?_; intro A' c' w2 hs2 hb2 how; have hv2 := hv1.keep hb2; have c2 : w2.cell? ⟨O, 0, none⟩ = some (.slice A n c) := hv2.cell 0; have f2 := hv2.free 0; have z2 := hv2.lt)
    go_end0
    exact ⟨⟨_, rfl⟩, ⟨A', n + m, c', hv2.store 0 _, bs_upd hs2 (Upd.set _) (out_no hv2), ((fr_own (how hm)).mono (by have := hb_w1.size; omega)).upd (Upd.set _) hv2 (by decide), (Ap.mono (.inr (how hm)) (by have := hb_w1.size; omega)).updT hv2 (by decide) (Upd.set _)⟩, (Upd.of_below (hb_w1.trans (hb2.mono hb_w1.size))).trans (Upd.set _)⟩
theorem lays_fc {w : World} {O base : Nat} {l : List UInt8} (h : OutFc w O base l) (hbase : base ≤ w.heap.size) (k : List UInt8) (hlen : l.length + k.length ≤ 225000000000000) : Lays (.pointer (some ⟨O, 0, none⟩)) w k (fun w' => OutFc w' O base (l ++ k) ∧ Upd O w w') := fun W A m d hW hs =>
  (add_fc O base l A m d k W (h.keep hW) (Nat.le_trans hbase hW.size) hs (by rw [← hs.len]; exact hlen)).mono fun _ _ ⟨he, ho, hu⟩ => ⟨he, ho, (Upd.of_below hW).trans hu⟩

set_option maxRecDepth 100000 in
set_option maxHeartbeats 800000 in
theorem frame_full (A : Option Addr) (n c : Nat) (l : List UInt8) (w : World) (hs : Bs w A n c l) (hn : n ≤ 8184) :
    Calls Try.prog 11 #[.slice A n c] w fun e w' => ∃ A' c', e = .returned (.tuple #[.slice A' (n + 8) c', .int .i64 0]) ∧ Bs w' A' (n + 8) c' (frameB l) ∧ Fr w' w.heap.size A' (n + 8) ∧ Ap w' w.heap.size A' (n + 8) c' (frameB l) ∧ Below w.heap.size w w' := by
  have hz : ∀ W, (zeroValue 85).run Try.prog W = .ok (.agg z256) W := (zero_of_info (P := Try.prog) (t := 85) (v := .agg z256) (n := 256) (by kernel_rfl)).1
  have hl := hs.len
  have hn' : ¬ (8184 : Int) < (n : Int) := by omega
  have hn2 : (n : Int) ≤ 8184 := by omega
  go_enter Try.func11, Try.ntmps11
  go_wp2_with fail
  obtain ⟨O, hO⟩ : ∃ O, O = w.heap.size := ⟨_, rfl⟩
  have hW0 : Below w.heap.size w ((w.alloc (.cells #[.slice none 0 0] 35)).alloc (.cells #[.int .u8 80, .int .u8 100] 5)) := by go_grown
  have ho0 : OutFc ((w.alloc (.cells #[.slice none 0 0] 35)).alloc (.cells #[.int .u8 80, .int .u8 100] 5)) w.heap.size w.heap.size [] := ⟨none, 0, 0, (Var.new _ _ _).alloc _, Bs.nil _, .inl rfl, .inl rfl⟩
  have hk0 : Bs ((w.alloc (.cells #[.slice none 0 0] 35)).alloc (.cells #[.int .u8 80, .int .u8 100] 5)) (some ⟨w.heap.size + 1, 0, none⟩) 2 2 [80, 100] := ⟨rfl, by omega, by unfold maxLen; omega, .inr ⟨w.heap.size + 1, 0, rfl, by simp, fun j b hj => by
    have hv : Var ((w.alloc (.cells #[.slice none 0 0] 35)).alloc (.cells #[.int .u8 80, .int .u8 100] 5)) (w.heap.size + 1) 5 #[.int .u8 80, .int .u8 100] := Var.new' _ _ _ (by simp)
    rw [hv.cell (0 + j)]
    match j, hj with
    | 0, hj => injection hj with hj; rw [← hj]; rfl
    | 1, hj => injection hj with hj; rw [← hj]; rfl
    | j + 2, hj => simp at hj⟩⟩
  have hs0 := hs.below hW0
  refine (add_fc w.heap.size w.heap.size [] _ 2 2 [80, 100] _ ho0 (by simp; omega) hk0 (by simp)).mono ?_
  rintro e w1 ⟨⟨_, rfl⟩, ho1, hu1⟩
  have hs1 := bs_upd hs0 hu1 ho0.no
  have hB1 : Below w.heap.size w w1 := Upd.below hW0 hu1 (Nat.le_refl _) (by simp; omega)
  rw [List.nil_append] at ho1
  clear hu1 ho0 hk0 hs0 hW0
  go_wp2_with fail
  refine (put_u16 _ n (by omega) w1 (lays_fc ho1 hB1.size (leN 2 n) (by rw [leN_length]; simp))).mono ?_
  rintro e w2 ⟨⟨_, rfl⟩, ho2, hu2⟩
  have hs2 := bs_upd hs1 hu2 ho1.no
  have hB2 := Upd.below hB1 hu2 (Nat.le_refl _) hB1.size
  rw [show [80, 100] ++ leN 2 n = headB l by unfold headB; rw [hl]] at ho2
  clear hu2 ho1 hs1 hB1
  go_wp2_with fail
  have z2 := ho2.lt
  refine (sums_any w2).mono ?_
  rintro e w3 ⟨rfl, hb_w3⟩
  obtain ⟨hc_w3, hf_w3⟩ := bcell hb_w3
  have hz_w3 := hb_w3.size
  try simp at hz_w3
  have hs_w3_0 : w.heap.size < w3.heap.size := by omega
  have ho3 := ho2.keep hb_w3
  have hs3 := hs2.below hb_w3
  have hB3 := hB2.trans (hb_w3.mono hB2.size)
  clear ho2 hs2 hB2 hc_w3 hf_w3
  obtain ⟨A3, n3, c3, hv3, hbs3, hfr3, hap3⟩ := ho3
  have hl3 := hbs3.len
  rw [headB_length] at hl3
  subst hl3
  go_wp2_with (refine wpList_storeV rfl 85 (.tmp 5) (.tmp 15) rfl w3.heap.size tab z256 rfl rfl (Var.new _ _ _) (by kernel_rfl) (by simp [z256, tab]) tab_cells ?_; intro w4 hT4 hO4 hb4 hz4; have hb34 : Below w3.heap.size w3 w4 := Below.trans (by go_grown) hb4; have hv4 := hv3.keep hb34; have c4 : w4.cell? ⟨w.heap.size, 0, none⟩ = some (.slice A3 4 c3) := hv4.cell 0; have z4 := hv4.lt)
  have hs4 := hs3.below hb34
  have hbs4 := hbs3.below hb34
  have hfr4 := hfr3.keep hb34
  have hap4 := hap3.keep hb34
  have hB4 := hB3.trans (hb34.mono hB3.size)
  have HC := Lib.hid (crc_any w3.heap.size A3 A 4 c3 n c (headB l) l w4 hT4 hbs4 hs4)
  clear hs3 hbs3 hfr3 hap3 hB3 hv3 hT4 hO4 hb4 hb34
  refine HC.out.mono ?_
  rintro e w5 ⟨rfl, hb5⟩
  have hs5 := hs4.below hb5
  have ho5 : OutFc w5 w.heap.size w.heap.size (headB l) := ⟨A3, 4, c3, hv4.keep hb5, hbs4.below hb5, hfr4.keep hb5, hap4.keep hb5⟩
  have hB5 := hB4.trans (hb5.mono hB4.size)
  clear hs4 hbs4 hfr4 hap4 hB4 hv4 hb5 c4 HC
  obtain ⟨x, hx⟩ : ∃ x, crcN (headB l ++ l) = x := ⟨_, rfl⟩
  have hxb := crcN_lt (headB l ++ l)
  rw [hx] at hxb ⊢
  go_wp2_with fail
  refine (put_u32 _ x hxb w5 (lays_fc ho5 hB5.size (leN 4 x) (by rw [leN_length, headB_length]; omega))).mono ?_
  rintro e w6 ⟨⟨_, rfl⟩, ho6, hu6⟩
  have hs6 := bs_upd hs5 hu6 ho5.no
  have hB6 := Upd.below hB5 hu6 (Nat.le_refl _) hB5.size
  clear hu6 ho5 hs5 hB5
  go_wp2_with fail
  refine (add_fc w.heap.size w.heap.size _ A n c l w6 ho6 hB6.size hs6 (by rw [List.length_append, leN_length, headB_length]; omega)).mono ?_
  rintro e w7 ⟨⟨_, rfl⟩, ho7, hu7⟩
  have hB7 := Upd.below hB6 hu7 (Nat.le_refl _) hB6.size
  rw [← hx, show headB l ++ leN 4 (crcN (headB l ++ l)) ++ l = frameB l from rfl] at ho7
  clear hu7 ho6 hs6 hB6 hx
  obtain ⟨A7, n7, c7, hv7, hbs7, hfr7, hap7⟩ := ho7
  have hl7 := hbs7.len
  rw [frameB_length, hl] at hl7
  subst hl7
  have c70 : w7.cell? ⟨w.heap.size, 0, none⟩ = some (.slice A7 (n + 8) c7) := hv7.cell 0
  go_wp2_with fail
  go_ret2
  exact ⟨A7, c7, rfl, hbs7, hfr7, hap7, hB7⟩


/-- What Frame answers: its number, its bytes. -/
def fcode (l : List UInt8) : Nat := if 8184 < l.length then 31 else 0
def fbytes (l : List UInt8) : List UInt8 := if 8184 < l.length then [] else frameB l
def Fil (w : World) (base : Nat) (A : Option Addr) (n c : Nat) (l : List UInt8) : Prop := Br w base A n c l ∧ Ap w base A n c l
theorem fbytes_len (l : List UInt8) : (fbytes l).length ≤ 8192 := by
  unfold fbytes
  split
  · simp
  · rw [frameB_length]; omega
theorem frame_both (A : Option Addr) (n c : Nat) (l : List UInt8) (w : World) (hs : Bs w A n c l) :
    Calls Try.prog 11 #[.slice A n c] w fun e w' => ∃ A' n' c', e = .returned (.tuple #[.slice A' n' c', .int .i64 (fcode l : Int)]) ∧ (n' = 0 → A' = none) ∧ Fil w' w.heap.size A' n' c' (fbytes l) ∧ Below w.heap.size w w' := by
  have hl := hs.len
  rcases Nat.lt_or_ge 8184 n with h | h
  · refine (frame_over A n c w h).mono ?_
    rintro e w' ⟨rfl, hb⟩
    unfold fcode fbytes
    rw [if_pos (by omega), if_pos (by omega)]
    exact ⟨none, 0, 0, rfl, fun _ => rfl, ⟨⟨Bs.nil _, .inl rfl⟩, .inl rfl⟩, hb⟩
  · refine (frame_full A n c l w hs h).mono ?_
    rintro e w' ⟨A', c', rfl, h1, h2, h3, hb⟩
    unfold fcode fbytes
    rw [if_neg (by omega), if_neg (by omega)]
    exact ⟨A', _, c', rfl, fun h => absurd h (by omega), ⟨⟨h1, h2⟩, h3⟩, hb⟩
theorem frame_ref_both (A : Option Addr) (n c : Nat) (l : List UInt8) (w : World) (hs : Bs w A n c l) :
    Calls Try.prog 22 #[.slice A n c] w fun e w' => ∃ A' n' c', e = .returned (.tuple #[.slice A' n' c', .int .i64 (fcode l : Int)]) ∧ Br w' w.heap.size A' n' c' (fbytes l) ∧ Below w.heap.size w w' := by
  have hl := hs.len
  rcases Nat.lt_or_ge 8184 n with h | h
  · refine (frame_ref_over A n c w h).mono ?_
    rintro e w' ⟨rfl, hb⟩
    unfold fcode fbytes
    rw [if_pos (by omega), if_pos (by omega)]
    exact ⟨none, 0, 0, rfl, ⟨Bs.nil _, .inl rfl⟩, hb⟩
  · refine (frame_ref A n c l w hs h).mono ?_
    rintro e w' ⟨A', c', rfl, h1, hb⟩
    unfold fcode fbytes
    rw [if_neg (by omega), if_neg (by omega)]
    exact ⟨A', _, c', rfl, h1, hb⟩

section
variable {w w' : World} {base n c g o k : Nat} {A : Option Addr} {l : List UInt8}
/-- One byte of a slice's own is written. -/
theorem Br.put (h : Br w base (some ⟨g, o, none⟩) n c l) (hk : k < n) (u : UInt8) :
    (∃ x, w.cell? ⟨g, o + k, none⟩ = some (.int .u8 x)) ∧ w.frozen? ⟨g, o + k, none⟩ = false ∧ g < w.heap.size ∧ base ≤ g ∧ Br (w.setCell ⟨g, o + k, none⟩ (.int .u8 (u.toNat : Int))) base (some ⟨g, o, none⟩) n c (l.set k u) := by
  obtain ⟨hs, hf⟩ := h
  have hl := hs.len
  rcases hf with h0 | ⟨g', o', cur, e, hg, hv, hc⟩
  · omega
  injection e with e
  injection e with e1 e2
  subst e1 e2
  obtain ⟨b, hb⟩ : ∃ b, l[k]? = some b := ⟨_, List.getElem?_eq_getElem (by omega)⟩
  have hat : ∀ (j : Nat) b, l[j]? = some b → w.cell? ⟨g, o + j, none⟩ = some (B8 b) := by
    rcases hs.at_ with h0 | ⟨g', o', e, _, hat⟩
    · omega
    · injection e with e
      injection e with e1 e2
      subst e1 e2
      exact hat
  refine ⟨⟨_, hat k b hb⟩, hv.free _, hv.lt, hg, ⟨by simpa using hl, hs.cap, hs.big, .inr ⟨g, o, rfl, by simpa using hv.lt, fun j x hj => ?_⟩⟩, .inr ⟨g, o, _, rfl, hg, hv.store (o + k) _, by simpa using hc⟩⟩
  rcases Nat.lt_trichotomy j k with h1 | h1 | h1
  · rw [List.getElem?_set_ne (by omega)] at hj
    have := hat j x hj
    exact (World.cell?_setCell_other w ⟨g, o + k, none⟩ ⟨g, o + j, none⟩ _ (by intro e; injection e with _ e; omega)).trans this
  · subst h1
    rw [List.getElem?_set_self (by omega)] at hj
    injection hj with hj
    subst hj
    exact World.cell?_setCell_same' w ⟨g, o + j, none⟩ _ (by rw [hat j b hb]; rfl)
  · rw [List.getElem?_set_ne (by omega)] at hj
    have := hat j x hj
    exact (World.cell?_setCell_other w ⟨g, o + k, none⟩ ⟨g, o + j, none⟩ _ (by intro e; injection e with _ e; omega)).trans this
theorem Ap.put (h : Ap w base (some ⟨g, o, none⟩) n c l) (hk : k < n) (u : UInt8) : Ap (w.setCell ⟨g, o + k, none⟩ (.int .u8 (u.toNat : Int))) base (some ⟨g, o, none⟩) n c (l.set k u) := by
  rcases h with h | ⟨h1, ⟨hv, h2⟩ | ⟨g', cap, cur, hv, hb, hh, hn, hm, hsz, htk⟩⟩
  · exact .inl h
  · omega
  · injection hv with hA _ hc
    injection hA with hA
    injection hA with hA1 hA2
    subst hA1 hA2 hc
    refine .inr ⟨by simpa using h1, .inr ⟨g, c, _, rfl, hb, Var.store (t := 5) hh (0 + k) _, hn, hm, by simpa using hsz, ?_⟩⟩
    rw [Array.toList_setIfInBounds, List.take_set, htk, Nat.zero_add, List.map_set]
    rfl
theorem Fil.put (h : Fil w base (some ⟨g, o, none⟩) n c l) (hk : k < n) (u : UInt8) :
    (∃ x, w.cell? ⟨g, o + k, none⟩ = some (.int .u8 x)) ∧ w.frozen? ⟨g, o + k, none⟩ = false ∧ g < w.heap.size ∧ base ≤ g ∧ Fil (w.setCell ⟨g, o + k, none⟩ (.int .u8 (u.toNat : Int))) base (some ⟨g, o, none⟩) n c (l.set k u) :=
  have ⟨h1, h2, h3, h4, h5⟩ := h.1.put hk u
  ⟨h1, h2, h3, h4, h5, h.2.put hk u⟩
theorem Bs.apart (h : Bs w A n c l) {N : Nat} (ha : Apart N w w') (hne : n = 0 ∨ ∃ k o, A = some ⟨k, o, none⟩ ∧ k ≠ N) : Bs w' A n c l := by
  refine ⟨h.len, h.cap, h.big, ?_⟩
  rcases h.at_ with h0 | ⟨k, o, e, hk, hc⟩
  · exact .inl h0
  · rcases hne with h0 | ⟨k', o', e', hne⟩
    · exact .inl h0
    · rw [e] at e'
      injection e' with e'
      injection e' with e1 e2
      subst e1 e2
      exact .inr ⟨k, o, e, Nat.lt_of_lt_of_le hk ha.1, fun j b hj => (World.cell?_of_block (a := ⟨k, o + j, none⟩) (ha.2 k hk hne)).trans (hc j b hj)⟩
theorem Br.apart (h : Br w base A n c l) {N : Nat} (ha : Apart N w w') (hN : N < base) : Br w' base A n c l := by
  obtain ⟨hs, hf⟩ := h
  rcases hf with h0 | ⟨g, o, cur, e, hg, hv, hc⟩
  · exact ⟨hs.apart ha (.inl h0), .inl h0⟩
  · exact ⟨hs.apart ha (.inr ⟨g, o, e, by omega⟩), .inr ⟨g, o, cur, e, hg, ha.var hv (by omega), hc⟩⟩
theorem Br.apartne (h : Br w base A n c l) {N : Nat} (ha : Apart N w w') (hN : ∀ g o, A = some ⟨g, o, none⟩ → g ≠ N) : Br w' base A n c l := by
  obtain ⟨hs, hf⟩ := h
  rcases hf with h0 | ⟨g, o, cur, e, hg, hv, hc⟩
  · exact ⟨hs.apart ha (.inl h0), .inl h0⟩
  · exact ⟨hs.apart ha (.inr ⟨g, o, e, hN g o e⟩), .inr ⟨g, o, cur, e, hg, ha.var hv (hN g o e), hc⟩⟩
theorem Br.lt (h : Br w base (some ⟨g, o, none⟩) n c l) (hn : 0 < n) : base ≤ g ∧ g < w.heap.size := by
  rcases h.2 with h0 | ⟨g', o', cur, e, hg, hv, hc⟩
  · omega
  · injection e with e
    injection e with e1 e2
    subst e1
    exact ⟨hg, hv.lt⟩
theorem Br.far (h : Br w base A n c l) {row : Option Nat} (hu : w.grownBy w' row) (hr : ∀ k, row = some k → k < base) : Br w' base A n c l := by
  obtain ⟨hs, hf⟩ := h
  rcases hf with h0 | ⟨g, o, cur, e, hg, hv, hc⟩
  · exact ⟨⟨hs.len, hs.cap, hs.big, .inl h0⟩, .inl h0⟩
  · have hk := hu.block g hv.lt (fun e => by have := hr g e.symm; omega)
    refine ⟨⟨hs.len, hs.cap, hs.big, ?_⟩, .inr ⟨g, o, cur, e, hg, hk.trans hv, hc⟩⟩
    rcases hs.at_ with h0 | ⟨g', o', e', hg', hat⟩
    · exact .inl h0
    · rw [e] at e'
      injection e' with e'
      injection e' with e1 e2
      subst e1 e2
      exact .inr ⟨g, o, e, Nat.lt_of_lt_of_le hg' hu.size, fun j b hj => (World.cell?_of_block (a := ⟨g, o + j, none⟩) hk).trans (hat j b hj)⟩
theorem Br.place (h : Br w base A n c l) : n = 0 ∨ ∃ g o, A = some ⟨g, o, none⟩ ∧ base ≤ g ∧ g < w.heap.size := by
  rcases h.2 with h0 | ⟨g', o', cur, e, hg, hv, _⟩
  · exact .inl h0
  · exact .inr ⟨g', o', e, hg, hv.lt⟩
theorem Br.addr (h : Br w base A n c l) (hn : 0 < n) : ∃ g o, A = some ⟨g, o, none⟩ := by
  rcases h.2 with h0 | ⟨g', o', cur, e, _⟩
  · omega
  · exact ⟨_, _, e⟩
end

theorem kpf_put {N base : Nat} {W : World} {g : Nat} {cur : Array Value} (hg : base ≤ g) (hv : Var W g 5 cur) (o : Nat) (u : Value) : KpF N base W (W.setCell ⟨g, o, none⟩ u) :=
  ⟨by simp, fun k hk _ => Below.heap_setCell W ⟨g, o, none⟩ u k (show k ≠ g by omega), fun k c t f _ he ht => by
    refine (Below.heap_setCell W ⟨g, o, none⟩ u k (show k ≠ g from ?_)).trans he
    rintro rfl
    rw [show W.heap[k]? = _ from hv] at he
    injection he with he
    injection he with _ he
    exact ht he.symm⟩
theorem Br.var {w : World} {base n c g o : Nat} {l : List UInt8} (h : Br w base (some ⟨g, o, none⟩) n c l) (hn : 0 < n) : ∃ cur, Var w g 5 cur := by
  rcases h.2 with h0 | ⟨g', o', cur, e, hg, hv, hc⟩
  · omega
  · injection e with e
    injection e with e1 e2
    subst e1
    exact ⟨cur, hv⟩

/-- 'append(f, 1)' onto bytes that may be appended to. -/
theorem wpList_app1 {ops : Array Oper} {rest : List Oper} {o : Oper} {a : Act} {Q : Exit → Act → World → Prop} {w0 : World} {base n c : Nat} {A : Option Addr} {l : List UInt8} (hgd : o.guard = none) (s x : Operand)
    (ho : o.op = .call { callee := .builtin .append, args := #[s, x], argTypes := #[23, 23] })
    (hs : a.eval s = .slice A n c) (hf : Fil w0 base A n c l) (u : UInt8) (hx : a.eval x = .slice (some ⟨w0.heap.size, 0, none⟩) 1 1) (hn : n + 1 ≤ 1000000) (hbase : base ≤ w0.heap.size)
    (h : ∀ v w' row, w0.grownBy w' row → (row = none ∨ row = (Value.slice A n c).ownBlock) → wpList Try.prog ops Q rest (a.put o.dst v) w') :
    wpList Try.prog ops Q (o :: rest) a (w0.alloc (.cells #[.int .u8 (u.toNat : Int)] 5)) := by
  rcases hf.2 with he | hown
  · subst he
    have hb : Bs (w0.alloc (.cells #[.int .u8 (u.toNat : Int)] 5)) (some ⟨w0.heap.size, 0, none⟩) 1 1 [u] := ⟨rfl, by omega, by unfold maxLen; omega, .inr ⟨w0.heap.size, 0, rfl, by simp, fun j b hj => by
      have hv : Var (w0.alloc (.cells #[.int .u8 (u.toNat : Int)] 5)) w0.heap.size 5 #[.int .u8 (u.toNat : Int)] := Var.new _ _ _
      rw [hv.cell (0 + j)]
      match j, hj with
      | 0, hj => injection hj with hj; rw [← hj]; rfl
      | j + 1, hj => simp at hj⟩⟩
    refine wpList_join hgd s x ho hs hx (hf.1.1.below (by go_grown)) hb (by omega) ?_
    intro A' c' w' _ hb' _
    have hB : Below w0.heap.size w0 w' := Below.trans (by go_grown) (hb'.mono (by simp))
    exact h _ w' none ⟨hB.os, hB.tape, hB.output, hB.size, fun k hk _ => hB.block k hk⟩ (.inl rfl)
  · refine wpList_push hgd s x 23 ho elt8 base A n c (l.map B8) hs hown [.int .u8 (u.toNat : Int)] hx rfl (one_cell rfl) (le_maxLen (by omega)) (by omega) hbase ?_
    intro A' c' w' _ hg
    exact h _ w' _ hg (.inr rfl)

theorem row_where {A : Option Addr} {n c lo hi : Nat} {row : Option Nat} (h : n = 0 ∨ ∃ g o, A = some ⟨g, o, none⟩ ∧ lo ≤ g ∧ g < hi) (h0 : n = 0 → A = none) (hr : row = none ∨ row = (Value.slice A n c).ownBlock) : ∀ k, row = some k → lo ≤ k ∧ k < hi := by
  intro k hk
  rcases hr with h3 | h3
  · rw [hk] at h3; cases h3
  · rcases h with h | ⟨g, o, h, h1, h2⟩
    · rw [h0 h, hk] at h3; cases h3
    · rw [h, hk] at h3
      injection h3 with h3
      rw [h3]
      exact ⟨h1, h2⟩
/-- The marks of loops over iterators, at the end: nothing was deferred in them. -/
def mark (D : Nat) : Deferred := { target := .collected D, args := #[] }
theorem leaves_marks {F : Fence} {n : Nat} {P : Program} {fn : Func} {tmps : Array Value} {R : Ending → World → Prop} {B : Nat} : ∀ (Ds : List Nat) (w : World), Ds.Nodup → (∀ D ∈ Ds, B ≤ D ∧ w.heap[D]? = some (.deferred (some []))) →
    (∀ w', Below B w w' → (∀ (k : Nat) cur t f, w.heap[k]? = some (.cells cur t f) → w'.heap[k]? = some (.cells cur t f)) → LeavesIn F n P fn tmps R [] .returning w') → LeavesInM F n P fn tmps R (Ds.map mark) .returning w
  | [], w, _, _, h => h w (Below.refl _ _) fun _ _ _ _ e => e
  | D :: Ds, w, hn, hD, h => by
    have h0 := hD D (by simp)
    refine ⟨by simp, .inl ⟨D, _, rfl, run_takeDeferred h0.2, ?_⟩⟩
    have hlt : D < w.heap.size := (Array.getElem?_eq_some_iff.1 h0.2).1
    refine leaves_marks (B := B) Ds _ (List.nodup_cons.1 hn).2 (fun D' hD' => ?_) fun w' hb hk => ?_
    · have hne : D' ≠ D := fun e => (List.nodup_cons.1 hn).1 (e ▸ hD')
      exact ⟨(hD D' (by simp [hD'])).1, (World.putObj_heap_other hne).trans (hD D' (by simp [hD'])).2⟩
    · have hb1 : Below B w (w.putObj D (.deferred none)) := (Below.refl B w).grown (grownBy_putObj' w D (.deferred none)) (by omega) (fun k e => by cases e; omega)
      refine h w' (hb1.trans hb) fun k cur t f e => hk k cur t f ?_
      refine (World.putObj_heap_other ?_).trans e
      rintro rfl
      rw [h0.2] at e
      cases e

/-- 'make' and 'copy' into it: the bytes lie in a row of their own. -/
theorem made_copy (A : Option Addr) (n c : Nat) (l : List UInt8) (W : World) (hs : Bs W A n c l) (hA0 : A = none → c = 0) (hn : n ≤ 140737488351232) :
    ∃ C0 : Array Value, (∀ ty, (Builtin.copy_ #[23, 23] ty #[.slice (some ⟨W.heap.size, 0, none⟩) (n + 20) (n + 20), .slice A n c]).run Try.prog (W.alloc (.cells (Array.replicate (n + 20) (B8 0)) 5)) = .ok (.int .i64 (n : Int)) (W.alloc (.cells C0 5))) ∧
      Br (W.alloc (.cells C0 5)) W.heap.size (some ⟨W.heap.size, 0, none⟩) n (n + 20) l := by
  have hl := hs.len
  obtain ⟨C0, hC0⟩ : ∃ z, (l.map B8 ++ List.replicate 20 (B8 0)).toArray = z := ⟨_, rfl⟩
  have hCs : C0.size = n + 20 := by rw [← hC0]; simp [hl]
  have hCb : ∀ (j : Nat) x, l[j]? = some x → C0[j]? = some (B8 x) := fun j x hj => by
    have hlt : j < l.length := by
      rcases Nat.lt_or_ge j l.length with h0 | h0
      · exact h0
      · rw [List.getElem?_eq_none h0] at hj; cases hj
    rw [List.getElem?_eq_getElem hlt] at hj
    injection hj with hj
    rw [← hC0, ← hj]
    simp [List.getElem?_append_left, hlt]
  refine ⟨C0, fun ty => ?_, ⟨hl, by omega, by simp only [maxLen]; omega, .inr ⟨W.heap.size, 0, rfl, by simp, fun j x hj => by
    rw [(Var.new W 5 C0).cell, Nat.zero_add]
    exact hCb j x hj⟩⟩, .inr ⟨W.heap.size, 0, C0, rfl, Nat.le_refl _, Var.new _ _ _, by omega⟩⟩
  have h := copy_bytes ty (n + 20) (n + 20) A n c l W hs hA0 (by omega)
  rw [show n + 20 - n = 20 by omega, hC0] at h
  simpa using h
theorem make20 (n : Nat) (hn : n ≤ 140737488351232) (W : World) : (Instr.makeSlice 23 (.int .i64 ((n : Int) + 20)) (.int .i64 ((n : Int) + 20))).run Try.prog W = .ok (.slice (some ⟨W.heap.size, 0, none⟩) (n + 20) (n + 20)) (W.alloc (.cells (List.replicate (n + 20) (B8 0)).toArray 5)) := by
  have h := make_bytes (n + 20) (by omega) W
  rwa [show ((n + 20 : Nat) : Int) = (n : Int) + 20 by omega] at h

end Go.Proofs.Ytiejgandjlldjaa
