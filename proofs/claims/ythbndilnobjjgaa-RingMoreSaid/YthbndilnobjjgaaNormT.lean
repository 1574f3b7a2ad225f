/-
  The program's Normal: its end, from the search for the first point on. Printed by wip/tools/gen_norm.py.
-/
import Derived.Test.YthbndilnobjjgaaNormM
import Derived.Test.YthbndilnobjjgaaConcat
import Derived.Test.YthbndilnobjjgaaDrop
namespace Go.Proofs.Ythbndilnobjjgaa
open Go.RowKit Go.Shelf

theorem less_t (p q : Pt) (b : Bool) (h : lessPt p q = b) (w : World) : Calls Try.prog 37 #[.agg #[.int .i32 p.1, .int .i32 p.2], .agg #[.int .i32 q.1, .int .i32 q.2]] w fun e w' => e = .returned (.bool b) ∧ Below w.heap.size w w' := by
  have H := pless_any p.1 p.2 q.1 q.2 w
  rw [← h]
  exact H
theorem first_yes {l : List Pt} {k : Nat} (h : lessPt (gp l k) (gp l (firstTo l k)) = true) : firstTo l (k + 1) = k := by
  show (if lessPt (gp l k) (gp l (firstTo l k)) = true then k else firstTo l k) = k
  rw [if_pos h]
theorem first_no {l : List Pt} {k : Nat} (h : lessPt (gp l k) (gp l (firstTo l k)) = false) : firstTo l (k + 1) = firstTo l k := by
  show (if lessPt (gp l k) (gp l (firstTo l k)) = true then k else firstTo l k) = firstTo l k
  rw [if_neg (by rw [h]; decide)]
set_option maxHeartbeats 2000000 in
set_option maxRecDepth 100000 in
theorem concat_nil (b : Nat) (w : World) (hb0 : w.cell? ⟨b, 0, none⟩ = some (.slice none 0 0)) (hb1 : w.cell? ⟨b, 1, none⟩ = some (.slice none 0 0)) :
    Calls Try.prog 38 #[.slice (some ⟨b, 0, none⟩) 2 2] w fun e w' => e = .returned (.slice none 0 0) ∧ Below w.heap.size w w' := by
  have hbl : b < w.heap.size := World.block_lt_of_cell? w _ hb0
  have GR := Lib.hid (fun W => grow_nil W)
  go_enter Try.func38, Try.ntmps38
  go_wp2_with fail
  go_loopw [3, 11] (fun s i wr => wr = w ∧ s = .int .i64 0 ∧ (i = .int .i64 0 ∨ i = .int .i64 1 ∨ i = .int .i64 2)) (fun _ i _ => 2 - (intOf i).toNat)
  case atStart => exact ⟨rfl, rfl, .inl rfl⟩
  case round =>
    obtain ⟨rfl, rfl, rfl | rfl | rfl⟩ := hrel
    · go_wp2_with fail
      go_roundw
      case rel => exact ⟨trivial, by simp, .inr (.inl (by simp))⟩
      case measure => simp [intOf]
    · go_wp2_with fail
      go_roundw
      case rel => exact ⟨trivial, by simp, .inr (.inr (by simp))⟩
      case measure => simp [intOf]
    · go_wp2_with fail
      refine (GR.out _).mono ?_
      rintro e w3 ⟨rfl, hb3⟩
      have K0 := (hb3.cell (p := ⟨b, 0, none⟩) hbl).trans hb0
      have K1 := (hb3.cell (p := ⟨b, 1, none⟩) hbl).trans hb1
      have HB := Lib.hid hb3
      clear hb3 GR
      go_wp2_with fail
      obtain ⟨w, hww⟩ : ∃ z, z = wr := ⟨_, rfl⟩
      subst hww
      go_loopw [6, 27] (fun v i wr => wr = w3 ∧ v = .slice none 0 0 ∧ (i = .int .i64 0 ∨ i = .int .i64 1 ∨ i = .int .i64 2)) (fun _ i _ => 2 - (intOf i).toNat)
      case atStart => exact ⟨rfl, rfl, .inl rfl⟩
      case round =>
        obtain ⟨rfl, rfl, rfl | rfl | rfl⟩ := hrel
        · go_wp2_with fail
          go_roundw
          case rel => exact ⟨trivial, by simp, .inr (.inl (by simp))⟩
          case measure => simp [intOf]
        · go_wp2_with fail
          go_roundw
          case rel => exact ⟨trivial, by simp, .inr (.inr (by simp))⟩
          case measure => simp [intOf]
        · go_wp2_with fail
          go_ret
          exact ⟨rfl, HB.out⟩

theorem flat_dropT : ∀ (l : List Pt) (f : Nat), flat (l.drop f) = (flat l).drop (f * 2)
  | l, 0 => by simp
  | [], f + 1 => by simp [flat]
  | q :: l, f + 1 => by
    rw [List.drop_succ_cons, flat_dropT l f, flat, show (f + 1) * 2 = f * 2 + 1 + 1 by omega, List.drop_succ_cons, List.drop_succ_cons]
theorem flat_takeT : ∀ (l : List Pt) (f : Nat), flat (l.take f) = (flat l).take (f * 2)
  | l, 0 => by simp [flat]
  | [], f + 1 => by simp [flat]
  | q :: l, f + 1 => by
    rw [List.take_succ_cons, flat, flat_takeT l f, flat, show (f + 1) * 2 = f * 2 + 1 + 1 by omega, List.take_succ_cons, List.take_succ_cons]
theorem add_off (g o j : Nat) : ((⟨g, o, none⟩ : Addr).add j) = ⟨g, o + j, none⟩ := by
  unfold Addr.add
  by_cases hj0 : j = 0 <;> simp [hj0]
theorem own_baseT {W : World} {b b' : Nat} {e : TypeId} {size n : Nat} {v : Value} {xs : List Value} (h : W.ownsRow b e size v n xs) (hb : b' ≤ b) : W.ownsRow b' e size v n xs := by
  refine ⟨h.1, ?_⟩
  rcases h.2 with h1 | ⟨g, cap, cur, h1, h2, h3⟩
  · exact .inl h1
  · exact .inr ⟨g, cap, cur, h1, by omega, h3⟩
/-- The two parts of a row of the call's own. -/
theorem parts_cells {W : World} {b n c g f : Nat} {L : List Pt} (h : W.ownsRow b 28 2 (.slice (some ⟨g, 0, none⟩) n c) n (flat L)) :
    (∀ j u, (flat (L.drop f))[j]? = some u → W.cell? ((⟨g, f * 2, none⟩ : Addr).add j) = some u) ∧ (∀ j u, (flat (L.take f))[j]? = some u → W.cell? ((⟨g, 0, none⟩ : Addr).add j) = some u) := by
  have hc := h.cells (g := g) rfl
  constructor
  · intro j u hj
    rw [flat_dropT, List.getElem?_drop] at hj
    have := hc _ _ hj
    rw [add_off] at this ⊢
    rw [Nat.zero_add] at this
    exact this
  · intro j u hj
    rw [flat_takeT, List.getElem?_take] at hj
    split at hj
    · exact hc _ _ hj
    · cases hj
set_option maxHeartbeats 4000000 in
set_option maxRecDepth 100000 in
theorem norm_tail (w W : World) (L : List Pt) (A : Option Addr) (m c : Nat) (hL : L.length = m) (hm : m ≤ 64) (hA : m = 0 → A = none ∧ c = 0) (HB : Hid (Below w.heap.size w W)) (hown : Hid (W.ownsRow w.heap.size 28 2 (.slice A m c) m (flat L)))
    (u0 u1 u2 u3 u4 u5 u6 u7 u9 u10 u11 u12 u13 u14 u15 u16 u17 u18 u19 u20 u21 u22 u23 u24 u25 u26 u27 u28 u29 u30 u31 u32 u33 u34 u35 u36 u37 u38 u39 u40 u41 u42 u43 u44 u45 u46 u47 u48 u49 u50 u51 u52 u53 u54 u55 u56 u57 u58 u59 u60 u61 u62 u63 u64 u65 u66 u67 u68 u69 u70 u71 u72 u73 u74 u75 u76 u77 u78 u79 u80 u81 u82 u83 u84 : Value) :
    (tailT Try.f10 6).wp Try.prog (fun e a' w' => e = .ret ∧ a'.defers = [] ∧ (∃ A' c', (results Try.f10 a'.tmps).run Try.prog w' = .ok (.tuple #[.slice A' m c', .int .i64 0]) w' ∧ w'.ownsRow w.heap.size 28 2 (.slice A' m c') m (flat (rotF L (firstTo L m)))) ∧ Below w.heap.size w w') { tmps := #[u0, u1, u2, u3, u4, u5, u6, u7, .slice A m c, u9, u10, u11, u12, u13, u14, u15, u16, u17, u18, u19, u20, u21, u22, u23, u24, u25, u26, u27, u28, u29, u30, u31, u32, u33, u34, u35, u36, u37, u38, u39, u40, u41, u42, u43, u44, u45, u46, u47, u48, u49, u50, u51, u52, u53, u54, u55, u56, u57, u58, u59, u60, u61, u62, u63, u64, u65, u66, u67, u68, u69, u70, u71, u72, u73, u74, u75, u76, u77, u78, u79, u80, u81, u82, u83, u84], defers := [] } W := by
  have HL := Lib.hid (And.intro hL hA)
  clear hL hA
  show Code.wp _ (Code.seq (Code.region _ _ _) _) _ _ _
  go_wp2_with fail
  go_loopw [11, 64] (fun f i wr => ∃ k : Nat, k ≤ m ∧ f = .int .i64 (firstTo L k : Int) ∧ i = .int .i64 (k : Int) ∧ Below W.heap.size W wr) (fun _ i _ => m - (intOf i).toNat)
  case atStart => exact ⟨0, Nat.zero_le _, rfl, rfl, Below.refl _ _⟩
  case round =>
    obtain ⟨k, hk, rfl, rfl, hbel⟩ := hrel
    have hownr := own_keepT hown.out hbel
    have hf := @first_lt L k
    obtain ⟨f, hfe⟩ : ∃ f, firstTo L k = f := ⟨_, rfl⟩
    rw [hfe] at hf ⊢
    rcases Nat.lt_or_ge k m with hlt | hge
    · have hfm : f < m := by omega
      obtain ⟨g, rfl, hgb, hg, hfz, hc⟩ := own_cells (qs := L) hownr (by omega)
      have c1 := (hc k (by rw [HL.out.1]; exact hlt)).1
      have c2 := (hc k (by rw [HL.out.1]; exact hlt)).2
      have c3 := (hc f (by rw [HL.out.1]; exact hfm)).1
      have c4 := (hc f (by rw [HL.out.1]; exact hfm)).2
      obtain ⟨⟨x1, x2⟩, hx⟩ : ∃ x, gp L k = x := ⟨_, rfl⟩
      obtain ⟨⟨y1, y2⟩, hy⟩ : ∃ y, gp L f = y := ⟨_, rfl⟩
      have hst : Hid ((lessPt (x1, x2) (y1, y2) = true → firstTo L (k + 1) = k) ∧ (lessPt (x1, x2) (y1, y2) = false → firstTo L (k + 1) = f)) := Lib.hid ⟨fun h => first_yes (by rw [hx, hfe, hy]; exact h), fun h => (first_no (by rw [hx, hfe, hy]; exact h)).trans hfe⟩
      rw [hx] at c1 c2
      rw [hy] at c3 c4
      dsimp only at c1 c2 c3 c4
      have hkI : (k : Int) < (m : Int) := by omega
      have hfI : (f : Int) < (m : Int) := by omega
      clear hc hfz hx hy hfe hf hgb
      obtain ⟨b, hb⟩ : ∃ b, lessPt (x1, x2) (y1, y2) = b := ⟨_, rfl⟩
      have LS := Lib.hid (fun W => less_t (x1, x2) (y1, y2) b hb W)
      dsimp only at LS
      rw [hb] at hst
      clear hb
      have HBL := Lib.hid hbel
      clear hbel
      go_upto_region 18 with fail
      refine wp_gen (fun W1 hW1 => ?_)
      have hb1 : Below wr.heap.size wr W1 := by rw [hW1]; exact (Below.refl _ _).alloc (Nat.le_refl _) _
      have d0 : W1.cell? ⟨wr.heap.size, 0, none⟩ = some (.int .i32 x1) := by rw [hW1]; simp
      have d1 : W1.cell? ⟨wr.heap.size, 1, none⟩ = some (.int .i32 x2) := by rw [hW1]; simp
      have e3 := (hb1.cell (p := ⟨g, f * 2, none⟩) hg).trans c3
      have e4 := (hb1.cell (p := ⟨g, f * 2 + 1, none⟩) hg).trans c4
      have hz1 : wr.heap.size < W1.heap.size := by rw [hW1]; simp
      have hg1 : g < W1.heap.size := by omega
      have HB1 := Lib.hid hb1
      clear hW1 hb1 c1 c2 c3 c4
      have hq_W1 := @wd_cell W1
      refine wp_region_wd (by kernel_rfl) (by kernel_rfl) ?_
      repeat (go_big_quiet_step ((first | (go_at_call 37; with_reducible exact quiet_wd (LS.out _)))))
      refine wpQuiet_nil ?_
      rintro w4 ⟨⟨wx, hb_w4⟩, hwx⟩
      obtain rfl : w4 = wx := hwx
      clear hq_W1
      have hz_w4 := hb_w4.size
      obtain ⟨hc_w4, hf_w4⟩ := bcell hb_w4
      have HB4 := Lib.hid (HBL.out.trans ((HB1.out.trans (hb_w4.mono HB1.out.size)).mono HBL.out.size))
      clear HB1 HBL hb_w4
      cases b
      · go_wp2_with fail
        go_roundw
        case rel => exact ⟨k + 1, by omega, by rw [hst.out.2 rfl], by simp, HB4.out⟩
        case measure => simp [intOf]; omega
      · go_wp2_with fail
        go_roundw
        case rel => exact ⟨k + 1, by omega, by rw [hst.out.1 rfl], by simp, HB4.out⟩
        case measure => simp [intOf]; omega
    · obtain rfl : k = m := by omega
      clear hk
      rcases Nat.eq_zero_or_pos k with h0 | h0
      · obtain ⟨rfl, rfl⟩ := HL.out.2 h0
        subst h0
        have hf0 : f = 0 := by omega
        subst hf0
        obtain rfl : L = [] := List.eq_nil_of_length_eq_zero HL.out.1
        have HBL := Lib.hid hbel
        clear hbel hf hownr
        go_upto_region 21 with fail
        refine wp_gen (fun W1 hW1 => ?_)
        subst hW1
        have hq_W1 := @wd_cell W1
        refine wp_region_wd_tail 6 (by kernel_rfl) (by kernel_rfl) ?_
        simp only [List.take_succ_cons, List.take_zero, List.drop_succ_cons, List.drop_zero]
        repeat (go_big_quiet_step (fail))
        refine wpQuiet_nil ?_
        rintro w4 ⟨⟨wx, hb_w4⟩, hwx⟩
        obtain rfl : w4 = wx := hwx
        clear hq_W1
        have hz_w4 := hb_w4.size
        obtain ⟨hc_w4, hf_w4⟩ := bcell hb_w4
        go_wp2_with fail
        refine (concat_nil w4.heap.size _ (by simp) (by simp)).mono ?_
        rintro e w5 ⟨rfl, hb5⟩
        have hB5 : Below w.heap.size w w5 := ((HB.out.trans (HBL.out.mono HB.out.size)).trans ((hb_w4.mono HBL.out.size).mono HB.out.size)).trans ((((Below.refl _ w4).alloc (Nat.le_refl _) _).trans (hb5.mono (by simp))).mono (by have := HB.out.size; have := HBL.out.size; have := hb_w4.size; omega))
        have H5 := Lib.hid hB5
        clear hb5 hB5 hb_w4
        go_wp2_with fail
        exact ⟨⟨none, 0, by simp [results, Try.results10, go_sem], World.ownsRow_nil _ _ _ _⟩, H5.out⟩
      · obtain ⟨g, rfl, hgb, hg, hfz, hc⟩ := own_cells (qs := L) hownr h0
        have hfm : f < k := by have := @first_lt L k; omega
        have hfI : (f : Int) < (k : Int) := by omega
        have hkc := own_capT hownr
        have hfc : (f : Int) ≤ (c : Int) := by omega
        go_upto_region 21 with fail
        refine wp_gen (fun W1 hW1 => ?_)
        subst hW1
        have hq_W1 := @wd_cell W1
        refine wp_region_wd_tail 6 (by kernel_rfl) (by kernel_rfl) ?_
        simp only [List.take_succ_cons, List.take_zero, List.drop_succ_cons, List.drop_zero]
        repeat (go_big_quiet_step (fail))
        refine wpQuiet_nil ?_
        rintro w4 ⟨⟨wx, hb_w4⟩, hwx⟩
        obtain rfl : w4 = wx := hwx
        clear hq_W1
        have hz_w4 := hb_w4.size
        obtain ⟨hc_w4, hf_w4⟩ := bcell hb_w4
        go_wp2_with fail
        have hown4 := own_keepT (own_keepT hownr hb_w4) ((Below.refl _ w4).alloc (Nat.le_refl _) (.cells #[.slice (some ⟨g, f * 2, none⟩) (k - f) (c - f), .slice (some ⟨g, 0, none⟩) f c] 23))
        obtain ⟨p1, p2⟩ := parts_cells (f := f) hown4
        refine (concat2_any (L.drop f) (L.take f) ⟨g, f * 2, none⟩ ⟨g, 0, none⟩ (k - f) (c - f) f c (by rw [List.length_drop, HL.out.1]) (by rw [List.length_take, HL.out.1]; omega) (by omega) (by omega) w4.heap.size _ (by simp) (by simp) p1 p2).mono ?_
        rintro e w5 ⟨A5, c5, rfl, hown5, hb5⟩
        rw [show k - f + f = k by omega] at hown5
        have hB5 : Below w.heap.size w w5 := ((HB.out.trans (hbel.mono HB.out.size)).trans ((hb_w4.mono hbel.size).mono HB.out.size)).trans ((((Below.refl _ w4).alloc (Nat.le_refl _) _).trans (hb5.mono (by simp))).mono (by have := HB.out.size; have := hbel.size; have := hb_w4.size; omega))
        have H5 := Lib.hid (And.intro (own_baseT (b' := w.heap.size) hown5 (by have := HB.out.size; have := hbel.size; have := hb_w4.size; simp; omega)) hB5)
        clear hb5 hB5 hb_w4 hown4 hown5 p1 p2 hownr hfz hc
        rw [show k - f + f = k by omega]
        go_wp2_with fail
        exact ⟨⟨A5, c5, by simp [results, Try.results10, go_sem], H5.out.1⟩, H5.out.2⟩

end Go.Proofs.Ythbndilnobjjgaa
