/-
  A heap of dues in memory; two of them changed about.
-/
import Derived.Test.YtlogidnadfimlaaDueA
import Derived.Deep.MidRow
namespace Go.Proofs.Ytlogidnadfimlaa
open Go.RowKit Go.Maps

/-- The cells cs begin with the dues l. -/
def RowD (cs : Array Value) (l : List Du) : Prop := ∀ k, k < l.length → cs[k * 3]? = some (.int .u32 (gd l k).1) ∧ cs[k * 3 + 1]? = some (.int .u32 (gd l k).2.1) ∧ cs[k * 3 + 2]? = some (.int .u32 (gd l k).2.2)
/-- Block g is a row of cap dues, of which the first are l. -/
def RowAt (W : World) (g cap : Nat) (l : List Du) : Prop := l.length ≤ cap ∧ ∃ cs, Var W g 31 cs ∧ cs.size = cap * 3 ∧ RowD cs l
section
variable {W W' : World} {g cap : Nat} {l : List Du}
theorem RowAt.lt (h : RowAt W g cap l) : g < W.heap.size := by obtain ⟨_, cs, hv, _⟩ := h; exact hv.lt
theorem RowAt.turn {S : Nat → Prop} (h : RowAt W g cap l) (ht : Turn S W W') (hg : ¬ S g) : RowAt W' g cap l := by obtain ⟨h0, cs, hv, h1⟩ := h; exact ⟨h0, cs, hv.turn ht hg, h1⟩
theorem RowAt.below (h : RowAt W g cap l) (hb : Below W.heap.size W W') : RowAt W' g cap l := h.turn (S := fun _ => False) (Turn.of_below hb) (fun h => h)
theorem RowAt.cells (h : RowAt W g cap l) {k : Nat} (hk : k < l.length) : W.cell? ⟨g, k * 3, none⟩ = some (.int .u32 (gd l k).1) ∧ W.cell? ⟨g, k * 3 + 1, none⟩ = some (.int .u32 (gd l k).2.1) ∧ W.cell? ⟨g, k * 3 + 2, none⟩ = some (.int .u32 (gd l k).2.2) := by
  obtain ⟨_, cs, hv, _, hr⟩ := h
  obtain ⟨h0, h1, h2⟩ := hr k hk
  exact ⟨(hv.cell _).trans h0, (hv.cell _).trans h1, (hv.cell _).trans h2⟩
theorem rowD_set {cs : Array Value} (h : RowD cs l) {k : Nat} (hc : k * 3 + 3 ≤ cs.size) (v : Du) : RowD (((cs.setIfInBounds (k * 3) (.int .u32 v.1)).setIfInBounds (k * 3 + 1) (.int .u32 v.2.1)).setIfInBounds (k * 3 + 2) (.int .u32 v.2.2)) (l.set k v) := by
  intro j hj
  rw [List.length_set] at hj
  have e : gd (l.set k v) j = if j = k then v else gd l j := by
    unfold gd
    rw [List.getElem?_set]
    by_cases c : k = j
    · subst c; rw [if_pos rfl, if_pos hj, if_pos rfl]; rfl
    · rw [if_neg c, if_neg (fun e => c e.symm)]
  rw [e]
  obtain ⟨h0, h1, h2⟩ := h j hj
  simp only [Array.getElem?_setIfInBounds, Array.size_setIfInBounds]
  by_cases c : j = k
  · subst c
    have e1 : (if j = j then v else gd l j) = v := if_pos rfl
    rw [e1]
    refine ⟨?_, ?_, ?_⟩
    · rw [if_neg (by omega), if_neg (by omega), if_pos rfl, if_pos (by omega)]
    · rw [if_neg (by omega), if_pos rfl, if_pos (by omega)]
    · rw [if_pos rfl, if_pos (by omega)]
  · rw [if_neg c]
    refine ⟨?_, ?_, ?_⟩
    · rw [if_neg (by omega), if_neg (by omega), if_neg (by omega)]; exact h0
    · rw [if_neg (by omega), if_neg (by omega), if_neg (by omega)]; exact h1
    · rw [if_neg (by omega), if_neg (by omega), if_neg (by omega)]; exact h2
/-- A due stored into its place of the row. -/
theorem wpList_store_due {ops : Array Oper} {rest : List Oper} {o : Oper} {a : Act} {Q : Exit → Act → World → Prop} (hgd : o.guard = none) (x y : Operand) (ho : o.op = .store 31 x y)
    (k : Nat) (v : Du) (hx : a.eval x = .pointer (some ⟨g, k * 3, none⟩)) (hy : a.eval y = .agg #[.int .u32 v.1, .int .u32 v.2.1, .int .u32 v.2.2]) (hR : RowAt W g cap l) (hk : k < l.length)
    (h : ∀ W', RowAt W' g cap (l.set k v) → Turn (· = g) W W' → wpList Try.prog ops Q rest (a.put o.dst undef) W') : wpList Try.prog ops Q (o :: rest) a W := by
  obtain ⟨hl, cs, hv, hs, hr⟩ := hR
  refine wpList_store_mid hgd _ x y ho g (k * 3) #[.int .u32 v.1, .int .u32 v.2.1, .int .u32 v.2.2] hx hy ?_ (by kernel_rfl) (by simp [Value.oneCell']) ?_
  · intro j hj
    have hj' : j < 3 := hj
    exact ⟨by rw [hv.cell]; rw [Array.getElem?_eq_getElem (by omega)]; rfl, hv.free _⟩
  · have hT : Turn (· = g) W (((W.setCell ⟨g, k * 3, none⟩ (.int .u32 v.1)).setCell ⟨g, k * 3 + 1, none⟩ (.int .u32 v.2.1)).setCell ⟨g, k * 3 + 2, none⟩ (.int .u32 v.2.2)) :=
      Turn.set (Turn.set (Turn.set (Turn.refl (· = g) W) (p := ⟨g, k * 3, none⟩) rfl _) (p := ⟨g, k * 3 + 1, none⟩) rfl _) (p := ⟨g, k * 3 + 2, none⟩) rfl _
    exact h _ ⟨by rw [List.length_set]; exact hl, _, ((hv.store (k * 3) (.int .u32 v.1)).store (k * 3 + 1) (.int .u32 v.2.1)).store (k * 3 + 2) (.int .u32 v.2.2), by simp [hs], rowD_set hr (by omega) v⟩ hT
end

/-- The heap of dues d with its places in mb, its dues l in the row g; keys of ext stand in the map besides. -/
structure HpAt (W : World) (d vb mb g cap n : Nat) (most : Int) (l : List Du) (ext : List (Int × Int)) : Prop where
  dv : Var W d 52 #[.slice (some ⟨g, 0, none⟩) n cap, .func (.func 20) #[] #[], .func (.func 21) #[] #[.pointer (some ⟨vb, 0, none⟩)], .map (some mb), .int .i64 most]
  vv : Var W vb 24 #[.pointer (some ⟨d, 0, none⟩)]
  row : RowAt W g cap l
  len : l.length = n
  mp : ∃ D, MapAt W mb D ∧ PlaceD D l ext
  keys : KeysD l
  ud : ∀ x ∈ l, UD x
  bd : n + ext.length ≤ 5000
  ne : g ≠ d ∧ g ≠ mb ∧ g ≠ vb ∧ d ≠ mb ∧ d ≠ vb ∧ mb ≠ vb
theorem HpAt.below {W W' : World} {d vb mb g cap n : Nat} {most : Int} {l : List Du} {ext : List (Int × Int)} (h : HpAt W d vb mb g cap n most l ext) (hb : Below W.heap.size W W') : HpAt W' d vb mb g cap n most l ext := by
  obtain ⟨D, hm, hp⟩ := h.mp
  exact ⟨h.dv.keep hb, h.vv.keep hb, h.row.below hb, h.len, ⟨D, hm.turn (S := fun _ => False) (Turn.of_below hb) (fun h => h), hp⟩, h.keys, h.ud, h.bd, h.ne⟩
theorem HpAt.wide {S : Nat → Prop} {W W' : World} {d vb mb g cap n : Nat} {most : Int} {l : List Du} {ext : List (Int × Int)} (h : HpAt W d vb mb g cap n most l ext) (ht : Turn S W W') (h1 : ¬ S d) (h2 : ¬ S vb) (h3 : ¬ S mb) (h4 : ¬ S g) : HpAt W' d vb mb g cap n most l ext := by
  obtain ⟨D, hm, hp⟩ := h.mp
  exact ⟨h.dv.turn ht h1, h.vv.turn ht h2, h.row.turn ht h4, h.len, ⟨D, hm.turn ht h3, hp⟩, h.keys, h.ud, h.bd, h.ne⟩

theorem row_swap {W : World} {g cap : Nat} {l : List Du} {i j : Nat} (h : RowAt W g cap l) (hi : i < l.length) (hj : j < l.length) :
    RowAt (((((((W.setCell ⟨g, i * 3, none⟩ (.int .u32 (gd l j).1)).setCell ⟨g, i * 3 + 1, none⟩ (.int .u32 (gd l j).2.1)).setCell ⟨g, i * 3 + 2, none⟩ (.int .u32 (gd l j).2.2)).setCell ⟨g, j * 3, none⟩ (.int .u32 (gd l i).1)).setCell ⟨g, j * 3 + 1, none⟩ (.int .u32 (gd l i).2.1)).setCell ⟨g, j * 3 + 2, none⟩ (.int .u32 (gd l i).2.2)).drew) g cap (swp l i j) ∧
    Turn (· = g) W (((((((W.setCell ⟨g, i * 3, none⟩ (.int .u32 (gd l j).1)).setCell ⟨g, i * 3 + 1, none⟩ (.int .u32 (gd l j).2.1)).setCell ⟨g, i * 3 + 2, none⟩ (.int .u32 (gd l j).2.2)).setCell ⟨g, j * 3, none⟩ (.int .u32 (gd l i).1)).setCell ⟨g, j * 3 + 1, none⟩ (.int .u32 (gd l i).2.1)).setCell ⟨g, j * 3 + 2, none⟩ (.int .u32 (gd l i).2.2)).drew) := by
  obtain ⟨hl, cs, hv, hs, hr⟩ := h
  have r1 := rowD_set hr (k := i) (by omega) (gd l j)
  have r2 := rowD_set r1 (k := j) (by simp; omega) (gd l i)
  refine ⟨⟨by rw [swp_len]; exact hl, _, ((((((hv.store (i * 3) _).store (i * 3 + 1) _).store (i * 3 + 2) _).store (j * 3) _).store (j * 3 + 1) _).store (j * 3 + 2) _).drew, by simp [hs], r2⟩, ?_⟩
  have s : ∀ {V : World} (q : Nat) (u : Value), Turn (· = g) W V → Turn (· = g) W (V.setCell ⟨g, q, none⟩ u) := fun q u h => Turn.set h (p := ⟨g, q, none⟩) rfl u
  exact (s _ _ (s _ _ (s _ _ (s _ _ (s _ _ (s _ _ (Turn.refl (· = g) W))))))).trans (Turn.of_below (Below.refl _ _).drew)

set_option maxHeartbeats 2000000 in
set_option maxRecDepth 100000 in
theorem swap_any (d vb mb g cap n i j : Nat) (most : Int) (l : List Du) (ext : List (Int × Int)) (w : World) (H : HpAt w d vb mb g cap n most l ext) (hi : i < n) (hj : j < n) :
    Calls Try.prog 48 #[.pointer (some ⟨d, 0, none⟩), .int .i64 (i : Int), .int .i64 (j : Int)] w fun e w' => (∃ u, e = .returned u) ∧ HpAt w' d vb mb g cap n most (swp l i j) ext ∧ Turn (fun b => b = g ∨ b = mb) w w' := by
  have hil : i < l.length := by rw [H.len]; exact hi
  have hjl : j < l.length := by rw [H.len]; exact hj
  have hD : w.cell? ⟨d, 0, none⟩ = some (.slice (some ⟨g, 0, none⟩) n cap) := H.dv.cell 0
  obtain ⟨ci0, ci1, ci2⟩ := H.row.cells hil
  obtain ⟨cj0, cj1, cj2⟩ := H.row.cells hjl
  have hiI : (i : Int) < (n : Int) := by omega
  have hjI : (j : Int) < (n : Int) := by omega
  obtain ⟨hlc, cs, hv, hsz, hrd⟩ := H.row
  have ex : ∀ (C : Array Value) (W : World), Var W g 31 C → C.size = cap * 3 → ∀ q, q < cap * 3 → ∃ v, W.cell? ⟨g, q, none⟩ = some v := fun C W h hs q hq => ⟨C[q], (h.cell q).trans (Array.getElem?_eq_getElem (by omega))⟩
  have zd := H.dv.lt
  have zg := H.row.lt
  obtain ⟨⟨a0, a1, a2⟩, ha⟩ : ∃ x, gd l i = x := ⟨_, rfl⟩
  obtain ⟨⟨b0, b1, b2⟩, hb⟩ : ∃ x, gd l j = x := ⟨_, rfl⟩
  rw [ha] at ci0 ci1 ci2
  rw [hb] at cj0 cj1 cj2
  dsimp only at ci0 ci1 ci2 cj0 cj1 cj2
  have HA := Lib.hid (And.intro ha (And.intro hb (And.intro H (And.intro hil hjl))))
  obtain ⟨X, hX⟩ : ∃ X, ((w.setCell ⟨g, i * 3, none⟩ (.int .u32 b0)).setCell ⟨g, i * 3 + 1, none⟩ (.int .u32 b1)).setCell ⟨g, i * 3 + 2, none⟩ (.int .u32 b2) = X := ⟨_, rfl⟩
  have hVX : Var X g 31 (((cs.setIfInBounds (i * 3) (.int .u32 b0)).setIfInBounds (i * 3 + 1) (.int .u32 b1)).setIfInBounds (i * 3 + 2) (.int .u32 b2)) := by rw [← hX]; exact ((hv.store _ _).store _ _).store _ _
  obtain ⟨v0, e0⟩ := ex _ _ hVX (by simp [hsz]) (j * 3) (by omega)
  obtain ⟨v1, e1⟩ := ex _ _ hVX (by simp [hsz]) (j * 3 + 1) (by omega)
  obtain ⟨v2, e2⟩ := ex _ _ hVX (by simp [hsz]) (j * 3 + 2) (by omega)
  rw [← hX] at e0 e1 e2
  have fr : ∀ q, w.frozen? ⟨g, q, none⟩ = false := fun q => hv.free q
  clear ha hb H hil hjl hX hVX ex hlc hv hsz hrd
  go_enter Try.func48, Try.ntmps48
  go_wp2_with fail
  go_region
  go_wp2_with fail
  refine wp_gen (fun W3 hW3 => ?_)
  have HR : Hid (RowAt W3 g cap (swp l i j) ∧ Turn (· = g) w W3) := Lib.hid (by
    rw [hW3]
    obtain ⟨ha, hb, H, hil, hjl⟩ := HA.out
    have r := row_swap H.row hil hjl
    rw [ha, hb] at r
    exact r)
  clear hW3 e0 e1 e2 fr ci0 ci1 ci2 cj0 cj1 cj2 hD
  obtain ⟨ha, hb, H, hil, hjl⟩ := HA.out
  obtain ⟨hR3, hT3⟩ := HR.out
  obtain ⟨D, hm, hp⟩ := H.mp
  obtain ⟨n1, n2, n3, n4, n5, n6⟩ := H.ne
  have hsi : gd (swp l i j) i = (b0, b1, b2) := by
    rw [swp_at hil hjl, ← hb]
    by_cases c : i = j
    · rw [if_pos c, c]
    · rw [if_neg c, if_pos rfl]
  have hsj : gd (swp l i j) j = (a0, a1, a2) := by rw [swp_at hil hjl, if_pos rfl, ha]
  have hpl := place_swap hp H.keys H.ud hil hjl
  have p1 := place_put hp H.ud hjl (i64L i)
  rw [ha, hb] at hpl
  rw [hb] at p1
  have hub : UD (b0, b1, b2) := by rw [← hb]; exact ud_at H.ud hjl
  have hua : UD (a0, a1, a2) := by rw [← ha]; exact ud_at H.ud hil
  have hcnt : Maps.size D ≤ 100000 := by have := hp.count; have := H.bd; have := H.len; omega
  have hi5 : i ≤ 100000 := by have := H.bd; omega
  have hj5 : j ≤ 100000 := by have := H.bd; omega
  have dv3 := H.dv.turn hT3 (fun e => n1 e.symm)
  have vv3 := H.vv.turn hT3 (fun e => n3 e.symm)
  have m3 := hm.turn hT3 (fun e => n2 e.symm)
  have c0 : W3.cell? ⟨d, 0, none⟩ = some (.slice (some ⟨g, 0, none⟩) n cap) := dv3.cell 0
  have c2 : W3.cell? ⟨d, 2, none⟩ = some (.func (.func 21) #[] #[.pointer (some ⟨vb, 0, none⟩)]) := dv3.cell 2
  obtain ⟨g0, g1, g2⟩ := hR3.cells (k := i) (by rw [swp_len]; exact hil)
  rw [hsi] at g0 g1 g2
  dsimp only at g0 g1 g2
  have y1 := dv3.lt
  have y2 := hR3.lt
  have HH := Lib.hid (And.intro H (And.intro hpl (And.intro p1 (And.intro hsj (And.intro hT3 (And.intro hR3 (And.intro dv3 (And.intro vv3 (And.intro m3 (And.intro hcnt (And.intro hub hua)))))))))))
  have HN := Lib.hid (And.intro n1 (And.intro n2 (And.intro n3 (And.intro n4 (And.intro n5 n6)))))
  have HJ := Lib.hid (And.intro hi5 (And.intro hj5 (And.intro hil hjl)))
  clear H hpl p1 hsj hsi hT3 hR3 dv3 vv3 m3 hcnt hub hua n1 n2 n3 n4 n5 n6 hi5 hj5 hil hjl ha hb hm hp HR HA
  have hq_W3 := @wd_cell W3
  refine wp_region_wd_tail 12 (by kernel_rfl) (by kernel_rfl) ?_
  simp only [List.take_succ_cons, List.take_zero, List.drop_succ_cons, List.drop_zero]
  repeat (go_big_quiet_step (fail))
  refine wpQuiet_nil ?_
  rintro w4 ⟨⟨wx, hb_w4⟩, hwx⟩
  obtain rfl : w4 = wx := hwx
  clear hq_W3
  have hz_w4 := hb_w4.size
  obtain ⟨hc_w4, hf_w4⟩ := bcell hb_w4
  have hb4 := Lib.hid hb_w4
  clear hb_w4 hc_w4 hf_w4 hz_w4 c0 c2 g0 g1 g2
  go_wp2_with fail
  obtain ⟨_, _, _, _, _, _, dv3, vv3, m3, hcnt, hub, _⟩ := HH.out
  refine (at_any (b0, b1, b2) hub i HJ.out.1 d mb vb D w4 (vv3.keep hb4.out) ((dv3.keep hb4.out).cell 3) (m3.turn (S := fun _ => False) (Turn.of_below hb4.out) (fun h => h)) hcnt).mono ?_
  rintro e w5 ⟨⟨u5, rfl⟩, m5, hT5⟩
  have hT35 : Turn (· = mb) W3 w5 := (Turn.of_below hb4.out).trans hT5
  obtain ⟨H, hpl, p1, hsj, hT3, hR3, dv3, vv3, m3, hcnt, hub, hua⟩ := HH.out
  obtain ⟨n1, n2, n3, n4, n5, n6⟩ := HN.out
  have dv5 := dv3.turn hT35 n4
  have vv5 := vv3.turn hT35 (fun e => n6 e.symm)
  have hR5 := hR3.turn hT35 n2
  have c0 : w5.cell? ⟨d, 0, none⟩ = some (.slice (some ⟨g, 0, none⟩) n cap) := dv5.cell 0
  have c2 : w5.cell? ⟨d, 2, none⟩ = some (.func (.func 21) #[] #[.pointer (some ⟨vb, 0, none⟩)]) := dv5.cell 2
  obtain ⟨g0, g1, g2⟩ := hR5.cells (k := j) (by rw [swp_len]; exact HJ.out.2.2.2)
  rw [hsj] at g0 g1 g2
  dsimp only at g0 g1 g2
  have y1 := dv5.lt
  have y2 := hR5.lt
  have hcn1 : Maps.size (D.put (KL (b1, b2)) (i64L i)) ≤ 100000 := by rw [p1.1]; exact hcnt
  have HH5 := Lib.hid (And.intro H (And.intro hpl (And.intro (hT3.mono (S' := fun b => b = g ∨ b = mb) (fun _ h => .inl h) |>.trans (hT35.mono fun _ h => .inr h)) (And.intro hR5 (And.intro dv5 (And.intro vv5 (And.intro m5 (And.intro hcn1 hua))))))))
  clear H hpl p1 hsj hT3 hR3 dv3 vv3 m3 hcnt hub hua n1 n2 n3 n4 n5 n6 dv5 vv5 hR5 m5 hcn1 HH hT5 hT35 hb4
  go_wp2_with fail
  have hq_w5 := @wd_cell w5
  refine wp_region_wd_tail 12 (by kernel_rfl) (by kernel_rfl) ?_
  simp only [List.take_succ_cons, List.take_zero, List.drop_succ_cons, List.drop_zero]
  repeat (go_big_quiet_step (fail))
  refine wpQuiet_nil ?_
  rintro w6 ⟨⟨wx, hb_w6⟩, hwx⟩
  obtain rfl : w6 = wx := hwx
  clear hq_w5
  have hz_w6 := hb_w6.size
  obtain ⟨hc_w6, hf_w6⟩ := bcell hb_w6
  have hb6 := Lib.hid hb_w6
  clear hb_w6 hc_w6 hf_w6 hz_w6 c0 c2 g0 g1 g2
  go_wp2_with fail
  obtain ⟨_, _, _, _, dv5, vv5, m5, hcn1, hua⟩ := HH5.out
  refine (at_any (a0, a1, a2) hua j HJ.out.2.1 d mb vb _ w6 (vv5.keep hb6.out) ((dv5.keep hb6.out).cell 3) (m5.turn (S := fun _ => False) (Turn.of_below hb6.out) (fun h => h)) hcn1).mono ?_
  rintro e w7 ⟨⟨u7, rfl⟩, m7, hT7⟩
  go_wp2_with fail
  go_end0
  obtain ⟨H, hpl, hT, hR5, dv5, vv5, m5, hcn1, hua⟩ := HH5.out
  obtain ⟨n1, n2, n3, n4, n5, n6⟩ := HN.out
  have hT57 : Turn (· = mb) w5 w7 := (Turn.of_below hb6.out).trans hT7
  exact ⟨⟨_, rfl⟩, ⟨dv5.turn hT57 n4, vv5.turn hT57 (fun e => n6 e.symm), hR5.turn hT57 n2, by rw [swp_len]; exact H.len, ⟨_, m7, hpl⟩, keys_swp H.keys HJ.out.2.2.1 HJ.out.2.2.2, ud_swp H.ud HJ.out.2.2.1 HJ.out.2.2.2, H.bd, H.ne⟩, hT.trans (hT57.mono fun _ h => .inr h)⟩
end Go.Proofs.Ytlogidnadfimlaa
