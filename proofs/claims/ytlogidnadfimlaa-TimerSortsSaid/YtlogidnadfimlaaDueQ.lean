/-
  The dues' heap as it stands between calls; one more put in.
-/
import Derived.Test.YtlogidnadfimlaaDueD
import Derived.Deep.AppendLies
import Derived.Deep.RegionLaw
namespace Go.Proofs.Ytlogidnadfimlaa
open Go.RowKit Go.Maps

def flatD : List Du → List Value
  | [] => []
  | x :: l => .int .u32 x.1 :: .int .u32 x.2.1 :: .int .u32 x.2.2 :: flatD l
theorem flatD_len : ∀ l : List Du, (flatD l).length = l.length * 3
  | [] => rfl
  | x :: l => by simp only [flatD, List.length_cons, flatD_len l]; omega
theorem flatD_snoc (v : Du) : ∀ l : List Du, flatD (l ++ [v]) = flatD l ++ [.int .u32 v.1, .int .u32 v.2.1, .int .u32 v.2.2]
  | [] => rfl
  | x :: l => by simp only [List.cons_append, flatD, flatD_snoc v l]
theorem flatD_at : ∀ (l : List Du) (k : Nat), k < l.length → (flatD l)[k * 3]? = some (.int .u32 (gd l k).1) ∧ (flatD l)[k * 3 + 1]? = some (.int .u32 (gd l k).2.1) ∧ (flatD l)[k * 3 + 2]? = some (.int .u32 (gd l k).2.2)
  | [], k, h => absurd h (Nat.not_lt_zero _)
  | x :: l, 0, _ => ⟨rfl, rfl, rfl⟩
  | x :: l, k + 1, h => by
    have ih := flatD_at l k (by simpa using h)
    have e : gd (x :: l) (k + 1) = gd l k := rfl
    rw [e]
    refine ⟨?_, ?_, ?_⟩
    · rw [show (k + 1) * 3 = k * 3 + 1 + 1 + 1 by omega]; exact ih.1
    · rw [show (k + 1) * 3 + 1 = k * 3 + 1 + 1 + 1 + 1 by omega]; exact ih.2.1
    · rw [show (k + 1) * 3 + 2 = k * 3 + 2 + 1 + 1 + 1 by omega]; exact ih.2.2
theorem eltD : Elt Try.prog 23 31 (.agg #[.int .u32 0, .int .u32 0, .int .u32 0]) 3 12 := ⟨Try.underlying23, by kernel_rfl, rfl, by decide⟩
theorem three_cells {x y z : Value} (hx : x.oneCell' = true) (hy : y.oneCell' = true) (hz : z.oneCell' = true) : ∀ u ∈ [x, y, z], u.oneCell' = true := fun u hu => by
  simp only [List.mem_cons, List.not_mem_nil, or_false] at hu
  rcases hu with rfl | rfl | rfl <;> assumption
theorem rowD_take {cs : Array Value} {l : List Du} (h : cs.toList.take (l.length * 3) = flatD l) : RowD cs l := fun k hk => by
  obtain ⟨h0, h1, h2⟩ := flatD_at l k hk
  rw [← h] at h0 h1 h2
  rw [List.getElem?_take_of_lt (by omega)] at h0 h1 h2
  simp only [Array.getElem?_toList] at h0 h1 h2
  exact ⟨h0, h1, h2⟩
theorem take_rowD {cs : Array Value} {l : List Du} (h : RowD cs l) (hs : l.length * 3 ≤ cs.size) : cs.toList.take (l.length * 3) = flatD l := by
  refine List.ext_getElem? fun j => ?_
  rcases Nat.lt_or_ge j (l.length * 3) with hj | hj
  · rw [List.getElem?_take_of_lt hj, Array.getElem?_toList]
    obtain ⟨h0, h1, h2⟩ := h (j / 3) (by omega)
    obtain ⟨k0, k1, k2⟩ := flatD_at l (j / 3) (by omega)
    rcases (show j = j / 3 * 3 ∨ j = j / 3 * 3 + 1 ∨ j = j / 3 * 3 + 2 by omega) with e | e | e <;> rw [e]
    · rw [h0, k0]
    · rw [h1, k1]
    · rw [h2, k2]
  · rw [List.getElem?_eq_none (by simp; omega), List.getElem?_eq_none (by rw [flatD_len]; exact hj)]
theorem row_of_own {W : World} {b g cap n : Nat} {l : List Du} (h : W.ownsRow b 31 3 (.slice (some ⟨g, 0, none⟩) n cap) n (flatD l)) (hl : l.length = n) : RowAt W g cap l ∧ cap ≤ maxLen := by
  rcases h.2 with ⟨hv, _⟩ | ⟨g', cap', cur, hv, _, hg, h1, h2, h3, h4⟩
  · cases hv
  · injection hv with e1 _ e3
    injection e1 with e1
    injection e1 with e1
    subst e1 e3
    exact ⟨⟨by omega, cur, hg, h3, rowD_take (by rw [hl]; exact h4)⟩, h2⟩
theorem own_of_row {W : World} {g cap n : Nat} {l : List Du} (h : RowAt W g cap l) (hl : l.length = n) (hc : cap ≤ maxLen) : W.ownsRow 0 31 3 (.slice (some ⟨g, 0, none⟩) n cap) n (flatD l) := by
  obtain ⟨h1, cs, h2, h3, h4⟩ := h
  exact ⟨by rw [flatD_len, hl], .inr ⟨g, cap, cs, rfl, Nat.zero_le _, h2, by omega, hc, h3, by rw [← hl]; exact take_rowD h4 (by omega)⟩⟩

/-- The heap of dues d as it stands between two calls: its list may be nil yet. -/
structure DuAt (W : World) (d vb mb : Nat) (A : Option Addr) (cap n : Nat) (most : Int) (l : List Du) : Prop where
  dv : Var W d 52 #[.slice A n cap, .func (.func 20) #[] #[], .func (.func 21) #[] #[.pointer (some ⟨vb, 0, none⟩)], .map (some mb), .int .i64 most]
  vv : Var W vb 24 #[.pointer (some ⟨d, 0, none⟩)]
  row : W.ownsRow 0 31 3 (.slice A n cap) n (flatD l)
  len : l.length = n
  mp : ∃ D, MapAt W mb D ∧ PlaceD D l []
  keys : KeysD l
  ud : ∀ x ∈ l, UD x
  heap : HeapL l
  bd : n ≤ 4096
  ne : d ≠ mb ∧ d ≠ vb ∧ mb ≠ vb ∧ ∀ k, (Value.slice A n cap).ownBlock = some k → k ≠ d ∧ k ≠ mb ∧ k ≠ vb
theorem DuAt.turn {S : Nat → Prop} {W W' : World} {d vb mb : Nat} {A : Option Addr} {cap n : Nat} {most : Int} {l : List Du} (h : DuAt W d vb mb A cap n most l) (ht : Turn S W W') (h1 : ¬ S d) (h2 : ¬ S vb) (h3 : ¬ S mb) (h4 : ∀ k, (Value.slice A n cap).ownBlock = some k → ¬ S k) : DuAt W' d vb mb A cap n most l := by
  obtain ⟨D, hm, hp⟩ := h.mp
  exact ⟨h.dv.turn ht h1, h.vv.turn ht h2, own_turn h.row ht h4, h.len, ⟨D, hm.turn ht h3, hp⟩, h.keys, h.ud, h.heap, h.bd, h.ne⟩
theorem DuAt.below {W W' : World} {d vb mb : Nat} {A : Option Addr} {cap n : Nat} {most : Int} {l : List Du} (h : DuAt W d vb mb A cap n most l) (hb : Below W.heap.size W W') : DuAt W' d vb mb A cap n most l :=
  h.turn (S := fun _ => False) (Turn.of_below hb) (fun h => h) (fun h => h) (fun h => h) (fun _ _ h => h)
theorem DuAt.hp {W : World} {d vb mb g cap n : Nat} {most : Int} {l : List Du} (h : DuAt W d vb mb (some ⟨g, 0, none⟩) cap n most l) : HpAt W d vb mb g cap n most l [] ∧ cap ≤ maxLen := by
  obtain ⟨hr, hc⟩ := row_of_own h.row h.len
  obtain ⟨n1, n2, n3, n4⟩ := h.ne
  obtain ⟨m1, m2, m3⟩ := n4 g rfl
  exact ⟨⟨h.dv, h.vv, hr, h.len, h.mp, h.keys, h.ud, by have := h.bd; simp; omega, m1, m2, m3, n1, n2, n3⟩, hc⟩
theorem HpAt.du {W : World} {d vb mb g cap n : Nat} {most : Int} {l : List Du} (h : HpAt W d vb mb g cap n most l []) (hc : cap ≤ maxLen) (hh : HeapL l) (hb : n ≤ 4096) : DuAt W d vb mb (some ⟨g, 0, none⟩) cap n most l := by
  obtain ⟨n1, n2, n3, n4, n5, n6⟩ := h.ne
  exact ⟨h.dv, h.vv, own_of_row h.row h.len hc, h.len, h.mp, h.keys, h.ud, hh, hb, n4, n5, n6, fun k hk => by
    have e : g = k := Option.some.inj hk
    subst e
    exact ⟨n1, n2, n3⟩⟩
theorem Turn.transN {S S' : Nat → Prop} {w w' w'' : World} (h : Turn S w w') (k : Turn S' w' w'') (hs : ∀ b, S' b → S b ∨ w.heap.size ≤ b) : Turn S w w'' :=
  ⟨k.os.trans h.os, k.tape.trans h.tape, k.output.trans h.output, Nat.le_trans h.size k.size, fun i hi hn => (k.block i (Nat.lt_of_lt_of_le hi h.size) (fun e => (hs i e).elim hn (fun c => by omega))).trans (h.block i hi hn)⟩
/-- The blocks that a call on the dues may turn. -/
def DuS (d mb : Nat) (A : Option Addr) (b : Nat) : Prop := b = d ∨ b = mb ∨ (Value.slice A 0 0).ownBlock = some b
theorem ob_any (A : Option Addr) (a b c e : Nat) : (Value.slice A a b).ownBlock = (Value.slice A c e).ownBlock := by cases A <;> rfl

theorem push_mid {d vb mb cap cap' n B gg : Nat} {A : Option Addr} {most v0 v1 v2 : Int} {l : List Du} {w W0 w1 W2 : World} (hW2 : W2 = (w1.setCell ⟨d, 0, none⟩ (.slice (some ⟨gg, 0, none⟩) (n + 1) cap'))) (hB : w.heap.size = B) (H : DuAt w d vb mb A cap n most l) (hb0 : Below w.heap.size w W0) (vB : Var W0 B 31 #[.int .u32 v0, .int .u32 v1, .int .u32 v2])
    (hown : w1.ownsRow 0 31 3 (.slice (some ⟨gg, 0, none⟩) (n + 1) cap') (n + 1) (flatD l ++ [.int .u32 v0, .int .u32 v1, .int .u32 v2])) (hgrow : (W0.alloc (.cells #[.int .u32 v0, .int .u32 v1, .int .u32 v2] 31)).drew.grownBy w1 (Value.slice A n cap).ownBlock) (hat : (Value.slice A n cap).ownBlock = some gg ∨ gg = W0.heap.size + 1) :
    Turn (DuS d mb A) w W2 ∧ Var W2 B 31 #[.int .u32 v0, .int .u32 v1, .int .u32 v2] ∧ Var W2 d 52 #[.slice (some ⟨gg, 0, none⟩) (n + 1) cap', .func (.func 20) #[] #[], .func (.func 21) #[] #[.pointer (some ⟨vb, 0, none⟩)], .map (some mb), .int .i64 most] ∧ Var W2 vb 24 #[.pointer (some ⟨d, 0, none⟩)] ∧ RowAt W2 gg cap' (l ++ [(v0, v1, v2)]) ∧ cap' ≤ maxLen ∧ (∃ D, MapAt W2 mb D ∧ PlaceD D l []) ∧ (gg ≠ d ∧ gg ≠ mb ∧ gg ≠ vb) ∧ (∀ k, (Value.slice (some ⟨gg, 0, none⟩) 0 0).ownBlock = some k → (Value.slice A 0 0).ownBlock = some k ∨ w.heap.size ≤ k) := by
  subst hW2
  have hz0 := hb0.size
  obtain ⟨n1, n2, n3, n4⟩ := H.ne
  have zd := H.dv.lt
  have zv := H.vv.lt
  obtain ⟨D, hm, hp⟩ := H.mp
  have zm : mb < w.heap.size := hm.lt
  have hT1 : Turn (fun b => (Value.slice A n cap).ownBlock = some b) w w1 :=
    (Turn.of_below (hb0.trans (((Below.refl W0.heap.size W0).alloc (Nat.le_refl _) (.cells #[.int .u32 v0, .int .u32 v1, .int .u32 v2] 31)).drew.mono hz0))).trans (Turn.grown hgrow (fun k e => e))
  have hgn : gg ≠ d ∧ gg ≠ mb ∧ gg ≠ vb := by
    rcases hat with h | h
    · exact n4 gg h
    · omega
  have hBd : B ≠ d := by omega
  have hBo : ∀ k, (Value.slice A n cap).ownBlock = some k → k < B := fun k hk => by rw [← hB]; exact (H.row.lt k hk).2
  have hT2 : Turn (DuS d mb A) w (w1.setCell ⟨d, 0, none⟩ (.slice (some ⟨gg, 0, none⟩) (n + 1) cap')) :=
    Turn.set (hT1.mono (fun k hk => .inr (.inr ((ob_any _ _ _ _ _).trans hk)))) (p := ⟨d, 0, none⟩) (.inl rfl) _
  have vB1 : Var w1 B 31 #[.int .u32 v0, .int .u32 v1, .int .u32 v2] := by
    have : Var (W0.alloc (.cells #[.int .u32 v0, .int .u32 v1, .int .u32 v2] 31)) B 31 #[.int .u32 v0, .int .u32 v1, .int .u32 v2] := vB.alloc _
    exact Var.grown (w := (W0.alloc (.cells #[.int .u32 v0, .int .u32 v1, .int .u32 v2] 31)).drew) this hgrow (fun e => by have := hBo B e.symm; omega)
  have e : flatD l ++ [.int .u32 v0, .int .u32 v1, .int .u32 v2] = flatD (l ++ [((v0, v1, v2) : Du)]) := (flatD_snoc (v0, v1, v2) l).symm
  rw [e] at hown
  obtain ⟨hr, hc⟩ := row_of_own hown (by rw [List.length_append, H.len]; rfl)
  refine ⟨hT2, vB1.far hBd _, ?_, (H.vv.turn hT1 (fun e => (n4 vb e).2.2 rfl)).far (fun e => n2 e.symm) _, hr.turn (S := (· = d)) (Turn.set (Turn.refl (· = d) w1) (p := ⟨d, 0, none⟩) rfl _) hgn.1, hc, ⟨D, (hm.turn hT1 (fun e => (n4 mb e).2.1 rfl)).turn (S := (· = d)) (Turn.set (Turn.refl (· = d) w1) (p := ⟨d, 0, none⟩) rfl _) (fun e => n1 e.symm), hp⟩, hgn, fun k hk => ?_⟩
  · exact (H.dv.turn hT1 (fun e => (n4 d e).1 rfl)).store 0 _
  · have ek : gg = k := Option.some.inj hk
    subst ek
    rcases hat with h | h
    · exact .inl ((ob_any _ _ _ _ _).trans h)
    · exact .inr (by omega)

set_option maxHeartbeats 4000000 in
set_option maxRecDepth 100000 in
theorem push_any (d vb mb cap n : Nat) (A : Option Addr) (most : Int) (l : List Du) (v : Du) (hv : UD v) (hnew : ∀ x ∈ l, ¬ x.2 = v.2) (hn : n ≤ 4095) (w : World) (H : DuAt w d vb mb A cap n most l) :
    Calls Try.prog 23 #[.pointer (some ⟨d, 0, none⟩), .agg #[.int .u32 v.1, .int .u32 v.2.1, .int .u32 v.2.2]] w fun e w' => (∃ u, e = .returned u) ∧ ∃ l' A' cap', l'.Perm (v :: l) ∧ DuAt w' d vb mb A' cap' (n + 1) most l' ∧ Turn (DuS d mb A) w w' ∧ ∀ k, (Value.slice A' 0 0).ownBlock = some k → (Value.slice A 0 0).ownBlock = some k ∨ w.heap.size ≤ k := by
  have HI := Lib.hid (And.intro H (And.intro hv hnew))
  have hD : w.cell? ⟨d, 0, none⟩ = some (.slice A n cap) := H.dv.cell 0
  have fD := H.dv.free 0
  have zd := H.dv.lt
  clear H hv hnew
  obtain ⟨v0, v1, v2⟩ := v
  dsimp only
  go_enter Try.func23, Try.ntmps23
  go_wp2_with fail
  refine wp_gen (fun W0 hW0 => ?_)
  have hb0 : Below w.heap.size w W0 := by rw [hW0]; go_grown
  have vB := Lib.hid (show Var W0 w.heap.size 31 #[.int .u32 v0, .int .u32 v1, .int .u32 v2] by rw [hW0]; exact Var.new _ _ _)
  have hD0 := (hb0.cell (p := ⟨d, 0, none⟩) zd).trans hD
  have fD0 := (hb0.frozen (p := ⟨d, 0, none⟩) zd).trans fD
  have e0 := vB.out.cell 0
  have e1 := vB.out.cell 1
  have e2 := vB.out.cell 2
  simp only [List.getElem?_toArray, List.getElem?_cons_zero, List.getElem?_cons_succ] at e0 e1 e2
  have zB := vB.out.lt
  have zd0 : d < W0.heap.size := by have := hb0.size; omega
  have H0 := Lib.hid (And.intro hb0 (HI.out.1.below hb0))
  obtain ⟨B, hB⟩ : ∃ B, w.heap.size = B := ⟨_, rfl⟩
  rw [hB] at vB e0 e1 e2 zB ⊢
  have HB := Lib.hid hB
  clear hW0 hb0 hD fD
  obtain ⟨i0, hi0, hz0, hz1, hz2⟩ := info_parts eltD.info
  have hown0 := H0.out.2.row
  have hob : (Value.slice A n cap).ownBlock ≠ some d := fun e => (H0.out.2.ne.2.2.2 d e).1 rfl
  have zW0 : B < W0.heap.size ∧ d < W0.heap.size := ⟨zB, zd0⟩
  have hlenI : (n : Int) ≤ 4095 := by omega
  have hba : Below W0.heap.size W0 (W0.alloc (.cells #[.int .u32 v0, .int .u32 v1, .int .u32 v2] 31)) := (Below.refl _ _).alloc (Nat.le_refl _) _
  have HDA := Lib.hid (And.intro ((hba.cell (p := ⟨d, 0, none⟩) zd0).trans hD0) ((hba.frozen (p := ⟨d, 0, none⟩) zd0).trans fD0))
  have HBA := Lib.hid hba
  clear hba
  go_region_law ((refine step_append_lies _ (by rfl) (.tmp 8) (.tmp 10) 23 (by rfl) 0 31 i0 _ 3 12 eltD.under hi0 hz0 hz1 hz2 rfl (by omega) (.slice A n cap) n (flatD l) (by rfl) ((hown0.alloc _).drew) ⟨W0.heap.size, 0, none⟩ 1 1 [.int .u32 v0, .int .u32 v1, .int .u32 v2] (by rfl) (by rfl) (World.news_of_block (cs := #[.int .u32 v0, .int .u32 v1, .int .u32 v2]) (t := 31) (fr := (0, 0)) (heap_alloc_new W0 _)) (by simp [Value.oneCell']) (by omega) (le_maxLen (by omega)) (by omega) (by omega) (W0.heap.size + 1) (by simp) ?_; intro gg cap' w1 hown1 hgrow hat hlt; have hD1 : w1.cell? ⟨d, 0, none⟩ = some (.slice A n cap) := (hgrow.cell_far _ (by simp; omega) (Ne.symm hob)).trans HDA.out.1; have fD1 : w1.frozen? ⟨d, 0, none⟩ = false := (hgrow.frozen_far _ (by simp; omega) (Ne.symm hob)).trans HDA.out.2))
  all_goals
    go_wp2_with fail
    refine wp_gen (fun W2 hW2 => ?_)
    have HW2 : Hid (Turn (DuS d mb A) w W2 ∧ Var W2 B 31 #[.int .u32 v0, .int .u32 v1, .int .u32 v2] ∧ Var W2 d 52 #[.slice (some ⟨gg, 0, none⟩) (n + 1) cap', .func (.func 20) #[] #[], .func (.func 21) #[] #[.pointer (some ⟨vb, 0, none⟩)], .map (some mb), .int .i64 most] ∧ Var W2 vb 24 #[.pointer (some ⟨d, 0, none⟩)] ∧ RowAt W2 gg cap' (l ++ [(v0, v1, v2)]) ∧ cap' ≤ maxLen ∧ (∃ D, MapAt W2 mb D ∧ PlaceD D l []) ∧ (gg ≠ d ∧ gg ≠ mb ∧ gg ≠ vb) ∧ (∀ k, (Value.slice (some ⟨gg, 0, none⟩) 0 0).ownBlock = some k → (Value.slice A 0 0).ownBlock = some k ∨ w.heap.size ≤ k)) := Lib.hid (push_mid hW2 HB.out (HI.out.1) H0.out.1 vB.out hown1 hgrow hat)
    clear hW2 hown1 hgrow hat hlt hD1 fD1 HDA HBA H0 hD0 fD0 e0 e1 e2 vB zd0 zB zW0 hown0 hob
    obtain ⟨_, vB, dv2, vv2, hr2, _⟩ := HW2.out
    have c0 : W2.cell? ⟨d, 0, none⟩ = some (.slice (some ⟨gg, 0, none⟩) (n + 1) cap') := dv2.cell 0
    have c2 : W2.cell? ⟨d, 2, none⟩ = some (.func (.func 21) #[] #[.pointer (some ⟨vb, 0, none⟩)]) := dv2.cell 2
    have e0 := vB.cell 0
    have e1 := vB.cell 1
    have e2 := vB.cell 2
    simp only [List.getElem?_toArray, List.getElem?_cons_zero, List.getElem?_cons_succ] at e0 e1 e2
    have y1 := dv2.lt
    have y2 := hr2.lt
    have y3 := vB.lt
    have hsub : IntKind.i64.wrap ((n : Int) + 1 - 1) = (n : Int) := by rw [show (n : Int) + 1 - 1 = (n : Int) by omega]; exact w64_16 ⟨by omega, by omega⟩
    clear vB dv2 vv2 hr2
    have hq_W2 := @wd_cell W2
    refine wp_region_wd_tail 11 (by kernel_rfl) (by kernel_rfl) ?_
    simp only [List.take_succ_cons, List.take_zero, List.drop_succ_cons, List.drop_zero]
    repeat (go_big_quiet_step (fail))
    refine wpQuiet_nil ?_
    rintro w3 ⟨⟨wx, hb_w3⟩, hwx⟩
    obtain rfl : w3 = wx := hwx
    clear hq_W2
    have hz_w3 := hb_w3.size
    obtain ⟨hc_w3, hf_w3⟩ := bcell hb_w3
    have hb3 := Lib.hid hb_w3
    clear hb_w3 hc_w3 hf_w3 hz_w3 c0 c2 e0 e1 e2 hsub
    go_wp2_with fail
    obtain ⟨_, _, dv2, vv2, _, _, ⟨D, hm2, hp2⟩, _, _⟩ := HW2.out
    refine (at_any (v0, v1, v2) HI.out.2.1 n (by omega) d mb vb D w3 (vv2.keep hb3.out) ((dv2.keep hb3.out).cell 3) (hm2.turn (S := fun _ => False) (Turn.of_below hb3.out) (fun h => h)) (by have := hp2.count; rw [HI.out.1.len] at this; simp at this; omega)).mono ?_
    rintro e w5 ⟨⟨u5, rfl⟩, m5, hT5⟩
    have hT25 : Turn (· = mb) W2 w5 := (Turn.of_below hb3.out).trans hT5
    have H5 : Hid (HpAt w5 d vb mb gg cap' (n + 1) most (l ++ [((v0, v1, v2) : Du)]) [] ∧ Turn (DuS d mb A) w w5) := Lib.hid (by
      obtain ⟨hT, _, dv2, vv2, hr2, hc2, _, ⟨g1, g2, g3⟩, _⟩ := HW2.out
      obtain ⟨hH, hv, hnew⟩ := HI.out
      obtain ⟨n1, n2, n3, n4⟩ := hH.ne
      have hno : Maps.has D (KL ((v0, v1, v2) : Du).2) = false := by
        cases hh : Maps.has D (KL ((v0, v1, v2) : Du).2) with
        | false => rfl
        | true =>
          rcases (hp2.keys _ hv.2).1 hh with ⟨x, hx, e⟩ | h
          · exact absurd e (hnew x hx)
          · cases h
      have hpp := place_push hp2 hH.ud hv hno
      rw [hH.len] at hpp
      refine ⟨⟨dv2.turn hT25 n1, vv2.turn hT25 (fun e => n3 e.symm), hr2.turn hT25 g2, by rw [List.length_append, hH.len]; rfl, ⟨_, m5, hpp⟩, ?_, ?_, by simp; omega, g1, g2, g3, n1, n2, n3⟩, hT.trans (hT25.mono fun k hk => .inr (.inl hk))⟩
      · refine List.pairwise_append.2 ⟨hH.keys, List.pairwise_singleton _ _, fun a ha b hb => ?_⟩
        rw [List.mem_singleton] at hb
        subst hb
        exact hnew a ha
      · intro x hx
        rcases List.mem_append.1 hx with h | h
        · exact hH.ud x h
        · rw [List.mem_singleton] at h
          subst h
          exact hv)
    clear m5 hT5 hT25 dv2 vv2 hm2 hp2
    have c0 : w5.cell? ⟨d, 0, none⟩ = some (.slice (some ⟨gg, 0, none⟩) (n + 1) cap') := H5.out.1.dv.cell 0
    have y5 := H5.out.1.dv.lt
    go_wp2_with fail
    refine (up_any d vb mb gg cap' (n + 1) n most (l ++ [((v0, v1, v2) : Du)]) [] w5 H5.out.1 (by omega) (by have := push_near HI.out.1.heap ((v0, v1, v2) : Du); rw [HI.out.1.len] at this; exact this)).mono ?_
    rintro e w6 ⟨⟨u6, rfl⟩, l', hp6, hd6, hH6, hT6⟩
    go_wp2_with fail
    go_end0
    have hl6 : l'.length = n + 1 := hH6.len
    refine ⟨⟨_, rfl⟩, l', _, cap', hp6.trans List.perm_append_comm, hH6.du HW2.out.2.2.2.2.2.1 (push_done hd6 hl6) (by omega), H5.out.2.transN hT6 (fun b hb => ?_), HW2.out.2.2.2.2.2.2.2.2⟩
    rcases hb with rfl | rfl
    · exact (HW2.out.2.2.2.2.2.2.2.2 b rfl).imp (fun h => .inr (.inr h)) id
    · exact .inl (.inr (.inl rfl))
end Go.Proofs.Ytlogidnadfimlaa
