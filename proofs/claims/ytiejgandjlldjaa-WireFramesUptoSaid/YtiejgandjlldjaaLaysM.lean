/-
  Memory of the law WireLays: rows of bytes, of slices, of texts, apart by their types.
-/
import Derived.Test.YtiejgandjlldjaaLaid
import Derived.Test.YtiejgandjlldjaaBackW
import Derived.Test.YtiejgandjlldjaaWorks
import Derived.Deep.Cut
namespace Go.Proofs.Ytiejgandjlldjaa
open Go.RowKit

theorem elt23 : Elt Try.prog 37 23 (.slice none 0 0) 1 24 := ⟨Try.underlying37, by kernel_rfl, rfl, by omega⟩
theorem eltS : Elt Try.prog 38 9 (.string ⟨#[]⟩) 1 16 := ⟨Try.underlying38, by kernel_rfl, rfl, by omega⟩

theorem block_type {w : World} {X Y : Nat} {T U : TypeId} {cs ds : Array Value} (hX : w.heap[X]? = some (.cells cs T (0, 0))) (hY : w.heap[Y]? = some (.cells ds U (0, 0))) (h : T ≠ U) : X ≠ Y := by
  rintro rfl
  rw [hX] at hY
  injection hY with hY
  injection hY with _ hY
  exact h hY

/-- Bytes in a block of bytes, from base on. -/
def Br (w : World) (base : Nat) (A : Option Addr) (n c : Nat) (l : List UInt8) : Prop := Bs w A n c l ∧ Fr w base A n
section
variable {w w' : World} {base n c X : Nat} {A : Option Addr} {l : List UInt8} {T : TypeId} {cs : Array Value}
theorem Br.keep (h : Br w base A n c l) (hb : Below w.heap.size w w') : Br w' base A n c l := ⟨h.1.below hb, h.2.keep hb⟩
/-- All blocks but X are as they were; X is no block of bytes. -/
theorem Br.but {row : Option Nat} (h : Br w base A n c l) (hu : w.grownBy w' row) (hX : ∀ g cur, Var w g 5 cur → some g ≠ row) : Br w' base A n c l := by
  obtain ⟨hs, hf⟩ := h
  rcases hf with h0 | ⟨g, o, cur, e, hg, hv, hc⟩
  · exact ⟨⟨hs.len, hs.cap, hs.big, .inl h0⟩, .inl h0⟩
  · have hk := hu.block g hv.lt (hX g cur hv)
    refine ⟨⟨hs.len, hs.cap, hs.big, ?_⟩, .inr ⟨g, o, cur, e, hg, hk.trans hv, hc⟩⟩
    rcases hs.at_ with h0 | ⟨g', o', e', hg', hat⟩
    · exact .inl h0
    · rw [e] at e'
      injection e' with e'
      injection e' with e1 e2
      subst e1 e2
      exact .inr ⟨g, o, e, Nat.lt_of_lt_of_le hg' hu.size, fun j b hj => (World.cell?_of_block (a := ⟨g, o + j, none⟩) hk).trans (hat j b hj)⟩
theorem Br.updT (h : Br w base A n c l) (hX : Var w X T cs) (hT : T ≠ 5) (hu : Upd X w w') : Br w' base A n c l :=
  h.but hu (fun g cur hv e => by injection e with e; exact block_type hX hv hT e.symm)
theorem Br.push {e : TypeId} {size m : Nat} {v : Value} {xs : List Value} {b0 : Nat} (h : Br w base A n c l) (ho : w.ownsRow b0 e size v m xs) (hT : e ≠ 5) (hg : w.grownBy w' v.ownBlock) : Br w' base A n c l := by
  refine h.but hg (fun g cur hv hne => ?_)
  rcases ho.2 with ⟨rfl, _⟩ | ⟨g', cap, cur', rfl, _, hh, _⟩
  · cases hne
  · injection hne with hne
    exact block_type hh hv hT hne.symm
theorem br_own {w0 : World} (h : Own w0 w A c l) : Br w w0.heap.size A l.length c l := ⟨h.bs, fr_own h⟩
theorem Br.from {base' : Nat} (h : Br w base A n c l) (hb : base' ≤ base) : Br w base' A n c l := ⟨h.1, h.2.mono hb⟩
theorem br_fresh {w0 : World} (h : Fresh w0 w A n c l) : Br w w0.heap.size A n c l := ⟨h.1, fr_of_own h⟩
end

section
variable {w w' : World} {base X size n : Nat} {v : Value} {xs : List Value} {e T : TypeId} {cs : Array Value}
theorem own_updT (h : w.ownsRow base e size v n xs) (hX : Var w X T cs) (hT : T ≠ e) (hu : Upd X w w') : w'.ownsRow base e size v n xs := by
  refine h.kept hu ?_
  rcases h.2 with ⟨rfl, _⟩ | ⟨g, cap, cur, rfl, _, hg, _⟩
  · exact .inl rfl
  · refine .inr fun hne => ?_
    injection hne with hne
    exact block_type hX hg hT hne.symm
theorem own_push {base' size' n' : Nat} {v' : Value} {xs' : List Value} {e' : TypeId} (h : w.ownsRow base e size v n xs) (h' : w.ownsRow base' e' size' v' n' xs') (hT : e' ≠ e) (hg : w.grownBy w' v'.ownBlock) : w'.ownsRow base e size v n xs := by
  refine h.kept hg ?_
  rcases h.2 with ⟨rfl, _⟩ | ⟨g, cap, cur, rfl, _, hh, _⟩
  · exact .inl rfl
  · refine .inr fun hne => ?_
    rcases h'.2 with ⟨rfl, _⟩ | ⟨g', cap', cur', rfl, _, hh', _⟩
    · cases hne
    · injection hne with hne
      exact block_type hh' hh hT hne.symm
theorem outfr_push {O base0 : Nat} {l : List UInt8} (h : OutFr w O base0 l) (ho : w.ownsRow base e size v n xs) (h1 : e ≠ 35) (h2 : e ≠ 5) (hg : w.grownBy w' v.ownBlock) : OutFr w' O base0 l := by
  obtain ⟨A, n', c, hv, hs, hf⟩ := h
  have hb := Br.push ⟨hs, hf⟩ ho h2 hg
  refine ⟨A, n', c, hv.grown hg (fun hne => ?_), hb.1, hb.2⟩
  rcases ho.2 with ⟨rfl, _⟩ | ⟨g', cap, cur', rfl, _, hh, _⟩
  · cases hne
  · injection hne with hne
    exact block_type hh hv h1 hne.symm
theorem outfr_updT {O base0 : Nat} {l : List UInt8} (h : OutFr w O base0 l) (hX : Var w X T cs) (hne : O ≠ X) (hT : T ≠ 5) (hu : Upd X w w') : OutFr w' O base0 l := by
  obtain ⟨A, n', c, hv, hs, hf⟩ := h
  have hb := Br.updT ⟨hs, hf⟩ hX hT hu
  exact ⟨A, n', c, hv.upd hu hne, hb.1, hb.2⟩
theorem OutFr.var {O base0 : Nat} {l : List UInt8} (h : OutFr w O base0 l) : ∃ cs, Var w O 35 cs := by obtain ⟨A, n', c, hv, _⟩ := h; exact ⟨_, hv⟩
end

/-- What was kept, what is wanted of it. -/
structure Lw (w0 : World) (base : Nat) (K : List (Value × List UInt8)) (kv wv : Value) (wr : World) : Prop where
  kept : wr.ownsRow base 23 1 kv K.length (K.map (·.1))
  want : wr.ownsRow base 9 1 wv K.length (K.map fun p => .string ⟨p.2.toArray⟩)
  each : ∀ p ∈ K, ∃ A n c, p.1 = .slice A n c ∧ Br wr base A n c p.2
  bel : Below w0.heap.size w0 wr
section
variable {w0 w w' : World} {base X : Nat} {K : List (Value × List UInt8)} {kv wv : Value} {cs : Array Value}
theorem Lw.keep (h : Lw w0 base K kv wv w) (hb : Below w.heap.size w w') : Lw w0 base K kv wv w' :=
  ⟨own_keep h.kept hb, own_keep h.want hb, fun p hp => by obtain ⟨A, n, c, e, hr⟩ := h.each p hp; exact ⟨A, n, c, e, hr.keep hb⟩, h.bel.trans (hb.mono h.bel.size)⟩
theorem Lw.upd (h : Lw w0 base K kv wv w) (hX : Var w X 35 cs) (h0 : w0.heap.size ≤ X) (hu : Upd X w w') : Lw w0 base K kv wv w' :=
  ⟨own_updT h.kept hX (by decide) hu, own_updT h.want hX (by decide) hu, fun p hp => by obtain ⟨A, n, c, e, hr⟩ := h.each p hp; exact ⟨A, n, c, e, hr.updT hX (by decide) hu⟩, hu.below h.bel h0 h.bel.size⟩
/-- One kept more: the row of slices first, then the row of texts. -/
theorem Lw.push1 (h : Lw w0 base K kv wv w) (hg : w.grownBy w' kv.ownBlock) (h0 : w0.heap.size ≤ base) :
    w'.ownsRow base 9 1 wv K.length (K.map fun p => .string ⟨p.2.toArray⟩) ∧ (∀ p ∈ K, ∃ A n c, p.1 = .slice A n c ∧ Br w' base A n c p.2) ∧ Below w0.heap.size w0 w' := by
  refine ⟨own_push h.want h.kept (by decide) hg, fun p hp => ?_, below_push h.bel h.kept h0 h.bel.size hg⟩
  obtain ⟨A, n, c, e, hr⟩ := h.each p hp
  exact ⟨A, n, c, e, hr.push h.kept (by decide) hg⟩
end

theorem layB_tot (k : Int) (v : Nat) (s : ByteArray) : (layB k v s).length ≤ s.size + 8 := by
  rcases Decidable.em (k = 10) with h | h
  · subst h
    show (leN 2 (cutB s).length ++ cutB s).length ≤ _
    rw [List.length_append, leN_length, cutB_size]
    omega
  · have := layB_short (k := k) v s (fun hk => absurd hk h)
    omega
theorem layAll_tot (l : List (Int × Nat × ByteArray)) : (layAll l).length ≤ tot l := by
  induction l with
  | nil => simp [layAll, tot]
  | cons a l ih =>
    have h : (layAll (a :: l)) = layB a.1 a.2.1 a.2.2 ++ layAll l := by simp [layAll]
    have := layB_tot a.1 a.2.1 a.2.2
    rw [h, List.length_append]
    simp only [tot]
    omega
theorem layAll_prefix (l : List (Int × Nat × ByteArray)) (k : Nat) : (layAll (l.take k)).length ≤ (layAll l).length := by
  have h : layAll l = layAll (l.take k) ++ layAll (l.drop k) := by unfold layAll; rw [← List.flatMap_append, List.take_append_drop]
  rw [h, List.length_append]
  omega
theorem tot_count (l : List (Int × Nat × ByteArray)) : l.length * 8 ≤ tot l := by
  induction l with
  | nil => simp [tot]
  | cons a l ih => simp only [tot, List.length_cons]; omega

set_option maxRecDepth 100000 in
theorem clone_zero (A : Option Addr) (c : Nat) (w : World) : Calls Try.prog 43 #[.slice A 0 c] w fun e w' => (∃ A', e = .returned (.slice A' 0 0)) ∧ Below w.heap.size w w' := by
  cases A with
  | none =>
    go_enter Try.func43, Try.ntmps43
    have hq : (binOp .eql 23 (.slice none 0 c) (.slice none 0 0) : Sem Value).run Try.prog w = .ok (.bool true) w := by rfl
    go_wp2
    go_ret
    exact ⟨⟨_, rfl⟩, by go_grown⟩
  | some a =>
    have hq : (binOp .eql 23 (.slice (some a) 0 c) (.slice none 0 0) : Sem Value).run Try.prog w = .ok (.bool false) w := by rfl
    go_enter Try.func43, Try.ntmps43
    go_wp2_with (at_builtin; refine wpList_join0 rfl (.tmp 5) (.tmp 6) rfl rfl rfl (Bs.empty _ _ (le_maxLen (by omega))) ?_)
    go_ret
    exact ⟨⟨_, rfl⟩, by go_grown⟩
theorem bytes_zero (O : Nat) (w : World) (hO : OutAt w O []) :
    Calls Try.prog 18 #[.pointer (some ⟨O, 0, none⟩)] w fun e w' => (∃ A', e = .returned (.slice A' 0 0)) ∧ Below w.heap.size w w' := by
  obtain ⟨A, n, c, hv, hs⟩ := hO
  have hn : n = 0 := hs.len.symm
  subst hn
  have c0 : w.cell? ⟨O, 0, none⟩ = some (.slice A 0 c) := hv.cell 0
  have H := Lib.hid (clone_zero A c w)
  clear hs hv
  go_enter Try.func18, Try.ntmps18
  go_wp2_with fail
  refine (H.out).mono ?_
  rintro e w1 ⟨⟨A', rfl⟩, hb_w1⟩
  obtain ⟨hc_w1, hf_w1⟩ := bcell hb_w1
  have hz_w1 := hb_w1.size
  try simp at hz_w1
  have hB_w1 : Below w.heap.size w w1 := Below.trans (by go_grown) (hb_w1.mono (by go_size))
  go_wp2_with fail
  go_ret
  exact ⟨⟨_, rfl⟩, hb_w1⟩
/-- A cell of a row of the call's own. -/
theorem own_cell {w : World} {base n c : Nat} {e : TypeId} {A : Option Addr} {xs : List Value} (h : w.ownsRow base e 1 (.slice A n c) n xs) {j : Nat} {u : Value} (hj : xs[j]? = some u) :
    ∃ g, A = some ⟨g, 0, none⟩ ∧ g < w.heap.size ∧ w.cell? ⟨g, j, none⟩ = some u := by
  have hlt : j < xs.length := by
    rcases Nat.lt_or_ge j xs.length with h0 | h0
    · exact h0
    · rw [List.getElem?_eq_none h0] at hj; cases hj
  have hl := h.1
  rcases h.2 with ⟨_, h0⟩ | ⟨g, cap, cur, hv, _, hg, _, _, hsz, ht⟩
  · omega
  · injection hv with hA
    refine ⟨g, hA, ?_, ?_⟩
    · rcases Nat.lt_or_ge g w.heap.size with h0 | h0
      · exact h0
      · rw [Array.getElem?_eq_none h0] at hg; cases hg
    · rw [cell_of_row w g j cur e (0, 0) hg]
      rw [← ht, List.getElem?_take_of_lt (by omega)] at hj
      simpa using hj

/-- The bytes that were handed out, from place k on as they were. -/
def Brow (B : Option Addr) (n d base : Nat) (bl : List UInt8) (k : Nat) (W : World) : Prop := n = 0 ∨ ∃ g cs, B = some ⟨g, 0, none⟩ ∧ base ≤ g ∧ Var W g 5 cs ∧ cs.size = d ∧ n ≤ d ∧ d ≤ maxLen ∧ ∀ (j : Nat) x, k ≤ j → bl[j]? = some x → cs[j]? = some (B8 x)
theorem brow_start {w0 W : World} {B : Option Addr} {n d : Nat} {bl : List UInt8} (h : Fresh w0 W B n d bl) : Brow B n d w0.heap.size bl 0 W := by
  rcases Nat.eq_zero_or_pos n with h0 | h0
  · exact .inl h0
  · have ho := h.2 h0
    rcases ho.2 with ⟨_, h1⟩ | ⟨g, cap, cur, hv, hg, hh, hn, hm, hsz, ht⟩
    · omega
    · injection hv with hA _ hc
      subst hc
      refine .inr ⟨g, cur, hA, hg, hh, by omega, hn, hm, fun j x _ hj => ?_⟩
      have hlt : j < bl.length := by
        rcases Nat.lt_or_ge j bl.length with h0 | h0
        · exact h0
        · rw [List.getElem?_eq_none h0] at hj; cases hj
      have hl := h.1.len
      have hu : (bl.map B8)[j]? = some (B8 x) := by rw [List.getElem?_map, hj]; rfl
      rw [← ht, List.getElem?_take_of_lt (by omega)] at hu
      simpa using hu

end Go.Proofs.Ytiejgandjlldjaa
