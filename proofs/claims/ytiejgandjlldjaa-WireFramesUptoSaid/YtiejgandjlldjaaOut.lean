/-
  Package wire: Clip, Clone, (*Out).add, Len, Bytes.
-/
import Derived.Test.YtiejgandjlldjaaBytes
import Derived.WalkSpells
import Derived.WalkLawsBesides
namespace Go.Proofs.Ytiejgandjlldjaa
open Go.RowKit

theorem clip_any (A : Option Addr) (n c : Nat) (w : World) (hn : n ≤ c) (_hc : c ≤ maxLen) :
    Calls Try.prog 76 #[.slice A n c] w fun e w' => e = .returned (.slice A n n) ∧ Below w.heap.size w w' := by
  unfold maxLen at _hc
  go_enter Try.func76, Try.ntmps76
  go_wp2
  go_ret
  exact ⟨rfl, by go_grown⟩

/-- An Out in block O: what was laid down. -/
def OutAt (w : World) (O : Nat) (l : List UInt8) : Prop := ∃ A n c, Var w O 35 #[.slice A n c] ∧ Bs w A n c l
/-- All that was is as it was, but for block O. -/
abbrev Upd (O : Nat) (w w' : World) : Prop := w.grownBy w' (some O)
theorem Upd.of_below {O : Nat} {w w' : World} (h : Below w.heap.size w w') : Upd O w w' := ⟨h.os, h.tape, h.output, h.size, fun k hk _ => h.block k hk⟩
theorem Upd.trans {O : Nat} {w w1 w2 : World} (h : Upd O w w1) (k : Upd O w1 w2) : Upd O w w2 :=
  ⟨k.os.trans h.os, k.tape.trans h.tape, k.output.trans h.output, Nat.le_trans h.size k.size, fun j hj hO => (k.block j (Nat.lt_of_lt_of_le hj h.size) hO).trans (h.block j hj hO)⟩
theorem Upd.set {O o : Nat} {w : World} (u : Value) : Upd O w (w.setCell ⟨O, o, none⟩ u) :=
  ⟨rfl, rfl, rfl, by simp [World.setCell], fun k _ hO => Below.heap_setCell w ⟨O, o, none⟩ u k (fun e => hO (by rw [e]))⟩
theorem Upd.below {B O : Nat} {a w w' : World} (h : Below B a w) (k : Upd O w w') (hO : B ≤ O) (hB : B ≤ w.heap.size) : Below B a w' := h.grown k hB (fun r e => by cases e; exact hO)
theorem bs_upd {O : Nat} {w w' : World} {A : Option Addr} {n c : Nat} {l : List UInt8} (h : Bs w A n c l) (k : Upd O w w') (hO : ∀ o b, w.cell? ⟨O, o, none⟩ ≠ some (B8 b)) : Bs w' A n c l := by
  refine ⟨h.len, h.cap, h.big, ?_⟩
  have hlen := h.len
  rcases h.at_ with h0 | ⟨g, o, e, hg, hc⟩
  · exact .inl h0
  · rcases Nat.eq_zero_or_pos n with h0 | h0
    · exact .inl h0
    · have hne : g ≠ O := by
        rintro rfl
        obtain ⟨b, hb⟩ : ∃ b, l[0]? = some b := ⟨l[0], List.getElem?_eq_getElem (by omega)⟩
        exact hO _ _ (hc 0 b hb)
      exact .inr ⟨g, o, e, Nat.lt_of_lt_of_le hg k.size, fun j b hj => (World.cell?_of_block (a := ⟨g, o + j, none⟩) (k.block g hg (fun e => by injection e with e; exact hne e))).trans (hc j b hj)⟩
theorem out_no {w : World} {O : Nat} {A : Option Addr} {n c : Nat} (h : Var w O 35 #[.slice A n c]) : ∀ o b, w.cell? ⟨O, o, none⟩ ≠ some (B8 b) := fun o b e => by
  rw [h.cell o] at e
  match o, e with
  | 0, e => simp [B8] at e
  | o + 1, e => simp at e
theorem OutAt.lt {w : World} {O : Nat} {l : List UInt8} (h : OutAt w O l) : O < w.heap.size := by obtain ⟨A, n, c, hv, _⟩ := h; exact hv.lt
theorem OutAt.keep {w w' : World} {O : Nat} {l : List UInt8} (h : OutAt w O l) (hb : Below w.heap.size w w') : OutAt w' O l := by obtain ⟨A, n, c, hv, hs⟩ := h; exact ⟨A, n, c, hv.keep hb, hs.below hb⟩

def Void (e : Ending) : Prop := ∃ v, e = .returned v

theorem add_nil (A : Option Addr) (n c : Nat) (w : World) :
    Calls Try.prog 35 #[.pointer none, .slice A n c] w fun e w' => Void e ∧ Below w.heap.size w w' := by
  go_enter Try.func35, Try.ntmps35
  go_wp2
  go_end0
  exact ⟨⟨_, rfl⟩, by go_grown⟩

set_option maxRecDepth 100000 in
set_option maxHeartbeats 800000 in
theorem add_any (O : Nat) (l : List UInt8) (B : Option Addr) (m d : Nat) (k : List UInt8) (w : World) (hO : OutAt w O l) (hk : Bs w B m d k) (hlen : l.length + m ≤ 225000000000000) :
    Calls Try.prog 35 #[.pointer (some ⟨O, 0, none⟩), .slice B m d] w fun e w' => Void e ∧ OutAt w' O (l ++ k) ∧ Upd O w w' := by
  obtain ⟨A, n, c, hv, hs⟩ := hO
  rw [hs.len] at hlen
  have H := Lib.hid (fun W => clip_any A n c W hs.cap hs.big)
  have c0 : w.cell? ⟨O, 0, none⟩ = some (.slice A n c) := hv.cell 0
  have hlt := hv.lt
  go_enter Try.func35, Try.ntmps35
  go_wp2_with fail
  refine (H.out _).mono ?_
  rintro e w1 ⟨rfl, hb_w1⟩
  obtain ⟨hc_w1, hf_w1⟩ := bcell hb_w1
  have hz_w1 := hb_w1.size
  try simp at hz_w1
  have hB_w1 : Below w.heap.size w w1 := Below.trans (by go_grown) (hb_w1.mono (by go_size))
  have hs_w1_0 : O < w1.heap.size := by omega
  have hv1 := hv.keep hb_w1
  have c1 : w1.cell? ⟨O, 0, none⟩ = some (.slice A n c) := hv1.cell 0
  go_wp2_with (at_builtin; refine wpList_join rfl (.tmp 11) (.tmp 12) rfl rfl rfl (hs.below hb_w1).clip (hk.below hb_w1) (by omega) ?_; intro A' c' w2 hs2 hb2 _; have hv2 := hv1.keep hb2; have c2 : w2.cell? ⟨O, 0, none⟩ = some (.slice A n c) := hv2.cell 0; have f2 := hv2.free 0; have z2 := hv2.lt)
  go_end0
  refine ⟨⟨_, rfl⟩, ⟨A', n + m, c', hv2.store 0 _, bs_upd hs2 (Upd.set _) (out_no hv2)⟩, (Upd.of_below (hb_w1.trans (hb2.mono hb_w1.size))).trans (Upd.set _)⟩

theorem own_mono {w : World} {base base' : Nat} {e : TypeId} {size n : Nat} {v : Value} {xs : List Value} (h : w.ownsRow base e size v n xs) (hb : base' ≤ base) : w.ownsRow base' e size v n xs := by
  refine ⟨h.1, ?_⟩
  rcases h.2 with h0 | ⟨g, cap, cur, h1, h2, h3⟩
  · exact .inl h0
  · exact .inr ⟨g, cap, cur, h1, Nat.le_trans hb h2, h3⟩
/-- A slice of bytes of the call's own. -/
def Fresh (w w' : World) (A : Option Addr) (n c : Nat) (l : List UInt8) : Prop := Bs w' A n c l ∧ (0 < n → w'.ownsRow w.heap.size 5 1 (.slice A n c) n (l.map B8))

set_option maxRecDepth 100000 in
set_option maxHeartbeats 800000 in
theorem clone_any (A : Option Addr) (n c : Nat) (l : List UInt8) (w : World) (hs : Bs w A n c l) (hlen : n ≤ 225000000000000) :
    Calls Try.prog 43 #[.slice A n c] w fun e w' => ∃ A' c', e = .returned (.slice A' n c') ∧ Fresh w w' A' n c' l ∧ Below w.heap.size w w' := by
  cases A with
  | none =>
    have hn : n = 0 := by
      rcases hs.at_ with h0 | ⟨g, o, e, _⟩
      · exact h0
      · cases e
    subst hn
    have hl0 : l = [] := List.eq_nil_of_length_eq_zero hs.len
    subst hl0
    go_enter Try.func43, Try.ntmps43
    have hq : (binOp .eql 23 (.slice none 0 c) (.slice none 0 0) : Sem Value).run Try.prog w = .ok (.bool true) w := by rfl
    go_wp2
    go_ret
    exact ⟨_, _, rfl, ⟨Bs.nil _, fun h => absurd h (by omega)⟩, by go_grown⟩
  | some a =>
    have hq : (binOp .eql 23 (.slice (some a) n c) (.slice none 0 0) : Sem Value).run Try.prog w = .ok (.bool false) w := by rfl
    go_enter Try.func43, Try.ntmps43
    go_wp2_with (at_builtin; refine wpList_join rfl (.tmp 5) (.tmp 6) rfl rfl rfl (Bs.empty _ _ (Nat.zero_le _)) (hs.below (by go_grown)) (by omega) ?_; intro A' c' w2 hs2 hb2 hf2)
    go_ret
    rw [List.nil_append] at hs2 hf2
    rw [Nat.zero_add] at hs2 hf2
    exact ⟨A', c', by first | rfl | simp, ⟨hs2, fun h => own_mono (hf2 h) (by simp)⟩, Below.trans (by go_grown) (hb2.mono (by simp))⟩

theorem len_none (w : World) :
    Calls Try.prog 19 #[.pointer none] w fun e w' => e = .returned (.int .i64 0) ∧ Below w.heap.size w w' := by
  go_enter Try.func19, Try.ntmps19
  go_wp2
  go_ret
  exact ⟨rfl, by go_grown⟩
theorem len_any (O : Nat) (l : List UInt8) (w : World) (hO : OutAt w O l) :
    Calls Try.prog 19 #[.pointer (some ⟨O, 0, none⟩)] w fun e w' => e = .returned (.int .i64 (l.length : Int)) ∧ Below w.heap.size w w' := by
  obtain ⟨A, n, c, hv, hs⟩ := hO
  have c0 : w.cell? ⟨O, 0, none⟩ = some (.slice A n c) := hv.cell 0
  rw [hs.len]
  go_enter Try.func19, Try.ntmps19
  go_wp2
  go_ret
  exact ⟨rfl, by go_grown⟩
theorem bytes_none (w : World) :
    Calls Try.prog 18 #[.pointer none] w fun e w' => e = .returned (.slice none 0 0) ∧ Below w.heap.size w w' := by
  go_enter Try.func18, Try.ntmps18
  go_wp2
  go_ret
  exact ⟨rfl, by go_grown⟩
theorem bytes_any (O : Nat) (l : List UInt8) (w : World) (hO : OutAt w O l) (hlen : l.length ≤ 225000000000000) :
    Calls Try.prog 18 #[.pointer (some ⟨O, 0, none⟩)] w fun e w' => ∃ A' c', e = .returned (.slice A' l.length c') ∧ Fresh w w' A' l.length c' l ∧ Below w.heap.size w w' := by
  obtain ⟨A, n, c, hv, hs⟩ := hO
  have c0 : w.cell? ⟨O, 0, none⟩ = some (.slice A n c) := hv.cell 0
  have H := Lib.hid (clone_any A n c l w hs (by rw [← hs.len]; exact hlen))
  rw [hs.len]
  clear hlen
  go_enter Try.func18, Try.ntmps18
  go_wp2_with fail
  refine (H.out).mono ?_
  rintro e w1 ⟨A', c', rfl, hfr, hb_w1⟩
  obtain ⟨hc_w1, hf_w1⟩ := bcell hb_w1
  have hz_w1 := hb_w1.size
  try simp at hz_w1
  have hB_w1 : Below w.heap.size w w1 := Below.trans (by go_grown) (hb_w1.mono (by go_size))
  go_wp2_with fail
  go_ret
  exact ⟨_, _, rfl, hfr, hb_w1⟩

end Go.Proofs.Ytiejgandjlldjaa
