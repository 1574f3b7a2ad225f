/-
  The law WireStream: the walk.
-/
import Derived.Test.YtiejgandjlldjaaFrs
import Derived.Test.YtiejgandjlldjaaQuietR
import Derived.Test.YtiejgandjlldjaaOpenBB
import Derived.Test.YtiejgandjlldjaaWorks
import Derived.Shelf.Abstract
namespace Go.Proofs.Ytiejgandjlldjaa
open Go.RowKit

attribute [local go_sem] Oper.semAt_some

theorem wp_cutE {P : Program} {c : Code} {Q : Exit → Act → World → Prop} {a : Act} {w : World} (id : Nat) (R : Act → World → Prop) (h1 : c.wp P (fun e a' w' => e = .exit id ∧ R a' w') a w) (h2 : ∀ a' w', R a' w' → Q (.exit id) a' w') : c.wp P Q a w :=
  Code.wp_mono (fun e a' w' ⟨he, hR⟩ => by subst he; exact h2 a' w' hR) h1
/-- A slice of byte slices, in a world. -/
def BBs (W : World) (A : Option Addr) (l : List (List UInt8)) : Prop := 0 < l.length → ∃ b off, A = some ⟨b, off, none⟩ ∧ b < W.heap.size ∧ ∀ (j : Nat) t, l[j]? = some t → ∃ B m, W.cell? ⟨b, off + j, none⟩ = some (.slice B t.length m) ∧ Bs W B t.length m t
theorem BBAt.bbs {W : World} {v : Value} {l : List (List UInt8)} (h : BBAt W v l) : ∃ A c, v = .slice A l.length c ∧ BBs W A l := by
  rcases h with ⟨rfl, A, c, rfl⟩ | ⟨b, off, c, rfl, hb, h⟩
  · exact ⟨A, c, rfl, fun h => absurd h (by simp)⟩
  · exact ⟨_, c, rfl, fun _ => ⟨b, off, rfl, hb, h⟩⟩
theorem BBs.keep {W W' : World} {A : Option Addr} {l : List (List UInt8)} (h : BBs W A l) (hb : Below W.heap.size W W') : BBs W' A l := fun h0 => by
  obtain ⟨b, off, e, hlt, hat⟩ := h h0
  refine ⟨b, off, e, Nat.lt_of_lt_of_le hlt hb.size, fun j t hj => ?_⟩
  obtain ⟨B, m, h1, h2⟩ := hat j t hj
  exact ⟨B, m, (hb.cell (p := ⟨b, off + j, none⟩) hlt).trans h1, h2.below hb⟩

theorem eltI : Elt Try.prog 48 3 (.int .i64 0) 1 8 := ⟨Try.underlying48, by kernel_rfl, rfl, by omega⟩
/-- The boxes of the law: the bodies, the answer, a number. -/
def Sm (w : World) (A : Option Addr) (n c : Nat) (wr : World) : Prop := Var wr w.heap.size 37 #[.slice A n c] ∧ Var wr (w.heap.size + 1) 4 #[.bool false] ∧ (∃ z : Int, Var wr (w.heap.size + 1 + 1) 3 #[.int .i64 z]) ∧ Below w.heap.size w wr
theorem Sm.keep {w wr w' : World} {A : Option Addr} {n c : Nat} (h : Sm w A n c wr) (hb : Below wr.heap.size wr w') : Sm w A n c w' := by
  obtain ⟨h1, h2, ⟨z, h3⟩, h4⟩ := h
  exact ⟨h1.keep hb, h2.keep hb, ⟨z, h3.keep hb⟩, h4.trans (hb.mono h4.size)⟩
theorem Sm.push {w wr w' : World} {A : Option Addr} {n c T : Nat} {e : TypeId} {size m : Nat} {v : Value} {xs : List Value} (h : Sm w A n c wr) (ho : wr.ownsRow (T + 1) e size v m xs) (hT : w.heap.size + 1 + 1 < T) (hg : wr.grownBy w' v.ownBlock) : Sm w A n c w' := by
  obtain ⟨h1, h2, ⟨z, h3⟩, h4⟩ := h
  exact ⟨h1.push ho (by omega) hg, h2.push ho (by omega) hg, ⟨z, h3.push ho (by omega) hg⟩, below_push h4 ho (by omega) h4.size hg⟩
theorem Sm.far {w wr : World} {A : Option Addr} {n c T : Nat} (h : Sm w A n c wr) (hT : w.heap.size + 1 + 1 < T) (u : Value) : Sm w A n c (wr.setCell ⟨T, 0, none⟩ u) := by
  obtain ⟨h1, h2, ⟨z, h3⟩, h4⟩ := h
  exact ⟨h1.far (p := ⟨T, 0, none⟩) (show w.heap.size ≠ T by omega) u, h2.far (p := ⟨T, 0, none⟩) (show w.heap.size + 1 ≠ T by omega) u, ⟨z, h3.far (p := ⟨T, 0, none⟩) (show w.heap.size + 1 + 1 ≠ T by omega) u⟩, h4.setCell (p := ⟨T, 0, none⟩) (show w.heap.size ≤ T by omega) u⟩
/-- The places so far. -/
def At_ (T : Nat) (l : List (List UInt8)) (k : Nat) (wr : World) : Prop := ∃ (A : Option Addr) (c : Nat) (cs : List Value), Var wr T 48 #[.slice A k c] ∧ wr.ownsRow (T + 1) 3 1 (.slice A k c) k cs ∧ ∀ j, j < k → cs[j]? = some (.int .i64 ((flat (l.take j)).length : Int))
theorem At_.keep {T k : Nat} {l : List (List UInt8)} {wr w' : World} (h : At_ T l k wr) (hb : Below wr.heap.size wr w') : At_ T l k w' := by
  obtain ⟨A, c, cs, h1, h2, h3⟩ := h
  exact ⟨A, c, cs, h1.keep hb, own_keep h2 hb, h3⟩

/-- All places. -/
def Pl (T Z : Nat) (l : List (List UInt8)) (wr : World) : Prop := ∃ (A : Option Addr) (c : Nat), Var wr T 48 #[.slice A l.length c] ∧ (0 < l.length → ∃ g, A = some ⟨g, 0, none⟩ ∧ T < g ∧ g < Z ∧ ∀ j, j < l.length → wr.cell? ⟨g, j, none⟩ = some (.int .i64 ((flat (l.take j)).length : Int)))
theorem At_.pl {T : Nat} {l : List (List UInt8)} {wr : World} (h : At_ T l l.length wr) : Pl T wr.heap.size l wr := by
  obtain ⟨A, c, cs, h1, h2, h3⟩ := h
  refine ⟨A, c, h1, fun h0 => ?_⟩
  obtain ⟨g, hA, hg, _⟩ := own_cell h2 (h3 0 h0)
  refine ⟨g, hA, ?_, hg, fun j hj => ?_⟩
  · rcases h2.2 with ⟨hv, _⟩ | ⟨g', cap, cur, hv, hb, _⟩
    · rw [hA] at hv; cases hv
    · rw [hA] at hv
      injection hv with hv
      injection hv with hv
      injection hv with hv
      omega
  · obtain ⟨g', hA', _, hc⟩ := own_cell h2 (h3 j hj)
    rw [hA] at hA'
    injection hA' with hA'
    injection hA' with hA'
    rw [hA']
    exact hc
theorem Pl.same {T Z : Nat} {l : List (List UInt8)} {wr w' : World} (h : Pl T Z l wr) (hTZ : T < Z) (hk : ∀ k, T ≤ k → k < Z → w'.heap[k]? = wr.heap[k]?) : Pl T Z l w' := by
  obtain ⟨A, c, h1, h2⟩ := h
  refine ⟨A, c, (hk T (Nat.le_refl _) hTZ).trans h1, fun h0 => ?_⟩
  obtain ⟨g, e, hT, hZ, hc⟩ := h2 h0
  exact ⟨g, e, hT, hZ, fun j hj => (World.cell?_of_block (a := ⟨g, j, none⟩) (hk g (Nat.le_of_lt hT) hZ)).trans (hc j hj)⟩
theorem Pl.keep {T Z : Nat} {l : List (List UInt8)} {wr w' : World} (h : Pl T Z l wr) (hTZ : T < Z) (hZ : Z ≤ wr.heap.size) (hb : Below wr.heap.size wr w') : Pl T Z l w' := h.same hTZ (fun k _ hk => hb.block k (by omega))
theorem Pl.far {T Z : Nat} {l : List (List UInt8)} {wr : World} (h : Pl T Z l wr) (hTZ : T < Z) (u : Value) : Pl T Z l (wr.setCell ⟨Z, 0, none⟩ u) := h.same hTZ (fun k _ hk => Below.heap_setCell wr ⟨Z, 0, none⟩ u k (show k ≠ Z by omega))

/-- All blocks below B but N are as they were. -/
def Apart (N : Nat) (w0 W : World) : Prop := w0.heap.size ≤ W.heap.size ∧ ∀ k, k < w0.heap.size → k ≠ N → W.heap[k]? = w0.heap[k]?
theorem ownFrom_apart {β : Type} {N B : Nat} {w0 : World} (hB : w0.heap.size ≤ B) : OwnFrom B (fun (_ : β) W => Apart N w0 W) := fun _ X Y row hs hg hr =>
  ⟨Nat.le_trans hs.1 hg.size, fun k hk hN => (hg.block k (Nat.lt_of_lt_of_le hk hs.1) (fun e => by have := (hr k e.symm).1; omega)).trans (hs.2 k hk hN)⟩
theorem own_var {β : Type} {N : Nat} {t : TypeId} (f : β → Array Value) : Go.Own (fun (s : β) W => Var W N t (f s)) := fun s X Y row hs hg hr =>
  hs.grown hg (fun e => by
    obtain ⟨o, ho, hc⟩ := hr N e.symm
    rw [show X.heap[N]? = _ from hs] at ho
    cases ho
    cases hc)
theorem own_br {β : Type} {base : Nat} {A : Option Addr} {n c : Nat} {l : List UInt8} : Go.Own (fun (_ : β) W => Br W base A n c l) := fun s X Y row hs hg hr =>
  hs.but hg (fun g cur hv e => by
    obtain ⟨o, ho, hc⟩ := hr g e.symm
    rw [show X.heap[g]? = _ from hv] at ho
    cases ho
    cases hc)
theorem Apart.var {N g : Nat} {w0 W : World} {t : TypeId} {cs : Array Value} (h : Apart N w0 W) (hv : Var w0 g t cs) (hg : g ≠ N) : Var W g t cs := (h.2 g hv.lt hg).trans hv
theorem Apart.trans {N : Nat} {A B C : World} (h : Apart N A B) (k : Apart N B C) : Apart N A C := ⟨Nat.le_trans h.1 k.1, fun i hi hN => (k.2 i (Nat.lt_of_lt_of_le hi h.1) hN).trans (h.2 i hi hN)⟩
theorem apart_set (W : World) (N o : Nat) (u : Value) : Apart N W (W.setCell ⟨N, o, none⟩ u) := ⟨by simp, fun k _ hN => Below.heap_setCell W ⟨N, o, none⟩ u k hN⟩
theorem kpf_set {N base : Nat} {W : World} (hN : N < base) (o : Nat) (u : Value) : KpF N base W (W.setCell ⟨N, o, none⟩ u) :=
  ⟨by simp, fun k _ hk => Below.heap_setCell W ⟨N, o, none⟩ u k hk, fun k _ _ _ hk he _ => (Below.heap_setCell W ⟨N, o, none⟩ u k (show k ≠ N by omega)).trans he⟩

/-- What holds when the bytes are chosen in which the frames are sought. -/
def StreamMid (w : World) (A Aa : Option Addr) (T Z c na ca : Nat) (l : List (List UInt8)) (a' : Act) (w' : World) : Prop :=
  ∃ (bl : List UInt8) (sh cw : Nat) (Aw : Option Addr), framesF bl 0 = placesF sh l ∧ bl.length ≤ 16000000 ∧ sh ≤ 1048576 ∧ Br w' w.heap.size Aw bl.length cw bl ∧ Sm w A l.length c w' ∧ Pl T Z l w' ∧ Var w' Z 3 #[.int .i64 (sh : Int)] ∧ ∃ u : Nat → Value, a' = { tmps := #[.slice A l.length c, .slice Aa na ca, .pointer (some ⟨w.heap.size, 0, none⟩), u 3, .pointer (some ⟨w.heap.size + 1, 0, none⟩), .pointer (some ⟨w.heap.size + 1 + 1, 0, none⟩), u 6, u 7, .pointer (some ⟨T, 0, none⟩), u 9, u 10, u 11, .slice Aw bl.length cw, .pointer (some ⟨Z, 0, none⟩), u 14, u 15, u 16, u 17, u 18, u 19, u 20, u 21, u 22, u 23, u 24, u 25, u 26, u 27, u 28, u 29, u 30, u 31, u 32, u 33, u 34, u 35, u 36, u 37, u 38, u 39, u 40, u 41, u 42, u 43, u 44, u 45, u 46, u 47, u 48, u 49, u 50, u 51, u 52, u 53, u 54, u 55, u 56, u 57, u 58, u 59, u 60, u 61, u 62, u 63, u 64, u 65, u 66, u 67, u 68, u 69, u 70, u 71, u 72, u 73, u 74, u 75, u 76, u 77, u 78, u 79, u 80, u 81, u 82, u 83, u 84, u 85, u 86, u 87, u 88, u 89, u 90, u 91, u 92, u 93, u 94, u 95, u 96, u 97, u 98, u 99, u 100, u 101, u 102, u 103, u 104, u 105, u 106, u 107, u 108, u 109, u 110, u 111, u 112, u 113, u 114, u 115, u 116, u 117, u 118, u 119, u 120, u 121, u 122, u 123, u 124, u 125, u 126, u 127, u 128, u 129, u 130], defers := [] }

set_option maxRecDepth 100000 in
theorem stream_mid {w w' : World} {A Aa Aw : Option Addr} {T Z c na ca sh cw : Nat} {l : List (List UInt8)} {bl : List UInt8} (h1 : framesF bl 0 = placesF sh l) (h2 : bl.length ≤ 16000000) (h3 : sh ≤ 1048576) (h4 : Br w' w.heap.size Aw bl.length cw bl) (h5 : Sm w A l.length c w') (h6 : Pl T Z l w') (h7 : Var w' Z 3 #[.int .i64 (sh : Int)]) {u3 u6 u7 u9 u10 u11 u14 u15 u16 u17 u18 u19 u20 u21 u22 u23 u24 u25 u26 u27 u28 u29 u30 u31 u32 u33 u34 u35 u36 u37 u38 u39 u40 u41 u42 u43 u44 u45 u46 u47 u48 u49 u50 u51 u52 u53 u54 u55 u56 u57 u58 u59 u60 u61 u62 u63 u64 u65 u66 u67 u68 u69 u70 u71 u72 u73 u74 u75 u76 u77 u78 u79 u80 u81 u82 u83 u84 u85 u86 u87 u88 u89 u90 u91 u92 u93 u94 u95 u96 u97 u98 u99 u100 u101 u102 u103 u104 u105 u106 u107 u108 u109 u110 u111 u112 u113 u114 u115 u116 u117 u118 u119 u120 u121 u122 u123 u124 u125 u126 u127 u128 u129 u130 : Value} :
    StreamMid w A Aa T Z c na ca l { tmps := #[.slice A l.length c, .slice Aa na ca, .pointer (some ⟨w.heap.size, 0, none⟩), u3, .pointer (some ⟨w.heap.size + 1, 0, none⟩), .pointer (some ⟨w.heap.size + 1 + 1, 0, none⟩), u6, u7, .pointer (some ⟨T, 0, none⟩), u9, u10, u11, .slice Aw bl.length cw, .pointer (some ⟨Z, 0, none⟩), u14, u15, u16, u17, u18, u19, u20, u21, u22, u23, u24, u25, u26, u27, u28, u29, u30, u31, u32, u33, u34, u35, u36, u37, u38, u39, u40, u41, u42, u43, u44, u45, u46, u47, u48, u49, u50, u51, u52, u53, u54, u55, u56, u57, u58, u59, u60, u61, u62, u63, u64, u65, u66, u67, u68, u69, u70, u71, u72, u73, u74, u75, u76, u77, u78, u79, u80, u81, u82, u83, u84, u85, u86, u87, u88, u89, u90, u91, u92, u93, u94, u95, u96, u97, u98, u99, u100, u101, u102, u103, u104, u105, u106, u107, u108, u109, u110, u111, u112, u113, u114, u115, u116, u117, u118, u119, u120, u121, u122, u123, u124, u125, u126, u127, u128, u129, u130], defers := [] } w' := ⟨bl, sh, cw, Aw, h1, h2, h3, h4, h5, h6, h7, fun i => ([undef, undef, undef, u3, undef, undef, u6, u7, undef, u9, u10, u11, undef, undef, u14, u15, u16, u17, u18, u19, u20, u21, u22, u23, u24, u25, u26, u27, u28, u29, u30, u31, u32, u33, u34, u35, u36, u37, u38, u39, u40, u41, u42, u43, u44, u45, u46, u47, u48, u49, u50, u51, u52, u53, u54, u55, u56, u57, u58, u59, u60, u61, u62, u63, u64, u65, u66, u67, u68, u69, u70, u71, u72, u73, u74, u75, u76, u77, u78, u79, u80, u81, u82, u83, u84, u85, u86, u87, u88, u89, u90, u91, u92, u93, u94, u95, u96, u97, u98, u99, u100, u101, u102, u103, u104, u105, u106, u107, u108, u109, u110, u111, u112, u113, u114, u115, u116, u117, u118, u119, u120, u121, u122, u123, u124, u125, u126, u127, u128, u129, u130] : List Value).getD i undef, rfl⟩

set_option maxRecDepth 100000 in
set_option maxHeartbeats 4000000 in
theorem stream_walk (A Aa : Option Addr) (c na ca : Nat) (l : List (List UInt8)) (ah : List UInt8) (w : World) (hl : BBs w A l) (ha : Bs w Aa na ca ah) (hlen : (flat l).length + l.length ≤ 9437184) (hna : na ≤ 1048576) :
    Calls Try.prog 6 #[.slice A l.length c, .slice Aa na ca] w fun e w' => e = .returned (.bool true) ∧ Below w.heap.size w w' := by
  have HL := Lib.hid (And.intro hl (And.intro ha hlen))
  have hll : l.length ≤ 9437184 := by omega
  clear hl ha hlen
  refine (callsIn_wide (n := 6)).1 ?_
  refine callsIn_of_wp_marks Try.func6 rfl trivial ?_ rfl
  simp only [Try.ntmps6, List.size_toArray, List.length_cons, List.length_nil, Nat.reduceAdd, Nat.reduceSub, Array.replicate_succ, Array.replicate_zero, List.push_toArray, List.append_toArray, List.nil_append, List.cons_append]
  refine wpIn_wide.2 ?_
  go_wp2_with fail
  refine wp_gen (fun W hW => ?_)
  have vX : Var W w.heap.size 37 #[.slice A l.length c] := by rw [hW]; exact (((Var.new _ _ _).alloc _).alloc _)
  have vR : Var W (w.heap.size + 1) 4 #[.bool false] := by rw [hW]; exact ((Var.new' _ _ _ (by simp)).alloc _)
  have vN : Var W (w.heap.size + 1 + 1) 3 #[.int .i64 0] := by rw [hW]; exact Var.new' _ _ _ (by simp)
  have hbW : Below w.heap.size w W := by rw [hW]; go_grown
  have hzW : W.heap.size = w.heap.size + 1 + 1 + 1 := by rw [hW]; simp
  clear hW
  have HV := Lib.hid (And.intro vX (And.intro vR (And.intro vN hbW)))
  clear vX vR vN hbW
  go_loopw [6] (fun t wr => ∃ k : Nat, k ≤ l.length ∧ t = .int .i64 (k : Int) ∧ Var wr w.heap.size 37 #[.slice A l.length c] ∧ Var wr (w.heap.size + 1) 4 #[.bool false] ∧ Var wr (w.heap.size + 1 + 1) 3 #[.int .i64 ((flat (l.take k)).length : Int)] ∧ Below w.heap.size w wr) (fun t _ => l.length - (intOf t).toNat)
  case atStart => exact ⟨0, by omega, rfl, HV.out.1, HV.out.2.1, HV.out.2.2.1, HV.out.2.2.2⟩
  case round =>
    obtain ⟨k, hk, rfl, vX, vR, vN, hB⟩ := hrel
    have cX : wr.cell? ⟨w.heap.size, 0, none⟩ = some (.slice A l.length c) := vX.cell 0
    have cN : wr.cell? ⟨w.heap.size + 1 + 1, 0, none⟩ = some (.int .i64 ((flat (l.take k)).length : Int)) := vN.cell 0
    have fN := vN.free 0
    have zX := vX.lt
    have zR := vR.lt
    have zN := vN.lt
    rcases Nat.lt_or_ge k l.length with hlt | hge
    · have hkI : (k : Int) < (l.length : Int) := by omega
      obtain ⟨g, off, rfl, hg, hat⟩ := HL.out.1.keep hB (by omega)
      obtain ⟨t, ht⟩ : ∃ t, l[k]? = some t := ⟨_, List.getElem?_eq_getElem hlt⟩
      obtain ⟨Bt, mt, ct, hbt⟩ := hat k t ht
      have htk : l.take (k + 1) = l.take k ++ [t] := by rw [List.take_add_one, ht]; rfl
      have hfl : (flat (l.take (k + 1))).length = (flat (l.take k)).length + t.length + 8 := by rw [htk, flat_snoc, List.length_append, frameB_length]; omega
      have hle := flat_take_le l (k + 1)
      have hl2 := HL.out.2.2
      obtain ⟨s, hs⟩ : ∃ z, (flat (l.take k)).length = z := ⟨_, rfl⟩
      obtain ⟨s', hs'⟩ : ∃ z, (flat (l.take (k + 1))).length = z := ⟨_, rfl⟩
      rw [hs] at hfl vN cN
      rw [hs'] at hfl hle
      have HX := Lib.hid (And.intro vX (And.intro vR (And.intro vN (And.intro hB hs'))))
      have hbig : ¬ (67108864 : Int) < (s' : Int) := by omega
      have hsum : (s : Int) + (t.length : Int) + 8 = (s' : Int) := by omega
      have hws : IntKind.i64.wrap (s' : Int) = (s' : Int) := by simp only [IntKind.wrap, IntKind.signed, IntKind.bits]; simp; omega
      clear vX vR vN hat ht hbt htk hs hs' hle hl2 hfl
      go_wp2_with fail
      have hq_wr := @wd_cell wr
      refine wp_region_wd_tail 8 (by kernel_rfl) (by kernel_rfl) ?_
      simp only [List.take_succ_cons, List.take_zero, List.drop_succ_cons, List.drop_zero]
      repeat (go_big_quiet_step (fail))
      refine wpQuiet_nil ?_
      rintro w4 ⟨⟨wx, hb_w4⟩, hwx⟩
      obtain rfl : w4 = wx := hwx
      clear hq_wr
      have hz_w4 := hb_w4.size
      obtain ⟨hc_w4, hf_w4⟩ := bcell hb_w4
      have hB_w4 : Below w.heap.size w w4 := Below.trans (by go_grown) (hb_w4.mono (by go_size))
      have hs_w4_0 : w.heap.size < w4.heap.size := Nat.lt_of_lt_of_le (by assumption) hb_w4.size
      have hs_w4_1 : w.heap.size + 1 < w4.heap.size := Nat.lt_of_lt_of_le (by assumption) hb_w4.size
      have hs_w4_2 : w.heap.size + 1 + 1 < w4.heap.size := Nat.lt_of_lt_of_le (by assumption) hb_w4.size
      have vN4 := HX.out.2.2.1.keep hb_w4
      have fN4 := vN4.free 0
      have cN4 : w4.cell? ⟨w.heap.size + 1 + 1, 0, none⟩ = some (.int .i64 (s : Int)) := vN4.cell 0
      go_wp2_with fail
      have n0 : w.heap.size ≠ w.heap.size + 1 + 1 := by omega
      have n1 : w.heap.size + 1 ≠ w.heap.size + 1 + 1 := by omega
      go_roundw
      case rel =>
        refine ⟨k + 1, by omega, by go_num, (HX.out.1.keep hb_w4).far (p := ⟨w.heap.size + 1 + 1, 0, none⟩) n0 _, (HX.out.2.1.keep hb_w4).far (p := ⟨w.heap.size + 1 + 1, 0, none⟩) n1 _, ?_, (HX.out.2.2.2.1.trans (hb_w4.mono HX.out.2.2.2.1.size)).setCell (p := ⟨w.heap.size + 1 + 1, 0, none⟩) (show w.heap.size ≤ w.heap.size + 1 + 1 by omega) _⟩
        rw [HX.out.2.2.2.2]
        exact vN4.store 0 _
      case measure => simp [intOf]; omega
    · have hkI : ¬ (k : Int) < (l.length : Int) := by omega
      have hzB := hB.size
      have HX : Hid (Sm w A l.length c wr) := Lib.hid ⟨vX, vR, ⟨_, vN⟩, hB⟩
      clear vX vR vN hB cN fN
      go_wp2_with fail
      refine wp_gen (fun W2 hW2 => ?_)
      have hb2 : Below wr.heap.size wr W2 := by rw [hW2]; go_grown
      have vT : Var W2 wr.heap.size 48 #[.slice none 0 0] := by rw [hW2]; exact Var.new _ _ _
      have hm2 : Sm w A l.length c W2 := HX.out.keep hb2
      obtain ⟨T, hT⟩ : ∃ z, wr.heap.size = z := ⟨_, rfl⟩
      rw [hT] at vT zX zR zN ⊢
      have H2 := Lib.hid (And.intro hm2 vT)
      clear hm2 vT hb2 hW2 HX hT hzB hkI cX
      go_loopw [7, 9, 10, 11] (fun al t x10 x11 wr => ∃ (k ca : Nat) (Aa : Option Addr), k ≤ l.length ∧ t = .int .i64 (k : Int) ∧ al = .slice Aa (flat (l.take k)).length ca ∧ Br wr w.heap.size Aa (flat (l.take k)).length ca (flat (l.take k)) ∧ Sm w A l.length c wr ∧ At_ T l k wr ∧ (∀ b ∈ l.take k, b.length ≤ 8184)) (fun _ t _ _ _ => l.length - (intOf t).toNat)
      case atStart => exact ⟨0, 0, none, by omega, rfl, rfl, ⟨Bs.nil _, .inl rfl⟩, H2.out.1, ⟨none, 0, [], H2.out.2, World.ownsRow_nil _ _ _ _, fun j hj => absurd hj (by omega)⟩, fun b hb => by simp at hb⟩
      case round =>
        obtain ⟨k, cl, Al, hk, rfl, rfl, hal, hsm, hat, hshort⟩ := hrel
        have hcx := hsm.1.cell 0
        have cX : wr.cell? ⟨w.heap.size, 0, none⟩ = some (.slice A l.length c) := hsm.1.cell 0
        have zW := hsm.1.lt
        have cR : wr.cell? ⟨w.heap.size + 1, 0, none⟩ = some (.bool false) := hsm.2.1.cell 0
        have fR := hsm.2.1.free 0
        rcases Nat.lt_or_ge k l.length with hlt | hge
        · have hkI : (k : Int) < (l.length : Int) := by omega
          obtain ⟨g, off, rfl, hg, hget⟩ := (HL.out.1.keep hsm.2.2.2) (by omega)
          obtain ⟨t, ht⟩ : ∃ t, l[k]? = some t := ⟨_, List.getElem?_eq_getElem hlt⟩
          obtain ⟨Bt, mt, ct, hbt⟩ := hget k t ht
          have htk : l.take (k + 1) = l.take k ++ [t] := by rw [List.take_add_one, ht]; rfl
          have hfl : flat (l.take (k + 1)) = flat (l.take k) ++ frameB t := by rw [htk, flat_snoc]
          have hle := flat_take_le l (k + 1)
          have hl2 := HL.out.2.2
          have hfb := frameB_length t
          have hfll : (flat (l.take (k + 1))).length = (flat (l.take k)).length + (t.length + 8) := by rw [hfl, List.length_append, hfb]
          obtain ⟨fl, hfle⟩ : ∃ z, flat (l.take k) = z := ⟨_, rfl⟩
          rw [hfle] at hfll hal hfl ⊢
          have HX := Lib.hid (And.intro hal (And.intro hsm (And.intro hat (And.intro hshort (And.intro hbt (And.intro htk (And.intro hfl hfle)))))))
          have hflb : fl.length + (t.length + 8) ≤ 9437184 := by omega
          clear hal hat hshort hbt htk hfl hfle hget ht hle hl2 hfll hcx
          rcases Nat.lt_or_ge 8184 t.length with hov | hov
          · have hovI : (8184 : Int) < (t.length : Int) := by omega
            clear hsm
            go_wp2_with fail
            refine (frame_over Bt t.length mt wr hov).mono ?_
            rintro e w4 ⟨rfl, hb4⟩
            have hm4 := HX.out.2.1.keep hb4
            have cX4 : w4.cell? ⟨w.heap.size, 0, none⟩ = some (.slice (some ⟨g, off, none⟩) l.length c) := hm4.1.cell 0
            have cG4 : w4.cell? ⟨g, off + k, none⟩ = some (.slice Bt t.length mt) := ((bcell hb4).1 g (off + k) hg).trans ct
            have zX4 := hm4.1.lt
            have zG4 : g < w4.heap.size := Nat.lt_of_lt_of_le hg hb4.size
            have H4 := Lib.hid hm4
            clear hm4 hb4
            go_wp2_with fail
            refine (works_any w4).mono ?_
            rintro e w5 ⟨rfl, hb5⟩
            have hm5 := H4.out.keep hb5
            have cR5 : w5.cell? ⟨w.heap.size + 1, 0, none⟩ = some (.bool false) := hm5.2.1.cell 0
            have fR5 := hm5.2.1.free 0
            have zR5 := hm5.2.1.lt
            have H5 := Lib.hid hm5
            clear hm5 hb5
            go_wp2_with fail
            have hc6 := World.cell?_setCell_same' w5 ⟨w.heap.size + 1, 0, none⟩ (.bool true) (by rw [cR5]; rfl)
            refine ⟨.bool true, ?_, rfl, H5.out.2.2.2.setCell (p := ⟨w.heap.size + 1, 0, none⟩) (show w.heap.size ≤ w.heap.size + 1 by omega) _⟩
            simp [results, Try.f6, go_sem, hc6]
          · have hovI : ¬ (8184 : Int) < (t.length : Int) := by omega
            clear hsm
            go_wp2_with fail
            refine (frame_any Bt t.length mt t wr HX.out.2.2.2.2.1 hov).mono ?_
            rintro e w4 ⟨A4, c4, rfl, hs4, hf4, hb4⟩
            have hm4 := HX.out.2.1.keep hb4
            have cX4 : w4.cell? ⟨w.heap.size, 0, none⟩ = some (.slice (some ⟨g, off, none⟩) l.length c) := hm4.1.cell 0
            have cG4 : w4.cell? ⟨g, off + k, none⟩ = some (.slice Bt t.length mt) := ((bcell hb4).1 g (off + k) hg).trans ct
            have zX4 := hm4.1.lt
            have zG4 : g < w4.heap.size := Nat.lt_of_lt_of_le hg hb4.size
            obtain ⟨At, cat, cs, vT, hown, hcs⟩ := HX.out.2.2.1.keep hb4
            have cT4 : w4.cell? ⟨T, 0, none⟩ = some (.slice At k cat) := vT.cell 0
            have fT4 := vT.free 0
            have zT4 := vT.lt
            have H4 := Lib.hid (And.intro hm4 (And.intro vT (And.intro hcs (And.intro hs4 (And.intro (HX.out.1.keep hb4) (And.intro hf4 hb4))))))
            clear hm4 hb4 vT hcs hs4 hf4
            go_wp2_with (at_builtin; refine wpList_push rfl (.tmp 64) (.tmp 67) 48 rfl eltI (T + 1) At k cat cs rfl hown [_] rfl rfl (one_cell rfl) (le_maxLen (by omega)) (by omega) (by omega) ?_; intro A9 c9 w9 hown9 hg9; have vT9 := H4.out.2.1.push hown (Nat.lt_succ_self T) hg9; have cT9 : w9.cell? ⟨T, 0, none⟩ = some (.slice At k cat) := vT9.cell 0; have fT9 := vT9.free 0; have zT9 := vT9.lt)
            have hfb := frameB_length t
            have hm10 : Sm w (some ⟨g, off, none⟩) l.length c (w9.setCell ⟨T, 0, none⟩ (.slice A9 (k + 1) c9)) := (H4.out.1.push hown zN hg9).far zN _
            have ha10 : Br (w9.setCell ⟨T, 0, none⟩ (.slice A9 (k + 1) c9)) w.heap.size Al fl.length cl fl := (H4.out.2.2.2.2.1.push hown (by decide) hg9).updT vT9 (by decide) (Upd.set _)
            have hf10 : Br (w9.setCell ⟨T, 0, none⟩ (.slice A9 (k + 1) c9)) wr.heap.size A4 (t.length + 8) c4 (frameB t) := (Br.push (w := w4) (base := wr.heap.size) (A := A4) (n := t.length + 8) (c := c4) (l := frameB t) ⟨H4.out.2.2.2.1, H4.out.2.2.2.2.2.1⟩ hown (by decide) hg9).updT vT9 (by decide) (Upd.set _)
            have hat10 : At_ T l (k + 1) (w9.setCell ⟨T, 0, none⟩ (.slice A9 (k + 1) c9)) := by
              refine ⟨A9, c9, cs ++ [.int .i64 (fl.length : Int)], vT9.store 0 _, ownsRow_setCell_below hown9 (by simp) _, fun j hj => ?_⟩
              have hcl : cs.length = k * 1 := hown.1
              rcases Nat.lt_or_ge j k with hjk | hjk
              · rw [List.getElem?_append_left (by omega)]
                exact H4.out.2.2.1 j hjk
              · obtain rfl : j = k := by omega
                rw [List.getElem?_append_right (by omega), show j - cs.length = 0 by omega, HX.out.2.2.2.2.2.2.2]
                rfl
            obtain ⟨w10, hw10⟩ : ∃ z, w9.setCell ⟨T, 0, none⟩ (.slice A9 (k + 1) c9) = z := ⟨_, rfl⟩
            rw [hw10] at hm10 ha10 hf10 hat10 ⊢
            refine (joined_n (fl.length + (t.length + 8)) Al A4 fl.length cl (t.length + 8) c4 fl (frameB t) w10 ha10.1 hf10.1 (by omega) rfl).mono ?_
            rintro e w11 ⟨A11, c11, rfl, hr11, hb11⟩
            have hzz := hm10.2.2.2.size
            have H11 := Lib.hid (And.intro (hm10.keep hb11) (And.intro (hat10.keep hb11) (hr11.from hzz)))
            clear hm10 ha10 hf10 hat10 hw10 hr11 hb11 hzz hown hown9 hg9 vT9 cT9 fT9 zT9 cT4 fT4
            go_wp2_with fail
            go_roundw
            case rel =>
              have hfll : (flat (l.take (k + 1))).length = fl.length + (t.length + 8) := by rw [HX.out.2.2.2.2.2.2.1, List.length_append, hfb]
              refine ⟨k + 1, c11, A11, by omega, by go_num, by rw [hfll], ?_, H11.out.1, H11.out.2.1, fun b hb => ?_⟩
              · rw [hfll, HX.out.2.2.2.2.2.2.1]
                exact H11.out.2.2
              · rw [HX.out.2.2.2.2.2.1] at hb
                rcases List.mem_append.1 hb with hb | hb
                · exact HX.out.2.2.2.1 b hb
                · rw [List.mem_singleton.1 hb]; exact hov
            case measure => simp [intOf]; omega
        · have hkI : ¬ (k : Int) < (l.length : Int) := by omega
          obtain rfl : k = l.length := by omega
          rw [List.take_length] at hal hshort ⊢
          have HE := Lib.hid (And.intro hal (And.intro hsm (And.intro hat hshort)))
          have HAH := Lib.hid (HL.out.2.1.below hsm.2.2.2)
          have hl2 := HL.out.2.2
          clear hal hsm hat hshort hcx
          go_wp2_with fail
          refine (joined_n (na + (flat l).length) Aa Al na ca (flat l).length cl ah (flat l) wr HAH.out HE.out.1.1 (by omega) rfl).mono ?_
          rintro e w4 ⟨A4, c4, rfl, hr4, hb4⟩
          have hzz := HE.out.2.1.2.2.2.size
          have H4 := Lib.hid (And.intro (HE.out.2.1.keep hb4) (And.intro (HE.out.2.2.1.keep hb4).pl (And.intro (HE.out.1.keep hb4) (hr4.from hzz))))
          have hz4 := hb4.size
          clear hr4 hb4
          go_wp2_with fail
          refine wp_gen (fun W5 hW5 => ?_)
          have hb5 : Below w4.heap.size w4 W5 := by rw [hW5]; go_grown
          have vZ : Var W5 w4.heap.size 3 #[.int .i64 (na : Int)] := by rw [hW5]; exact Var.new _ _ _
          obtain ⟨Z, hZ⟩ : ∃ z, w4.heap.size = z := ⟨_, rfl⟩
          have zZ : T < Z := by
            obtain ⟨_, _, hv, _⟩ := H4.out.2.1
            have := hv.lt
            omega
          have H5 := Lib.hid (And.intro (H4.out.1.keep hb5) (And.intro (H4.out.2.1.keep (by obtain ⟨_, _, hv, _⟩ := H4.out.2.1; exact hv.lt) (Nat.le_refl _) hb5) (And.intro (H4.out.2.2.1.keep hb5) (And.intro (H4.out.2.2.2.keep hb5) vZ))))
          rw [hZ] at H5 ⊢
          clear hb5 vZ hW5 hz4 hzz H4 hZ
          obtain ⟨wh, hwh⟩ : ∃ z, ah ++ flat l = z := ⟨_, rfl⟩
          have hwl : wh.length = na + (flat l).length := by rw [← hwh, List.length_append, HAH.out.len]
          have HW := Lib.hid hwh
          rw [hwh] at H5
          clear hwh
          refine wp_cutE 4 (StreamMid w A Aa T Z c na ca l) ?_ ?_
          · go_loopw [12, 14, 15, 16] (fun x12 t x15 x16 wr => ∃ k : Nat, k ≤ na ∧ t = .int .i64 (k : Int) ∧ x12 = .slice A4 (na + (flat l).length) c4 ∧ (∀ i, i < k → standsB (wh.drop i) = none) ∧ Sm w A l.length c wr ∧ Pl T Z l wr ∧ Br wr w.heap.size Al (flat l).length cl (flat l) ∧ Br wr w.heap.size A4 (na + (flat l).length) c4 wh ∧ Var wr Z 3 #[.int .i64 (na : Int)]) (fun _ t _ _ _ => na - (intOf t).toNat)
            case atStart => exact ⟨0, by omega, rfl, rfl, fun i hi => absurd hi (by omega), H5.out.1, H5.out.2.1, H5.out.2.2.1, H5.out.2.2.2.1, H5.out.2.2.2.2⟩
            case round =>
              obtain ⟨k, hk, rfl, rfl, hno, hsm, hat, hall, hwho, vZ⟩ := hrel
              rcases Nat.lt_or_ge k na with hlt | hge
              · have hkI : (k : Int) < (na : Int) := by omega
                have HX := Lib.hid (And.intro hno (And.intro hsm (And.intro hat (And.intro hall (And.intro hwho vZ)))))
                clear hno hsm hat hall hwho vZ
                go_wp2_with fail
                have hbsW := HX.out.2.2.2.2.1.1
                have hstd := stands_ref A4 (na + (flat l).length) c4 k wh wr hbsW (by omega) (by omega)
                with_reducible refine hstd.mono ?_
                clear hstd hbsW
                rintro e w6 (⟨hn6, rfl, hb6⟩ | ⟨body, A6, c6, hn6, rfl, hr6, hb6⟩)
                · have H6 := Lib.hid (And.intro hn6 hb6)
                  clear hn6 hb6
                  go_wp2_with fail
                  go_roundw
                  case rel =>
                    refine ⟨k + 1, by omega, by go_num, rfl, fun i hi => ?_, HX.out.2.1.keep H6.out.2, HX.out.2.2.1.keep zZ (Nat.le_of_lt HX.out.2.2.2.2.2.lt) H6.out.2, HX.out.2.2.2.1.keep H6.out.2, HX.out.2.2.2.2.1.keep H6.out.2, HX.out.2.2.2.2.2.keep H6.out.2⟩
                    rcases Nat.lt_or_ge i k with hik | hik
                    · exact HX.out.1 i hik
                    · obtain rfl : i = k := by omega
                      exact H6.out.1
                  case measure => simp [intOf]; omega
                · have vZ6 := HX.out.2.2.2.2.2.keep hb6
                  have cZ6 : w6.cell? ⟨Z, 0, none⟩ = some (.int .i64 (na : Int)) := vZ6.cell 0
                  have fZ6 := vZ6.free 0
                  have H6 := Lib.hid (And.intro (HX.out.2.1.keep hb6) (And.intro (HX.out.2.2.1.keep zZ (Nat.le_of_lt HX.out.2.2.2.2.2.lt) hb6) (And.intro (HX.out.2.2.2.1.keep hb6) vZ6)))
                  clear hn6 hb6 hr6 vZ6
                  go_wp2_with fail
                  have hq1 := stream_frames0 HE.out.2.2.2
                  have hq2 : (flat l).length ≤ 16000000 := by omega
                  have hq4 := H6.out.2.2.1.updT H6.out.2.2.2 (by decide) (Upd.set (o := 0) (.int .i64 0))
                  have hq5 := H6.out.1.far (T := Z) (by omega) (.int .i64 0)
                  have hq6 := H6.out.2.1.far zZ (.int .i64 0)
                  have hq7 := H6.out.2.2.2.store 0 (.int .i64 0)
                  exact ⟨trivial, stream_mid (sh := 0) hq1 hq2 (by omega) hq4 hq5 hq6 hq7⟩
              · have hkI : ¬ (k : Int) < (na : Int) := by omega
                obtain rfl : k = na := by omega
                have HX := Lib.hid (And.intro hno (And.intro hsm (And.intro hat (And.intro hall (And.intro hwho vZ)))))
                clear hno hsm hat hall hwho vZ
                go_wp2_with fail
                have hal := HAH.out.len
                have hq1 := stream_frames HE.out.2.2.2 ah (fun i hi => by rw [HW.out]; exact HX.out.1 i (by omega))
                rw [HW.out, hal] at hq1
                have hq2 : wh.length ≤ 16000000 := by omega
                have hq4 := HX.out.2.2.2.2.1
                rw [← hwl] at hq4
                rw [← hwl]
                exact stream_mid hq1 hq2 (by omega) hq4 HX.out.2.1 HX.out.2.2.1 HX.out.2.2.2.2.2
          · rintro a' w5 ⟨bl, sh, cw, Aw, hfr, hbl, hsh, hbr, hsm, hat, vZ, u, rfl⟩
            clear H5 HAH HW hwl HE hl2 hkI
            have vN := hsm.2.2.1
            obtain ⟨zn, vN⟩ := vN
            have fN := vN.free 0
            have zN5 := vN.lt
            have cN5 : w5.cell? ⟨w.heap.size + 1 + 1, 0, none⟩ = some (.int .i64 zn) := vN.cell 0
            have hbN := hbr.updT vN (by decide) (Upd.set (o := 0) (.int .i64 0))
            have HM := Lib.hid (And.intro hfr (And.intro hbl (And.intro hsh (And.intro hbN (And.intro hsm (And.intro hat (And.intro vZ vN)))))))
            clear hfr hbl hsh hbr hsm hat vZ vN hbN
            go_wp2_with fail
            have hbl2 := HM.out.2.1
            have hsh2 := HM.out.2.2.1
            have vN5 := HM.out.2.2.2.2.2.2.2.store 0 (.int .i64 0)
            have hsm5 := HM.out.2.2.2.2.1
            have hB5 := hsm5.2.2.2.setCell (p := ⟨w.heap.size + 1 + 1, 0, none⟩) (show w.heap.size ≤ w.heap.size + 1 + 1 by omega) (.int .i64 0)
            have vX5 := hsm5.1.far (p := ⟨w.heap.size + 1 + 1, 0, none⟩) (show w.heap.size ≠ w.heap.size + 1 + 1 by omega) (.int .i64 0)
            have vR5 := hsm5.2.1.far (p := ⟨w.heap.size + 1 + 1, 0, none⟩) (show w.heap.size + 1 ≠ w.heap.size + 1 + 1 by omega) (.int .i64 0)
            have vZ5 := HM.out.2.2.2.2.2.2.1.far (p := ⟨w.heap.size + 1 + 1, 0, none⟩) (show Z ≠ w.heap.size + 1 + 1 by omega) (.int .i64 0)
            have hat5 := HM.out.2.2.2.2.2.1.same (w' := w5.setCell ⟨w.heap.size + 1 + 1, 0, none⟩ (.int .i64 0)) zZ (fun k hk _ => Below.heap_setCell w5 ⟨w.heap.size + 1 + 1, 0, none⟩ (.int .i64 0) k (show k ≠ w.heap.size + 1 + 1 by omega))
            obtain ⟨V, hV⟩ : ∃ z, w5.setCell ⟨w.heap.size + 1 + 1, 0, none⟩ (.int .i64 0) = z := ⟨_, rfl⟩
            have hbr5 := HM.out.2.2.2.1
            rw [hV] at vN5 hB5 vX5 vR5 vZ5 hat5 hbr5 ⊢
            clear hV hsm5
            have hfs := frames_any Aw bl.length cw bl V hbr5.1 (by omega)
            with_reducible refine hfs.mono ?_
            rintro e w6 ⟨A6, c6, rfl, hX6, hB6, hb6⟩
            clear hfs
            have zV := vZ5.lt
            have vN6 := vN5.keep hb6
            have hbw6 := hB5.trans (hb6.mono hB5.size)
            have vX6 := vX5.keep hb6
            have vR6 := vR5.keep hb6
            have vZ6 := vZ5.keep hb6
            have hat6 := hat5.keep zZ (Nat.le_of_lt zV) hb6
            obtain ⟨Bx, hBx⟩ : ∃ z, V.heap.size = z := ⟨_, rfl⟩
            rw [hBx] at hX6 hB6 zV ⊢
            have zBx := hX6.lt
            have hap : Apt (w.heap.size + 1 + 1) w6.heap.size Bx A6 bl.length := by
              refine ⟨zBx, by omega, ?_⟩
              rcases hB6.2 with h0 | ⟨g, o, cur, e, hg, hv, _⟩
              · exact .inl h0
              · exact .inr ⟨g, o, e, hv.lt, by omega⟩
            have hseq := frames1_told 5 (by omega) (w.heap.size + 1 + 1) Bx A6 c6 bl w6 (by omega) hX6 hB6.1 hap
            rw [HM.out.1] at hseq
            have hbs6 := HL.out.1
            have HT := Lib.hid (And.intro vN6 (And.intro hbw6 (And.intro vX6 (And.intro vR6 (And.intro vZ6 (And.intro hat6 (And.intro hseq hbs6)))))))
            have zN6 := vN6.lt
            have zZ6 := vZ6.lt
            clear vN5 hB5 vX5 vR5 vZ5 hat5 hbr5 vN6 hbw6 vX6 vR6 vZ6 hat6 hseq hbs6 hX6 hB6 hb6 hap HM hbl2 hBx zV
            have hnil : ∀ W, (binOp .eql 52 (.func (.func 58) #[] #[.pointer (some ⟨Bx, 0, none⟩)]) .nilFunc : Sem Value).run Try.prog W = .ok (.bool false) W := fun _ => by rfl
            go_wp2_with fail
            refine (wpIn_wide (n := 6)).1 ?_
            refine wpIn_rangeFunc_told (by omega) (gf := 58) (lb := #[.pointer (some ⟨Bx, 0, none⟩)]) rfl (enters_of Try.func58 (by kernel_rfl) rfl)
              HT.out.2.2.2.2.2.2.1 kpf_t kpf_b (Below.refl _ _) (fun _ => rfl)
              (fun pre W => (Below w.heap.size w W ∧ Apart (w.heap.size + 1 + 1) w6 W) ∧ Var W (w.heap.size + 1 + 1) 3 #[.int .i64 (pre.length : Int)])
              (fun _ _ _ => False)
              (OwnFrom.and (OwnFrom.and (ownFrom_below (Nat.le_refl _) (by omega)) (ownFrom_apart (Nat.le_refl _))) (Go.Own.from (own_var (fun pre : List Fx => #[.int .i64 (pre.length : Int)])) _))
              (fun c => ownFrom_pure _ _)
              ⟨⟨HT.out.2.1, Nat.le_refl _, fun _ _ _ => rfl⟩, HT.out.1⟩
              (fun pre x a' W => ((pre ++ [x]).map Fx.pair <+: placesF sh l ∧ a' = { tmps := #[.slice A l.length c, .slice Aa na ca, .pointer (some ⟨w.heap.size, 0, none⟩), u 3, .pointer (some ⟨w.heap.size + 1, 0, none⟩), .pointer (some ⟨w.heap.size + 1 + 1, 0, none⟩), u 6, u 7, .pointer (some ⟨T, 0, none⟩), u 9, u 10, u 11, .slice Aw bl.length cw, .pointer (some ⟨Z, 0, none⟩), u 14, u 15, u 16, .func (.func 58) #[] #[.pointer (some ⟨Bx, 0, none⟩)], .int .i64 (x.p : Int), .slice x.A x.b.length x.c, u 20, u 21, u 22, u 23, u 24, u 25, u 26, u 27, u 28, u 29, u 30, u 31, u 32, u 33, u 34, u 35, u 36, u 37, u 38, u 39, u 40, u 41, u 42, u 43, u 44, u 45, u 46, u 47, u 48, u 49, u 50, u 51, u 52, u 53, u 54, u 55, u 56, u 57, u 58, u 59, u 60, u 61, u 62, u 63, u 64, u 65, u 66, u 67, u 68, u 69, u 70, u 71, u 72, u 73, u 74, u 75, u 76, u 77, u 78, u 79, u 80, u 81, u 82, u 83, u 84, u 85, u 86, u 87, u 88, u 89, u 90, .slice Aw bl.length cw, .func (.func 58) #[] #[.pointer (some ⟨Bx, 0, none⟩)], .func (.func 58) #[] #[.pointer (some ⟨Bx, 0, none⟩)], .bool false, .func (.func 58) #[] #[.pointer (some ⟨Bx, 0, none⟩)], .int .i64 (x.p : Int), .slice x.A x.b.length x.c, u 98, u 99, u 100, u 101, u 102, u 103, u 104, u 105, u 106, u 107, u 108, u 109, u 110, u 111, u 112, u 113, u 114, u 115, u 116, u 117, u 118, u 119, u 120, u 121, u 122, u 123, u 124, u 125, u 126, u 127, u 128, u 129, u 130], defers := [] }) ∧ Br W w6.heap.size x.A x.b.length x.c x.b)
              (fun pre x a' => OwnFrom.and (ownFrom_pure _ _) (Go.Own.from own_br _))
              ?assign ?body ?done ?stop
            case assign =>
              rintro l1 pre x W K hI ⟨hpf, hbr⟩ hK
              unfold fxs
              gi_wp2
              exact hK _ _ (KeepsFrom.refl _ _) ⟨Nat.le_refl _, fun _ _ _ => rfl, fun _ _ _ _ _ h _ => h⟩ hI ⟨⟨hpf, rfl⟩, hbr⟩
            case body =>
              rintro l1 pre x a' W hl1 ⟨⟨hbW, hap⟩, vN⟩ ⟨⟨hpf, rfl⟩, hbr⟩
              have hpx := prefix_last (by rw [List.map_append] at hpf; exact hpf)
              rw [places_get, List.length_map] at hpx
              obtain ⟨t, ht, hte⟩ := Option.map_eq_some_iff.1 hpx
              obtain ⟨n, hn⟩ : ∃ z, pre.length = z := ⟨_, rfl⟩
              rw [hn] at ht hte vN
              have hnl : n < l.length := (List.getElem?_eq_some_iff.1 ht).1
              have hpp : x.p = sh + (flat (l.take n)).length := (congrArg Prod.fst hte).symm
              have hbb : x.b = t := (congrArg Prod.snd hte).symm
              obtain ⟨xp, xb, xA, xc⟩ := x
              dsimp only at hpp hbb hbr ⊢
              subst hbb
              obtain ⟨q, hq⟩ : ∃ z, (flat (l.take n)).length = z := ⟨_, rfl⟩
              have hqle := flat_take_le l n
              rw [hq] at hpp hqle
              obtain ⟨g, off, rfl, hg, hget⟩ := (HT.out.2.2.2.2.2.2.2.keep hbW) (by omega)
              obtain ⟨Bt, mt, cg, hbt⟩ := hget n xb ht
              have vXW := hap.var HT.out.2.2.1 (by omega)
              have vZW := hap.var HT.out.2.2.2.2.1 (by omega)
              have vRW := hap.var HT.out.2.2.2.1 (by omega)
              have hatW := HT.out.2.2.2.2.2.1.same (w' := W) zZ (fun k hk hk2 => hap.2 k (by omega) (by omega))
              obtain ⟨Ap, cp, vT, hps⟩ := hatW
              obtain ⟨gp, rfl, _, _, hcp⟩ := hps (by omega)
              have cP := hcp n hnl
              rw [hq] at cP
              have cX : W.cell? ⟨w.heap.size, 0, none⟩ = some (.slice (some ⟨g, off, none⟩) l.length c) := vXW.cell 0
              have cT : W.cell? ⟨T, 0, none⟩ = some (.slice (some ⟨gp, 0, none⟩) l.length cp) := vT.cell 0
              have cZ : W.cell? ⟨Z, 0, none⟩ = some (.int .i64 (sh : Int)) := vZW.cell 0
              have cN : W.cell? ⟨w.heap.size + 1 + 1, 0, none⟩ = some (.int .i64 (n : Int)) := vN.cell 0
              have fN := vN.free 0
              have zN := vN.lt
              have hge0 : decide ((l.length : Int) ≤ (n : Int)) = false := decide_eq_false (by omega)
              have hcv1 : ∀ k, (convert 23 9 (.slice xA xb.length xc)).run Try.prog (W.drewN k) = .ok (.string ⟨xb.toArray⟩) (W.drewN k) := fun k => bs_str (hbr.1.below (below_drewN (Below.refl _ _) k))
              have hcv2 : ∀ k, (convert 23 9 (.slice Bt xb.length mt)).run Try.prog (W.drewN k) = .ok (.string ⟨xb.toArray⟩) (W.drewN k) := fun k => bs_str (hbt.below (below_drewN (Below.refl _ _) k))
              have hsum : IntKind.i64.wrap ((q : Int) + (sh : Int)) = (xp : Int) := by
                have hl2 := HL.out.2.2
                simp only [IntKind.wrap, IntKind.signed, IntKind.bits]
                simp
                omega
              have hinc : IntKind.i64.wrap ((n : Int) + 1) = (n : Int) + 1 := by
                simp only [IntKind.wrap, IntKind.signed, IntKind.bits]
                simp
                omega
              have hnI : (n : Int) < (l.length : Int) := by omega
              have HB := Lib.hid (And.intro hbW (And.intro hap (And.intro vN hn)))
              clear hbW hap hpf hpx ht hte hpp hq hqle hget hbt hbr vXW vZW vRW vT hps hcp vN hn HT
              gi_wp2
              refine wpIn_region_quietR rfl (by kernel_rfl) (by kernel_rfl) (by kernel_rfl) ?_
              repeat (quiet_step_in (fail))
              refine wpQuietIn_nil ?_
              rintro _ ⟨nq, rfl⟩
              gi_wp2
              have hlt1 := HB.out.2.2.1.lt
              have hk1 : KeepsFrom w6.heap.size W (W.drewN nq) := ⟨Nat.le_refl _, fun _ _ _ h _ => h⟩
              refine ⟨hk1.trans ((KeepsOthers.setCell (W.drewN nq) ⟨w.heap.size + 1 + 1, 0, none⟩ (.int .i64 ((n : Int) + 1))).from _), kpf_set (W := W.drewN nq) zN6 0 _, ⟨(below_drewN HB.out.1 nq).setCell (p := ⟨w.heap.size + 1 + 1, 0, none⟩) (show w.heap.size ≤ w.heap.size + 1 + 1 by omega) _, Apart.trans HB.out.2.1 (apart_set (W.drewN nq) (w.heap.size + 1 + 1) 0 _)⟩, ?_⟩
              rw [List.length_append, HB.out.2.2.2]
              exact Var.store (w := W.drewN nq) HB.out.2.2.1 0 _
            case done =>
              rintro D xs W hD hS ⟨⟨hbW, hap⟩, vN⟩ hK
              have hxl : xs.length = l.length := by rw [← List.length_map (f := Fx.pair), hS, places_length]
              rw [hxl] at vN
              have vRW := hap.var HT.out.2.2.2.1 (by omega)
              have hatW := HT.out.2.2.2.2.2.1.same (w' := W) zZ (fun k hk hk2 => hap.2 k (by omega) (by omega))
              obtain ⟨Ap, cp, vT, _⟩ := hatW
              have cT : W.cell? ⟨T, 0, none⟩ = some (.slice Ap l.length cp) := vT.cell 0
              have cN : W.cell? ⟨w.heap.size + 1 + 1, 0, none⟩ = some (.int .i64 (l.length : Int)) := vN.cell 0
              have HB := Lib.hid (And.intro hbW (And.intro vRW hK))
              clear hbW hap vN vRW vT hK hS HT
              go_wp2_with (refine (works_any W).mono ?_; rintro e w9 ⟨rfl, hb9⟩; have vR9 := HB.out.2.1.keep hb9; have cR9 : w9.cell? ⟨w.heap.size + 1, 0, none⟩ = some (.bool false) := vR9.cell 0; have fR9 := vR9.free 0; have zR9 := vR9.lt)
              have hK' := (KeepsOthers.setCell w9 ⟨w.heap.size + 1, 0, none⟩ (.bool true)).same D _ ((hb9.block D (Array.getElem?_eq_some_iff.1 HB.out.2.2).1).trans HB.out.2.2) rfl
              refine ⟨by simp, .inl ⟨_, _, rfl, run_takeDeferred hK', ?_⟩⟩
              have hc5 := cell_kept (World.cell?_setCell_same' w9 ⟨w.heap.size + 1, 0, none⟩ (.bool true) (by rw [cR9]; rfl)) (grownBy_putObj' _ D (.deferred none)) (fun r e => by cases e; exact ⟨_, hK', rfl⟩)
              refine ⟨.bool true, ?_, rfl, (((HB.out.1.trans (hb9.mono HB.out.1.size)).setCell (p := ⟨w.heap.size + 1, 0, none⟩) (show w.heap.size ≤ w.heap.size + 1 by omega) _).trans (belowK_b (w := w) (Nat.le_refl _) _ D _ _ (by omega) hK' rfl rfl))⟩
              simp [results, Try.f6, go_sem, hc5]
            case stop =>
              rintro D c pre W hD _ hF hK
              exact hF.elim

end Go.Proofs.Ytiejgandjlldjaa
