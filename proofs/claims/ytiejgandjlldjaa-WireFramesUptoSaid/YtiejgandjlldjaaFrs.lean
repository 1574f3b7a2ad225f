/-
  The program's Frames: the iterator (printed by gen_frs.py).
-/
import Derived.Test.YtiejgandjlldjaaRefFs
import Derived.Test.YtiejgandjlldjaaTold
import Derived.Test.YtiejgandjlldjaaTailIn
import Derived.RangeFuncCalls
import Derived.RangeFuncLeaves
import Derived.OwnWalkIn
import Derived.TacticsInMore
import Derived.LoopNIn
import Derived.LoopIn
namespace Go.Proofs.Ytiejgandjlldjaa
open Go.RowKit

attribute [local go_sem] Oper.semAt_some

set_option maxRecDepth 100000 in
theorem frames_any (A : Option Addr) (n c : Nat) (bl : List UInt8) (w : World) (hs : Bs w A n c bl) (hn : n ≤ 225000000000000) :
    Calls Try.prog 21 #[.slice A n c] w fun e w' => ∃ A' c', e = .returned (.func (.func 58) #[] #[.pointer (some ⟨w.heap.size, 0, none⟩)]) ∧ Var w' w.heap.size 23 #[.slice A' n c'] ∧ Br w' w.heap.size A' n c' bl ∧ Below w.heap.size w w' := by
  have hb : Below w.heap.size w (w.alloc (.cells #[.slice A n c] 23)) := by go_grown
  have H := Lib.hid (clone_any A n c bl (w.alloc (.cells #[.slice A n c] 23)) (hs.below hb) hn)
  have hX : Var (w.alloc (.cells #[.slice A n c] 23)) w.heap.size 23 #[.slice A n c] := Var.new _ _ _
  have HX := Lib.hid (And.intro hX hb)
  clear hs hX hb
  go_enter Try.func21, Try.ntmps21
  go_wp2_with fail
  refine H.out.mono ?_
  rintro e w1 ⟨A', c', rfl, hfr, hb1⟩
  have hX1 := HX.out.1.keep hb1
  have c1 : w1.cell? ⟨w.heap.size, 0, none⟩ = some (.slice A n c) := hX1.cell 0
  have f1 := hX1.free 0
  have z1 := hX1.lt
  have hbr := (br_fresh hfr).from (base' := w.heap.size) (by simp)
  have HR := Lib.hid (And.intro hbr (And.intro hX1 hb1))
  clear hfr hbr hX1 hb1
  go_wp2_with fail
  go_ret
  exact ⟨A', c', rfl, HR.out.2.1.store 0 _, HR.out.1.updT HR.out.2.1 (by decide) (Upd.set _), ((HX.out.2.trans (HR.out.2.2.mono (by simp))).setCell (p := ⟨w.heap.size, 0, none⟩) (Nat.le_refl _) _)⟩

/-- A frame that is handed out: its place, its body, where that lies. -/
structure Fx where
  p : Nat
  b : List UInt8
  A : Option Addr
  c : Nat
def Fx.pair (x : Fx) : Nat × List UInt8 := (x.p, x.b)
def fxs (x : Fx) : Array Value := #[.int .i64 (x.p : Int), .slice x.A x.b.length x.c]
/-- What the round keeps: all older blocks but N, and newer ones that hold no bytes. -/
def KpF (N base : Nat) (W W' : World) : Prop := W.heap.size ≤ W'.heap.size ∧ (∀ k, k < base → k ≠ N → W'.heap[k]? = W.heap[k]?) ∧ ∀ (k : Nat) cur t f, base ≤ k → W.heap[k]? = some (.cells cur t f) → t ≠ 5 → W'.heap[k]? = some (.cells cur t f)
theorem kpf_t {N base : Nat} {A B C : World} (h : KpF N base A B) (k : KpF N base B C) : KpF N base A C :=
  ⟨Nat.le_trans h.1 k.1, fun i hi hN => (k.2.1 i hi hN).trans (h.2.1 i hi hN), fun i cur t f hi he ht => k.2.2 i cur t f hi (h.2.2 i cur t f hi he ht) ht⟩
theorem kpf_b {N base : Nat} (W : World) (l : Nat) (o o' : Obj) (hl : base ≤ l) (h : W.heap[l]? = some o) (h1 : o.isCells = false) (_ : o.isWalk = false) : KpF N base W (W.putObj l o') := by
  refine ⟨by simp [World.putObj], fun k hk _ => World.putObj_heap_other (by omega), fun k cur t f _ he _ => ?_⟩
  refine (World.putObj_heap_other ?_).trans he
  rintro rfl
  rw [h] at he
  injection he with he
  rw [he] at h1
  cases h1

/-- What the iterator reads: its box, its bytes, its table. -/
structure Fm (Bx T : Nat) (A : Option Addr) (c : Nat) (bl : List UInt8) (W : World) : Prop where
  box : Var W Bx 23 #[.slice A bl.length c]
  bytes : Bs W A bl.length c bl
  tab : TabAt W T
theorem Fm.keep {Bx T c : Nat} {A : Option Addr} {bl : List UInt8} {W W' : World} (h : Fm Bx T A c bl W) (hb : Below W.heap.size W W') : Fm Bx T A c bl W' := ⟨h.box.keep hb, h.bytes.below hb, h.tab.keep hb⟩
/-- The bytes that are read lie below base, and not in block N. -/
def Apt (N base Bx : Nat) (A : Option Addr) (n : Nat) : Prop := Bx < base ∧ Bx ≠ N ∧ (n = 0 ∨ ∃ g o, A = some ⟨g, o, none⟩ ∧ g < base ∧ g ≠ N)
theorem Fm.kpf {N base Bx T c : Nat} {A : Option Addr} {bl : List UInt8} {W W' : World} (h : Fm Bx T A c bl W) (ha : Apt N base Bx A bl.length) (hT : base ≤ T) (hk : KpF N base W W') : Fm Bx T A c bl W' := by
  refine ⟨(hk.2.1 Bx ha.1 ha.2.1).trans h.box, ⟨h.bytes.len, h.bytes.cap, h.bytes.big, ?_⟩, hk.2.2 T _ _ _ hT h.tab (by decide)⟩
  rcases ha.2.2 with h0 | ⟨g, o, e, hg, hN⟩
  · exact .inl h0
  · rcases h.bytes.at_ with h0 | ⟨g', o', e', hg', hat⟩
    · exact .inl h0
    · rw [e] at e'
      injection e' with e'
      injection e' with e1 e2
      subst e1 e2
      exact .inr ⟨g, o, e, Nat.lt_of_lt_of_le hg' hk.1, fun j b hj => (World.cell?_of_block (a := ⟨g, o + j, none⟩) (hk.2.1 g hg hN)).trans (hat j b hj)⟩

/-- What holds at the labels: 0 (a place is looked at), 1 (a head stands there), 2 (no frame stands there). -/
def FJ (l Bx base : Nat) (A : Option Addr) (c : Nat) (bl : List UInt8) (J : List Fx → World → Prop) (k : Nat) (a : Act) (W : World) : Prop :=
  ∃ (T p : Nat) (pre : List Fx), base ≤ T ∧ J pre W ∧ Fm Bx T A c bl W ∧ pre.map Fx.pair ++ framesF bl p = framesF bl 0 ∧
    ((k = 0 ∧ p ≤ bl.length ∧ ∃ v5 v6 v7 u2 u8 u9 u10 u11 u12 u13 u14 u15 u16 u17 u18 u19 u20 u21 u22 u23 u24 u25 u26 u27 u28 u29 u30 u31 u32 u33 u34 u35 u36 u37 u38 u39 u40 u41 u42 u43 u44 u45 u46 u47 u48 u49 u50 u51, a = { tmps := #[.func (.yield l) #[] #[], .pointer (some ⟨Bx, 0, none⟩), u2, .pointer (some ⟨T, 0, none⟩), .int .i64 (p : Int), v5, v6, v7, u8, u9, u10, u11, u12, u13, u14, u15, u16, u17, u18, u19, u20, u21, u22, u23, u24, u25, u26, u27, u28, u29, u30, u31, u32, u33, u34, u35, u36, u37, u38, u39, u40, u41, u42, u43, u44, u45, u46, u47, u48, u49, u50, u51], defers := [] }) ∨
     (k = 1 ∧ p < bl.length ∧ (headOf (bl.drop p)).2 = true ∧ p + 8 + (headOf (bl.drop p)).1 ≤ bl.length ∧ ∃ v6 v7 u2 u8 u9 u10 u11 u12 u13 u14 u15 u16 u17 u18 u19 u20 u21 u22 u23 u24 u25 u26 u27 u28 u29 u30 u31 u32 u33 u34 u35 u36 u37 u38 u39 u40 u41 u42 u43 u44 u45 u46 u47 u48 u49 u50 u51, a = { tmps := #[.func (.yield l) #[] #[], .pointer (some ⟨Bx, 0, none⟩), u2, .pointer (some ⟨T, 0, none⟩), .int .i64 (p : Int), .int .i64 ((headOf (bl.drop p)).1 : Int), v6, v7, u8, u9, u10, u11, u12, u13, u14, u15, u16, u17, u18, u19, u20, u21, u22, u23, u24, u25, u26, u27, u28, u29, u30, u31, u32, u33, u34, u35, u36, u37, u38, u39, u40, u41, u42, u43, u44, u45, u46, u47, u48, u49, u50, u51], defers := [] }) ∨
     (k = 2 ∧ p < bl.length ∧ standsB (bl.drop p) = none ∧ ∃ v5 v6 v7 u2 u8 u9 u10 u11 u12 u13 u14 u15 u16 u17 u18 u19 u20 u21 u22 u23 u24 u25 u26 u27 u28 u29 u30 u31 u32 u33 u34 u35 u36 u37 u38 u39 u40 u41 u42 u43 u44 u45 u46 u47 u48 u49 u50 u51, a = { tmps := #[.func (.yield l) #[] #[], .pointer (some ⟨Bx, 0, none⟩), u2, .pointer (some ⟨T, 0, none⟩), .int .i64 (p : Int), v5, v6, v7, u8, u9, u10, u11, u12, u13, u14, u15, u16, u17, u18, u19, u20, u21, u22, u23, u24, u25, u26, u27, u28, u29, u30, u31, u32, u33, u34, u35, u36, u37, u38, u39, u40, u41, u42, u43, u44, u45, u46, u47, u48, u49, u50, u51], defers := [] }))

set_option maxRecDepth 100000 in
set_option maxHeartbeats 4000000 in
theorem frames1_told (n : Nat) (hn : 2 ≤ n) (N Bx : Nat) (A : Option Addr) (c : Nat) (bl : List UInt8) (w : World) (hlen : bl.length ≤ 140737488355328) (hBx : Var w Bx 23 #[.slice A bl.length c]) (hbs : Bs w A bl.length c bl) (hap : Apt N w.heap.size Bx A bl.length) :
    SeqTold n Try.prog 58 #[.pointer (some ⟨Bx, 0, none⟩)] fxs (fun pre x W => (pre ++ [x]).map Fx.pair <+: framesF bl 0 ∧ Br W w.heap.size x.A x.b.length x.c x.b) (KpF N w.heap.size) (fun xs => xs.map Fx.pair = framesF bl 0) (fun pre => True) w := by
  intro l J Jx W hW hJ hJx hY h0
  have HZ : ∀ W, (zeroValue 85).run Try.prog W = .ok (.agg z256) W := (zero_of_info (P := Try.prog) (t := 85) (v := .agg z256) (n := 256) (by kernel_rfl)).1
  refine callsIn_of_wp Try.func58 rfl trivial ?_ rfl
  simp only [Try.ntmps58, List.size_toArray, List.length_cons, List.length_nil, Nat.reduceAdd, Nat.reduceSub, Array.replicate_succ, Array.replicate_zero, List.push_toArray, List.append_toArray, List.nil_append, List.cons_append]

  have hJk : ∀ pre X Y, J pre X → Below X.heap.size X Y → J pre Y := fun pre X Y h hb => hJ pre X Y none h ⟨hb.os, hb.tape, hb.output, hb.size, fun k hk _ => hb.block k hk⟩ (fun r e => by cases e)
  refine wpIn_wide.2 ?_
  refine wp_scope_found (FJ l Bx w.heap.size A c bl J) (fun k a _ => 3 * (bl.length - (intOf (a.tmps.getD 4 undef)).toNat) + (if k = 0 then 2 else if k = 1 then 1 else 0)) ?labels ?first ?pass
  case labels =>
    rintro k a W' ⟨T, p, pre, hT, hj, hm, hfr, ⟨rfl, _⟩ | ⟨rfl, _⟩ | ⟨rfl, _⟩⟩
    · rfl
    · rfl
    · rfl
  case first =>
    go_wp2_with fail
    refine (sums_any _).mono ?_
    rintro e w1 ⟨rfl, hb1⟩
    have hW1 : Below w.heap.size w w1 := hW.trans (hb1.mono hW.size)
    have hz1 := hW1.size
    go_wp2_with (refine wpList_storeV rfl 85 (.tmp 3) (.tmp 8) rfl w1.heap.size tab z256 rfl rfl (Var.new _ _ _) (by kernel_rfl) (by simp [z256, tab]) tab_cells ?_; intro w2 hT2 hO2 hB2 hz2)
    have hb12 : Below w1.heap.size w1 w2 := Below.trans (by go_grown) hB2
    have hj : J [] w2 := hJk _ _ _ (hJk _ _ _ h0 hb1) hb12
    have hW2 : Below w.heap.size w w2 := hW1.trans (hb12.mono hW1.size)
    obtain ⟨T, hTe⟩ : ∃ z, w1.heap.size = z := ⟨_, rfl⟩
    rw [hTe] at hT2 ⊢
    have hm : Fm Bx T A c bl w2 := ⟨hBx.keep hW2, hbs.below hW2, hT2⟩
    have hT : w.heap.size ≤ T := by omega
    obtain ⟨pre, hpre⟩ : ∃ z : List Fx, [] = z := ⟨_, rfl⟩
    rw [hpre] at hj
    obtain ⟨p, hp0⟩ : ∃ z : Nat, 0 = z := ⟨_, rfl⟩
    have hfr : List.map Fx.pair pre ++ framesF bl p = framesF bl 0 := by rw [← hpre, ← hp0]; rfl
    have hp : p ≤ bl.length := by omega
    obtain ⟨wr, hwr⟩ : ∃ z, w2 = z := ⟨_, rfl⟩
    rw [hwr] at hj hm ⊢
    have hfrm : ({ tmps := #[.func (.yield l) #[] #[], .pointer (some ⟨Bx, 0, none⟩), undef, .pointer (some ⟨T, 0, none⟩), .int .i64 0, .int .i64 0, .bool false, undef, .agg tab, undef, undef, undef, undef, undef, undef, undef, undef, undef, undef, undef, undef, undef, undef, undef, undef, undef, undef, undef, undef, undef, undef, undef, undef, undef, undef, undef, undef, undef, undef, undef, undef, undef, undef, undef, undef, undef, undef, undef, undef, undef, undef, undef], defers := [] } : Act) = { tmps := #[.func (.yield l) #[] #[], .pointer (some ⟨Bx, 0, none⟩), undef, .pointer (some ⟨T, 0, none⟩), .int .i64 (p : Int), .int .i64 0, .bool false, undef, .agg tab, undef, undef, undef, undef, undef, undef, undef, undef, undef, undef, undef, undef, undef, undef, undef, undef, undef, undef, undef, undef, undef, undef, undef, undef, undef, undef, undef, undef, undef, undef, undef, undef, undef, undef, undef, undef, undef, undef, undef, undef, undef, undef, undef], defers := [] } := by rw [← hp0]; rfl
    rw [hfrm]
    clear hfrm hp0 hwr hpre hTe hT2 hW2 hb12 hO2 hB2 hz2 hb1 hW1 hz1
    go_step3
    rcases Nat.lt_or_ge p bl.length with hlt | hge
    · have hpI : ¬ (bl.length : Int) ≤ (p : Int) := by omega
      obtain ⟨g, o, rfl, hg, hat⟩ := hm.bytes.pos (by omega)
      have hcap := hm.bytes.cap
      have hcp : ¬ c = p := by omega
      have hcp2 : ¬ (c : Int) = (p : Int) := by omega
      have hpc : (p : Int) ≤ (c : Int) := by omega
      have hbox : wr.cell? ⟨Bx, 0, none⟩ = some (.slice (some ⟨g, o, none⟩) bl.length c) := hm.box.cell 0
      have hbz := hm.box.lt
      have hL := Lib.hid (length_any _ _ _ (bl.drop p) wr (bs_tail hm.bytes (k := p) (by omega)))
      have hle := headOf_le (bl.drop p)
      have htl : (bl.drop p).length = bl.length - p := List.length_drop
      obtain ⟨m, hmm⟩ : ∃ z, (headOf (bl.drop p)).1 = z := ⟨_, rfl⟩
      obtain ⟨okv, hok⟩ : ∃ z, (headOf (bl.drop p)).2 = z := ⟨_, rfl⟩
      rw [hmm, hok] at hL
      rw [hmm] at hle
      have HM := Lib.hid (And.intro hm (And.intro hj (And.intro hfr (And.intro hmm (And.intro hok htl)))))
      clear hm hj hfr hmm hok htl hat
      go_wp2_with fail
      refine hL.out.mono ?_
      rintro e w4 ⟨rfl, hb4⟩
      have hm4 := HM.out.1.keep hb4
      have hj4 := hJk _ _ _ HM.out.2.1 hb4
      have hbox4 : w4.cell? ⟨Bx, 0, none⟩ = some (.slice (some ⟨g, o, none⟩) bl.length c) := hm4.box.cell 0
      have H4 := Lib.hid (And.intro hm4 hj4)
      clear hm4 hj4
      cases okv
      · have hno := stands_no (t := bl.drop p) (.inl HM.out.2.2.2.2.1)
        have hst := frames_none (l := bl) (p := p) hlt hno
        have HST := Lib.hid hst
        clear hno hst
        go_wp2_with fail
        go_step3
        go_wp2_with fail
        go_step3
        refine ⟨T, p + 1, pre, hT, H4.out.2, H4.out.1, by rw [← HST.out]; exact HM.out.2.2.1, .inl ⟨rfl, by omega, _, _, _, _, _, _, _, _, _, _, _, _, _, _, _, _, _, _, _, _, _, _, _, _, _, _, _, _, _, _, _, _, _, _, _, _, _, _, _, _, _, _, _, _, _, _, _, _, rfl⟩⟩
      · rcases Nat.lt_or_ge (bl.length - p) (8 + m) with hsh | hsh
        · have hno := stands_no (t := bl.drop p) (.inr (by rw [HM.out.2.2.2.1, HM.out.2.2.2.2.2]; exact hsh))
          have hst := frames_none (l := bl) (p := p) hlt hno
          have HST := Lib.hid hst
          have hshI : ¬ (m : Int) ≤ (bl.length : Int) - (p : Int) - 8 := by omega
          clear hno hst
          go_wp2_with fail
          go_step3
          go_wp2_with fail
          go_step3
          refine ⟨T, p + 1, pre, hT, H4.out.2, H4.out.1, by rw [← HST.out]; exact HM.out.2.2.1, .inl ⟨rfl, by omega, _, _, _, _, _, _, _, _, _, _, _, _, _, _, _, _, _, _, _, _, _, _, _, _, _, _, _, _, _, _, _, _, _, _, _, _, _, _, _, _, _, _, _, _, _, _, _, _, rfl⟩⟩
        · have hshI : (m : Int) ≤ (bl.length : Int) - (p : Int) - 8 := by omega
          go_wp2_with fail
          go_step3
          have hmm := HM.out.2.2.2.1
          subst hmm
          refine ⟨T, p, pre, hT, H4.out.2, H4.out.1, HM.out.2.2.1, .inr (.inl ⟨rfl, hlt, HM.out.2.2.2.2.1, by omega, _, _, _, _, _, _, _, _, _, _, _, _, _, _, _, _, _, _, _, _, _, _, _, _, _, _, _, _, _, _, _, _, _, _, _, _, _, _, _, _, _, _, _, _, _, _, _, rfl⟩)⟩
    · have hpI : (bl.length : Int) ≤ (p : Int) := by omega
      have hbox : wr.cell? ⟨Bx, 0, none⟩ = some (.slice A bl.length c) := hm.box.cell 0
      have he := frames_end (l := bl) (p := p) hge
      rw [he, List.append_nil] at hfr
      have HM := Lib.hid (And.intro hm (And.intro hj hfr))
      clear hm hj hfr he
      go_wp2_with fail
      dsimp only [Exit.jumps]
      refine bodyPost_ret (results_none rfl _ _ _) (by rfl) ?_
      exact ⟨⟨_, rfl⟩, .inl ⟨pre, HM.out.2.2, HM.out.2.1⟩⟩
  case pass =>
    rintro k a wr ⟨T, p, pre, hT, hj, hm, hfr, ⟨rfl, hp, v5, v6, v7, u2, u8, u9, u10, u11, u12, u13, u14, u15, u16, u17, u18, u19, u20, u21, u22, u23, u24, u25, u26, u27, u28, u29, u30, u31, u32, u33, u34, u35, u36, u37, u38, u39, u40, u41, u42, u43, u44, u45, u46, u47, u48, u49, u50, u51, rfl⟩ | ⟨rfl, hp, hh1, hh2, v6, v7, u2, u8, u9, u10, u11, u12, u13, u14, u15, u16, u17, u18, u19, u20, u21, u22, u23, u24, u25, u26, u27, u28, u29, u30, u31, u32, u33, u34, u35, u36, u37, u38, u39, u40, u41, u42, u43, u44, u45, u46, u47, u48, u49, u50, u51, rfl⟩ | ⟨rfl, hp, hno, v5, v6, v7, u2, u8, u9, u10, u11, u12, u13, u14, u15, u16, u17, u18, u19, u20, u21, u22, u23, u24, u25, u26, u27, u28, u29, u30, u31, u32, u33, u34, u35, u36, u37, u38, u39, u40, u41, u42, u43, u44, u45, u46, u47, u48, u49, u50, u51, rfl⟩⟩
    · simp only [findLabel, Option.getD]
      rcases Nat.lt_or_ge p bl.length with hlt | hge
      · have hpI : ¬ (bl.length : Int) ≤ (p : Int) := by omega
        obtain ⟨g, o, rfl, hg, hat⟩ := hm.bytes.pos (by omega)
        have hcap := hm.bytes.cap
        have hcp : ¬ c = p := by omega
        have hcp2 : ¬ (c : Int) = (p : Int) := by omega
        have hpc : (p : Int) ≤ (c : Int) := by omega
        have hbox : wr.cell? ⟨Bx, 0, none⟩ = some (.slice (some ⟨g, o, none⟩) bl.length c) := hm.box.cell 0
        have hbz := hm.box.lt
        have hL := Lib.hid (length_any _ _ _ (bl.drop p) wr (bs_tail hm.bytes (k := p) (by omega)))
        have hle := headOf_le (bl.drop p)
        have htl : (bl.drop p).length = bl.length - p := List.length_drop
        obtain ⟨m, hmm⟩ : ∃ z, (headOf (bl.drop p)).1 = z := ⟨_, rfl⟩
        obtain ⟨okv, hok⟩ : ∃ z, (headOf (bl.drop p)).2 = z := ⟨_, rfl⟩
        rw [hmm, hok] at hL
        rw [hmm] at hle
        have HM := Lib.hid (And.intro hm (And.intro hj (And.intro hfr (And.intro hmm (And.intro hok htl)))))
        clear hm hj hfr hmm hok htl hat
        go_wp2_with fail
        refine hL.out.mono ?_
        rintro e w4 ⟨rfl, hb4⟩
        have hm4 := HM.out.1.keep hb4
        have hj4 := hJk _ _ _ HM.out.2.1 hb4
        have hbox4 : w4.cell? ⟨Bx, 0, none⟩ = some (.slice (some ⟨g, o, none⟩) bl.length c) := hm4.box.cell 0
        have H4 := Lib.hid (And.intro hm4 hj4)
        clear hm4 hj4
        cases okv
        · have hno := stands_no (t := bl.drop p) (.inl HM.out.2.2.2.2.1)
          have hst := frames_none (l := bl) (p := p) hlt hno
          have HST := Lib.hid hst
          clear hno hst
          go_wp2_with fail
          go_step3
          go_wp2_with fail
          go_step3
          refine ⟨⟨T, p + 1, pre, hT, H4.out.2, H4.out.1, by rw [← HST.out]; exact HM.out.2.2.1, .inl ⟨rfl, by omega, _, _, _, _, _, _, _, _, _, _, _, _, _, _, _, _, _, _, _, _, _, _, _, _, _, _, _, _, _, _, _, _, _, _, _, _, _, _, _, _, _, _, _, _, _, _, _, _, rfl⟩⟩, by simp [intOf]; omega⟩
        · rcases Nat.lt_or_ge (bl.length - p) (8 + m) with hsh | hsh
          · have hno := stands_no (t := bl.drop p) (.inr (by rw [HM.out.2.2.2.1, HM.out.2.2.2.2.2]; exact hsh))
            have hst := frames_none (l := bl) (p := p) hlt hno
            have HST := Lib.hid hst
            have hshI : ¬ (m : Int) ≤ (bl.length : Int) - (p : Int) - 8 := by omega
            clear hno hst
            go_wp2_with fail
            go_step3
            go_wp2_with fail
            go_step3
            refine ⟨⟨T, p + 1, pre, hT, H4.out.2, H4.out.1, by rw [← HST.out]; exact HM.out.2.2.1, .inl ⟨rfl, by omega, _, _, _, _, _, _, _, _, _, _, _, _, _, _, _, _, _, _, _, _, _, _, _, _, _, _, _, _, _, _, _, _, _, _, _, _, _, _, _, _, _, _, _, _, _, _, _, _, rfl⟩⟩, by simp [intOf]; omega⟩
          · have hshI : (m : Int) ≤ (bl.length : Int) - (p : Int) - 8 := by omega
            go_wp2_with fail
            go_step3
            have hmm := HM.out.2.2.2.1
            subst hmm
            refine ⟨⟨T, p, pre, hT, H4.out.2, H4.out.1, HM.out.2.2.1, .inr (.inl ⟨rfl, hlt, HM.out.2.2.2.2.1, by omega, _, _, _, _, _, _, _, _, _, _, _, _, _, _, _, _, _, _, _, _, _, _, _, _, _, _, _, _, _, _, _, _, _, _, _, _, _, _, _, _, _, _, _, _, _, _, _, rfl⟩)⟩, by simp [intOf]⟩
      · have hpI : (bl.length : Int) ≤ (p : Int) := by omega
        have hbox : wr.cell? ⟨Bx, 0, none⟩ = some (.slice A bl.length c) := hm.box.cell 0
        have he := frames_end (l := bl) (p := p) hge
        rw [he, List.append_nil] at hfr
        have HM := Lib.hid (And.intro hm (And.intro hj hfr))
        clear hm hj hfr he
        go_wp2_with fail
        dsimp only [Exit.jumps]
        refine bodyPost_ret (results_none rfl _ _ _) (by rfl) ?_
        exact ⟨⟨_, rfl⟩, .inl ⟨pre, HM.out.2.2, HM.out.2.1⟩⟩
    · simp only [findLabel, Option.getD]
      have htl : (bl.drop p).length = bl.length - p := List.length_drop
      have hle := headOf_le (bl.drop p)
      obtain ⟨m, hmm⟩ : ∃ z, (headOf (bl.drop p)).1 = z := ⟨_, rfl⟩
      rw [hmm] at hh2 hle
      rw [hmm]
      obtain ⟨g, o, rfl, hg, hat⟩ := hm.bytes.pos (by omega)
      have hcap := hm.bytes.cap
      have hbox : wr.cell? ⟨Bx, 0, none⟩ = some (.slice (some ⟨g, o, none⟩) bl.length c) := hm.box.cell 0
      have hbz := hm.box.lt
      have hp1 := hm.bytes.part (lo := p) (m := 8 + m) (by omega)
      have hp2 := hm.bytes.part (lo := p + 8) (m := m) (by omega)
      obtain ⟨t, ht⟩ : ∃ z, (bl.drop p).take (8 + m) = z := ⟨_, rfl⟩
      obtain ⟨body, hbody⟩ : ∃ z, t.drop 8 = z := ⟨_, rfl⟩
      have h1e : (bl.take (p + (8 + m))).drop p = t := by rw [← ht, List.drop_take, show p + (8 + m) - p = 8 + m by omega]
      have h2e : (bl.take (p + 8 + m)).drop (p + 8) = body := by
        rw [← hbody, ← ht, List.drop_take, List.drop_take, List.drop_drop, show p + 8 + m - (p + 8) = m by omega, show 8 + m - 8 = m by omega]
      rw [h1e] at hp1
      rw [h2e] at hp2
      have hbl : body.length = m := hp2.len
      have hst : standsB (bl.drop p) = if wholeOf t = true then some body else none := by
        unfold standsB
        rw [hmm, ht, hbody]
        by_cases hw : wholeOf t = true
        · rw [if_pos ⟨hh1, by omega, hw⟩, if_pos hw]
        · rw [if_neg (fun h => hw h.2.2), if_neg hw]
      have hcp : ¬ c = p := by omega
      have hcp2 : ¬ (c : Int) = (p : Int) := by omega
      have hpc : (p : Int) + 8 + (m : Int) ≤ (c : Int) := by omega
      have hpc2 : (p : Int) ≤ (p : Int) + 8 + (m : Int) := by omega
      have hpc3 : (p : Int) + 8 ≤ (p : Int) + 8 + (m : Int) := by omega
      have hnn : p + 8 + m - p = 8 + m := by omega
      have hnn2 : p + 8 + m - (p + 8) = m := by omega
      have hwh := whole_any T _ _ _ t wr hm.tab hp1 (by omega)
      have HX := Lib.hid (And.intro hm (And.intro hj (And.intro hfr (And.intro hst (And.intro hbl hp2)))))
      have hbl47 : bl.length ≤ 140737488355328 := hlen
      clear hm hj hfr hst hbl hp1 hp2 h1e h2e ht hbody hmm htl hat
      refine (wpIn_wide (n := n)).1 ?_
      cases hw : wholeOf t
      · rw [hw] at hwh
        have hno : standsB (bl.drop p) = none := by rw [HX.out.2.2.2.1, hw]; rfl
        have HW := Lib.hid hwh
        have HNO := Lib.hid hno
        clear hwh hno hw
        gi_wp2
        refine ⟨trivial, fun _ => by omega, ?_⟩
        refine (callsIn_wide.2 HW.out).mono ?_
        rintro e w4 ⟨rfl, hb4⟩
        gi_wp2
        refine wpIn_goto ?_
        exact ⟨⟨T, p, pre, hT, hJk _ _ _ HX.out.2.1 hb4, HX.out.1.keep hb4, HX.out.2.2.1, .inr (.inr ⟨rfl, hp, HNO.out, _, _, _, _, _, _, _, _, _, _, _, _, _, _, _, _, _, _, _, _, _, _, _, _, _, _, _, _, _, _, _, _, _, _, _, _, _, _, _, _, _, _, _, _, _, _, _, _, rfl⟩)⟩, by simp [intOf]⟩
      · rw [hw] at hwh
        have hyes : standsB (bl.drop p) = some body := by rw [HX.out.2.2.2.1, hw]; rfl
        have HW := Lib.hid hwh
        have HM := Lib.hid (And.intro True.intro (And.intro HX.out.2.2.1 (And.intro hyes (And.intro HX.out.2.2.2.2.1 HX.out.2.2.2.2.2))))
        clear hwh hyes hw
        gi_wp2
        refine ⟨trivial, fun _ => by omega, ?_⟩
        refine (callsIn_wide.2 HW.out).mono ?_
        rintro e w4 ⟨rfl, hb4⟩
        have H4 := Lib.hid (And.intro (HX.out.1.keep hb4) (And.intro (hJk _ _ _ HX.out.2.1 hb4) (show w.heap.size ≤ w4.heap.size by have := hb4.size; have := HX.out.1.tab.lt; omega)))
        have hbox4 : w4.cell? ⟨Bx, 0, none⟩ = some (.slice (some ⟨g, o, none⟩) bl.length c) := H4.out.1.box.cell 0
        have HP2 := Lib.hid (HX.out.2.2.2.2.2.below hb4)
        rcases Decidable.em (c = p + 8) with hca | hca
        · subst hca
          obtain rfl : m = 0 := by omega
          obtain rfl : body = [] := List.eq_nil_of_length_eq_zero HM.out.2.2.2.1
          gi_wp2
          refine ⟨trivial, fun _ => by omega, ?_⟩
          refine (callsIn_wide.2 (clone_any _ _ _ ([] : List UInt8) w4 (Bs.empty _ _ (Nat.zero_le _)) (by omega))).mono ?_
          rintro e w5 ⟨A5, c5, rfl, hfr5, hb5⟩
          have hm5 := H4.out.1.keep hb5
          have hj5 := hJk _ _ _ H4.out.2.1 hb5
          have hok : Br w5 w.heap.size A5 (([] : List UInt8)).length c5 ([] : List UInt8) := by
            have h := (br_fresh hfr5).from (base' := w.heap.size) (by have := H4.out.2.2; omega)
            rw [HM.out.2.2.2.1]
            exact h
          have h := frames_some (l := bl) (p := p) hp HM.out.2.2.1
          rw [HM.out.2.2.2.1] at h
          have h2 := HM.out.2.1
          rw [h] at h2
          have h3 : List.map Fx.pair (pre ++ [(⟨p, ([] : List UInt8), A5, c5⟩ : Fx)]) ++ framesF bl (p + 8 + 0) = framesF bl 0 := by rw [List.map_append, List.append_assoc]; exact h2
          have H3 := Lib.hid h3
          clear h h2 h3
          obtain ⟨fn, tmps, assign, body', hy, hR⟩ := hY pre ⟨p, ([] : List UInt8), A5, c5⟩ w5 hj5 ⟨⟨_, H3.out⟩, hok⟩
          dsimp only [fxs] at hy
          rw [HM.out.2.2.2.1] at hy
          have H5 := Lib.hid hm5
          clear hm5 hj5 hok hfr5 hb5
          gi_wp2
          refine ⟨fun _ => by omega, hR.mono ?_⟩
          rintro e w6 (⟨rfl, hj6, hk6⟩ | ⟨rfl, hjx6⟩)
          · gi_wp2
            refine wpIn_goto ?_
            refine ⟨⟨T, p + 8 + 0, pre ++ [⟨p, ([] : List UInt8), A5, c5⟩], hT, hj6, H5.out.kpf hap hT hk6, ?_, .inl ⟨rfl, by omega, _, _, _, _, _, _, _, _, _, _, _, _, _, _, _, _, _, _, _, _, _, _, _, _, _, _, _, _, _, _, _, _, _, _, _, _, _, _, _, _, _, _, _, _, _, _, _, _, rfl⟩⟩, by simp [intOf]; omega⟩
            exact H3.out
          · gi_wp2
            dsimp only [Exit.jumps]
            refine bodyPost_ret (results_none rfl _ _ _) (by rfl) ?_
            exact ⟨⟨_, rfl⟩, .inr ⟨_, hjx6⟩⟩
        · have hca' : ¬ (c : Int) = (p : Int) + 8 := by omega
          gi_wp2
          refine ⟨trivial, fun _ => by omega, ?_⟩
          refine (callsIn_wide.2 (clone_any _ _ _ body w4 HP2.out (by omega))).mono ?_
          rintro e w5 ⟨A5, c5, rfl, hfr5, hb5⟩
          have hm5 := H4.out.1.keep hb5
          have hj5 := hJk _ _ _ H4.out.2.1 hb5
          have hok : Br w5 w.heap.size A5 (body).length c5 body := by
            have h := (br_fresh hfr5).from (base' := w.heap.size) (by have := H4.out.2.2; omega)
            rw [HM.out.2.2.2.1]
            exact h
          have h := frames_some (l := bl) (p := p) hp HM.out.2.2.1
          rw [HM.out.2.2.2.1] at h
          have h2 := HM.out.2.1
          rw [h] at h2
          have h3 : List.map Fx.pair (pre ++ [(⟨p, body, A5, c5⟩ : Fx)]) ++ framesF bl (p + 8 + m) = framesF bl 0 := by rw [List.map_append, List.append_assoc]; exact h2
          have H3 := Lib.hid h3
          clear h h2 h3
          obtain ⟨fn, tmps, assign, body', hy, hR⟩ := hY pre ⟨p, body, A5, c5⟩ w5 hj5 ⟨⟨_, H3.out⟩, hok⟩
          dsimp only [fxs] at hy
          rw [HM.out.2.2.2.1] at hy
          have H5 := Lib.hid hm5
          clear hm5 hj5 hok hfr5 hb5
          gi_wp2
          refine ⟨fun _ => by omega, hR.mono ?_⟩
          rintro e w6 (⟨rfl, hj6, hk6⟩ | ⟨rfl, hjx6⟩)
          · gi_wp2
            refine wpIn_goto ?_
            refine ⟨⟨T, p + 8 + m, pre ++ [⟨p, body, A5, c5⟩], hT, hj6, H5.out.kpf hap hT hk6, ?_, .inl ⟨rfl, by omega, _, _, _, _, _, _, _, _, _, _, _, _, _, _, _, _, _, _, _, _, _, _, _, _, _, _, _, _, _, _, _, _, _, _, _, _, _, _, _, _, _, _, _, _, _, _, _, _, rfl⟩⟩, by simp [intOf]; omega⟩
            exact H3.out
          · gi_wp2
            dsimp only [Exit.jumps]
            refine bodyPost_ret (results_none rfl _ _ _) (by rfl) ?_
            exact ⟨⟨_, rfl⟩, .inr ⟨_, hjx6⟩⟩
    · simp only [findLabel, Option.getD]
      have hst := frames_none (l := bl) (p := p) hp hno
      have HST := Lib.hid hst
      have hpl : (p : Int) ≤ 140737488355328 := by omega
      clear hst hno
      go_wp2_with fail
      go_step3
      exact ⟨⟨T, p + 1, pre, hT, hj, hm, by rw [← HST.out]; exact hfr, .inl ⟨rfl, by omega, _, _, _, _, _, _, _, _, _, _, _, _, _, _, _, _, _, _, _, _, _, _, _, _, _, _, _, _, _, _, _, _, _, _, _, _, _, _, _, _, _, _, _, _, _, _, _, _, rfl⟩⟩, by simp [intOf]; omega⟩

end Go.Proofs.Ytiejgandjlldjaa
