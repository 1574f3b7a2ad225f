/-
  The document's thin: which places are kept.
-/
import Derived.Test.YtcpojadinkonnaaThinR4
import Derived.Test.YtcpojadinkonnaaPts
import Derived.Test.YtcpojadinkonnaaCut
import Derived.Maps.AppendAt
namespace Go.Proofs.Ytcpojadinkonnaa
open Go.RowKit

/-- A row of truths. -/
def KeptAt (W : World) (g n : Nat) (f : Nat → Bool) : Prop := Var W g 4 ((List.range n).map fun k => Value.bool (f k)).toArray
section
variable {W W' : World} {g n k : Nat} {f h : Nat → Bool}
theorem KeptAt.at_ (H : KeptAt W g n f) (hk : k < n) : W.cell? ⟨g, k, none⟩ = some (.bool (f k)) := by
  rw [Var.cell H k]
  simp [hk]
theorem KeptAt.keep (H : KeptAt W g n f) (hb : Below W.heap.size W W') : KeptAt W' g n f := Var.keep H hb
theorem KeptAt.congr (H : KeptAt W g n f) (he : ∀ k, k < n → f k = h k) : KeptAt W g n h := by
  unfold KeptAt at H ⊢
  rw [show ((List.range n).map fun k => Value.bool (h k)) = (List.range n).map fun k => Value.bool (f k) from List.map_congr_left fun k hk => by rw [he k (List.mem_range.1 hk)]]
  exact H
theorem KeptAt.put (H : KeptAt W g n f) (a : Nat) (ha : a < n) : KeptAt (W.setCell ⟨g, a, none⟩ (.bool true)) g n (fun k => f k || k == a) := by
  have := Var.store H a (.bool true)
  unfold KeptAt
  refine Eq.trans this ?_
  congr 2
  apply Array.ext_getElem?
  intro i
  rw [Array.getElem?_setIfInBounds]
  by_cases hi : a = i
  · subst hi
    simp [ha]
  · rw [if_neg hi]
    simp only [List.getElem?_toArray, List.getElem?_map]
    by_cases hn : i < n
    · simp [hn, Ne.symm hi]
    · simp [hn]
end

def IsL (ps : List Pt) : Prop := ∀ p ∈ ps, IL p
theorem IsL.gp {ps : List Pt} (h : IsL ps) (k : Nat) : IL (gp ps k) := by
  unfold Go.Proofs.Ytcpojadinkonnaa.gp
  by_cases hk : k < ps.length
  · rw [List.getElem?_eq_getElem hk]; exact h _ (List.getElem_mem hk)
  · rw [List.getElem?_eq_none (by omega)]; unfold IL; decide
/-- The place of the furthest one so far, as a number. -/
def atI (o : Option Nat) : Int := match o with
  | none => -1
  | some a => (a : Int)

theorem NumAt.over {w : World} {v : Value} {z : Int} (h : NumAt w v z) {R : Nat} {cs : Array Value} (hV : Var w R 64 cs) (x y : Value) : NumAt ((w.setCell ⟨R, 0, none⟩ x).setCell ⟨R, 1, none⟩ y) v z := by
  obtain ⟨b, A, n, c, ds, rfl, hs, hr, ht, hv⟩ := num_open h
  exact num_mk (hr.over hV x y) ht hs.out hv.out
/-- The furthest one so far is held in two boxes. -/
def Best (wr : World) (N D : Nat) (s : Option Nat) (p q : Nat → Int) : Prop := ∃ (bn bd : Bool) (An Ad : Option Addr) (nn cn nd cd : Nat), Var wr N 64 #[.bool bn, .slice An nn cn] ∧ Var wr D 64 #[.bool bd, .slice Ad nd cd] ∧
  ∀ x, s = some x → NumAt wr (.agg #[.bool bn, .slice An nn cn]) (p x) ∧ NumAt wr (.agg #[.bool bd, .slice Ad nd cd]) (q x)
theorem best_put {W : World} {N D K : Nat} {p q : Nat → Int} {bn bd b1 b2 : Bool} {An Ad A1 A2 : Option Addr} {nn cn nd cd n1 c1 n2 c2 : Nat} (hN : Var W N 64 #[.bool bn, .slice An nn cn]) (hD : Var W D 64 #[.bool bd, .slice Ad nd cd]) (hne : N ≠ D)
    (hu : NumAt W (.agg #[.bool b1, .slice A1 n1 c1]) (p K)) (hv : NumAt W (.agg #[.bool b2, .slice A2 n2 c2]) (q K)) :
    Best ((((W.setCell ⟨N, 0, none⟩ (.bool b1)).setCell ⟨N, 1, none⟩ (.slice A1 n1 c1)).setCell ⟨D, 0, none⟩ (.bool b2)).setCell ⟨D, 1, none⟩ (.slice A2 n2 c2)) N D (some K) p q := by
  have hD' := (hD.far (p := ⟨N, 0, none⟩) (Ne.symm hne) (.bool b1)).far (p := ⟨N, 1, none⟩) (Ne.symm hne) (.slice A1 n1 c1)
  refine ⟨b1, b2, A1, A2, n1, c1, n2, c2, (((hN.store 0 (.bool b1)).store 1 (.slice A1 n1 c1)).far (p := ⟨D, 0, none⟩) hne (.bool b2)).far (p := ⟨D, 1, none⟩) hne (.slice A2 n2 c2), (hD'.store 0 (.bool b2)).store 1 (.slice A2 n2 c2), fun x hx => ?_⟩
  injection hx with hx
  subst hx
  exact ⟨(hu.over hN _ _).over hD' _ _, (hv.over hN _ _).over hD' _ _⟩
theorem Best.keep {W W' : World} {N D : Nat} {s : Option Nat} {p q : Nat → Int} (h : Best W N D s p q) (hb : Below W.heap.size W W') : Best W' N D s p q := by
  obtain ⟨bn, bd, An, Ad, nn, cn, nd, cd, vN, vD, hNum⟩ := h
  exact ⟨bn, bd, An, Ad, nn, cn, nd, cd, vN.keep hb, vD.keep hb, fun x hx => ⟨(hNum x hx).1.below hb, (hNum x hx).2.below hb⟩⟩
theorem far_none {ps : List Pt} {t : Int} {i j : Nat} (h : scanR (fun k => offP (gp ps i) (gp ps j) (gp ps k)) i (j - 1 - i) = none) : far ps (t * t) i j = none := by
  unfold far
  rw [scan_eq, h]
  rfl
theorem far_within {ps : List Pt} {t : Int} {i j x : Nat} (h : scanR (fun k => offP (gp ps i) (gp ps j) (gp ps k)) i (j - 1 - i) = some x) (hw : withinB (gp ps i) (gp ps j) (gp ps x) t = true) : far ps (t * t) i j = none := by
  have := of_decide_eq_true hw
  unfold far
  rw [scan_eq, h]
  simp only [Option.bind_some]
  rw [if_neg (by omega)]
theorem far_some {ps : List Pt} {t : Int} {i j x : Nat} (h : scanR (fun k => offP (gp ps i) (gp ps j) (gp ps k)) i (j - 1 - i) = some x) (hw : withinB (gp ps i) (gp ps j) (gp ps x) t = false) : far ps (t * t) i j = some x := by
  have := of_decide_eq_false hw
  unfold far
  rw [scan_eq, h]
  simp only [Option.bind_some]
  rw [if_pos (by omega)]
theorem grown_set (W : World) (g o : Nat) (v : Value) : W.grownBy (W.setCell ⟨g, o, none⟩ v) (some g) := ⟨rfl, rfl, rfl, by simp, fun k _ hne => Below.heap_setCell W ⟨g, o, none⟩ v k (fun e => hne (congrArg some e))⟩
theorem grown_of {w W : World} (hb : Below w.heap.size w W) (row : Option Nat) : w.grownBy W row := ⟨hb.os, hb.tape, hb.output, hb.size, fun k hk _ => hb.block k hk⟩
theorem scanR_new {f : Nat → Int} {i m : Nat} (h : ∀ x, scanR f i m = some x → f x < f (i + 1 + m)) : scanR f i (m + 1) = some (i + 1 + m) := by
  unfold scanR
  cases hR : scanR f i m with
  | none => rfl
  | some x => simp only [if_pos (h x hR)]
theorem scanR_old {f : Nat → Int} {i m x : Nat} (h : scanR f i m = some x) (h2 : ¬ f x < f (i + 1 + m)) : scanR f i (m + 1) = some x := by
  unfold scanR
  rw [h]
  simp only [if_neg h2]

/-- Behind the call of Off: its two answers lie in two new boxes. -/
def AfterOff (ps : List Pt) (b off c i j g cg Nb Db K : Nat) (t at_ zp zq : Int) (wr : World) (a' : Act) (w' : World) : Prop :=
  ∃ (X Y : Nat) (b1 b2 : Bool) (A1 A2 : Option Addr) (n1 c1 n2 c2 : Nat) (u : Nat → Value), a' = { tmps := #[.slice (some ⟨b, off, none⟩) ps.length c, .int .i64 (i : Int), .int .i64 (j : Int), .int .i64 t, .slice (some ⟨g, 0, none⟩) ps.length cg, undef, undef, undef, undef, undef, .int .i64 at_, .pointer (some ⟨Nb, 0, none⟩), .pointer (some ⟨Db, 0, none⟩), .int .i64 (K : Int), .pointer (some ⟨X, 0, none⟩), .pointer (some ⟨Y, 0, none⟩), .int .i64 (i : Int), .int .i64 ((i : Int) + 1), u 18, u 19, u 20, u 21, u 22, u 23, u 24, u 25, u 26, u 27, u 28, u 29, u 30, u 31, u 32, u 33, u 34, u 35, u 36, u 37, u 38, u 39, u 40, u 41, u 42, u 43, u 44, u 45, u 46, u 47, u 48, u 49, u 50, u 51, undef, undef, undef, undef, undef, undef, undef, undef, undef, undef, undef, undef, undef, undef, undef, undef, undef, undef, undef, undef, undef, undef, undef, undef, undef, undef, undef, undef, undef, undef, undef, undef, undef], defers := [] } ∧ wr.heap.size ≤ X ∧ wr.heap.size ≤ Y ∧ Var w' X 64 #[.bool b1, .slice A1 n1 c1] ∧ Var w' Y 64 #[.bool b2, .slice A2 n2 c2] ∧
    NumAt w' (.agg #[.bool b1, .slice A1 n1 c1]) zp ∧ NumAt w' (.agg #[.bool b2, .slice A2 n2 c2]) zq ∧ Below wr.heap.size wr w'
set_option maxRecDepth 100000 in
theorem afterOff_mk {ps : List Pt} {b off c i j g cg Nb Db K : Nat} {t at_ zp zq : Int} {wr w' : World} {X Y : Nat} {b1 b2 : Bool} {A1 A2 : Option Addr} {n1 c1 n2 c2 : Nat} {d1 d2 : List Nat} {x18 x19 x20 x21 x22 x23 x24 x25 x26 x27 x28 x29 x30 x31 x32 x33 x34 x35 x36 x37 x38 x39 x40 x41 x42 x43 x44 x45 x46 x47 x48 x49 x50 x51 : Value}
    (h3 : Var w' X 64 #[.bool b1, .slice A1 n1 c1]) (h4 : Var w' Y 64 #[.bool b2, .slice A2 n2 c2]) (h5 : RawAt w' A1 n1 c1 d1) (h6 : RawAt w' A2 n2 c2 d2)
    (hX : wr.heap.size ≤ X) (hY : wr.heap.size ≤ Y) (g1 : Tight d1 ∧ Hid (b1 = decide (zp < 0)) ∧ Hid (val d1 = zp.natAbs)) (g2 : Tight d2 ∧ Hid (b2 = decide (zq < 0)) ∧ Hid (val d2 = zq.natAbs)) (hB : Below wr.heap.size wr w') :
    AfterOff ps b off c i j g cg Nb Db K t at_ zp zq wr { tmps := #[.slice (some ⟨b, off, none⟩) ps.length c, .int .i64 (i : Int), .int .i64 (j : Int), .int .i64 t, .slice (some ⟨g, 0, none⟩) ps.length cg, undef, undef, undef, undef, undef, .int .i64 at_, .pointer (some ⟨Nb, 0, none⟩), .pointer (some ⟨Db, 0, none⟩), .int .i64 (K : Int), .pointer (some ⟨X, 0, none⟩), .pointer (some ⟨Y, 0, none⟩), .int .i64 (i : Int), .int .i64 ((i : Int) + 1), x18, x19, x20, x21, x22, x23, x24, x25, x26, x27, x28, x29, x30, x31, x32, x33, x34, x35, x36, x37, x38, x39, x40, x41, x42, x43, x44, x45, x46, x47, x48, x49, x50, x51, undef, undef, undef, undef, undef, undef, undef, undef, undef, undef, undef, undef, undef, undef, undef, undef, undef, undef, undef, undef, undef, undef, undef, undef, undef, undef, undef, undef, undef, undef, undef, undef, undef], defers := [] } w' :=
  ⟨X, Y, b1, b2, A1, A2, n1, c1, n2, c2, fun i => ([undef, undef, undef, undef, undef, undef, undef, undef, undef, undef, undef, undef, undef, undef, undef, undef, undef, undef, x18, x19, x20, x21, x22, x23, x24, x25, x26, x27, x28, x29, x30, x31, x32, x33, x34, x35, x36, x37, x38, x39, x40, x41, x42, x43, x44, x45, x46, x47, x48, x49, x50, x51, undef, undef, undef, undef, undef, undef, undef, undef, undef, undef, undef, undef, undef, undef, undef, undef, undef, undef, undef, undef, undef, undef, undef, undef, undef, undef, undef, undef, undef, undef, undef, undef, undef] : List Value).getD i undef, rfl, hX, hY, h3, h4, num_mk h5 g1.1 g1.2.1.out g1.2.2.out, num_mk h6 g2.1 g2.2.1.out g2.2.2.out, hB⟩
theorem open_off {P : Program} {f : FuncId} {args : Array Value} {w : World} {x y : Int} (h : Calls P f args w fun e w' => ∃ u v, e = .returned (.tuple #[u, v]) ∧ NumAt w' u x ∧ NumAt w' v y ∧ Below w.heap.size w w') :
    Calls P f args w fun e w' => ∃ b1 A1 n1 c1 d1 b2 A2 n2 c2 d2, e = .returned (.tuple #[.agg #[.bool b1, .slice A1 n1 c1], .agg #[.bool b2, .slice A2 n2 c2]]) ∧ (RawAt w' A1 n1 c1 d1 ∧ Tight d1 ∧ Hid (b1 = decide (x < 0)) ∧ Hid (val d1 = x.natAbs)) ∧ (RawAt w' A2 n2 c2 d2 ∧ Tight d2 ∧ Hid (b2 = decide (y < 0)) ∧ Hid (val d2 = y.natAbs)) ∧ Below w.heap.size w w' :=
  h.mono fun _ _ ⟨u, v, he, hu, hv, hb⟩ => by
    obtain ⟨b1, A1, n1, c1, d1, rfl, hs1, hr1, ht1, hv1⟩ := num_open hu
    obtain ⟨b2, A2, n2, c2, d2, rfl, hs2, hr2, ht2, hv2⟩ := num_open hv
    exact ⟨b1, A1, n1, c1, d1, b2, A2, n2, c2, d2, he, ⟨hr1, ht1, hs1, hv1⟩, ⟨hr2, ht2, hs2, hv2⟩, hb⟩

set_option maxHeartbeats 4000000 in
set_option maxRecDepth 100000 in
theorem thin_ref (ps : List Pt) (hps : IsL ps) (t : Int) (ht : Tol t) (M g : Nat) (A : Option Addr) (c cg : Nat) (hlen : ps.length ≤ 4611686018427387903) (hMg : M ≤ g) : ∀ (d i j : Nat) (f : Nat → Bool) (w : World), j - i < d → i ≤ j → j < ps.length → PtsAt M w (.slice A ps.length c) ps → KeptAt w g ps.length f → M ≤ w.heap.size →
    Calls Try.prog 36 #[.slice A ps.length c, .int .i64 (i : Int), .int .i64 (j : Int), .int .i64 t, .slice (some ⟨g, 0, none⟩) ps.length cg] w fun e w' => (∃ v, e = .returned v) ∧ KeptAt w' g ps.length (fun k => f k || kept (far ps (t * t)) i j k) ∧ w.grownBy w' (some g) := by
  intro d
  induction d with
  | zero => exact fun i j f w hd => absurd hd (Nat.not_lt_zero _)
  | succ d ih =>
    intro i j f w hd hij hjn hP hK hM
    obtain ⟨b, off, rfl, hb, hpt⟩ : ∃ b off, A = some ⟨b, off, none⟩ ∧ b < M ∧ ∀ k, k < ps.length → w.cell? ⟨b, off + k * 2, none⟩ = some (.int .i32 (gp ps k).1) ∧ w.cell? ⟨b, off + k * 2 + 1, none⟩ = some (.int .i32 (gp ps k).2) := by
      rcases hP with ⟨⟨A0, c0, _⟩, he⟩ | ⟨b, off, cap, he, hb, hc⟩
      · rw [he] at hjn; simp at hjn
      · injection he with he1 he2 he3
        exact ⟨b, off, he1, hb, hc⟩
    have HI := Lib.hid ih
    have HP := Lib.hid (And.intro hpt hK)
    have hgz := Var.lt hK
    have OF := Lib.hid (fun k W => off_ref (hps.gp i) (hps.gp j) (hps.gp k) W)
    have SO := Lib.hid (fun k => small_off (hps.gp i) (hps.gp j) (hps.gp k))
    have WI := Lib.hid (fun k W => within_ref (hps.gp i) (hps.gp j) (hps.gp k) ht W)
    clear ih hpt hK hP
    go_enter Try.func36, Try.ntmps36
    obtain ⟨F, hF⟩ : ∃ F : Nat → Int, F = fun k => offP (gp ps i) (gp ps j) (gp ps k) := ⟨_, rfl⟩
    obtain ⟨p, hp⟩ : ∃ p : Nat → Int, p = fun k => offN (gp ps i) (gp ps j) (gp ps k) := ⟨_, rfl⟩
    obtain ⟨q, hq⟩ : ∃ q : Nat → Int, q = fun k => offD (gp ps i) (gp ps j) (gp ps k) := ⟨_, rfl⟩
    have OF' : Hid (∀ k W, Calls Try.prog 63 #[(Value.agg #[.int .i32 ((gp ps i).1), .int .i32 ((gp ps i).2)]), (Value.agg #[.int .i32 ((gp ps j).1), .int .i32 ((gp ps j).2)]), (Value.agg #[.int .i32 ((gp ps k).1), .int .i32 ((gp ps k).2)])] W fun e w' => ∃ u v, e = .returned (.tuple #[u, v]) ∧ NumAt w' u (p k) ∧ NumAt w' v (q k) ∧ Below W.heap.size W w') := by rw [hp, hq]; exact OF
    have SO' : Hid (∀ k, Small 14 (p k).natAbs ∧ Small 14 (q k).natAbs) := by rw [hp, hq]; exact SO
    have LT : Hid (∀ x k, 0 < cmpI (p k * q x) (p x * q k) ↔ F x < F k) := Lib.hid fun x k => by rw [cmpI_pos, hp, hq, hF]; exact off_lt _ _ _ _
    have HF := Lib.hid hF
    clear OF SO hF hp hq
    have hjI : (j : Int) < (ps.length : Int) := by omega
    have hiI : (i : Int) < (ps.length : Int) := by omega
    have hw1 : IntKind.i64.wrap ((i : Int) + 1) = (i : Int) + 1 := by simp only [IntKind.wrap, IntKind.signed, IntKind.bits]; simp; omega
    go_upto_region 2 with fail
    refine wp_gen (fun W hW => ?_)
    have hbW : Below w.heap.size w W := by rw [hW]; go_grown
    have vN : Var W w.heap.size 64 #[.bool false, .slice none 0 0] := by rw [hW]; exact (Var.new _ _ _).alloc _
    have vD : Var W (w.heap.size + 1) 64 #[.bool false, .slice none 0 0] := by rw [hW]; exact Var.new' _ _ _ (by simp)
    have HW := Lib.hid (And.intro hbW (And.intro vN vD))
    clear hW hbW vN vD
    go_wp2_with fail
    go_loopw [10, 13] (fun a k wr => ∃ m : Nat, m ≤ j - 1 - i ∧ k = .int .i64 ((i : Int) + 1 + (m : Int)) ∧ a = .int .i64 (atI (scanR F i m)) ∧ Best wr w.heap.size (w.heap.size + 1) (scanR F i m) p q ∧ Below w.heap.size w wr) (fun _ k _ => j - (intOf k).toNat)
    case atStart => exact ⟨0, by omega, by simp, rfl, ⟨false, false, none, none, 0, 0, 0, 0, HW.out.2.1, HW.out.2.2, fun x h => by cases h⟩, HW.out.1⟩
    case round =>
      obtain ⟨m, hm, rfl, rfl, hBest, hB⟩ := hrel
      rcases Nat.lt_or_ge m (j - 1 - i) with hlt | hge
      · obtain ⟨K, hK⟩ : ∃ K, i + 1 + m = K := ⟨_, rfl⟩
        have hkI : (i : Int) + 1 + (m : Int) = (K : Int) := by omega
        have hKj : (K : Int) < (j : Int) := by omega
        have hKn : (K : Int) < (ps.length : Int) := by omega
        have hKN : K < ps.length := by omega
        rw [hkI]
        have c1 := (hB.cell (p := ⟨b, off + i * 2, none⟩) (show b < w.heap.size by omega)).trans (HP.out.1 i (by omega)).1
        have c2 := (hB.cell (p := ⟨b, off + i * 2 + 1, none⟩) (show b < w.heap.size by omega)).trans (HP.out.1 i (by omega)).2
        have c3 := (hB.cell (p := ⟨b, off + j * 2, none⟩) (show b < w.heap.size by omega)).trans (HP.out.1 j (by omega)).1
        have c4 := (hB.cell (p := ⟨b, off + j * 2 + 1, none⟩) (show b < w.heap.size by omega)).trans (HP.out.1 j (by omega)).2
        have c5 := (hB.cell (p := ⟨b, off + K * 2, none⟩) (show b < w.heap.size by omega)).trans (HP.out.1 K (by omega)).1
        have c6 := (hB.cell (p := ⟨b, off + K * 2 + 1, none⟩) (show b < w.heap.size by omega)).trans (HP.out.1 K (by omega)).2
        have hzr := hB.size
        have hbz : b < wr.heap.size := by omega
        have HX := Lib.hid hBest
        clear hBest hkI
        go_wp2_with fail
        have HBest := Lib.hid (And.intro HX.out hB)
        clear HX
        refine wp_cutR (AfterOff ps b off c i j g cg w.heap.size (w.heap.size + 1) K t (atI (scanR F i m)) (p K) (q K) wr) ?_ ?_
        · go_region_held3 (fun w' => Below wr.heap.size wr w' ∧ (∀ b o, b < wr.heap.size → w'.cell? ⟨b, o, none⟩ = wr.cell? ⟨b, o, none⟩))
            (first | assumption | (repeat' (first | assumption | (with_reducible exact held_refl _) | (with_reducible refine held_drew ?_) | (with_reducible refine held_alloc _ ?_) | (with_reducible refine held_set _ (by first | omega | (simp; done) | (simp; omega)) ?_))))
            (first
              | (go_at_call 63; with_reducible refine (open_off (OF'.out K _)).mono ?_; rintro e wk ⟨b1, A1, n1, d1c, e1, b2, A2, n2, d2c, e2, rfl, ⟨hr1, ht1⟩, ⟨hr2, ht2⟩, hb_wk⟩; have hS_wk := held_step hb_wk (W0 := wr) (by first | assumption | (repeat' (first | assumption | (with_reducible exact held_refl _) | (with_reducible refine held_drew ?_) | (with_reducible refine held_alloc _ ?_)))); obtain ⟨hc_wk, hf_wk⟩ := bcell hb_wk; have hz_wk := hb_wk.size; (try simp at hz_wk); (try have hsp1 : wr.heap.size < wk.heap.size := (by omega)); (try have hsp2 : wr.heap.size + 1 < wk.heap.size := (by omega))))
          all_goals
            refine ⟨rfl, afterOff_mk (A1 := A1) (n1 := n1) (c1 := d1c) (A2 := A2) (n2 := n2) (c2 := d2c) (d1 := e1) (d2 := e2) ?_ ?_ ?_ ?_ (by omega) (by omega) ht1 ht2 ((show Below wr.heap.size wr _ ∧ (∀ b o, b < wr.heap.size → World.cell? _ ⟨b, o, none⟩ = wr.cell? ⟨b, o, none⟩) by (repeat' (first | assumption | (with_reducible exact held_refl _) | (with_reducible refine held_drew ?_) | (with_reducible refine held_alloc _ ?_) | (with_reducible refine held_set _ (by first | omega | (simp; done) | (simp; omega)) ?_)))).1)⟩
          all_goals repeat' (first
            | (with_reducible exact hr1)
            | (with_reducible exact hr2)
            | (with_reducible exact Var.new' _ _ _ (by first | rfl | (simp; done) | (simp; omega)))
            | (with_reducible refine var_twoN ?_)
            | (with_reducible refine var_farN (by omega) ?_)
            | (with_reducible refine Var.drew ?_)
            | (with_reducible refine Var.alloc ?_ _)
            | (with_reducible refine Var.keep ?_ hb_wk)
            | (with_reducible refine raw_farN ?_ ?_)
            | (with_reducible refine raw_alloc ?_ _)
            | (with_reducible refine raw_drew ?_))
        · rintro a' w5 ⟨X, Y, b1, b2, A1, A2, n1, c1, n2, c2, u, rfl, hX, hY, vX, vY, hu, hv, hb5⟩
          obtain ⟨⟨bn, bd, An, Ad, nn, cn, nd, cd, vN, vD, hNum⟩, hB0⟩ := HBest.out
          have vN5 := vN.keep hb5
          have vD5 := vD.keep hb5
          have hB5 := hB0.trans (hb5.mono hB0.size)
          have hz5 := hb5.size
          have zN := vN.lt
          have zD := vD.lt
          have x0 : w5.cell? ⟨X, 0, none⟩ = some (.bool b1) := vX.cell 0
          have x1 : w5.cell? ⟨X, 1, none⟩ = some (.slice A1 n1 c1) := vX.cell 1
          have y0 : w5.cell? ⟨Y, 0, none⟩ = some (.bool b2) := vY.cell 0
          have y1 : w5.cell? ⟨Y, 1, none⟩ = some (.slice A2 n2 c2) := vY.cell 1
          have n0 : w5.cell? ⟨w.heap.size, 0, none⟩ = some (.bool bn) := vN5.cell 0
          have n1' : w5.cell? ⟨w.heap.size, 1, none⟩ = some (.slice An nn cn) := vN5.cell 1
          have d0 : w5.cell? ⟨w.heap.size + 1, 0, none⟩ = some (.bool bd) := vD5.cell 0
          have d1 : w5.cell? ⟨w.heap.size + 1, 1, none⟩ = some (.slice Ad nd cd) := vD5.cell 1
          have fn0 := vN5.free 0
          have fn1 := vN5.free 1
          have fd0 := vD5.free 0
          have fd1 := vD5.free 1
          have zX := vX.lt
          have zY := vY.lt
          have zN5 := vN5.lt
          have zD5 := vD5.lt
          have e1 : ¬ X = w.heap.size := by omega
          have e2 : ¬ Y = w.heap.size := by omega
          have e3 : ¬ w.heap.size = X := by omega
          have e4 : ¬ w.heap.size = Y := by omega
          have e5 : ¬ w.heap.size + 1 = X := by omega
          have e6 : ¬ w.heap.size + 1 = Y := by omega
          have hw2 : IntKind.i64.wrap ((K : Int) + 1) = (K : Int) + 1 := by simp only [IntKind.wrap, IntKind.signed, IntKind.bits]; simp; omega
          have hN : w.heap.size ≠ w.heap.size + 1 := by omega
          have hD : w.heap.size + 1 ≠ w.heap.size := by omega
          have HN := Lib.hid (And.intro (best_put vN5 vD5 hN hu hv) ((((hB5.setCell (p := ⟨w.heap.size, 0, none⟩) (Nat.le_refl _) (.bool b1)).setCell (p := ⟨w.heap.size, 1, none⟩) (Nat.le_refl _) (.slice A1 n1 c1)).setCell (p := ⟨w.heap.size + 1, 0, none⟩) (show w.heap.size ≤ w.heap.size + 1 by omega) (.bool b2)).setCell (p := ⟨w.heap.size + 1, 1, none⟩) (show w.heap.size ≤ w.heap.size + 1 by omega) (.slice A2 n2 c2)))
          have HXY := Lib.hid (And.intro vX vY)
          have HV := Lib.hid (And.intro vN5 (And.intro vD5 (And.intro hB5 (And.intro hu hv))))
          have HNum := Lib.hid (fun x hx => And.intro ((hNum x hx).1.below hb5) ((hNum x hx).2.below hb5))
          have hmes : K = i + 1 + m := hK.symm
          have HK := Lib.hid hK
          clear vN5 vD5 hB5 hu hv vN vD hNum hb5 HBest vX vY hK hmes hB hB0
          cases hR : scanR F i m with
          | none =>
            have hS : scanR F i (m + 1) = some K := by rw [← HK.out]; exact scanR_new (fun x hx => by rw [hR] at hx; cases hx)
            have HS := Lib.hid hS
            clear hS
            simp only [atI]
            go_wp2_with fail
            go_roundw
            case rel =>
              refine ⟨m + 1, by omega, by have := HK.out; congr 1; omega, ?_, ?_, HN.out.2⟩
              · rw [HS.out]; rfl
              · rw [HS.out]; exact HN.out.1
            case measure => simp [intOf]; omega
          | some x =>
            have hlt2 := LT.out x K
            obtain ⟨sg, hsg⟩ : ∃ z, cmpI (p K * q x) (p x * q K) = z := ⟨_, rfl⟩
            rw [hsg] at hlt2
            have HSG := Lib.hid hsg
            have hxI : ¬ (x : Int) < 0 := by omega
            have hnx := HNum.out x hR
            have hcmp := cmp10 HV.out.2.2.2.1 HV.out.2.2.2.2 hnx.1 hnx.2 (SO'.out K).1 (SO'.out K).2 (SO'.out x).1 (SO'.out x).2 (by omega)
            rw [hsg] at hcmp
            have HC := Lib.hid hcmp
            clear hcmp hnx hsg
            simp only [atI]
            go_wp2_with fail
            refine HC.out.mono ?_
            rintro e w7 ⟨rfl, hb7⟩
            have hz7 := hb7.size
            have hB7 := HV.out.2.2.1.trans (hb7.mono HV.out.2.2.1.size)
            have vX7 := HXY.out.1.keep hb7
            have vY7 := HXY.out.2.keep hb7
            have vN7 := HV.out.1.keep hb7
            have vD7 := HV.out.2.1.keep hb7
            clear x0 x1 y0 y1 n0 n1' d0 d1 fn0 fn1 fd0 fd1
            have x0 : w7.cell? ⟨X, 0, none⟩ = some (.bool b1) := vX7.cell 0
            have x1 : w7.cell? ⟨X, 1, none⟩ = some (.slice A1 n1 c1) := vX7.cell 1
            have y0 : w7.cell? ⟨Y, 0, none⟩ = some (.bool b2) := vY7.cell 0
            have y1 : w7.cell? ⟨Y, 1, none⟩ = some (.slice A2 n2 c2) := vY7.cell 1
            have n0 : w7.cell? ⟨w.heap.size, 0, none⟩ = some (.bool bn) := vN7.cell 0
            have n1' : w7.cell? ⟨w.heap.size, 1, none⟩ = some (.slice An nn cn) := vN7.cell 1
            have d0 : w7.cell? ⟨w.heap.size + 1, 0, none⟩ = some (.bool bd) := vD7.cell 0
            have d1 : w7.cell? ⟨w.heap.size + 1, 1, none⟩ = some (.slice Ad nd cd) := vD7.cell 1
            have fn0 := vN7.free 0
            have fn1 := vN7.free 1
            have fd0 := vD7.free 0
            have fd1 := vD7.free 1
            have z7X : X < w7.heap.size := by omega
            have z7Y : Y < w7.heap.size := by omega
            have z7N : w.heap.size < w7.heap.size := by omega
            have z7D : w.heap.size + 1 < w7.heap.size := by omega
            rcases Int.lt_or_le 0 sg with hs | hs
            · have hS : scanR F i (m + 1) = some K := by rw [← HK.out]; exact scanR_new (fun x' hx => by rw [hR] at hx; injection hx with hx; subst hx; rw [HK.out]; exact hlt2.1 hs)
              have HS := Lib.hid hS
              have HBP := Lib.hid (And.intro (best_put vN7 vD7 hN (HV.out.2.2.2.1.below hb7) (HV.out.2.2.2.2.below hb7)) ((((hB7.setCell (p := ⟨w.heap.size, 0, none⟩) (Nat.le_refl _) (.bool b1)).setCell (p := ⟨w.heap.size, 1, none⟩) (Nat.le_refl _) (.slice A1 n1 c1)).setCell (p := ⟨w.heap.size + 1, 0, none⟩) (show w.heap.size ≤ w.heap.size + 1 by omega) (.bool b2)).setCell (p := ⟨w.heap.size + 1, 1, none⟩) (show w.heap.size ≤ w.heap.size + 1 by omega) (.slice A2 n2 c2)))
              clear hS vX7 vY7 vN7 vD7 hB7 hb7 hlt2
              go_wp2_with fail
              go_roundw
              case rel =>
                refine ⟨m + 1, by omega, by have := HK.out; congr 1; omega, ?_, ?_, HBP.out.2⟩
                · rw [HS.out]; rfl
                · rw [HS.out]; exact HBP.out.1
              case measure => simp [intOf]; omega
            · have hs' : ¬ 0 < sg := by omega
              have hS : scanR F i (m + 1) = some x := scanR_old hR (by rw [HK.out]; exact fun h => hs' (hlt2.2 h))
              have HS := Lib.hid hS
              have HBP := Lib.hid (And.intro (show Best w7 w.heap.size (w.heap.size + 1) (some x) p q from ⟨bn, bd, An, Ad, nn, cn, nd, cd, vN7, vD7, fun x' hx => by injection hx with hx; subst hx; exact ⟨(HNum.out _ hR).1.below hb7, (HNum.out _ hR).2.below hb7⟩⟩) hB7)
              clear hS vX7 vY7 vN7 vD7 hB7 hb7 hlt2 hs
              go_wp2_with fail
              go_roundw
              case rel =>
                refine ⟨m + 1, by omega, by have := HK.out; congr 1; omega, ?_, ?_, HBP.out.2⟩
                · rw [HS.out]; rfl
                · rw [HS.out]; exact HBP.out.1
              case measure => simp [intOf]; omega
      · have hmE : m = j - 1 - i := by omega
        have hkI : ¬ (i : Int) + 1 + (m : Int) < (j : Int) := by omega
        have hzr := hB.size
        have hbz : b < wr.heap.size := by omega
        have HKr := Lib.hid (And.intro (HP.out.2.keep hB) hB)
        cases hR : scanR F i m with
        | none =>
          have HFar := Lib.hid (far_none (ps := ps) (t := t) (i := i) (j := j) (by rw [← hmE, ← HF.out]; exact hR))
          simp only [atI]
          go_wp2_with fail
          have hq_wr := @wd_cell wr
          refine wp_region_wd (by kernel_rfl) (by kernel_rfl) ?_
          repeat (go_big_quiet_step (fail))
          refine wpQuiet_nil ?_
          rintro w7 ⟨⟨wx, hb_w7⟩, hwx⟩
          obtain rfl : w7 = wx := hwx
          clear hq_wr
          have hz_w7 := hb_w7.size
          obtain ⟨hc_w7, hf_w7⟩ := bcell hb_w7
          have hB_w7 : Below w.heap.size w w7 := Below.trans (by go_grown) (hb_w7.mono (by go_size))
          have hs_w7_0 : b < w7.heap.size := Nat.lt_of_lt_of_le (by assumption) hb_w7.size
          have H7 := Lib.hid hb_w7
          clear hb_w7 hc_w7 hf_w7 hB_w7
          go_wp2_with fail
          refine bodyPost_ret (results_none rfl _ _ _) rfl ?_
          refine ⟨⟨_, rfl⟩, (HKr.out.1.keep H7.out).congr fun k _ => ?_, grown_of (HKr.out.2.trans (H7.out.mono HKr.out.2.size)) _⟩
          rw [kept_none HFar.out, Bool.or_false]
        | some x =>
          have hx := scanR_bd hR
          have hxn : x < ps.length := by omega
          have c1 := (hB.cell (p := ⟨b, off + i * 2, none⟩) (show b < w.heap.size by omega)).trans (HP.out.1 i (by omega)).1
          have c2 := (hB.cell (p := ⟨b, off + i * 2 + 1, none⟩) (show b < w.heap.size by omega)).trans (HP.out.1 i (by omega)).2
          have c3 := (hB.cell (p := ⟨b, off + j * 2, none⟩) (show b < w.heap.size by omega)).trans (HP.out.1 j (by omega)).1
          have c4 := (hB.cell (p := ⟨b, off + j * 2 + 1, none⟩) (show b < w.heap.size by omega)).trans (HP.out.1 j (by omega)).2
          have c5 := (hB.cell (p := ⟨b, off + x * 2, none⟩) (show b < w.heap.size by omega)).trans (HP.out.1 x (by omega)).1
          have c6 := (hB.cell (p := ⟨b, off + x * 2 + 1, none⟩) (show b < w.heap.size by omega)).trans (HP.out.1 x (by omega)).2
          have hxI : (x : Int) < (ps.length : Int) := by omega
          have hx0 : decide ((x : Int) < 0) = false := decide_eq_false (by omega)
          have hR' : scanR (fun k => offP (gp ps i) (gp ps j) (gp ps k)) i (j - 1 - i) = some x := by rw [← hmE, ← HF.out]; exact hR
          have hwi := fun W => WI.out x W
          obtain ⟨wb, hwb⟩ : ∃ z, withinB (gp ps i) (gp ps j) (gp ps x) t = z := ⟨_, rfl⟩
          rw [hwb] at hwi
          have HWI := Lib.hid hwi
          simp only [atI]
          cases wb with
          | true =>
            have HFar := Lib.hid (far_within hR' hwb)
            clear hwi hwb hR hR' hmE hBest
            go_wp2_with fail
            have hq_wr := @wd_cell wr
            refine wp_region_wd (by kernel_rfl) (by kernel_rfl) ?_
            repeat (go_big_quiet_step ((first | (go_at_call 65; with_reducible exact quiet_wd (HWI.out _)))))
            refine wpQuiet_nil ?_
            rintro w7 ⟨⟨wx, hb_w7⟩, hwx⟩
            obtain rfl : w7 = wx := hwx
            clear hq_wr
            have hz_w7 := hb_w7.size
            obtain ⟨hc_w7, hf_w7⟩ := bcell hb_w7
            have hB_w7 : Below w.heap.size w w7 := Below.trans (by go_grown) (hb_w7.mono (by go_size))
            have hs_w7_0 : b < w7.heap.size := Nat.lt_of_lt_of_le (by assumption) hb_w7.size
            have H7 := Lib.hid hb_w7
            clear hb_w7 hc_w7 hf_w7 hB_w7
            go_wp2_with fail
            refine bodyPost_ret (results_none rfl _ _ _) rfl ?_
            refine ⟨⟨_, rfl⟩, (HKr.out.1.keep H7.out).congr fun k _ => ?_, grown_of (HKr.out.2.trans (H7.out.mono HKr.out.2.size)) _⟩
            rw [kept_none HFar.out, Bool.or_false]
          | false =>
            have HFar := Lib.hid (far_some hR' hwb)
            have HXB := Lib.hid (And.intro hx hmE)
            clear hwi hwb hR hR' hmE hBest hx
            go_wp2_with fail
            have hq_wr := @wd_cell wr
            refine wp_region_wd (by kernel_rfl) (by kernel_rfl) ?_
            repeat (go_big_quiet_step ((first | (go_at_call 65; with_reducible exact quiet_wd (HWI.out _)))))
            refine wpQuiet_nil ?_
            rintro w7 ⟨⟨wx, hb_w7⟩, hwx⟩
            obtain rfl : w7 = wx := hwx
            clear hq_wr
            have hz_w7 := hb_w7.size
            obtain ⟨hc_w7, hf_w7⟩ := bcell hb_w7
            have hB_w7 : Below w.heap.size w w7 := Below.trans (by go_grown) (hb_w7.mono (by go_size))
            have hs_w7_0 : b < w7.heap.size := Nat.lt_of_lt_of_le (by assumption) hb_w7.size
            have hK7 := HKr.out.1.keep hb_w7
            have hB7 := HKr.out.2.trans (hb_w7.mono HKr.out.2.size)
            have ck : w7.cell? ⟨g, x, none⟩ = some (.bool (f x)) := hK7.at_ hxn
            have fk := Var.free hK7 x
            have zk := Var.lt hK7
            have hg7 := (grown_of hB7 (some g)).trans (grown_set w7 g x (.bool true))
            have H7 := Lib.hid (And.intro (hK7.put x hxn) hg7)
            have hz7 := hB7.size
            clear hb_w7 hc_w7 hf_w7 hB_w7 hK7 hB7 hg7 c1 c2 c3 c4 c5 c6
            have hPt : ∀ W, w.grownBy W (some g) → PtsAt M W (.slice (some ⟨b, off, none⟩) ps.length c) ps ∧ M ≤ W.heap.size := fun W hg => by
              have hb2 : Below M w W := (Below.refl M w).grown hg hM (fun k e => by injection e with e; omega)
              exact ⟨PtsAt.below hb2 (.inr ⟨b, off, c, rfl, hb, HP.out.1⟩), Nat.le_trans hM hg.size⟩
            have HPt := Lib.hid hPt
            clear hPt
            go_wp2_with fail
            refine (HI.out i x _ _ (by have := HXB.out.1; omega) (by have := HXB.out.1; omega) hxn (HPt.out _ H7.out.2).1 H7.out.1 (HPt.out _ H7.out.2).2).mono ?_
            rintro e w8 ⟨⟨_, rfl⟩, hK8, hg8⟩
            have H8 := Lib.hid (And.intro hK8 (H7.out.2.trans hg8))
            clear hK8 hg8
            go_wp2_with fail
            refine (HI.out x j _ _ (by have := HXB.out.1; omega) (by have := HXB.out.1; omega) hjn (HPt.out _ H8.out.2).1 H8.out.1 (HPt.out _ H8.out.2).2).mono ?_
            rintro e w9 ⟨⟨_, rfl⟩, hK9, hg9⟩
            have H9 := Lib.hid (And.intro hK9 (H8.out.2.trans hg9))
            clear hK9 hg9
            go_wp2_with fail
            go_end0
            refine ⟨⟨_, rfl⟩, H9.out.1.congr fun k _ => ?_, H9.out.2⟩
            rw [kept_some (far_between ps (t * t)) HFar.out]
            simp only [Bool.or_assoc]

end Go.Proofs.Ytcpojadinkonnaa
