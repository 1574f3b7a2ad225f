/-
  A body's parts: what follows the first n parts of a sequence; the regions in the order of the text.
  slices.Reverse of a row of points of the call's own. (XChain's part.)
-/
import Derived.Test.YthbndilnobjjgaaFrame
import Derived.Deep.Cut
import Derived.Test.YthbndilnobjjgaaLent
import Derived.Deep.LoopGhost
import Derived.Deep.WholeRow
namespace Go.Proofs.Ythbndilnobjjgaa
open Go.RowKit

/-- What follows the first n parts of a sequence. -/
def dropT : Nat → Code → Code
  | 0, c => c
  | n + 1, .seq _ b => dropT n b
  | _ + 1, c => c
def tailT (f : Func) (n : Nat) : Code := dropT n (f.body.getD .skip)
theorem own_keepT {W W' : World} {b n : Nat} {v : Value} {e : TypeId} {xs : List Value} (h : W.ownsRow b e 2 v n xs) (hb : Below W.heap.size W W') : W'.ownsRow b e 2 v n xs :=
  World.ownsRow.kept (row := none) h ⟨hb.os, hb.tape, hb.output, hb.size, fun k hk _ => hb.block k hk⟩ (by cases v.ownBlock <;> simp)
theorem own_capT {W : World} {b : Nat} {e : TypeId} {size n c : Nat} {A : Option Addr} {xs : List Value} (h : W.ownsRow b e size (.slice A n c) n xs) : n ≤ c ∧ c ≤ 9223372036854775807 := by
  rcases h.2 with ⟨hv, h0⟩ | ⟨g, cap, cur, hv, hb, hg, h1, h2, h3, h4⟩
  · injection hv with _ _ hc
    omega
  · injection hv with _ _ hc
    subst hc
    unfold maxLen at h2
    omega

theorem own_cells {W : World} {b n c : Nat} {A : Option Addr} {qs : List Pt} (h : W.ownsRow b 28 2 (.slice A n c) n (flat qs)) (h0 : 0 < n) :
    ∃ g, A = some ⟨g, 0, none⟩ ∧ b ≤ g ∧ g < W.heap.size ∧ (∀ o, W.frozen? ⟨g, o, none⟩ = false) ∧ ∀ j, j < qs.length → W.cell? ⟨g, j * 2, none⟩ = some (.int .i32 (gp qs j).1) ∧ W.cell? ⟨g, j * 2 + 1, none⟩ = some (.int .i32 (gp qs j).2) := by
  rcases h.2 with ⟨_, h1⟩ | ⟨g, cap, cur, hv, hb, hg, _⟩
  · omega
  · have hv' := hv
    injection hv with hA _ hc
    subst hA hc
    have vV : Var W g 28 cur := hg
    refine ⟨g, rfl, hb, vV.lt, fun o => vV.free o, fun j hj => ?_⟩
    have hc := World.ownsRow.cells h (g := g) rfl
    obtain ⟨e1, e2⟩ := flat_get qs j hj
    have f1 := hc _ _ e1
    have f2 := hc _ _ e2
    rw [add_at] at f1 f2
    exact ⟨f1, f2⟩
theorem own_store {W : World} {b n c j g : Nat} {e : TypeId} {xs : List Value} {u : Value} (h : W.ownsRow b e 2 (.slice (some ⟨g, 0, none⟩) n c) n xs) (_hj : j < xs.length) : (W.setCell ⟨g, j, none⟩ u).ownsRow b e 2 (.slice (some ⟨g, 0, none⟩) n c) n (xs.set j u) := by
  refine ⟨by rw [List.length_set]; exact h.1, ?_⟩
  have hl := h.1
  rcases h.2 with ⟨hv, _⟩ | ⟨g', cap, cur, hv, hb, hvar, h1, h2, h3, h4⟩
  · cases hv
  · have hv' := hv
    injection hv' with hA _ hc
    injection hA with hA
    injection hA with hA
    subst hA hc
    have vV : Var W g e cur := hvar
    refine .inr ⟨g, c, _, rfl, hb, vV.store j u, h1, h2, by simpa using h3, ?_⟩
    rw [Array.toList_setIfInBounds, List.take_set, h4]
theorem flat_set : ∀ (R : List Pt) (k : Nat) (x : Pt), flat (R.set k x) = ((flat R).set (k * 2) (.int .i32 x.1)).set (k * 2 + 1) (.int .i32 x.2)
  | [], _, _ => rfl
  | _ :: R, 0, x => rfl
  | q :: R, k + 1, x => by
    have ih := flat_set R k x
    show .int .i32 q.1 :: .int .i32 q.2 :: flat (R.set k x) = _
    rw [ih, show (k + 1) * 2 = k * 2 + 1 + 1 by omega]
    rfl
theorem gp_set {R : List Pt} {k t : Nat} {x : Pt} (hk : k < R.length) : gp (R.set k x) t = if t = k then x else gp R t := by
  unfold gp
  rw [List.getElem?_set]
  by_cases h : k = t
  · subst h
    rw [if_pos rfl, if_pos hk, if_pos rfl]
    rfl
  · rw [if_neg h, if_neg (fun e => h e.symm)]
theorem gp_eq {ps qs : List Pt} (hl : ps.length = qs.length) (h : ∀ k, k < ps.length → gp ps k = gp qs k) : ps = qs := by
  refine List.ext_getElem hl fun i h1 h2 => ?_
  have := h i h1
  unfold gp at this
  rw [List.getElem?_eq_getElem h1, List.getElem?_eq_getElem h2] at this
  exact this
theorem gp_rev {qs : List Pt} {k : Nat} (h : k < qs.length) : gp qs.reverse k = gp qs (qs.length - 1 - k) := by
  unfold gp
  rw [List.getElem?_reverse h]

/-- A point of a row of one's own written over. -/
theorem own_set {W : World} {b n c g k : Nat} {R : List Pt} {e : TypeId} (h : W.ownsRow b e 2 (.slice (some ⟨g, 0, none⟩) n c) n (flat R)) (hR : R.length = n) (hk : k < n) (x : Pt) :
    ((W.setCell ⟨g, k * 2, none⟩ (.int .i32 x.1)).setCell ⟨g, k * 2 + 1, none⟩ (.int .i32 x.2)).ownsRow b e 2 (.slice (some ⟨g, 0, none⟩) n c) n (flat (R.set k x)) := by
  rw [flat_set]
  have hl : (flat R).length = n * 2 := by rw [flat_length, hR]
  exact own_store (own_store h (by omega)) (by rw [List.length_set]; omega)

theorem grown_setR (W : World) (g o : Nat) (v : Value) : W.grownBy (W.setCell ⟨g, o, none⟩ v) (some g) := ⟨rfl, rfl, rfl, by simp, fun k _ hne => Below.heap_setCell W ⟨g, o, none⟩ v k (fun e => hne (congrArg some e))⟩
theorem grown_drewR (W : World) (ob : Option Nat) : W.grownBy W.drew ob := ⟨rfl, rfl, rfl, Nat.le_refl _, fun _ _ _ => rfl⟩
theorem grown_compR {w a b : World} {ob : Option Nat} (h : w.grownBy a ob) (g : a.grownBy b ob) : w.grownBy b ob :=
  ⟨g.os.trans h.os, g.tape.trans h.tape, g.output.trans h.output, Nat.le_trans h.size g.size, fun k hk hne => (g.block k (Nat.lt_of_lt_of_le hk h.size) hne).trans (h.block k hk hne)⟩

set_option maxHeartbeats 1000000 in
set_option maxRecDepth 100000 in
theorem reverse_any (qs : List Pt) (base : Nat) (A : Option Addr) (c n : Nat) (hn : qs.length = n) (hlen : n * 8 ≤ 140737488355328) (w : World) (hown : w.ownsRow base 28 2 (.slice A n c) n (flat qs)) :
    Calls Try.prog 36 #[.slice A n c] w fun e w' => (∃ u, e = .returned u) ∧ w'.ownsRow base 28 2 (.slice A n c) n (flat qs.reverse) ∧ w.grownBy w' (Value.slice A n c).ownBlock := by
  rcases Nat.eq_zero_or_pos n with h0 | h0
  · subst h0
    obtain rfl : qs = [] := List.eq_nil_of_length_eq_zero hn
    have HO := Lib.hid hown
    clear hown
    go_enter Try.func36, Try.ntmps36
    go_wp2_with fail
    go_loopw [2, 3] (fun i j wr => i = .int .i64 0 ∧ j = .int .i64 (-1) ∧ wr = w) (fun _ _ _ => 0)
    case atStart => exact ⟨rfl, by first | rfl | simp [IntKind.wrap, IntKind.signed, IntKind.bits], rfl⟩
    case round =>
      obtain ⟨rfl, rfl, rfl⟩ := hrel
      go_wp2_with fail
      go_end0
      exact ⟨⟨_, rfl⟩, HO.out, World.grownBy.refl _ _⟩
  · obtain ⟨g, rfl, hg, hgw, _⟩ := own_cells hown (by omega)
    have HN := Lib.hid hn
    have hn1 : IntKind.i64.wrap ((n : Int) - 1) = (n : Int) - 1 := by simp only [IntKind.wrap, IntKind.signed, IntKind.bits]; simp; omega
    have HO := Lib.hid hown
    clear hown hn
    go_enter Try.func36, Try.ntmps36
    go_wp2_with fail
    go_loopw [2, 3] (fun i j wr => ∃ (k : Nat) (R : List Pt), 2 * k ≤ n ∧ i = .int .i64 (k : Int) ∧ j = .int .i64 ((n : Int) - 1 - (k : Int)) ∧ R.length = n ∧ (∀ t, t < n → gp R t = if t < k ∨ n - 1 - k < t then gp qs (n - 1 - t) else gp qs t) ∧ wr.ownsRow base 28 2 (.slice (some ⟨g, 0, none⟩) n c) n (flat R) ∧ w.grownBy wr (some g)) (fun i _ _ => n - (intOf i).toNat)
    case atStart => exact ⟨0, qs, by omega, rfl, by simp, HN.out, fun t ht => by rw [if_neg (by omega)], HO.out, World.grownBy.refl _ _⟩
    case round =>
      obtain ⟨k, R, hk, rfl, rfl, hR, hall, hown, hB⟩ := hrel
      have hz := hB.size
      have HA := Lib.hid (And.intro hR (And.intro hall (And.intro hown hB)))
      rcases Nat.lt_or_ge (2 * k + 1) n with hlt | hge
      · obtain ⟨m, hm⟩ : ∃ m, n - 1 - k = m := ⟨_, rfl⟩
        have hmI : (n : Int) - 1 - (k : Int) = (m : Int) := by omega
        have hkm : (k : Int) < (m : Int) := by omega
        have hkn : (k : Int) < (n : Int) := by omega
        have hmn : (m : Int) < (n : Int) := by omega
        rw [hmI]
        obtain ⟨_, e0, _, hgz, hfz, hcell⟩ := own_cells hown h0
        injection e0 with e0
        injection e0 with e0
        subst e0
        obtain ⟨a0, a1⟩ := hcell k (by omega)
        obtain ⟨b0, b1⟩ := hcell m (by omega)
        obtain ⟨p, hp⟩ : ∃ p, gp R k = p := ⟨_, rfl⟩
        obtain ⟨q, hq⟩ : ∃ q, gp R m = q := ⟨_, rfl⟩
        rw [hp] at a0 a1
        rw [hq] at b0 b1
        have g1 := hfz (k * 2)
        have g2 := hfz (k * 2 + 1)
        have g3 := hfz (m * 2)
        have g4 := hfz (m * 2 + 1)
        obtain ⟨u1, k1⟩ := cell?_setCell_some (p := ⟨g, k * 2, none⟩) (x := .int .i32 q.1) a1
        obtain ⟨u2, k2⟩ := cell?_setCell_some (p := ⟨g, k * 2, none⟩) (x := .int .i32 q.1) b0
        obtain ⟨u3, k3⟩ := cell?_setCell_some (p := ⟨g, k * 2 + 1, none⟩) (x := .int .i32 q.2) k2
        obtain ⟨u4, k4⟩ := cell?_setCell_some (p := ⟨g, k * 2, none⟩) (x := .int .i32 q.1) b1
        obtain ⟨u5, k5⟩ := cell?_setCell_some (p := ⟨g, k * 2 + 1, none⟩) (x := .int .i32 q.2) k4
        obtain ⟨u6, k6⟩ := cell?_setCell_some (p := ⟨g, m * 2, none⟩) (x := .int .i32 p.1) k5
        have HQ := Lib.hid (And.intro hp (And.intro hq hm))
        have hm1 : IntKind.i64.wrap ((m : Int) - 1) = (n : Int) - 1 - ((k + 1 : Nat) : Int) := by simp only [IntKind.wrap, IntKind.signed, IntKind.bits]; simp; omega
        have own2 := own_set (own_set hown hR (show k < n by omega) q) (by rw [List.length_set]; exact hR) (show m < n by omega) p
        have hB2 : w.grownBy ((((wr.setCell ⟨g, k * 2, none⟩ (.int .i32 q.1)).setCell ⟨g, k * 2 + 1, none⟩ (.int .i32 q.2)).setCell ⟨g, m * 2, none⟩ (.int .i32 p.1)).setCell ⟨g, m * 2 + 1, none⟩ (.int .i32 p.2)).drew (some g) :=
          grown_compR hB (grown_compR (grown_setR wr g (k * 2) _) (grown_compR (grown_setR _ g (k * 2 + 1) _) (grown_compR (grown_setR _ g (m * 2) _) (grown_compR (grown_setR _ g (m * 2 + 1) _) (grown_drewR _ _)))))
        have HE := Lib.hid (And.intro (World.ownsRow.drew own2) hB2)
        clear hcell hp hq hm hR hall hown own2 hB2
        go_wp2_with fail
        go_region
        go_wp2_with fail
        go_roundw
        case rel =>
          obtain ⟨hp, hq, hm⟩ := HQ.out
          refine ⟨k + 1, (R.set k q).set m p, by omega, by simp, by first | rfl | (rw [hm1]), by rw [List.length_set, List.length_set]; exact HA.out.1, fun t ht => ?_, HE.out⟩
          have hR := HA.out.1
          have hall := HA.out.2.1
          rw [gp_set (by rw [List.length_set]; omega), gp_set (by omega)]
          by_cases h1 : t = m
          · rw [if_pos h1, if_pos (by omega), ← hp, hall k (by omega), if_neg (by omega)]
            rw [show n - 1 - t = k by omega]
          · rw [if_neg h1]
            by_cases h2 : t = k
            · rw [if_pos h2, if_pos (by omega), ← hq, hall m (by omega), if_neg (by omega)]
              rw [show n - 1 - t = m by omega]
            · rw [if_neg h2, hall t ht]
              by_cases h3 : t < k ∨ n - 1 - k < t
              · rw [if_pos h3, if_pos (by omega)]
              · rw [if_neg h3, if_neg (by omega)]
        case measure => simp [intOf]; omega
      · have hkm : ¬ (k : Int) < (n : Int) - 1 - (k : Int) := by omega
        have hfin : R = qs.reverse := gp_eq (by rw [hR, List.length_reverse, HN.out]) fun t ht => by
          rw [hR] at ht
          rw [gp_rev (by rw [HN.out]; exact ht), HN.out, hall t ht]
          by_cases h : t < k ∨ n - 1 - k < t
          · rw [if_pos h]
          · rw [if_neg h, show n - 1 - t = t by omega]
        subst hfin
        clear hR hall hown hB
        go_wp2_with fail
        go_end0
        exact ⟨⟨_, rfl⟩, HA.out.2.2⟩

end Go.Proofs.Ythbndilnobjjgaa
