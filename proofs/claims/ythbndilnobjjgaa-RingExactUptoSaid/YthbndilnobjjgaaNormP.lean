/-
  slices.Grow of no slice, slices.Concat of two slices of points: in new memory.
  A body's parts: what follows the first n parts of a sequence; the regions in the order of the text.
  slices.Reverse of a row of points of the call's own. (XChain's part.)
  The program's Normal: its end, from the search for the first point on. Printed by wip/tools/gen_norm.py.
  The program's Normal: the one form of a ring. Printed by wip/tools/gen_norm.py.
  The program's Convex.
  The laws' own works: a square is a ring, two points are none.
-/
import Derived.Test.YthbndilnobjjgaaLent
import Derived.Lib.AppendZeros
import Derived.Deep.Cut
import Derived.Test.YthbndilnobjjgaaFrame
import Derived.Deep.LoopGhost
import Derived.Deep.WholeRow
import Derived.Test.YthbndilnobjjgaaNormM
import Derived.Test.YthbndilnobjjgaaChkD
import Derived.Test.YthbndilnobjjgaaMeetC
namespace Go.Proofs.Ythbndilnobjjgaa
section
open Go.RowKit Go.Shelf

theorem grow_nil (w : World) : Calls Try.prog 57 #[.slice none 0 0, .int .i64 0] w fun e w' => e = .returned (.slice none 0 0) ∧ Below w.heap.size w w' := by
  go_enter Try.func57, Try.ntmps57
  go_wp2_with fail
  go_ret
  exact ⟨rfl, by go_grown⟩

set_option maxHeartbeats 1000000 in
theorem grow_pts (N : Nat) (h0 : 0 < N) (hN : N ≤ 17592186044416) (w : World) :
    Calls Try.prog 57 #[.slice none 0 0, .int .i64 (N : Int)] w fun e w' => ∃ A c, e = .returned (.slice A 0 c) ∧ w'.ownsRow w.heap.size 28 2 (.slice A 0 c) 0 [] ∧ Below w.heap.size w w' := by
  obtain ⟨i, hi, hz, hsz, hby⟩ := info_parts eltP.info
  have HR := Lib.hid (fun (W : World) (ty : TypeId) => Go.Lib.run_append_nil_zeros (P := Try.prog) W 23 3 ty 28 i _ .i64 .i64 eltP.under (by kernel_rfl) hi hz N h0 (by rw [hsz]; omega) (by omega) (by rw [hby]; omega))
  have hd : decide ((N : Int) < 0) = false := by simp
  have hd2 : decide (0 < (N : Int)) = true := by simp; omega
  go_enter Try.func57, Try.ntmps57
  go_wp2_with (at_builtin; refine Go.Lib.wpList_append_run _ rfl (.tmp 20) (.tmp 21) 23 3 rfl (.slice none 0 0) (.int .i64 (N : Int)) rfl rfl _ _ (HR.out _ _) ?_)
  go_ret
  obtain ⟨C, hC⟩ : ∃ C, grownCap w N 0 28 = C := ⟨_, rfl⟩
  have h1 : N ≤ C := by rw [← hC]; exact grownCap_ge _ _ _ _
  have h2 : C ≤ maxLen := by rw [← hC]; exact grownCap_le_maxLen _ _ _ _ (le_maxLen (by omega))
  rw [hC]
  refine ⟨_, _, rfl, ⟨by simp, .inr ⟨w.heap.size, C, _, rfl, Nat.le_refl _, World.alloc_heap_new w _, Nat.zero_le _, h2, ?_, by simp⟩⟩, ((Below.refl _ w).alloc (Nat.le_refl _) _).drew⟩
  rw [Array.size_append, size_zeroCells, size_zeroCells]
  simp
  omega

/-- What has been laid down behind k slices. -/
def catTo (ps1 ps2 : List Pt) (k : Nat) : List Pt := if k = 0 then [] else if k = 1 then ps1 else ps1 ++ ps2
def catLen (n1 n2 k : Nat) : Nat := if k = 0 then 0 else if k = 1 then n1 else n1 + n2
theorem own_is {W : World} {b n size : Nat} {e : TypeId} {v : Value} {xs : List Value} (h : W.ownsRow b e size v n xs) : ∃ A c, v = .slice A n c := by
  rcases h.2 with ⟨hv, h0⟩ | ⟨g, cap, cur, hv, _⟩
  · exact ⟨none, 0, by rw [hv, h0]⟩
  · exact ⟨_, _, hv⟩
theorem flat_two : ∀ a b : List Pt, flat (a ++ b) = flat a ++ flat b
  | [], _ => rfl
  | q :: a, b => by rw [List.cons_append, flat, flat, flat_two a b]; rfl

set_option maxHeartbeats 2000000 in
set_option maxRecDepth 100000 in
theorem concat2_any (ps1 ps2 : List Pt) (A1 A2 : Addr) (n1 c1 n2 c2 : Nat) (hn1 : ps1.length = n1) (hn2 : ps2.length = n2) (h0 : 0 < n1 + n2) (hlen : n1 + n2 ≤ 17592186044416) (b : Nat) (w : World)
    (hb0 : w.cell? ⟨b, 0, none⟩ = some (.slice (some A1) n1 c1)) (hb1 : w.cell? ⟨b, 1, none⟩ = some (.slice (some A2) n2 c2)) (hC1 : ∀ j u, (flat ps1)[j]? = some u → w.cell? (A1.add j) = some u) (hC2 : ∀ j u, (flat ps2)[j]? = some u → w.cell? (A2.add j) = some u) :
    Calls Try.prog 38 #[.slice (some ⟨b, 0, none⟩) 2 2] w fun e w' => ∃ A c, e = .returned (.slice A (n1 + n2) c) ∧ w'.ownsRow w.heap.size 28 2 (.slice A (n1 + n2) c) (n1 + n2) (flat (ps1 ++ ps2)) ∧ Below w.heap.size w w' := by
  have hbl : b < w.heap.size := World.block_lt_of_cell? w _ hb0
  have GR := Lib.hid (fun W => grow_pts (n1 + n2) h0 hlen W)
  have HC := Lib.hid (And.intro (And.intro hn1 hn2) (And.intro hC1 hC2))
  clear hn1 hn2 hC1 hC2
  have w1 : IntKind.i64.wrap ((0 : Int) + (n1 : Int)) = (n1 : Int) := by simp only [IntKind.wrap, IntKind.signed, IntKind.bits]; simp; omega
  have w2 : IntKind.i64.wrap ((n1 : Int) + (n2 : Int)) = ((n1 + n2 : Nat) : Int) := by simp only [IntKind.wrap, IntKind.signed, IntKind.bits]; simp; omega
  have d1 : decide ((n1 : Int) < 0) = false := by simp
  have d2 : decide (((n1 + n2 : Nat) : Int) < 0) = false := by simp; omega
  go_enter Try.func38, Try.ntmps38
  go_wp2_with fail
  go_loopw [3, 11] (fun s i wr => wr = w ∧ ((s = .int .i64 0 ∧ i = .int .i64 0) ∨ (s = .int .i64 (n1 : Int) ∧ i = .int .i64 1) ∨ (s = .int .i64 ((n1 + n2 : Nat) : Int) ∧ i = .int .i64 2))) (fun _ i _ => 2 - (intOf i).toNat)
  case atStart => exact ⟨rfl, .inl ⟨rfl, rfl⟩⟩
  case round =>
    obtain ⟨rfl, ⟨rfl, rfl⟩ | ⟨rfl, rfl⟩ | ⟨rfl, rfl⟩⟩ := hrel
    · go_wp2_with fail
      go_roundw
      case rel => exact ⟨trivial, .inr (.inl ⟨by simp, by simp⟩)⟩
      case measure => simp [intOf]
    · go_wp2_with fail
      go_roundw
      case rel => exact ⟨trivial, .inr (.inr ⟨by simp, by simp⟩)⟩
      case measure => simp [intOf]
    · go_wp2_with fail
      refine (GR.out _).mono ?_
      rintro e w3 ⟨A, c, rfl, hown, hb3⟩
      have H3 := Lib.hid (And.intro hown hb3)
      have K0 := (hb3.cell (p := ⟨b, 0, none⟩) hbl).trans hb0
      have K1 := (hb3.cell (p := ⟨b, 1, none⟩) hbl).trans hb1
      clear hown hb3 GR
      go_wp2_with fail
      obtain ⟨w, hww⟩ : ∃ z, z = wr := ⟨_, rfl⟩
      subst hww
      go_loopw [6, 27] (fun v i wr => ∃ (k : Nat) (A : Option Addr) (c : Nat), k ≤ 2 ∧ v = .slice A (catLen n1 n2 k) c ∧ i = .int .i64 (k : Int) ∧ wr.ownsRow w.heap.size 28 2 (.slice A (catLen n1 n2 k) c) (catLen n1 n2 k) (flat (catTo ps1 ps2 k)) ∧ Below w.heap.size w wr) (fun _ i _ => 2 - (intOf i).toNat)
      case atStart => exact ⟨0, _, _, by omega, rfl, rfl, H3.out.1, H3.out.2⟩
      case round =>
        obtain ⟨k, A, c, hk, rfl, rfl, hown, hbel⟩ := hrel
        have hsz := hbel.size
        have c0 := (hbel.cell (p := ⟨b, 0, none⟩) hbl).trans hb0
        have c1' := (hbel.cell (p := ⟨b, 1, none⟩) hbl).trans hb1
        rcases (show k = 0 ∨ k = 1 ∨ k = 2 by omega) with rfl | rfl | rfl
        · unfold catLen catTo at hown
          rw [if_pos rfl, if_pos rfl] at hown
          have hcell : ∀ j u, (flat ps1)[j]? = some u → wr.cell? (A1.add j) = some u := fun j u hj => by
            have h := HC.out.2.1 j u hj
            exact (hbel.cell (World.block_lt_of_cell? w _ h)).trans h
          unfold catLen
          rw [if_pos rfl]
          obtain ⟨i, hi, hz, hsz', hby⟩ := info_parts eltP.info
          go_wp2_with (at_builtin; refine wpList_append_own wr rfl (.tmp 31) (.tmp 32) 23 rfl w.heap.size 28 i _ 2 8 eltP.under hi hz hsz' hby eltP.cells (by omega) (.slice A 0 c) 0 (flat []) rfl hown A1 n1 c1 (flat ps1) rfl (by rw [flat_length, HC.out.1.1]) hcell flat_one (le_maxLen (by omega)) (by omega) (by omega) ?_; intro v' w' hown' hg hnil)
          obtain ⟨A', c', rfl⟩ := own_is hown'
          rw [Nat.zero_add] at hown' ⊢
          exact ⟨⟨1, A', c', by omega, rfl, rfl, hown', below_push hbel hown (Nat.le_refl _) hsz hg⟩, by simp [intOf]⟩
        · unfold catLen catTo at hown
          rw [if_neg (by omega), if_pos rfl, if_neg (by omega), if_pos rfl] at hown
          have hcell : ∀ j u, (flat ps2)[j]? = some u → wr.cell? (A2.add j) = some u := fun j u hj => by
            have h := HC.out.2.2 j u hj
            exact (hbel.cell (World.block_lt_of_cell? w _ h)).trans h
          unfold catLen
          rw [if_neg (by omega), if_pos rfl]
          obtain ⟨i, hi, hz, hsz', hby⟩ := info_parts eltP.info
          go_wp2_with (at_builtin; refine wpList_append_own wr rfl (.tmp 31) (.tmp 32) 23 rfl w.heap.size 28 i _ 2 8 eltP.under hi hz hsz' hby eltP.cells (by omega) (.slice A n1 c) n1 (flat ps1) rfl hown A2 n2 c2 (flat ps2) rfl (by rw [flat_length, HC.out.1.2]) hcell flat_one (le_maxLen (by omega)) (by omega) (by omega) ?_; intro v' w' hown' hg hnil)
          obtain ⟨A', c', rfl⟩ := own_is hown'
          exact ⟨⟨2, A', c', by omega, rfl, rfl, by rw [← flat_two] at hown'; exact hown', below_push hbel hown (Nat.le_refl _) hsz hg⟩, by simp [intOf]⟩
        · unfold catLen catTo at hown
          rw [if_neg (by omega), if_neg (by omega), if_neg (by omega), if_neg (by omega)] at hown
          unfold catLen
          rw [if_neg (by omega), if_neg (by omega)]
          go_wp2_with fail
          go_ret
          exact ⟨_, _, rfl, hown, hbel⟩
end

section
open Go.RowKit

/-- What follows the first n parts of a sequence. -/
def dropT : Nat → Code → Code
  | 0, c => c
  | n + 1, .seq _ b => dropT n b
  | _ + 1, c => c
def tailT (f : Func) (n : Nat) : Code := dropT n (f.body.getD .skip)
theorem own_keepT {W W' : World} {b n : Nat} {v : Value} {e : TypeId} {xs : List Value} (h : W.ownsRow b e 2 v n xs) (hb : Below W.heap.size W W') : W'.ownsRow b e 2 v n xs :=
  World.ownsRow.kept (row := none) h ⟨hb.os, hb.tape, hb.output, hb.size, fun k hk _ => hb.block k hk⟩ (by cases v.ownBlock <;> simp)
theorem own_capT {W : World} {b : Nat} {e : TypeId} {size n c : Nat} {A : Option Addr} {xs : List Value} (h : W.ownsRow b e size (.slice A n c) n xs) : n ≤ c ∧ c ≤ 9223372036854775807 := by
  rcases h.2 with ⟨hv, h0⟩ | ⟨g, cap, cur, hv, hb, hg, h1, h2, h3, h4⟩
  · injection hv with _ _ hc
    omega
  · injection hv with _ _ hc
    subst hc
    unfold maxLen at h2
    omega

theorem own_cells {W : World} {b n c : Nat} {A : Option Addr} {qs : List Pt} (h : W.ownsRow b 28 2 (.slice A n c) n (flat qs)) (h0 : 0 < n) :
    ∃ g, A = some ⟨g, 0, none⟩ ∧ b ≤ g ∧ g < W.heap.size ∧ (∀ o, W.frozen? ⟨g, o, none⟩ = false) ∧ ∀ j, j < qs.length → W.cell? ⟨g, j * 2, none⟩ = some (.int .i32 (gp qs j).1) ∧ W.cell? ⟨g, j * 2 + 1, none⟩ = some (.int .i32 (gp qs j).2) := by
  rcases h.2 with ⟨_, h1⟩ | ⟨g, cap, cur, hv, hb, hg, _⟩
  · omega
  · have hv' := hv
    injection hv with hA _ hc
    subst hA hc
    have vV : Var W g 28 cur := hg
    refine ⟨g, rfl, hb, vV.lt, fun o => vV.free o, fun j hj => ?_⟩
    have hc := World.ownsRow.cells h (g := g) rfl
    obtain ⟨e1, e2⟩ := flat_get qs j hj
    have f1 := hc _ _ e1
    have f2 := hc _ _ e2
    rw [add_at] at f1 f2
    exact ⟨f1, f2⟩
theorem own_store {W : World} {b n c j g : Nat} {e : TypeId} {xs : List Value} {u : Value} (h : W.ownsRow b e 2 (.slice (some ⟨g, 0, none⟩) n c) n xs) (_hj : j < xs.length) : (W.setCell ⟨g, j, none⟩ u).ownsRow b e 2 (.slice (some ⟨g, 0, none⟩) n c) n (xs.set j u) := by
  refine ⟨by rw [List.length_set]; exact h.1, ?_⟩
  have hl := h.1
  rcases h.2 with ⟨hv, _⟩ | ⟨g', cap, cur, hv, hb, hvar, h1, h2, h3, h4⟩
  · cases hv
  · have hv' := hv
    injection hv' with hA _ hc
    injection hA with hA
    injection hA with hA
    subst hA hc
    have vV : Var W g e cur := hvar
    refine .inr ⟨g, c, _, rfl, hb, vV.store j u, h1, h2, by simpa using h3, ?_⟩
    rw [Array.toList_setIfInBounds, List.take_set, h4]
theorem flat_set : ∀ (R : List Pt) (k : Nat) (x : Pt), flat (R.set k x) = ((flat R).set (k * 2) (.int .i32 x.1)).set (k * 2 + 1) (.int .i32 x.2)
  | [], _, _ => rfl
  | _ :: R, 0, x => rfl
  | q :: R, k + 1, x => by
    have ih := flat_set R k x
    show .int .i32 q.1 :: .int .i32 q.2 :: flat (R.set k x) = _
    rw [ih, show (k + 1) * 2 = k * 2 + 1 + 1 by omega]
    rfl
theorem gp_set {R : List Pt} {k t : Nat} {x : Pt} (hk : k < R.length) : gp (R.set k x) t = if t = k then x else gp R t := by
  unfold gp
  rw [List.getElem?_set]
  by_cases h : k = t
  · subst h
    rw [if_pos rfl, if_pos hk, if_pos rfl]
    rfl
  · rw [if_neg h, if_neg (fun e => h e.symm)]
theorem gp_eq {ps qs : List Pt} (hl : ps.length = qs.length) (h : ∀ k, k < ps.length → gp ps k = gp qs k) : ps = qs := by
  refine List.ext_getElem hl fun i h1 h2 => ?_
  have := h i h1
  unfold gp at this
  rw [List.getElem?_eq_getElem h1, List.getElem?_eq_getElem h2] at this
  exact this
theorem gp_rev {qs : List Pt} {k : Nat} (h : k < qs.length) : gp qs.reverse k = gp qs (qs.length - 1 - k) := by
  unfold gp
  rw [List.getElem?_reverse h]

/-- A point of a row of one's own written over. -/
theorem own_set {W : World} {b n c g k : Nat} {R : List Pt} {e : TypeId} (h : W.ownsRow b e 2 (.slice (some ⟨g, 0, none⟩) n c) n (flat R)) (hR : R.length = n) (hk : k < n) (x : Pt) :
    ((W.setCell ⟨g, k * 2, none⟩ (.int .i32 x.1)).setCell ⟨g, k * 2 + 1, none⟩ (.int .i32 x.2)).ownsRow b e 2 (.slice (some ⟨g, 0, none⟩) n c) n (flat (R.set k x)) := by
  rw [flat_set]
  have hl : (flat R).length = n * 2 := by rw [flat_length, hR]
  exact own_store (own_store h (by omega)) (by rw [List.length_set]; omega)

theorem grown_setR (W : World) (g o : Nat) (v : Value) : W.grownBy (W.setCell ⟨g, o, none⟩ v) (some g) := ⟨rfl, rfl, rfl, by simp, fun k _ hne => Below.heap_setCell W ⟨g, o, none⟩ v k (fun e => hne (congrArg some e))⟩
theorem grown_drewR (W : World) (ob : Option Nat) : W.grownBy W.drew ob := ⟨rfl, rfl, rfl, Nat.le_refl _, fun _ _ _ => rfl⟩
theorem grown_compR {w a b : World} {ob : Option Nat} (h : w.grownBy a ob) (g : a.grownBy b ob) : w.grownBy b ob :=
  ⟨g.os.trans h.os, g.tape.trans h.tape, g.output.trans h.output, Nat.le_trans h.size g.size, fun k hk hne => (g.block k (Nat.lt_of_lt_of_le hk h.size) hne).trans (h.block k hk hne)⟩

set_option maxHeartbeats 1000000 in
set_option maxRecDepth 100000 in
theorem reverse_any (qs : List Pt) (base : Nat) (A : Option Addr) (c n : Nat) (hn : qs.length = n) (hlen : n * 8 ≤ 140737488355328) (w : World) (hown : w.ownsRow base 28 2 (.slice A n c) n (flat qs)) :
    Calls Try.prog 36 #[.slice A n c] w fun e w' => (∃ u, e = .returned u) ∧ w'.ownsRow base 28 2 (.slice A n c) n (flat qs.reverse) ∧ w.grownBy w' (Value.slice A n c).ownBlock := by
  rcases Nat.eq_zero_or_pos n with h0 | h0
  · subst h0
    obtain rfl : qs = [] := List.eq_nil_of_length_eq_zero hn
    have HO := Lib.hid hown
    clear hown
    go_enter Try.func36, Try.ntmps36
    go_wp2_with fail
    go_loopw [2, 3] (fun i j wr => i = .int .i64 0 ∧ j = .int .i64 (-1) ∧ wr = w) (fun _ _ _ => 0)
    case atStart => exact ⟨rfl, by first | rfl | simp [IntKind.wrap, IntKind.signed, IntKind.bits], rfl⟩
    case round =>
      obtain ⟨rfl, rfl, rfl⟩ := hrel
      go_wp2_with fail
      go_end0
      exact ⟨⟨_, rfl⟩, HO.out, World.grownBy.refl _ _⟩
  · obtain ⟨g, rfl, hg, hgw, _⟩ := own_cells hown (by omega)
    have HN := Lib.hid hn
    have hn1 : IntKind.i64.wrap ((n : Int) - 1) = (n : Int) - 1 := by simp only [IntKind.wrap, IntKind.signed, IntKind.bits]; simp; omega
    have HO := Lib.hid hown
    clear hown hn
    go_enter Try.func36, Try.ntmps36
    go_wp2_with fail
    go_loopw [2, 3] (fun i j wr => ∃ (k : Nat) (R : List Pt), 2 * k ≤ n ∧ i = .int .i64 (k : Int) ∧ j = .int .i64 ((n : Int) - 1 - (k : Int)) ∧ R.length = n ∧ (∀ t, t < n → gp R t = if t < k ∨ n - 1 - k < t then gp qs (n - 1 - t) else gp qs t) ∧ wr.ownsRow base 28 2 (.slice (some ⟨g, 0, none⟩) n c) n (flat R) ∧ w.grownBy wr (some g)) (fun i _ _ => n - (intOf i).toNat)
    case atStart => exact ⟨0, qs, by omega, rfl, by simp, HN.out, fun t ht => by rw [if_neg (by omega)], HO.out, World.grownBy.refl _ _⟩
    case round =>
      obtain ⟨k, R, hk, rfl, rfl, hR, hall, hown, hB⟩ := hrel
      have hz := hB.size
      have HA := Lib.hid (And.intro hR (And.intro hall (And.intro hown hB)))
      rcases Nat.lt_or_ge (2 * k + 1) n with hlt | hge
      · obtain ⟨m, hm⟩ : ∃ m, n - 1 - k = m := ⟨_, rfl⟩
        have hmI : (n : Int) - 1 - (k : Int) = (m : Int) := by omega
        have hkm : (k : Int) < (m : Int) := by omega
        have hkn : (k : Int) < (n : Int) := by omega
        have hmn : (m : Int) < (n : Int) := by omega
        rw [hmI]
        obtain ⟨_, e0, _, hgz, hfz, hcell⟩ := own_cells hown h0
        injection e0 with e0
        injection e0 with e0
        subst e0
        obtain ⟨a0, a1⟩ := hcell k (by omega)
        obtain ⟨b0, b1⟩ := hcell m (by omega)
        obtain ⟨p, hp⟩ : ∃ p, gp R k = p := ⟨_, rfl⟩
        obtain ⟨q, hq⟩ : ∃ q, gp R m = q := ⟨_, rfl⟩
        rw [hp] at a0 a1
        rw [hq] at b0 b1
        have g1 := hfz (k * 2)
        have g2 := hfz (k * 2 + 1)
        have g3 := hfz (m * 2)
        have g4 := hfz (m * 2 + 1)
        obtain ⟨u1, k1⟩ := cell?_setCell_some (p := ⟨g, k * 2, none⟩) (x := .int .i32 q.1) a1
        obtain ⟨u2, k2⟩ := cell?_setCell_some (p := ⟨g, k * 2, none⟩) (x := .int .i32 q.1) b0
        obtain ⟨u3, k3⟩ := cell?_setCell_some (p := ⟨g, k * 2 + 1, none⟩) (x := .int .i32 q.2) k2
        obtain ⟨u4, k4⟩ := cell?_setCell_some (p := ⟨g, k * 2, none⟩) (x := .int .i32 q.1) b1
        obtain ⟨u5, k5⟩ := cell?_setCell_some (p := ⟨g, k * 2 + 1, none⟩) (x := .int .i32 q.2) k4
        obtain ⟨u6, k6⟩ := cell?_setCell_some (p := ⟨g, m * 2, none⟩) (x := .int .i32 p.1) k5
        have HQ := Lib.hid (And.intro hp (And.intro hq hm))
        have hm1 : IntKind.i64.wrap ((m : Int) - 1) = (n : Int) - 1 - ((k + 1 : Nat) : Int) := by simp only [IntKind.wrap, IntKind.signed, IntKind.bits]; simp; omega
        have own2 := own_set (own_set hown hR (show k < n by omega) q) (by rw [List.length_set]; exact hR) (show m < n by omega) p
        have hB2 : w.grownBy ((((wr.setCell ⟨g, k * 2, none⟩ (.int .i32 q.1)).setCell ⟨g, k * 2 + 1, none⟩ (.int .i32 q.2)).setCell ⟨g, m * 2, none⟩ (.int .i32 p.1)).setCell ⟨g, m * 2 + 1, none⟩ (.int .i32 p.2)).drew (some g) :=
          grown_compR hB (grown_compR (grown_setR wr g (k * 2) _) (grown_compR (grown_setR _ g (k * 2 + 1) _) (grown_compR (grown_setR _ g (m * 2) _) (grown_compR (grown_setR _ g (m * 2 + 1) _) (grown_drewR _ _)))))
        have HE := Lib.hid (And.intro (World.ownsRow.drew own2) hB2)
        clear hcell hp hq hm hR hall hown own2 hB2
        go_wp2_with fail
        go_region
        go_wp2_with fail
        go_roundw
        case rel =>
          obtain ⟨hp, hq, hm⟩ := HQ.out
          refine ⟨k + 1, (R.set k q).set m p, by omega, by simp, by first | rfl | (rw [hm1]), by rw [List.length_set, List.length_set]; exact HA.out.1, fun t ht => ?_, HE.out⟩
          have hR := HA.out.1
          have hall := HA.out.2.1
          rw [gp_set (by rw [List.length_set]; omega), gp_set (by omega)]
          by_cases h1 : t = m
          · rw [if_pos h1, if_pos (by omega), ← hp, hall k (by omega), if_neg (by omega)]
            rw [show n - 1 - t = k by omega]
          · rw [if_neg h1]
            by_cases h2 : t = k
            · rw [if_pos h2, if_pos (by omega), ← hq, hall m (by omega), if_neg (by omega)]
              rw [show n - 1 - t = m by omega]
            · rw [if_neg h2, hall t ht]
              by_cases h3 : t < k ∨ n - 1 - k < t
              · rw [if_pos h3, if_pos (by omega)]
              · rw [if_neg h3, if_neg (by omega)]
        case measure => simp [intOf]; omega
      · have hkm : ¬ (k : Int) < (n : Int) - 1 - (k : Int) := by omega
        have hfin : R = qs.reverse := gp_eq (by rw [hR, List.length_reverse, HN.out]) fun t ht => by
          rw [hR] at ht
          rw [gp_rev (by rw [HN.out]; exact ht), HN.out, hall t ht]
          by_cases h : t < k ∨ n - 1 - k < t
          · rw [if_pos h]
          · rw [if_neg h, show n - 1 - t = t by omega]
        subst hfin
        clear hR hall hown hB
        go_wp2_with fail
        go_end0
        exact ⟨⟨_, rfl⟩, HA.out.2.2⟩
end

section
open Go.RowKit Go.Shelf

theorem less_t (p q : Pt) (b : Bool) (h : lessPt p q = b) (w : World) : Calls Try.prog 37 #[.agg #[.int .i32 p.1, .int .i32 p.2], .agg #[.int .i32 q.1, .int .i32 q.2]] w fun e w' => e = .returned (.bool b) ∧ Below w.heap.size w w' := by
  have H := pless_any p.1 p.2 q.1 q.2 w
  rw [← h]
  exact H
theorem first_yes {l : List Pt} {k : Nat} (h : lessPt (gp l k) (gp l (firstTo l k)) = true) : firstTo l (k + 1) = k := by
  show (if lessPt (gp l k) (gp l (firstTo l k)) = true then k else firstTo l k) = k
  rw [if_pos h]
theorem first_no {l : List Pt} {k : Nat} (h : lessPt (gp l k) (gp l (firstTo l k)) = false) : firstTo l (k + 1) = firstTo l k := by
  show (if lessPt (gp l k) (gp l (firstTo l k)) = true then k else firstTo l k) = firstTo l k
  rw [if_neg (by rw [h]; decide)]
set_option maxHeartbeats 2000000 in
set_option maxRecDepth 100000 in
theorem concat_nil (b : Nat) (w : World) (hb0 : w.cell? ⟨b, 0, none⟩ = some (.slice none 0 0)) (hb1 : w.cell? ⟨b, 1, none⟩ = some (.slice none 0 0)) :
    Calls Try.prog 38 #[.slice (some ⟨b, 0, none⟩) 2 2] w fun e w' => e = .returned (.slice none 0 0) ∧ Below w.heap.size w w' := by
  have hbl : b < w.heap.size := World.block_lt_of_cell? w _ hb0
  have GR := Lib.hid (fun W => grow_nil W)
  go_enter Try.func38, Try.ntmps38
  go_wp2_with fail
  go_loopw [3, 11] (fun s i wr => wr = w ∧ s = .int .i64 0 ∧ (i = .int .i64 0 ∨ i = .int .i64 1 ∨ i = .int .i64 2)) (fun _ i _ => 2 - (intOf i).toNat)
  case atStart => exact ⟨rfl, rfl, .inl rfl⟩
  case round =>
    obtain ⟨rfl, rfl, rfl | rfl | rfl⟩ := hrel
    · go_wp2_with fail
      go_roundw
      case rel => exact ⟨trivial, by simp, .inr (.inl (by simp))⟩
      case measure => simp [intOf]
    · go_wp2_with fail
      go_roundw
      case rel => exact ⟨trivial, by simp, .inr (.inr (by simp))⟩
      case measure => simp [intOf]
    · go_wp2_with fail
      refine (GR.out _).mono ?_
      rintro e w3 ⟨rfl, hb3⟩
      have K0 := (hb3.cell (p := ⟨b, 0, none⟩) hbl).trans hb0
      have K1 := (hb3.cell (p := ⟨b, 1, none⟩) hbl).trans hb1
      have HB := Lib.hid hb3
      clear hb3 GR
      go_wp2_with fail
      obtain ⟨w, hww⟩ : ∃ z, z = wr := ⟨_, rfl⟩
      subst hww
      go_loopw [6, 27] (fun v i wr => wr = w3 ∧ v = .slice none 0 0 ∧ (i = .int .i64 0 ∨ i = .int .i64 1 ∨ i = .int .i64 2)) (fun _ i _ => 2 - (intOf i).toNat)
      case atStart => exact ⟨rfl, rfl, .inl rfl⟩
      case round =>
        obtain ⟨rfl, rfl, rfl | rfl | rfl⟩ := hrel
        · go_wp2_with fail
          go_roundw
          case rel => exact ⟨trivial, by simp, .inr (.inl (by simp))⟩
          case measure => simp [intOf]
        · go_wp2_with fail
          go_roundw
          case rel => exact ⟨trivial, by simp, .inr (.inr (by simp))⟩
          case measure => simp [intOf]
        · go_wp2_with fail
          go_ret
          exact ⟨rfl, HB.out⟩

theorem flat_dropT : ∀ (l : List Pt) (f : Nat), flat (l.drop f) = (flat l).drop (f * 2)
  | l, 0 => by simp
  | [], f + 1 => by simp [flat]
  | q :: l, f + 1 => by
    rw [List.drop_succ_cons, flat_dropT l f, flat, show (f + 1) * 2 = f * 2 + 1 + 1 by omega, List.drop_succ_cons, List.drop_succ_cons]
theorem flat_takeT : ∀ (l : List Pt) (f : Nat), flat (l.take f) = (flat l).take (f * 2)
  | l, 0 => by simp [flat]
  | [], f + 1 => by simp [flat]
  | q :: l, f + 1 => by
    rw [List.take_succ_cons, flat, flat_takeT l f, flat, show (f + 1) * 2 = f * 2 + 1 + 1 by omega, List.take_succ_cons, List.take_succ_cons]
theorem add_off (g o j : Nat) : ((⟨g, o, none⟩ : Addr).add j) = ⟨g, o + j, none⟩ := by
  unfold Addr.add
  by_cases hj0 : j = 0 <;> simp [hj0]
theorem own_baseT {W : World} {b b' : Nat} {e : TypeId} {size n : Nat} {v : Value} {xs : List Value} (h : W.ownsRow b e size v n xs) (hb : b' ≤ b) : W.ownsRow b' e size v n xs := by
  refine ⟨h.1, ?_⟩
  rcases h.2 with h1 | ⟨g, cap, cur, h1, h2, h3⟩
  · exact .inl h1
  · exact .inr ⟨g, cap, cur, h1, by omega, h3⟩
/-- The two parts of a row of the call's own. -/
theorem parts_cells {W : World} {b n c g f : Nat} {L : List Pt} (h : W.ownsRow b 28 2 (.slice (some ⟨g, 0, none⟩) n c) n (flat L)) :
    (∀ j u, (flat (L.drop f))[j]? = some u → W.cell? ((⟨g, f * 2, none⟩ : Addr).add j) = some u) ∧ (∀ j u, (flat (L.take f))[j]? = some u → W.cell? ((⟨g, 0, none⟩ : Addr).add j) = some u) := by
  have hc := h.cells (g := g) rfl
  constructor
  · intro j u hj
    rw [flat_dropT, List.getElem?_drop] at hj
    have := hc _ _ hj
    rw [add_off] at this ⊢
    rw [Nat.zero_add] at this
    exact this
  · intro j u hj
    rw [flat_takeT, List.getElem?_take] at hj
    split at hj
    · exact hc _ _ hj
    · cases hj
set_option maxHeartbeats 4000000 in
set_option maxRecDepth 100000 in
theorem norm_tail (w W : World) (L : List Pt) (A : Option Addr) (m c : Nat) (hL : L.length = m) (hm : m ≤ 64) (hA : m = 0 → A = none ∧ c = 0) (HB : Hid (Below w.heap.size w W)) (hown : Hid (W.ownsRow w.heap.size 28 2 (.slice A m c) m (flat L)))
    (u0 u1 u2 u3 u4 u5 u6 u7 u9 u10 u11 u12 u13 u14 u15 u16 u17 u18 u19 u20 u21 u22 u23 u24 u25 u26 u27 u28 u29 u30 u31 u32 u33 u34 u35 u36 u37 u38 u39 u40 u41 u42 u43 u44 u45 u46 u47 u48 u49 u50 u51 u52 u53 u54 u55 u56 u57 u58 u59 u60 u61 u62 u63 u64 u65 u66 u67 u68 u69 u70 u71 u72 u73 u74 u75 u76 u77 u78 u79 u80 u81 u82 u83 u84 : Value) :
    (tailT Try.f10 6).wp Try.prog (fun e a' w' => e = .ret ∧ a'.defers = [] ∧ (∃ A' c', (results Try.f10 a'.tmps).run Try.prog w' = .ok (.tuple #[.slice A' m c', .int .i64 0]) w' ∧ w'.ownsRow w.heap.size 28 2 (.slice A' m c') m (flat (rotF L (firstTo L m)))) ∧ Below w.heap.size w w') { tmps := #[u0, u1, u2, u3, u4, u5, u6, u7, .slice A m c, u9, u10, u11, u12, u13, u14, u15, u16, u17, u18, u19, u20, u21, u22, u23, u24, u25, u26, u27, u28, u29, u30, u31, u32, u33, u34, u35, u36, u37, u38, u39, u40, u41, u42, u43, u44, u45, u46, u47, u48, u49, u50, u51, u52, u53, u54, u55, u56, u57, u58, u59, u60, u61, u62, u63, u64, u65, u66, u67, u68, u69, u70, u71, u72, u73, u74, u75, u76, u77, u78, u79, u80, u81, u82, u83, u84], defers := [] } W := by
  have HL := Lib.hid (And.intro hL hA)
  clear hL hA
  show Code.wp _ (Code.seq (Code.region _ _ _) _) _ _ _
  go_wp2_with fail
  go_loopw [11, 64] (fun f i wr => ∃ k : Nat, k ≤ m ∧ f = .int .i64 (firstTo L k : Int) ∧ i = .int .i64 (k : Int) ∧ Below W.heap.size W wr) (fun _ i _ => m - (intOf i).toNat)
  case atStart => exact ⟨0, Nat.zero_le _, rfl, rfl, Below.refl _ _⟩
  case round =>
    obtain ⟨k, hk, rfl, rfl, hbel⟩ := hrel
    have hownr := own_keepT hown.out hbel
    have hf := @first_lt L k
    obtain ⟨f, hfe⟩ : ∃ f, firstTo L k = f := ⟨_, rfl⟩
    rw [hfe] at hf ⊢
    rcases Nat.lt_or_ge k m with hlt | hge
    · have hfm : f < m := by omega
      obtain ⟨g, rfl, hgb, hg, hfz, hc⟩ := own_cells (qs := L) hownr (by omega)
      have c1 := (hc k (by rw [HL.out.1]; exact hlt)).1
      have c2 := (hc k (by rw [HL.out.1]; exact hlt)).2
      have c3 := (hc f (by rw [HL.out.1]; exact hfm)).1
      have c4 := (hc f (by rw [HL.out.1]; exact hfm)).2
      obtain ⟨⟨x1, x2⟩, hx⟩ : ∃ x, gp L k = x := ⟨_, rfl⟩
      obtain ⟨⟨y1, y2⟩, hy⟩ : ∃ y, gp L f = y := ⟨_, rfl⟩
      have hst : Hid ((lessPt (x1, x2) (y1, y2) = true → firstTo L (k + 1) = k) ∧ (lessPt (x1, x2) (y1, y2) = false → firstTo L (k + 1) = f)) := Lib.hid ⟨fun h => first_yes (by rw [hx, hfe, hy]; exact h), fun h => (first_no (by rw [hx, hfe, hy]; exact h)).trans hfe⟩
      rw [hx] at c1 c2
      rw [hy] at c3 c4
      dsimp only at c1 c2 c3 c4
      have hkI : (k : Int) < (m : Int) := by omega
      have hfI : (f : Int) < (m : Int) := by omega
      clear hc hfz hx hy hfe hf hgb
      obtain ⟨b, hb⟩ : ∃ b, lessPt (x1, x2) (y1, y2) = b := ⟨_, rfl⟩
      have LS := Lib.hid (fun W => less_t (x1, x2) (y1, y2) b hb W)
      dsimp only at LS
      rw [hb] at hst
      clear hb
      have HBL := Lib.hid hbel
      clear hbel
      go_upto_region 18 with fail
      refine wp_gen (fun W1 hW1 => ?_)
      have hb1 : Below wr.heap.size wr W1 := by rw [hW1]; exact (Below.refl _ _).alloc (Nat.le_refl _) _
      have d0 : W1.cell? ⟨wr.heap.size, 0, none⟩ = some (.int .i32 x1) := by rw [hW1]; simp
      have d1 : W1.cell? ⟨wr.heap.size, 1, none⟩ = some (.int .i32 x2) := by rw [hW1]; simp
      have e3 := (hb1.cell (p := ⟨g, f * 2, none⟩) hg).trans c3
      have e4 := (hb1.cell (p := ⟨g, f * 2 + 1, none⟩) hg).trans c4
      have hz1 : wr.heap.size < W1.heap.size := by rw [hW1]; simp
      have hg1 : g < W1.heap.size := by omega
      have HB1 := Lib.hid hb1
      clear hW1 hb1 c1 c2 c3 c4
      have hq_W1 := @wd_cell W1
      refine wp_region_wd (by kernel_rfl) (by kernel_rfl) ?_
      repeat (go_big_quiet_step ((first | (go_at_call 37; with_reducible exact quiet_wd (LS.out _)))))
      refine wpQuiet_nil ?_
      rintro w4 ⟨⟨wx, hb_w4⟩, hwx⟩
      obtain rfl : w4 = wx := hwx
      clear hq_W1
      have hz_w4 := hb_w4.size
      obtain ⟨hc_w4, hf_w4⟩ := bcell hb_w4
      have HB4 := Lib.hid (HBL.out.trans ((HB1.out.trans (hb_w4.mono HB1.out.size)).mono HBL.out.size))
      clear HB1 HBL hb_w4
      cases b
      · go_wp2_with fail
        go_roundw
        case rel => exact ⟨k + 1, by omega, by rw [hst.out.2 rfl], by simp, HB4.out⟩
        case measure => simp [intOf]; omega
      · go_wp2_with fail
        go_roundw
        case rel => exact ⟨k + 1, by omega, by rw [hst.out.1 rfl], by simp, HB4.out⟩
        case measure => simp [intOf]; omega
    · obtain rfl : k = m := by omega
      clear hk
      rcases Nat.eq_zero_or_pos k with h0 | h0
      · obtain ⟨rfl, rfl⟩ := HL.out.2 h0
        subst h0
        have hf0 : f = 0 := by omega
        subst hf0
        obtain rfl : L = [] := List.eq_nil_of_length_eq_zero HL.out.1
        have HBL := Lib.hid hbel
        clear hbel hf hownr
        go_upto_region 21 with fail
        refine wp_gen (fun W1 hW1 => ?_)
        subst hW1
        have hq_W1 := @wd_cell W1
        refine wp_region_wd_tail 6 (by kernel_rfl) (by kernel_rfl) ?_
        simp only [List.take_succ_cons, List.take_zero, List.drop_succ_cons, List.drop_zero]
        repeat (go_big_quiet_step (fail))
        refine wpQuiet_nil ?_
        rintro w4 ⟨⟨wx, hb_w4⟩, hwx⟩
        obtain rfl : w4 = wx := hwx
        clear hq_W1
        have hz_w4 := hb_w4.size
        obtain ⟨hc_w4, hf_w4⟩ := bcell hb_w4
        go_wp2_with fail
        refine (concat_nil w4.heap.size _ (by simp) (by simp)).mono ?_
        rintro e w5 ⟨rfl, hb5⟩
        have hB5 : Below w.heap.size w w5 := ((HB.out.trans (HBL.out.mono HB.out.size)).trans ((hb_w4.mono HBL.out.size).mono HB.out.size)).trans ((((Below.refl _ w4).alloc (Nat.le_refl _) _).trans (hb5.mono (by simp))).mono (by have := HB.out.size; have := HBL.out.size; have := hb_w4.size; omega))
        have H5 := Lib.hid hB5
        clear hb5 hB5 hb_w4
        go_wp2_with fail
        exact ⟨⟨none, 0, by simp [results, Try.results10, go_sem], World.ownsRow_nil _ _ _ _⟩, H5.out⟩
      · obtain ⟨g, rfl, hgb, hg, hfz, hc⟩ := own_cells (qs := L) hownr h0
        have hfm : f < k := by have := @first_lt L k; omega
        have hfI : (f : Int) < (k : Int) := by omega
        have hkc := own_capT hownr
        have hfc : (f : Int) ≤ (c : Int) := by omega
        go_upto_region 21 with fail
        refine wp_gen (fun W1 hW1 => ?_)
        subst hW1
        have hq_W1 := @wd_cell W1
        refine wp_region_wd_tail 6 (by kernel_rfl) (by kernel_rfl) ?_
        simp only [List.take_succ_cons, List.take_zero, List.drop_succ_cons, List.drop_zero]
        repeat (go_big_quiet_step (fail))
        refine wpQuiet_nil ?_
        rintro w4 ⟨⟨wx, hb_w4⟩, hwx⟩
        obtain rfl : w4 = wx := hwx
        clear hq_W1
        have hz_w4 := hb_w4.size
        obtain ⟨hc_w4, hf_w4⟩ := bcell hb_w4
        go_wp2_with fail
        have hown4 := own_keepT (own_keepT hownr hb_w4) ((Below.refl _ w4).alloc (Nat.le_refl _) (.cells #[.slice (some ⟨g, f * 2, none⟩) (k - f) (c - f), .slice (some ⟨g, 0, none⟩) f c] 23))
        obtain ⟨p1, p2⟩ := parts_cells (f := f) hown4
        refine (concat2_any (L.drop f) (L.take f) ⟨g, f * 2, none⟩ ⟨g, 0, none⟩ (k - f) (c - f) f c (by rw [List.length_drop, HL.out.1]) (by rw [List.length_take, HL.out.1]; omega) (by omega) (by omega) w4.heap.size _ (by simp) (by simp) p1 p2).mono ?_
        rintro e w5 ⟨A5, c5, rfl, hown5, hb5⟩
        rw [show k - f + f = k by omega] at hown5
        have hB5 : Below w.heap.size w w5 := ((HB.out.trans (hbel.mono HB.out.size)).trans ((hb_w4.mono hbel.size).mono HB.out.size)).trans ((((Below.refl _ w4).alloc (Nat.le_refl _) _).trans (hb5.mono (by simp))).mono (by have := HB.out.size; have := hbel.size; have := hb_w4.size; omega))
        have H5 := Lib.hid (And.intro (own_baseT (b' := w.heap.size) hown5 (by have := HB.out.size; have := hbel.size; have := hb_w4.size; simp; omega)) hB5)
        clear hb5 hB5 hb_w4 hown4 hown5 p1 p2 hownr hfz hc
        rw [show k - f + f = k by omega]
        go_wp2_with fail
        exact ⟨⟨A5, c5, by simp [results, Try.results10, go_sem], H5.out.1⟩, H5.out.2⟩
end

section
open Go.RowKit Go.Shelf

theorem chk_zero {ps : List Pt} {i j : Nat} (h : ChkIs ps (0, i, j)) : (3 ≤ ps.length ∧ ps.length ≤ 64) ∧ (∀ m, m < ps.length → InAt ps m) ∧ (∀ m, m < ps.length → DiffAt ps m) ∧ FineAt ps ps.length 0 := by
  rcases h with ⟨_, h⟩ | ⟨h1, h⟩
  · cases h
  rcases h with ⟨_, _, _, _, h⟩ | ⟨h2, h⟩
  · cases h
  rcases h with ⟨_, _, _, _, h⟩ | ⟨h3, h⟩
  · cases h
  rcases h with ⟨i, j, _, _, hne, _, h⟩ | ⟨h4, _⟩
  · injection h with h _
    exact absurd h.symm hne
  · exact ⟨h1, h2, h3, h4⟩
theorem turn_t (a b c : Pt) (ha : IPt a) (hb : IPt b) (hc : IPt c) (t : Int) (h : t6 a b c = t) (w : World) : Calls Try.prog 35 #[.agg #[.int .i32 a.1, .int .i32 a.2], .agg #[.int .i32 b.1, .int .i32 b.2], .agg #[.int .i32 c.1, .int .i32 c.2]] w fun e w' => e = .returned (.int .i64 t) ∧ Below w.heap.size w w' := by
  have H := turn_any a.1 a.2 b.1 b.2 c.1 c.2 ha.1 ha.2 hb.1 hb.2 hc.1 hc.2 w
  rw [← h]
  exact H
theorem norm_idx {k n q1 q2 : Nat} (h : k < n) (hn : n ≤ 64) (e1 : (k + n - 1) % n = q1) (e2 : (k + 1) % n = q2) :
    IntKind.i64.wrap ((k : Int) + (n : Int)) = (k : Int) + (n : Int) ∧ IntKind.i64.wrap ((k : Int) + (n : Int) - 1) = (k : Int) + (n : Int) - 1 ∧ IntKind.i64.wrap ((k : Int) + 1) = (k : Int) + 1 ∧ ((k : Int) + (n : Int) - 1).tmod (n : Int) = (q1 : Int) ∧ ((k : Int) + 1).tmod (n : Int) = (q2 : Int) ∧ q1 < n ∧ q2 < n ∧ IntKind.i64.wrap (q1 : Int) = (q1 : Int) ∧ IntKind.i64.wrap (q2 : Int) = (q2 : Int) := by
  have w : ∀ z : Int, -9223372036854775808 ≤ z → z ≤ 9223372036854775807 → IntKind.i64.wrap z = z := fun z a b => by
    simp only [IntKind.wrap, IntKind.signed, IntKind.bits]
    simp
    omega
  have l1 : q1 < n := by rw [← e1]; exact Nat.mod_lt _ (by omega)
  have l2 : q2 < n := by rw [← e2]; exact Nat.mod_lt _ (by omega)
  refine ⟨w _ (by omega) (by omega), w _ (by omega) (by omega), w _ (by omega) (by omega), ?_, ?_, l1, l2, w _ (by omega) (by omega), w _ (by omega) (by omega)⟩
  · rw [show (k : Int) + (n : Int) - 1 = ((k + n - 1 : Nat) : Int) by omega, ← Int.ofNat_tmod, e1]
  · rw [show (k : Int) + 1 = ((k + 1 : Nat) : Int) by omega, ← Int.ofNat_tmod, e2]

set_option maxHeartbeats 4000000 in
set_option maxRecDepth 100000 in
theorem normal_any (HM : MeetSays) (ps : List Pt) (hps : ∀ p ∈ ps, IPt p) (n : Nat) (hn : ps.length = n) (M c : Nat) (A : Option Addr) (w : World) (hP : PtsAt M w (.slice A n c) ps) (hM : M ≤ w.heap.size) :
    Calls Try.prog 10 #[.slice A n c] w fun e w' => (∃ r, ChkIs ps r ∧ ((r.1 ≠ 0 ∧ e = .returned (.tuple #[.slice none 0 0, .int .i64 r.1])) ∨ (r.1 = 0 ∧ ∃ A' c', e = .returned (.tuple #[.slice A' (normP ps).length c', .int .i64 0]) ∧ w'.ownsRow w.heap.size 28 2 (.slice A' (normP ps).length c') (normP ps).length (flat (normP ps))))) ∧ Below w.heap.size w w' := by
  have CK := Lib.hid (check_any HM ps hps n hn M c A w hP hM)
  go_enter Try.func10, Try.ntmps10
  show Code.wp _ (.seq _ (.seq _ (.seq _ (.seq _ (.seq _ (.seq _ (tailT Try.f10 6))))))) _ _ _
  generalize hTL : tailT Try.f10 6 = TL
  have HTL := Lib.hid hTL
  clear hTL
  go_wp2_with fail
  refine CK.out.mono ?_
  rintro e w1 ⟨⟨⟨r0, ri, rj⟩, hr, rfl⟩, hb1⟩
  dsimp only
  have HR := Lib.hid hr
  have HB1 := Lib.hid hb1
  clear hr hb1 CK
  by_cases h0 : r0 = 0
  · subst h0
    obtain ⟨⟨h3, h64⟩, hin, _⟩ := chk_zero HR.out
    rw [hn] at h3 h64
    obtain ⟨g, off, rfl, hg, hcs⟩ := pts_cells6 hP (by omega)
    have hgw : g < w.heap.size := by omega
    have HCS : Hid (∀ W', Below w.heap.size w W' → ∀ k, k < n → W'.cell? ⟨g, off + k * 2, none⟩ = some (.int .i32 (gp ps k).1) ∧ W'.cell? ⟨g, off + k * 2 + 1, none⟩ = some (.int .i32 (gp ps k).2)) := Lib.hid (fun W' hb k hk => ⟨(hb.cell (p := ⟨g, off + k * 2, none⟩) hgw).trans (hcs k (by omega)).1, (hb.cell (p := ⟨g, off + k * 2 + 1, none⟩) hgw).trans (hcs k (by omega)).2⟩)
    have AR := Lib.hid (fun W (h : Below w.heap.size w W) => area2_any ps hps n hn (by omega) M c (some ⟨g, off, none⟩) W (hP.below (h.mono hM)) (Nat.le_trans hM h.size) (fun h => by omega))
    have SG := Lib.hid (fun W => sign_any (areaP ps) (area_128 hps (by omega)) W)
    have HPS := Lib.hid (And.intro hn hps)
    have HNL : Hid ((normL ps).length = (bendsTo ps ps.length).length ∧ (normP ps).length = (normL ps).length) := Lib.hid ⟨normL_len ps, normP_len ps⟩
    have HNP : Hid (normP ps = rotF (normL ps) (firstTo (normL ps) (normL ps).length)) := Lib.hid rfl
    have HNX : Hid ((areaP ps < 0 → normL ps = (bendsTo ps ps.length).reverse) ∧ (¬ areaP ps < 0 → normL ps = bendsTo ps ps.length)) := Lib.hid ⟨fun h => by unfold normL; rw [if_pos h], fun h => by unfold normL; rw [if_neg h]⟩
    clear hin hcs hP hps hn
    go_wp2_with fail
    go_loopw [8, 27] (fun v i wr => ∃ (k m : Nat) (A' : Option Addr) (c' : Nat), k ≤ n ∧ (bendsTo ps k).length = m ∧ v = .slice A' m c' ∧ i = .int .i64 (k : Int) ∧ (m = 0 → A' = none ∧ c' = 0) ∧ wr.ownsRow w.heap.size 28 2 (.slice A' m c') m (flat (bendsTo ps k)) ∧ Below w.heap.size w wr) (fun _ i _ => n - (intOf i).toNat)
    case atStart => exact ⟨0, 0, none, 0, Nat.zero_le _, rfl, rfl, rfl, fun _ => ⟨rfl, rfl⟩, World.ownsRow_nil _ _ _ _, HB1.out⟩
    case round =>
      obtain ⟨k, m, A', c', hk, hm, rfl, rfl, hA, hown, hbel⟩ := hrel
      rcases Nat.lt_or_ge k n with hlt | hge
      · have hkI : (k : Int) < (n : Int) := by omega
        obtain ⟨q1, e1⟩ : ∃ q, (k + n - 1) % n = q := ⟨_, rfl⟩
        obtain ⟨q2, e2⟩ : ∃ q, (k + 1) % n = q := ⟨_, rfl⟩
        obtain ⟨w1', w2', w3', m1, m2, l1, l2, w4', w5'⟩ := norm_idx hlt h64 e1 e2
        have l1I : (q1 : Int) < (n : Int) := by omega
        have l2I : (q2 : Int) < (n : Int) := by omega
        have hz1 : ((n : Int) == 0) = false := by rw [beq_eq_false_iff_ne]; omega
        have hz2 : ¬ (n : Int) = 0 := by omega
        have hz3 : ¬ n = 0 := by omega
        have ck := HCS.out wr hbel k hlt
        obtain ⟨t, ht⟩ : ∃ t, t6 (gp ps q1) (gp ps k) (gp ps q2) = t := ⟨_, rfl⟩
        have TN := Lib.hid (fun W => turn_t (gp ps q1) (gp ps k) (gp ps q2) (gp_i HPS.out.2 q1) (gp_i HPS.out.2 k) (gp_i HPS.out.2 q2) t ht W)
        have HBD : Hid (bendAt ps k = !(t == 0)) := Lib.hid (by unfold bendAt; rw [HPS.out.1, e1, e2, ht])
        have HQ := Lib.hid (fun W' h => And.intro (HCS.out W' h q1 l1) (HCS.out W' h q2 l2))
        have HXK : Hid (gp ps k = gp ps k) := Lib.hid rfl
        obtain ⟨⟨x1, x2⟩, hx⟩ : ∃ x, gp ps k = x := ⟨_, rfl⟩
        obtain ⟨⟨y1, y2⟩, hy⟩ : ∃ y, gp ps q1 = y := ⟨_, rfl⟩
        obtain ⟨⟨z1, z2⟩, hz⟩ : ∃ z, gp ps q2 = z := ⟨_, rfl⟩
        rw [hx] at ck TN
        rw [hy] at TN HQ
        rw [hz] at TN HQ
        dsimp only at ck TN HQ
        obtain ⟨ck1, ck2⟩ := ck
        have HX := Lib.hid hx
        have HK := Lib.hid (And.intro hm (And.intro hA (And.intro hown hbel)))
        have hwz := hbel.size
        have hgr : g < wr.heap.size := by omega
        clear ht hx hy hz e1 e2 hm hA hown hbel HXK
        go_upto_region 9 with fail
        refine wp_gen (fun W1 hW1 => ?_)
        have hb1 : Below wr.heap.size wr W1 := by rw [hW1]; exact (Below.refl _ _).alloc (Nat.le_refl _) _
        have d0 : W1.cell? ⟨wr.heap.size, 0, none⟩ = some (.int .i32 x1) := by rw [hW1]; simp
        have d1 : W1.cell? ⟨wr.heap.size, 1, none⟩ = some (.int .i32 x2) := by rw [hW1]; simp
        have hz4 : wr.heap.size < W1.heap.size := by rw [hW1]; simp
        have hg1 : g < W1.heap.size := by omega
        obtain ⟨⟨f1, f2⟩, f3, f4⟩ := HQ.out W1 (HK.out.2.2.2.trans (hb1.mono hwz))
        have HB1' := Lib.hid hb1
        clear hW1 hb1 ck1 ck2
        have hq_W1 := @wd_cell W1
        refine wp_region_wd (by kernel_rfl) (by kernel_rfl) ?_
        repeat (go_big_quiet_step ((first | (go_at_call 35; with_reducible exact quiet_wd (TN.out _)))))
        refine wpQuiet_nil ?_
        rintro w4 ⟨⟨wx, hb_w4⟩, hwx⟩
        obtain rfl : w4 = wx := hwx
        clear hq_W1
        have hz_w4 := hb_w4.size
        obtain ⟨hc_w4, hf_w4⟩ := bcell hb_w4
        have hs_w4_0 : wr.heap.size < w4.heap.size := Nat.lt_of_lt_of_le (by assumption) hb_w4.size
        have HB4 := Lib.hid (HB1'.out.trans (hb_w4.mono HB1'.out.size))
        have g0 := (hc_w4 wr.heap.size 0 hz4).trans d0
        have g1 := (hc_w4 wr.heap.size 1 hz4).trans d1
        have hz5 : wr.heap.size < w4.heap.size := by have := hb_w4.size; omega
        clear HB1' hb_w4 f1 f2 f3 f4 d0 d1 hc_w4 hf_w4
        obtain ⟨hm, hA, hown, hbel⟩ := HK.out
        by_cases ht0 : t = 0
        · have hq : (t != 0) = false := by rw [ht0]; rfl
          have hbd := bends_no (ps := ps) (k := k) (by rw [HBD.out, ht0]; rfl)
          have hown4 := own_keepT hown HB4.out
          have hbel4 := hbel.trans (HB4.out.mono hwz)
          have H4 := Lib.hid (And.intro hown4 hbel4)
          clear hown4 hbel4 hown hbel
          go_wp2_with fail
          go_roundw
          case rel => exact ⟨k + 1, m, A', c', by omega, by rw [hbd]; exact hm, rfl, by simp, hA, by rw [hbd]; exact H4.out.1, H4.out.2⟩
          case measure => simp [intOf]; omega
        · have hq : (t != 0) = true := by simp [ht0]
          have hbd := bends_yes (ps := ps) (k := k) (by rw [HBD.out]; simp [ht0])
          rw [HX.out] at hbd
          have hml := bends_len ps k
          have hown4 := own_keepT hown HB4.out
          have hbel4 := hbel.trans (HB4.out.mono hwz)
          have hsz4 := hbel4.size
          clear hown hbel
          go_wp2_with (at_builtin; refine wpList_push rfl (.tmp 51) (.tmp 53) 23 rfl eltP w.heap.size A' m c' (flat (bendsTo ps k)) rfl hown4 [_, _] rfl rfl (two_cells rfl rfl) (le_maxLen (by omega)) (by omega) (by omega) ?_; intro A5 c5 w5 hown5 hg5)
          go_roundw
          case rel => exact ⟨k + 1, m + 1, A5, c5, by omega, by rw [hbd, List.length_append, hm]; rfl, rfl, by simp, fun h => by omega, by rw [hbd, flat_snoc]; exact hown5, below_push hbel4 hown4 (Nat.le_refl _) hsz4 hg5⟩
          case measure => simp [intOf]; omega
      · obtain rfl : k = n := by omega
        have HK := Lib.hid (And.intro hm (And.intro hA (And.intro hown hbel)))
        have hml := bends_len ps k
        clear hm hA hown hbel hk hge
        go_wp2_with fail
        refine (AR.out wr HK.out.2.2.2).mono ?_
        rintro e w5 ⟨rfl, hb5⟩
        have HB5 := Lib.hid hb5
        clear hb5
        go_wp2_with fail
        refine (SG.out _).mono ?_
        rintro e w6 ⟨rfl, hb6⟩
        have HB6 := Lib.hid (HB5.out.trans (hb6.mono HB5.out.size))
        clear hb6 HB5 AR SG
        obtain ⟨hm, hA, hown, hbel⟩ := HK.out
        have hown6 := own_keepT hown HB6.out
        have hbel6 := hbel.trans (HB6.out.mono hbel.size)
        have HN := Lib.hid hm
        have HAz := Lib.hid hA
        have hm64 : m ≤ 64 := by omega
        have hpl : (normL ps).length = m := by rw [HNL.out.1, HPS.out.1]; exact hm
        have hpl2 : (normP ps).length = m := by rw [HNL.out.2]; exact hpl
        have HPL := Lib.hid (And.intro hpl hpl2)
        clear hm hA hown hbel HK HB6 HCS hpl hpl2 HNL
        by_cases ha : areaP ps < 0
        · have hd : decide (cmpI (areaP ps) 0 < 0) = true := by simp; unfold cmpI; split <;> omega
          have hnl := HNX.out.1 ha
          have RV := Lib.hid (reverse_any (bendsTo ps k) w.heap.size A' c' m HN.out (by omega) w6 hown6)
          have H6 := Lib.hid (And.intro hown6 hbel6)
          clear ha hown6 hbel6
          go_wp2_with fail
          refine RV.out.mono ?_
          rintro e w7 ⟨⟨u, rfl⟩, hown7, hg7⟩
          have hbel7 := below_push H6.out.2 H6.out.1 (Nat.le_refl _) H6.out.2.size hg7
          have H7 := Lib.hid (And.intro hown7 hbel7)
          clear hown7 hbel7 hg7 H6 RV
          go_wp2_with fail
          rw [← HTL.out]
          refine Code.wp_mono (fun e a' w' h => ?_) (norm_tail w w7 (normL ps) A' m c' HPL.out.1 hm64 HAz.out (Lib.hid H7.out.2) (Lib.hid (by rw [hnl, HPS.out.1]; exact H7.out.1)) _ _ _ _ _ _ _ _ _ _ _ _ _ _ _ _ _ _ _ _ _ _ _ _ _ _ _ _ _ _ _ _ _ _ _ _ _ _ _ _ _ _ _ _ _ _ _ _ _ _ _ _ _ _ _ _ _ _ _ _ _ _ _ _ _ _ _ _ _ _ _ _ _ _ _ _ _ _ _ _ _ _ _ _)
          obtain ⟨rfl, hd8, ⟨A8, c8, hres, hown8⟩, hb8⟩ := h
          exact ⟨hd8, _, hres, ⟨(0, ri, rj), HR.out, .inr ⟨rfl, A8, c8, by rw [HPL.out.2], by rw [HPL.out.2, HNP.out, HPL.out.1]; exact hown8⟩⟩, hb8⟩
        · have hd : decide (cmpI (areaP ps) 0 < 0) = false := by simp; unfold cmpI; split <;> omega
          have hnl := HNX.out.2 (by omega)
          have H7 := Lib.hid (And.intro hown6 hbel6)
          clear ha hown6 hbel6
          go_wp2_with fail
          rw [← HTL.out]
          refine Code.wp_mono (fun e a' w' h => ?_) (norm_tail w w6 (normL ps) A' m c' HPL.out.1 hm64 HAz.out (Lib.hid H7.out.2) (Lib.hid (by rw [hnl, HPS.out.1]; exact H7.out.1)) _ _ _ _ _ _ _ _ _ _ _ _ _ _ _ _ _ _ _ _ _ _ _ _ _ _ _ _ _ _ _ _ _ _ _ _ _ _ _ _ _ _ _ _ _ _ _ _ _ _ _ _ _ _ _ _ _ _ _ _ _ _ _ _ _ _ _ _ _ _ _ _ _ _ _ _ _ _ _ _ _ _ _ _)
          obtain ⟨rfl, hd8, ⟨A8, c8, hres, hown8⟩, hb8⟩ := h
          exact ⟨hd8, _, hres, ⟨(0, ri, rj), HR.out, .inr ⟨rfl, A8, c8, by rw [HPL.out.2], by rw [HPL.out.2, HNP.out, HPL.out.1]; exact hown8⟩⟩, hb8⟩
  · have hne : (r0 != 0) = true := by simp [h0]
    go_wp2_with fail
    refine bodyPost_ret (by simp [results, Try.results10, go_sem, *]; try rfl) rfl ?_
    exact ⟨⟨(r0, ri, rj), HR.out, .inl ⟨h0, rfl⟩⟩, HB1.out⟩

theorem norm_ipt {ps : List Pt} (hps : ∀ p ∈ ps, IPt p) : ∀ p ∈ normP ps, IPt p := by
  have hb : ∀ p ∈ bendsTo ps ps.length, IPt p := fun p hp => by
    unfold bendsTo at hp
    obtain ⟨k, _, rfl⟩ := List.mem_map.1 hp
    exact gp_i hps k
  have hl : ∀ p ∈ normL ps, IPt p := fun p hp => by
    unfold normL at hp
    split at hp
    · exact hb p (List.mem_reverse.1 hp)
    · exact hb p hp
  intro p hp
  unfold normP rotF at hp
  rcases List.mem_append.1 hp with h | h
  · exact hl p (List.mem_of_mem_drop h)
  · exact hl p (List.mem_of_mem_take h)
theorem norm_64 {ps : List Pt} (h : ps.length ≤ 64) : (normP ps).length ≤ 64 := by
  rw [normP_len, normL_len]
  have := bends_len ps ps.length
  omega
theorem conv_idx {k n q1 q2 : Nat} (h : k < n) (hn : n ≤ 64) (e1 : (k + 1) % n = q1) (e2 : (k + 2) % n = q2) :
    IntKind.i64.wrap ((k : Int) + 2) = (k : Int) + 2 ∧ IntKind.i64.wrap ((k : Int) + 1) = (k : Int) + 1 ∧ ((k : Int) + 1).tmod (n : Int) = (q1 : Int) ∧ ((k : Int) + 2).tmod (n : Int) = (q2 : Int) ∧ q1 < n ∧ q2 < n ∧ IntKind.i64.wrap (q1 : Int) = (q1 : Int) ∧ IntKind.i64.wrap (q2 : Int) = (q2 : Int) := by
  have w : ∀ z : Int, -9223372036854775808 ≤ z → z ≤ 9223372036854775807 → IntKind.i64.wrap z = z := fun z a b => by
    simp only [IntKind.wrap, IntKind.signed, IntKind.bits]
    simp
    omega
  have l1 : q1 < n := by rw [← e1]; exact Nat.mod_lt _ (by omega)
  have l2 : q2 < n := by rw [← e2]; exact Nat.mod_lt _ (by omega)
  refine ⟨w _ (by omega) (by omega), w _ (by omega) (by omega), ?_, ?_, l1, l2, w _ (by omega) (by omega), w _ (by omega) (by omega)⟩
  · rw [show (k : Int) + 1 = ((k + 1 : Nat) : Int) by omega, ← Int.ofNat_tmod, e1]
  · rw [show (k : Int) + 2 = ((k + 2 : Nat) : Int) by omega, ← Int.ofNat_tmod, e2]

set_option maxHeartbeats 4000000 in
set_option maxRecDepth 100000 in
theorem convex_any (HM : MeetSays) (ps : List Pt) (hps : ∀ p ∈ ps, IPt p) (n : Nat) (hn : ps.length = n) (M c : Nat) (A : Option Addr) (w : World) (hP : PtsAt M w (.slice A n c) ps) (hM : M ≤ w.heap.size) :
    Calls Try.prog 13 #[.slice A n c] w fun e w' => (∃ r, ChkIs ps r ∧ e = .returned (.bool (if r.1 = 0 then convL (normP ps) else false))) ∧ Below w.heap.size w w' := by
  have NR := Lib.hid (normal_any HM ps hps n hn M c A w hP hM)
  have HI := Lib.hid (norm_ipt hps)
  have H64 : Hid (∀ {i j : Nat}, ChkIs ps (0, i, j) → (normP ps).length ≤ 64) := Lib.hid (fun h => norm_64 (chk_zero h).1.2)
  obtain ⟨L, hL⟩ : ∃ L, normP ps = L := ⟨_, rfl⟩
  rw [hL] at NR HI H64 ⊢
  clear hL hP hps
  go_enter Try.func13, Try.ntmps13
  go_wp2_with fail
  refine NR.out.mono ?_
  rintro e w1 ⟨⟨⟨r0, ri, rj⟩, hr, hcase⟩, hb1⟩
  have HR := Lib.hid hr
  have HB1 := Lib.hid hb1
  clear hr hb1 NR
  rcases hcase with ⟨h0, rfl⟩ | ⟨h0, A', c', rfl, hown⟩
  · dsimp only at h0
    have hne : (r0 != 0) = true := by simp [h0]
    go_wp2_with fail
    refine bodyPost_ret (by simp [results, Try.results13, go_sem, *]; try rfl) rfl ?_
    exact ⟨⟨(r0, ri, rj), HR.out, by rw [if_neg h0]⟩, HB1.out⟩
  · dsimp only at h0
    subst h0
    have h64 := H64.out HR.out
    obtain ⟨m, hm⟩ : ∃ m, L.length = m := ⟨_, rfl⟩
    rw [hm] at hown h64 ⊢
    have HO := Lib.hid (And.intro hm hown)
    clear hm hown H64
    have K0 : Hid (convL L = (List.range m).all (leftAt L)) := Lib.hid (by unfold convL; rw [HO.out.1])
    go_wp2_with fail
    go_loopw [17] (fun i wr => ∃ k : Nat, k ≤ m ∧ i = .int .i64 (k : Int) ∧ (∀ j, j < k → leftAt L j = true) ∧ Below w1.heap.size w1 wr) (fun i _ => m - (intOf i).toNat)
    case atStart => exact ⟨0, Nat.zero_le _, rfl, fun j hj => absurd hj (Nat.not_lt_zero _), Below.refl _ _⟩
    case round =>
      obtain ⟨k, hk, rfl, hall, hbel⟩ := hrel
      have HA := Lib.hid hall
      have hownr := own_keepT HO.out.2 hbel
      rcases Nat.lt_or_ge k m with hlt | hge
      · have hkI : (k : Int) < (m : Int) := by omega
        obtain ⟨q1, e1⟩ : ∃ q, (k + 1) % m = q := ⟨_, rfl⟩
        obtain ⟨q2, e2⟩ : ∃ q, (k + 2) % m = q := ⟨_, rfl⟩
        obtain ⟨w1', w2', m1, m2, l1, l2, w4', w5'⟩ := conv_idx hlt h64 e1 e2
        have l1I : (q1 : Int) < (m : Int) := by omega
        have l2I : (q2 : Int) < (m : Int) := by omega
        have hz1 : ((m : Int) == 0) = false := by rw [beq_eq_false_iff_ne]; omega
        have hz2 : ¬ (m : Int) = 0 := by omega
        have hz3 : ¬ m = 0 := by omega
        obtain ⟨g, rfl, hgb, hg, hfz, hc⟩ := own_cells (qs := L) hownr (by omega)
        obtain ⟨t, ht⟩ : ∃ t, t6 (gp L k) (gp L q1) (gp L q2) = t := ⟨_, rfl⟩
        have TN := Lib.hid (fun W => turn_t (gp L k) (gp L q1) (gp L q2) (gp_i HI.out k) (gp_i HI.out q1) (gp_i HI.out q2) t ht W)
        have HL : Hid (leftAt L k = decide (0 ≤ t)) := Lib.hid (by unfold leftAt; rw [HO.out.1, e1, e2, ht])
        obtain ⟨a1, a2⟩ := hc k (by rw [HO.out.1]; exact hlt)
        obtain ⟨b1, b2⟩ := hc q1 (by rw [HO.out.1]; exact l1)
        obtain ⟨d1, d2⟩ := hc q2 (by rw [HO.out.1]; exact l2)
        have HBL := Lib.hid hbel
        have hzr := hbel.size
        clear hall hbel hownr hc hfz ht e1 e2
        obtain ⟨⟨x1, x2⟩, hx⟩ : ∃ x, gp L k = x := ⟨_, rfl⟩
        obtain ⟨⟨y1, y2⟩, hy⟩ : ∃ y, gp L q1 = y := ⟨_, rfl⟩
        obtain ⟨⟨z1, z2⟩, hz⟩ : ∃ z, gp L q2 = z := ⟨_, rfl⟩
        rw [hx] at a1 a2 TN
        rw [hy] at b1 b2 TN
        rw [hz] at d1 d2 TN
        dsimp only at a1 a2 b1 b2 d1 d2 TN
        clear hx hy hz
        go_upto_region 8 with fail
        have hq_wr := @wd_cell wr
        refine wp_region_wd (by kernel_rfl) (by kernel_rfl) ?_
        repeat (go_big_quiet_step ((first | (go_at_call 35; with_reducible exact quiet_wd (TN.out _)))))
        refine wpQuiet_nil ?_
        rintro w4 ⟨⟨wx, hb_w4⟩, hwx⟩
        obtain rfl : w4 = wx := hwx
        clear hq_wr
        have hz_w4 := hb_w4.size
        obtain ⟨hc_w4, hf_w4⟩ := bcell hb_w4
        have HB4 := Lib.hid (HBL.out.trans (hb_w4.mono hzr))
        have HB0 := Lib.hid (HB1.out.trans (HB4.out.mono HB1.out.size))
        clear hb_w4 HBL
        by_cases ht0 : t < 0
        · have hd : decide (t < 0) = true := by simp [ht0]
          have hf : leftAt L k = false := by rw [HL.out]; simp; omega
          go_wp2_with fail
          refine bodyPost_ret (by simp [results, Try.results13, go_sem, *]; try rfl) rfl ?_
          exact ⟨⟨(0, ri, rj), HR.out, by rw [if_pos rfl, K0.out, all_not hlt hf]⟩, HB0.out⟩
        · have hd : decide (t < 0) = false := by simp; omega
          have hf : leftAt L k = true := by rw [HL.out]; simp; omega
          go_wp2_with fail
          go_roundw
          case rel => exact ⟨k + 1, by omega, by simp, fun j hj => by
            rcases Nat.lt_or_ge j k with h | h
            · exact HA.out j h
            · obtain rfl : j = k := by omega
              exact hf, HB4.out⟩
          case measure => simp [intOf]; omega
      · obtain rfl : k = m := by omega
        have HB0 := Lib.hid (HB1.out.trans (hbel.mono HB1.out.size))
        clear hall hbel hownr
        go_wp2_with fail
        refine bodyPost_ret (by simp [results, Try.results13, go_sem, *]; try rfl) rfl ?_
        exact ⟨⟨(0, ri, rj), HR.out, by rw [if_pos rfl, K0.out, all_range HA.out]⟩, HB0.out⟩

def sqP : List Pt := [(0, 0), (2, 0), (2, 2), (0, 2)]
def sqQ : List Pt := [(0, 0), (2, 0)]
theorem sq_fine : ∀ j, j < 4 → ∀ i, i < j → pairF sqP i j = 0 := by decide +kernel
theorem sq_chk : ChkIs sqP (0, 0, 0) := by
  refine .inr ⟨⟨by decide, by decide⟩, .inr ⟨fun m hm => ?_, .inr ⟨fun m hm => ?_, .inr ⟨fun i j hij hj _ => ?_, rfl⟩⟩⟩⟩
  · have : ∀ m, m < 4 → inP (gp sqP m) = true := by decide +kernel
    exact this m hm
  · have : ∀ m, m < 4 → gp sqP m ≠ gp sqP ((m + 1) % 4) := by decide +kernel
    exact this m hm
  · exact sq_fine j hj i hij
theorem sq_chk2 : ChkIs sqQ (60, 0, 0) := .inl ⟨.inl (by decide), rfl⟩
theorem sq_area : areaP sqP = 8 := by decide +kernel
theorem sq_conv : convL (normP sqP) = true := by decide +kernel
theorem sq_ipt : ∀ p ∈ sqP, IPt p := fun p hp => by
  simp only [sqP, List.mem_cons, List.not_mem_nil, or_false] at hp
  rcases hp with rfl | rfl | rfl | rfl <;> (unfold IPt I32; decide)
theorem sq_ipt2 : ∀ p ∈ sqQ, IPt p := fun p hp => by
  simp only [sqQ, List.mem_cons, List.not_mem_nil, or_false] at hp
  rcases hp with rfl | rfl <;> (unfold IPt I32; decide)
theorem sq_pts {W : World} {g : Nat} (h : Var W g 28 #[.int .i32 0, .int .i32 0, .int .i32 2, .int .i32 0, .int .i32 2, .int .i32 2, .int .i32 0, .int .i32 2]) :
    PtsAt W.heap.size W (.slice (some ⟨g, 0, none⟩) 4 4) sqP ∧ PtsAt W.heap.size W (.slice (some ⟨g, 0, none⟩) 2 4) sqQ := by
  constructor
  · refine .inr ⟨g, 0, 4, rfl, h.lt, fun j hj => ?_⟩
    have hj' : j < 4 := hj
    rcases (show j = 0 ∨ j = 1 ∨ j = 2 ∨ j = 3 by omega) with rfl | rfl | rfl | rfl
    · exact ⟨h.cell 0, h.cell 1⟩
    · exact ⟨h.cell 2, h.cell 3⟩
    · exact ⟨h.cell 4, h.cell 5⟩
    · exact ⟨h.cell 6, h.cell 7⟩
  · refine .inr ⟨g, 0, 4, rfl, h.lt, fun j hj => ?_⟩
    have hj' : j < 2 := hj
    rcases (show j = 0 ∨ j = 1 by omega) with rfl | rfl
    · exact ⟨h.cell 0, h.cell 1⟩
    · exact ⟨h.cell 2, h.cell 3⟩

set_option maxHeartbeats 2000000 in
set_option maxRecDepth 100000 in
theorem works6_any (HM : MeetSays) (w : World) : Calls Try.prog 9 #[] w fun e w' => e = .returned (.bool true) ∧ Below w.heap.size w w' := by
  have C1 := Lib.hid (fun A W (h : PtsAt W.heap.size W (.slice A 4 4) sqP) => check_any HM sqP sq_ipt 4 rfl W.heap.size 4 A W h (Nat.le_refl _))
  have C2 := Lib.hid (fun A W (h : PtsAt W.heap.size W (.slice A 2 4) sqQ) => check_any HM sqQ sq_ipt2 2 rfl W.heap.size 4 A W h (Nat.le_refl _))
  have AR := Lib.hid (fun A W (h : PtsAt W.heap.size W (.slice A 4 4) sqP) => by have z := area2_any sqP sq_ipt 4 rfl (by omega) W.heap.size 4 A W h (Nat.le_refl _) (fun h => by omega); rw [sq_area, show hi64 8 = 0 by decide +kernel, show lo64 8 = 8 by decide +kernel] at z; exact z)
  have CV := Lib.hid (fun A W (h : PtsAt W.heap.size W (.slice A 4 4) sqP) => convex_any HM sqP sq_ipt 4 rfl W.heap.size 4 A W h (Nat.le_refl _))
  clear HM
  go_enter Try.func9, Try.ntmps9
  go_upto_region 2 with fail
  refine wp_gen (fun W hW => ?_)
  have vV : Hid (Var W w.heap.size 28 #[.int .i32 0, .int .i32 0, .int .i32 2, .int .i32 0, .int .i32 2, .int .i32 2, .int .i32 0, .int .i32 2]) := Lib.hid (by rw [hW]; exact Var.new _ _ _)
  have HB : Hid (Below w.heap.size w W) := Lib.hid (by rw [hW]; go_grown)
  clear hW
  obtain ⟨g, hg⟩ : ∃ g, w.heap.size = g := ⟨_, rfl⟩
  rw [hg] at vV ⊢
  have HG := Lib.hid hg
  clear hg
  go_wp2_with fail
  refine (C1.out _ _ (sq_pts vV.out).1).mono ?_
  rintro e w1 ⟨⟨r, hr, rfl⟩, hb⟩
  obtain rfl := chk_one hr sq_chk
  have vV := Lib.hid (vV.out.keep hb)
  have HB := Lib.hid (HB.out.trans (hb.mono HB.out.size))
  clear hr hb C1
  dsimp only
  go_wp2_with fail
  refine (C2.out _ _ (sq_pts vV.out).2).mono ?_
  rintro e w2 ⟨⟨r, hr, rfl⟩, hb⟩
  obtain rfl := chk_one hr sq_chk2
  have vV := Lib.hid (vV.out.keep hb)
  have HB := Lib.hid (HB.out.trans (hb.mono HB.out.size))
  clear hr hb C2
  dsimp only
  go_wp2_with fail
  refine (AR.out _ _ (sq_pts vV.out).1).mono ?_
  rintro e w3 ⟨rfl, hb⟩
  have vV := Lib.hid (vV.out.keep hb)
  have HB := Lib.hid (HB.out.trans (hb.mono HB.out.size))
  clear hb AR
  go_wp2_with fail
  refine (CV.out _ _ (sq_pts vV.out).1).mono ?_
  rintro e w4 ⟨⟨r, hr, rfl⟩, hb⟩
  obtain rfl := chk_one hr sq_chk
  have HB := Lib.hid (HB.out.trans (hb.mono HB.out.size))
  clear hr hb CV
  rw [if_pos rfl, sq_conv]
  go_wp2_with fail
  refine bodyPost_ret (by simp [results, Try.results9, go_sem, *]; try rfl) rfl ?_
  exact ⟨rfl, by first | exact HB.out | (rw [HG.out]; exact HB.out)⟩
end

end Go.Proofs.Ythbndilnobjjgaa
