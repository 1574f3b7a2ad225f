/-
  Chapter 06's own roomy and left.
  The law's own same: are two lists of points the same?
-/
import Derived.Test.YthbndilnobjjgaaLent
import Derived.Test.YthbndilnobjjgaaNormP
import Derived.Laws.MakeOwn
namespace Go.Proofs.Ythbndilnobjjgaa
section
open Go.RowKit Go.Shelf

/-- What a roomy list holds: the points, and marks behind them. -/
def romP (ps : List Pt) (j : Nat) : Pt := if j < ps.length then gp ps j else (777, wrap32 (j : Int))
def RoomC (ps : List Pt) (k : Nat) (cs : Array Value) : Prop := ∀ j, j < k → cs[j * 2]? = some (.int .i32 (romP ps j).1) ∧ cs[j * 2 + 1]? = some (.int .i32 (romP ps j).2)
/-- Block g holds the points and nine marks behind them. -/
def RoomAt (W : World) (g : Nat) (ps : List Pt) : Prop := ∃ cs, Var W g 28 cs ∧ cs.size = (ps.length + 9) * 2 ∧ RoomC ps (ps.length + 9) cs
theorem RoomAt.keep {W W' : World} {g : Nat} {ps : List Pt} (h : RoomAt W g ps) (hb : Below W.heap.size W W') : RoomAt W' g ps := by
  obtain ⟨cs, h1, h2⟩ := h
  exact ⟨cs, h1.keep hb, h2⟩
theorem RoomAt.lt {W : World} {g : Nat} {ps : List Pt} (h : RoomAt W g ps) : g < W.heap.size := by
  obtain ⟨cs, h1, _⟩ := h
  exact h1.lt
theorem RoomAt.at {W : World} {g : Nat} {ps : List Pt} (h : RoomAt W g ps) {j : Nat} (hj : j < ps.length + 9) : W.cell? ⟨g, j * 2, none⟩ = some (.int .i32 (romP ps j).1) ∧ W.cell? ⟨g, j * 2 + 1, none⟩ = some (.int .i32 (romP ps j).2) := by
  obtain ⟨cs, h1, _, h3⟩ := h
  exact ⟨(h1.cell _).trans (h3 j hj).1, (h1.cell _).trans (h3 j hj).2⟩
theorem RoomAt.pts {W : World} {g cap : Nat} {ps : List Pt} (h : RoomAt W g ps) : PtsAt W.heap.size W (.slice (some ⟨g, 0, none⟩) ps.length cap) ps := by
  refine .inr ⟨g, 0, cap, rfl, h.lt, fun j hj => ?_⟩
  have := h.at (j := j) (by omega)
  unfold romP at this
  rw [if_pos hj] at this
  rw [Nat.zero_add]
  exact this
theorem room_step {ps : List Pt} {k : Nat} {cs : Array Value} (h : RoomC ps k cs) (_hk : k * 2 + 1 < cs.size) (x y : Value) : RoomC ps k ((cs.setIfInBounds (k * 2) x).setIfInBounds (k * 2 + 1) y) := fun j hj => by
  obtain ⟨h1, h2⟩ := h j hj
  simp only [Array.getElem?_setIfInBounds]
  rw [if_neg (by omega), if_neg (by omega), if_neg (by omega), if_neg (by omega)]
  exact ⟨h1, h2⟩
theorem room_more {ps : List Pt} {k : Nat} {cs : Array Value} (h : RoomC ps k cs) (hk : k * 2 + 1 < cs.size) : RoomC ps (k + 1) ((cs.setIfInBounds (k * 2) (.int .i32 (romP ps k).1)).setIfInBounds (k * 2 + 1) (.int .i32 (romP ps k).2)) := fun j hj => by
  rcases Nat.lt_or_ge j k with hl | hl
  · exact room_step h hk _ _ j hl
  · obtain rfl : j = k := by omega
    constructor
    · rw [Array.getElem?_setIfInBounds, if_neg (by omega), Array.getElem?_setIfInBounds, if_pos rfl, if_pos (by omega)]
    · rw [Array.getElem?_setIfInBounds, if_pos rfl, if_pos (by rw [Array.size_setIfInBounds]; exact hk)]
theorem some_at {cs : Array Value} {i : Nat} (h : i < cs.size) : ∃ o, cs[i]? = some o := ⟨cs[i], Array.getElem?_eq_getElem h⟩

set_option maxHeartbeats 2000000 in
set_option maxRecDepth 100000 in
theorem roomy6_any (sv : Value) (ps : List Pt) (m : Nat) (hreach : ps.length * 8 ≤ 140737488355328) (w : World) (hm : m ≤ w.heap.size) (hI : PtsAt m w sv ps) :
    Calls Try.prog 14 #[sv] w fun e w' => e = .returned (.slice (some ⟨w.heap.size, 0, none⟩) ps.length (ps.length + 9)) ∧ RoomAt w' w.heap.size ps ∧ Below w.heap.size w w' := by
  obtain ⟨i, hi, hz, hsz, hby⟩ := info_parts eltP.info
  obtain ⟨L, hL⟩ : ∃ L, ps.length = L := ⟨_, rfl⟩
  have hLb : L ≤ 17592186044416 := by omega
  have HMK := Lib.hid (fun W => run_make (P := Try.prog) W 23 28 i _ eltP.under hi hz .i64 .i64 ((L : Int) + 9) ((L : Int) + 9) (by omega) (Int.le_refl _) (by rw [hby]; omega) (by omega))
  have HRM : Hid (∀ k, romP ps k = if k < L then gp ps k else (777, wrap32 (k : Int))) := Lib.hid (fun k => by unfold romP; rw [hL])
  obtain ⟨A, c, rfl⟩ : ∃ A c, sv = .slice A L c := by
    rcases hI with ⟨⟨A, c, rfl⟩, rfl⟩ | ⟨b, off, cap, rfl, _⟩
    · exact ⟨A, c, by rw [← hL]; rfl⟩
    · exact ⟨_, _, by rw [hL]⟩
  have hw9 : IntKind.i64.wrap ((L : Int) + 9) = (L : Int) + 9 := by simp only [IntKind.wrap, IntKind.signed, IntKind.bits]; simp; omega
  have HC : Hid (∀ W, Below w.heap.size w W → ∀ k, k < L → ∃ b off, A = some ⟨b, off, none⟩ ∧ b < w.heap.size ∧ W.cell? ⟨b, off + k * 2, none⟩ = some (.int .i32 (gp ps k).1) ∧ W.cell? ⟨b, off + k * 2 + 1, none⟩ = some (.int .i32 (gp ps k).2)) := Lib.hid (fun W hb k hk => by
    rcases hI with ⟨_, h⟩ | ⟨b, off, cap, e, hbm, hcc⟩
    · subst h; simp at hL; omega
    · injection e with e1 _ _
      exact ⟨b, off, e1, by omega, (hb.cell (p := ⟨b, off + k * 2, none⟩) (by show b < _; omega)).trans (hcc k (by omega)).1, (hb.cell (p := ⟨b, off + k * 2 + 1, none⟩) (by show b < _; omega)).trans (hcc k (by omega)).2⟩)
  rw [hL]
  have HL := Lib.hid hL
  have hmk := HMK.out w
  clear HMK hI hL hreach hm
  go_enter Try.func14, Try.ntmps14
  go_wp2_with fail
  refine wp_gen (fun W hW => ?_)
  have vG : Hid (Var W w.heap.size 28 (madeCells #[.int .i32 0, .int .i32 0] ((L + 9) * 2))) := Lib.hid (by rw [hW]; exact Var.new _ _ _)
  have HB : Hid (Below w.heap.size w W) := Lib.hid (by rw [hW]; go_grown)
  clear hW hmk
  obtain ⟨g, hg⟩ : ∃ g, w.heap.size = g := ⟨_, rfl⟩
  rw [hg] at vG ⊢
  have HG := Lib.hid hg
  clear hg
  go_loopw [4] (fun i wr => ∃ (k : Nat) (cs : Array Value), k ≤ L + 9 ∧ i = .int .i64 (k : Int) ∧ Var wr g 28 cs ∧ cs.size = (L + 9) * 2 ∧ RoomC ps k cs ∧ Below w.heap.size w wr) (fun i _ => L + 9 - (intOf i).toNat)
  case atStart => exact ⟨0, _, Nat.zero_le _, rfl, vG.out, size_madeCells _ _, fun j hj => absurd hj (Nat.not_lt_zero _), HB.out⟩
  case round =>
    obtain ⟨k, cs, hk, rfl, vg, hsz, hR, hbel⟩ := hrel
    rcases Nat.lt_or_ge k (L + 9) with hlt | hge
    · have hkI : (k : Int) < (L : Int) + 9 := by omega
      have zg := vg.lt
      obtain ⟨o0, ho0⟩ := some_at (cs := cs) (i := k * 2) (by omega)
      obtain ⟨o1, ho1⟩ := some_at (cs := cs) (i := k * 2 + 1) (by omega)
      have c0 := (vg.cell (k * 2)).trans ho0
      have c1 := (vg.cell (k * 2 + 1)).trans ho1
      have f0 := vg.free (k * 2)
      have f1 := vg.free (k * 2 + 1)
      have HX := Lib.hid (And.intro vg (And.intro hsz (And.intro hR hbel)))
      have HCk := Lib.hid (fun h => HC.out wr hbel k h)
      have hwg : w.heap.size ≤ g := Nat.le_of_eq HG.out
      have hwl : Hid (∀ b, b < w.heap.size → ¬ b = g) := Lib.hid (fun b hb => by omega)
      clear vg hsz hR hbel ho0 ho1
      by_cases hkL : k < L
      · obtain ⟨b, off, rfl, hb, d0, d1⟩ := HCk.out hkL
        have nbg := hwl.out b hb
        have ngb : ¬ g = b := fun h => nbg h.symm
        have hkLI : (k : Int) < (L : Int) := by omega
        have hbr : b < wr.heap.size := by have := HX.out.2.2.2.size; omega
        have hrp : romP ps k = gp ps k := by rw [HRM.out, if_pos hkL]
        have HRP := Lib.hid hrp
        clear hrp HCk hwl
        obtain ⟨⟨x1, x2⟩, hx⟩ : ∃ x, gp ps k = x := ⟨_, rfl⟩
        rw [hx] at d0 d1 HRP
        dsimp only at d0 d1
        clear hx
        go_wp2_with fail
        go_roundw
        case rel =>
          obtain ⟨vg, hsz, hR, hbel⟩ := HX.out
          refine ⟨k + 1, _, by omega, by simp, (((vg.store (k * 2) (.int .i32 777)).store (k * 2 + 1) (.int .i32 (wrap32 (k : Int)))).store (k * 2) (.int .i32 x1)).store (k * 2 + 1) (.int .i32 x2), by simp only [Array.size_setIfInBounds]; exact hsz, ?_, (((hbel.setCell (p := ⟨g, k * 2, none⟩) hwg _).setCell (p := ⟨g, k * 2 + 1, none⟩) hwg _).setCell (p := ⟨g, k * 2, none⟩) hwg _).setCell (p := ⟨g, k * 2 + 1, none⟩) hwg _⟩
          have h1 := room_step (k := k) hR (by omega) (.int .i32 777) (.int .i32 (wrap32 (k : Int)))
          have h2 := room_more h1 (by simp only [Array.size_setIfInBounds]; omega)
          rw [HRP.out] at h2
          exact h2
        case measure => simp [intOf]; omega
      · have hkLI : ¬ (k : Int) < (L : Int) := by omega
        have hrp : romP ps k = (777, wrap32 (k : Int)) := by rw [HRM.out, if_neg hkL]
        have HRP := Lib.hid hrp
        clear hrp HCk hwl
        go_wp2_with fail
        go_roundw
        case rel =>
          obtain ⟨vg, hsz, hR, hbel⟩ := HX.out
          refine ⟨k + 1, _, by omega, by simp, (vg.store (k * 2) (.int .i32 777)).store (k * 2 + 1) (.int .i32 (wrap32 (k : Int))), by simp only [Array.size_setIfInBounds]; exact hsz, ?_, (hbel.setCell (p := ⟨g, k * 2, none⟩) hwg _).setCell (p := ⟨g, k * 2 + 1, none⟩) hwg _⟩
          have h2 := room_more hR (by omega)
          rw [HRP.out] at h2
          exact h2
        case measure => simp [intOf]; omega
    · obtain rfl : k = L + 9 := by omega
      have HX := Lib.hid (And.intro vg (And.intro hsz (And.intro hR hbel)))
      clear vg hsz hR hbel
      have hLI : (L : Int) ≤ ((L + 9 : Nat) : Int) := by omega
      go_wp2_with fail
      refine bodyPost_ret (by simp [results, Try.results14, go_sem, *]; try rfl) rfl ?_
      refine ⟨by first | rfl | rw [HG.out], ?_, HX.out.2.2.2⟩
      rw [HG.out]
      exact ⟨cs, HX.out.1, by rw [HL.out]; exact HX.out.2.1, by rw [HL.out]; exact HX.out.2.2.1⟩

set_option maxHeartbeats 2000000 in
set_option maxRecDepth 100000 in
theorem left6_any (g : Nat) (sv : Value) (ps : List Pt) (m : Nat) (hreach : ps.length * 8 ≤ 140737488355328) (w : World) (hm : m ≤ w.heap.size) (hI : PtsAt m w sv ps) (hR : RoomAt w g ps) :
    Calls Try.prog 17 #[.slice (some ⟨g, 0, none⟩) ps.length (ps.length + 9), sv] w fun e w' => e = .returned (.bool true) ∧ Below w.heap.size w w' := by
  obtain ⟨L, hL⟩ : ∃ L, ps.length = L := ⟨_, rfl⟩
  have hLb : L ≤ 17592186044416 := by omega
  have HRM : Hid (∀ k, romP ps k = if k < L then gp ps k else (777, wrap32 (k : Int))) := Lib.hid (fun k => by unfold romP; rw [hL])
  obtain ⟨A, c, rfl⟩ : ∃ A c, sv = .slice A L c := by
    rcases hI with ⟨⟨A, c, rfl⟩, rfl⟩ | ⟨b, off, cap, rfl, _⟩
    · exact ⟨A, c, by rw [← hL]; rfl⟩
    · exact ⟨_, _, by rw [hL]⟩
  have hw9 : IntKind.i64.wrap ((L : Int) + 9) = (L : Int) + 9 := by simp only [IntKind.wrap, IntKind.signed, IntKind.bits]; simp; omega
  have HC : Hid (∀ W, Below w.heap.size w W → ∀ k, k < L → ∃ b off, A = some ⟨b, off, none⟩ ∧ b < w.heap.size ∧ W.cell? ⟨b, off + k * 2, none⟩ = some (.int .i32 (gp ps k).1) ∧ W.cell? ⟨b, off + k * 2 + 1, none⟩ = some (.int .i32 (gp ps k).2)) := Lib.hid (fun W hb k hk => by
    rcases hI with ⟨_, h⟩ | ⟨b, off, cap, e, hbm, hcc⟩
    · subst h; simp at hL; omega
    · injection e with e1 _ _
      exact ⟨b, off, e1, by omega, (hb.cell (p := ⟨b, off + k * 2, none⟩) (by show b < _; omega)).trans (hcc k (by omega)).1, (hb.cell (p := ⟨b, off + k * 2 + 1, none⟩) (by show b < _; omega)).trans (hcc k (by omega)).2⟩)
  have HG : Hid (∀ W, Below w.heap.size w W → ∀ k, k < L + 9 → W.cell? ⟨g, k * 2, none⟩ = some (.int .i32 (romP ps k).1) ∧ W.cell? ⟨g, k * 2 + 1, none⟩ = some (.int .i32 (romP ps k).2)) := Lib.hid (fun W hb k hk => (hR.keep hb).at (by rw [hL]; exact hk))
  have zg := hR.lt
  rw [hL]
  clear hI hL hreach hm hR
  go_enter Try.func17, Try.ntmps17
  go_wp2_with fail
  go_loopw [6] (fun i wr => ∃ k : Nat, k ≤ L + 9 ∧ i = .int .i64 (k : Int) ∧ Below w.heap.size w wr) (fun i _ => L + 9 - (intOf i).toNat)
  case atStart => exact ⟨0, Nat.zero_le _, rfl, by go_grown⟩
  case round =>
    obtain ⟨k, hk, rfl, hbel⟩ := hrel
    have hsz := hbel.size
    have zgr : g < wr.heap.size := by omega
    rcases Nat.lt_or_ge k (L + 9) with hlt | hge
    · have hkI : (k : Int) < (L : Int) + 9 := by omega
      obtain ⟨c0, c1⟩ := HG.out wr hbel k hlt
      have HB := Lib.hid hbel
      by_cases hkL : k < L
      · obtain ⟨b, off, rfl, hb, d0, d1⟩ := HC.out wr hbel k hkL
        rw [HRM.out, if_pos hkL] at c0 c1
        obtain ⟨⟨x1, x2⟩, hx⟩ : ∃ x, gp ps k = x := ⟨_, rfl⟩
        rw [hx] at c0 c1 d0 d1
        dsimp only at c0 c1 d0 d1
        have e1 : decide (k < L) = true := by simp; omega
        have e2 : decide (L ≤ k) = false := by simp; omega
        have hkLI : (k : Int) < (L : Int) := by omega
        have hbr : b < wr.heap.size := by omega
        clear hbel hx HG HC HRM
        go_upto_region 5 with fail
        have hq_wr := @wd_cell wr
        refine wp_region_wd (by kernel_rfl) (by kernel_rfl) ?_
        repeat (go_big_quiet_step ((first | (fail))))
        refine wpQuiet_nil ?_
        rintro w4 ⟨⟨wx, hb_w4⟩, hwx⟩
        obtain rfl : w4 = wx := hwx
        clear hq_wr
        have hz_w4 := hb_w4.size
        obtain ⟨hc_w4, hf_w4⟩ := bcell hb_w4
        have HB4 := Lib.hid (HB.out.trans (hb_w4.mono hsz))
        clear hb_w4 HB
        go_wp2_with fail
        go_roundw
        case rel => exact ⟨k + 1, by omega, by simp, HB4.out⟩
        case measure => simp [intOf]; omega
      · rw [HRM.out, if_neg hkL] at c0 c1
        obtain ⟨y, hy⟩ : ∃ y, wrap32 (k : Int) = y := ⟨_, rfl⟩
        rw [hy] at c1
        dsimp only at c0 c1
        have e1 : decide (k < L) = false := by simp; omega
        have e2 : decide (L ≤ k) = true := by simp; omega
        have hkLI : ¬ (k : Int) < (L : Int) := by omega
        have hkLI2 : (L : Int) ≤ (k : Int) := by omega
        clear hbel HG HC HRM
        go_upto_region 5 with fail
        have hq_wr := @wd_cell wr
        refine wp_region_wd (by kernel_rfl) (by kernel_rfl) ?_
        repeat (go_big_quiet_step ((first | (fail))))
        refine wpQuiet_nil ?_
        rintro w4 ⟨⟨wx, hb_w4⟩, hwx⟩
        obtain rfl : w4 = wx := hwx
        clear hq_wr
        have hz_w4 := hb_w4.size
        obtain ⟨hc_w4, hf_w4⟩ := bcell hb_w4
        have HB4 := Lib.hid (HB.out.trans (hb_w4.mono hsz))
        clear hb_w4 HB
        go_wp2_with fail
        go_roundw
        case rel => exact ⟨k + 1, by omega, by simp, HB4.out⟩
        case measure => simp [intOf]; omega
    · obtain rfl : k = L + 9 := by omega
      have HB := Lib.hid hbel
      clear hbel HG HC HRM
      go_wp2_with fail
      refine bodyPost_ret (by simp [results, Try.results17, go_sem, *]; try rfl) rfl ?_
      exact ⟨rfl, HB.out⟩
end

section
open Go.RowKit

theorem pts_cells {M n c : Nat} {A : Option Addr} {ps : List Pt} {W : World} (h : PtsAt M W (.slice A n c) ps) (hn : 0 < n) : ∃ b off, A = some ⟨b, off, none⟩ ∧ b < M ∧ ∀ k, k < ps.length → W.cell? ⟨b, off + k * 2, none⟩ = some (.int .i32 (gp ps k).1) ∧ W.cell? ⟨b, off + k * 2 + 1, none⟩ = some (.int .i32 (gp ps k).2) := by
  rcases h with ⟨⟨A0, c0, he⟩, _⟩ | ⟨b, off, cap, he, hb, hc⟩
  · injection he with _ h2 _
    omega
  · injection he with he1 he2 he3
    exact ⟨b, off, he1, hb, hc⟩

set_option maxRecDepth 100000 in
set_option maxHeartbeats 1000000 in
theorem same06_is (A B : Option Addr) (n m c d : Nat) (ps qs : List Pt) (M : Nat) (hp : ps.length = n) (hq : qs.length = m) (hlen : n * 8 ≤ 140737488355328) (w : World) (hM : M ≤ w.heap.size) (hI : PtsAt M w (.slice A n c) ps) (hJ : PtsAt M w (.slice B m d) qs) :
    Calls Try.prog 11 #[.slice A n c, .slice B m d] w fun e w' => e = .returned (.bool (decide (ps = qs))) ∧ Below w.heap.size w w' := by
  have HP := Lib.hid (And.intro hp (And.intro hq (And.intro hI hJ)))
  clear hI hJ
  rcases Decidable.em (n = m) with hnm | hnm
  · subst hnm
    clear hp hq
    obtain ⟨t, ht⟩ : ∃ t : Bool, decide (ps = qs) = t := ⟨_, rfl⟩
    rw [ht]
    have HT := Lib.hid ht
    clear ht
    go_enter Try.func11, Try.ntmps11
    go_wp2_with fail
    go_loopw [5] (fun i wr => ∃ k : Nat, i = .int .i64 (k : Int) ∧ k ≤ n ∧ (∀ j, j < k → gp ps j = gp qs j) ∧ Below w.heap.size w wr) (fun i _ => n - (intOf i).toNat)
    case atStart => exact ⟨0, rfl, Nat.zero_le _, fun j hj => by omega, by go_grown⟩
    case round =>
      obtain ⟨k, rfl, hk, hall, hB⟩ := hrel
      have hsz := hB.size
      have HA := Lib.hid hall
      clear hall
      rcases Nat.lt_or_ge k n with hlt | hge
      · obtain ⟨b, off, rfl, hb, hc⟩ := pts_cells HP.out.2.2.1 (by omega)
        obtain ⟨b', off', rfl, hb', hc'⟩ := pts_cells HP.out.2.2.2 (by omega)
        have c0 := (hB.cell (p := ⟨b, off + k * 2, none⟩) (by show b < _; omega)).trans (hc k (by rw [HP.out.1]; exact hlt)).1
        have c1 := (hB.cell (p := ⟨b, off + k * 2 + 1, none⟩) (by show b < _; omega)).trans (hc k (by rw [HP.out.1]; exact hlt)).2
        have d0 := (hB.cell (p := ⟨b', off' + k * 2, none⟩) (by show b' < _; omega)).trans (hc' k (by rw [HP.out.2.1]; exact hlt)).1
        have d1 := (hB.cell (p := ⟨b', off' + k * 2 + 1, none⟩) (by show b' < _; omega)).trans (hc' k (by rw [HP.out.2.1]; exact hlt)).2
        have hbr : b < wr.heap.size := by omega
        have hbr' : b' < wr.heap.size := by omega
        have hkI : (k : Int) < (n : Int) := by omega
        obtain ⟨⟨x, y⟩, hx⟩ : ∃ z, gp ps k = z := ⟨_, rfl⟩
        obtain ⟨⟨x', y'⟩, hx'⟩ : ∃ z, gp qs k = z := ⟨_, rfl⟩
        rw [hx] at c0 c1
        rw [hx'] at d0 d1
        dsimp only at c0 c1 d0 d1
        have HX := Lib.hid (And.intro hx hx')
        clear hc hc' hx hx'
        rcases Decidable.em (x = x') with hxx | hxx
        · subst hxx
          rcases Decidable.em (y = y') with hyy | hyy
          · subst hyy
            go_wp2_with fail
            have hq_wr := @wd_cell wr
            refine wp_region_wd (by kernel_rfl) (by kernel_rfl) ?_
            repeat (go_big_quiet_step ((first | (fail))))
            refine wpQuiet_nil ?_
            rintro w5 ⟨⟨wx, hb_w5⟩, hwx⟩
            obtain rfl : w5 = wx := hwx
            clear hq_wr
            have hz_w5 := hb_w5.size
            obtain ⟨hc_w5, hf_w5⟩ := bcell hb_w5
            have hB_w5 : Below w.heap.size w w5 := Below.trans (by go_grown) (hb_w5.mono (by go_size))
            have hs_w5_0 : b < w5.heap.size := Nat.lt_of_lt_of_le (by assumption) hb_w5.size
            have hs_w5_1 : b' < w5.heap.size := Nat.lt_of_lt_of_le (by assumption) hb_w5.size
            go_wp2_with fail
            go_roundw
            case rel => exact ⟨k + 1, by simp, hlt, fun j hj => by
              rcases Nat.lt_or_ge j k with h | h
              · exact HA.out j h
              · rw [show j = k by omega, HX.out.1, HX.out.2], hB.trans (hb_w5.mono hsz)⟩
            case measure => simp [intOf]; omega
          · have hne : (y == y') = false := beq_eq_false_iff_ne.2 hyy
            obtain rfl : t = false := by
              rw [← HT.out]
              refine decide_eq_false fun e => hyy ?_
              have h1 := HX.out.1
              have h2 := HX.out.2
              rw [e, h2] at h1
              injection h1 with _ h3
              exact h3.symm
            go_wp2_with fail
            have hq_wr := @wd_cell wr
            refine wp_region_wd (by kernel_rfl) (by kernel_rfl) ?_
            repeat (go_big_quiet_step ((first | (fail))))
            refine wpQuiet_nil ?_
            rintro w5 ⟨⟨wx, hb_w5⟩, hwx⟩
            obtain rfl : w5 = wx := hwx
            clear hq_wr
            have hz_w5 := hb_w5.size
            obtain ⟨hc_w5, hf_w5⟩ := bcell hb_w5
            have hB_w5 : Below w.heap.size w w5 := Below.trans (by go_grown) (hb_w5.mono (by go_size))
            have hs_w5_0 : b < w5.heap.size := Nat.lt_of_lt_of_le (by assumption) hb_w5.size
            have hs_w5_1 : b' < w5.heap.size := Nat.lt_of_lt_of_le (by assumption) hb_w5.size
            go_wp2_with fail
            go_ret
            exact ⟨rfl, hB.trans (hb_w5.mono hsz)⟩
        · have hne : (x == x') = false := beq_eq_false_iff_ne.2 hxx
          obtain rfl : t = false := by
            rw [← HT.out]
            refine decide_eq_false fun e => hxx ?_
            have h1 := HX.out.1
            have h2 := HX.out.2
            rw [e, h2] at h1
            injection h1 with h3 _
            exact h3.symm
          go_wp2_with fail
          have hq_wr := @wd_cell wr
          refine wp_region_wd (by kernel_rfl) (by kernel_rfl) ?_
          repeat (go_big_quiet_step ((first | (fail))))
          refine wpQuiet_nil ?_
          rintro w5 ⟨⟨wx, hb_w5⟩, hwx⟩
          obtain rfl : w5 = wx := hwx
          clear hq_wr
          have hz_w5 := hb_w5.size
          obtain ⟨hc_w5, hf_w5⟩ := bcell hb_w5
          have hB_w5 : Below w.heap.size w w5 := Below.trans (by go_grown) (hb_w5.mono (by go_size))
          have hs_w5_0 : b < w5.heap.size := Nat.lt_of_lt_of_le (by assumption) hb_w5.size
          have hs_w5_1 : b' < w5.heap.size := Nat.lt_of_lt_of_le (by assumption) hb_w5.size
          go_wp2_with fail
          go_ret
          exact ⟨rfl, hB.trans (hb_w5.mono hsz)⟩
      · have hkI : ¬ (k : Int) < (n : Int) := by omega
        obtain rfl : t = true := by
          rw [← HT.out]
          refine decide_eq_true (gp_eq (by rw [HP.out.1, HP.out.2.1]) fun j hj => HA.out j (by rw [HP.out.1] at hj; omega))
        go_wp2_with fail
        go_ret
        exact ⟨rfl, hB⟩
  · rw [show decide (ps = qs) = false from decide_eq_false fun e => hnm (by rw [← hp, ← hq, e])]
    have hne : ((n : Int) == (m : Int)) = false := beq_eq_false_iff_ne.2 (by omega)
    have hne2 : ¬ (n : Int) = (m : Int) := by omega
    clear hp hq
    go_enter Try.func11, Try.ntmps11
    go_wp2_with fail
    go_ret
    exact ⟨rfl, by go_grown⟩
end

end Go.Proofs.Ythbndilnobjjgaa
