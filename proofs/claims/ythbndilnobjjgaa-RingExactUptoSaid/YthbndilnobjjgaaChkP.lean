/-
  ring.Check: its pieces: fold, when, the index of a point off the lattice. Printed by wip/tools/gen_chkp.py.
-/
import Derived.Test.YthbndilnobjjgaaEdges
import Derived.Test.YthbndilnobjjgaaChk6C
import Derived.Test.YthbndilnobjjgaaSegB
namespace Go.Proofs.Ythbndilnobjjgaa
open Go.RowKit

set_option maxHeartbeats 1000000 in
theorem fold_any (a b c : Pt) (ha : IPt a) (hb : IPt b) (hc : IPt c) (w : World) :
    Calls Try.prog 33 #[.agg #[.int .i32 a.1, .int .i32 a.2], .agg #[.int .i32 b.1, .int .i32 b.2], .agg #[.int .i32 c.1, .int .i32 c.2]] w fun e w' => e = .returned (.bool (foldF a b c)) ∧ Below w.heap.size w w' := by
  have T : Hid (∀ W, Calls Try.prog 35 #[.agg #[.int .i32 a.1, .int .i32 a.2], .agg #[.int .i32 b.1, .int .i32 b.2], .agg #[.int .i32 c.1, .int .i32 c.2]] W fun e w' => e = .returned (.int .i64 (t6 a b c)) ∧ Below W.heap.size W w') := Lib.hid (fun W => turn_any a.1 a.2 b.1 b.2 c.1 c.2 ha.1 ha.2 hb.1 hb.2 hc.1 hc.2 W)
  have O1 : Hid (∀ W, Calls Try.prog 52 #[.agg #[.int .i32 a.1, .int .i32 a.2], .agg #[.int .i32 b.1, .int .i32 b.2], .agg #[.int .i32 c.1, .int .i32 c.2]] W fun e w' => e = .returned (.bool (onP a (b, c))) ∧ Below W.heap.size W w') := Lib.hid (fun W => on_any a.1 a.2 b.1 b.2 c.1 c.2 ha.1 ha.2 hb.1 hb.2 hc.1 hc.2 W)
  have O2 : Hid (∀ W, Calls Try.prog 52 #[.agg #[.int .i32 c.1, .int .i32 c.2], .agg #[.int .i32 a.1, .int .i32 a.2], .agg #[.int .i32 b.1, .int .i32 b.2]] W fun e w' => e = .returned (.bool (onP c (a, b))) ∧ Below W.heap.size W w') := Lib.hid (fun W => on_any c.1 c.2 a.1 a.2 b.1 b.2 hc.1 hc.2 ha.1 ha.2 hb.1 hb.2 W)
  clear ha hb hc
  unfold foldF
  obtain ⟨k, hk⟩ : ∃ z, t6 a b c = z := ⟨_, rfl⟩
  obtain ⟨x, hx⟩ : ∃ z, onP a (b, c) = z := ⟨_, rfl⟩
  obtain ⟨y, hy⟩ : ∃ z, onP c (a, b) = z := ⟨_, rfl⟩
  rw [hk] at T ⊢
  rw [hx] at O1 ⊢
  rw [hy] at O2 ⊢
  clear hx hy hk
  obtain ⟨ax, ay⟩ := a
  obtain ⟨bx, by_⟩ := b
  obtain ⟨cx, cy⟩ := c
  dsimp only at *
  rcases Decidable.em (k = 0) with rfl | hk0
  · cases x
    · rw [show (decide ((0 : Int) = 0) && (false || y)) = y by simp]
      go_enter Try.func33, Try.ntmps33
      go_wp2_with fail
      refine (T.out _).mono ?_
      rintro e w1 ⟨rfl, hb_w1⟩
      obtain ⟨hc_w1, hf_w1⟩ := bcell hb_w1
      have hz_w1 := hb_w1.size
      try simp at hz_w1
      have hB_w1 : Below w.heap.size w w1 := Below.trans (by go_grown) (hb_w1.mono (by go_size))
      have hs_w1_0 : w.heap.size < w1.heap.size := by omega
      have hs_w1_1 : w.heap.size + 1 < w1.heap.size := by omega
      have hs_w1_2 : w.heap.size + 1 + 1 < w1.heap.size := by omega
      go_wp2_with fail
      refine (O1.out _).mono ?_
      rintro e w2 ⟨rfl, hb_w2⟩
      obtain ⟨hc_w2, hf_w2⟩ := bcell hb_w2
      have hz_w2 := hb_w2.size
      try simp at hz_w2
      have hB_w2 : Below w.heap.size w w2 := Below.trans (by go_grown) (hb_w2.mono (by go_size))
      have hs_w2_0 : w.heap.size < w2.heap.size := by omega
      have hs_w2_1 : w.heap.size + 1 < w2.heap.size := by omega
      have hs_w2_2 : w.heap.size + 1 + 1 < w2.heap.size := by omega
      go_wp2_with fail
      refine (O2.out _).mono ?_
      rintro e w3 ⟨rfl, hb_w3⟩
      obtain ⟨hc_w3, hf_w3⟩ := bcell hb_w3
      have hz_w3 := hb_w3.size
      try simp at hz_w3
      have hB_w3 : Below w.heap.size w w3 := Below.trans (by go_grown) (hb_w3.mono (by go_size))
      have hs_w3_0 : w.heap.size < w3.heap.size := by omega
      have hs_w3_1 : w.heap.size + 1 < w3.heap.size := by omega
      have hs_w3_2 : w.heap.size + 1 + 1 < w3.heap.size := by omega
      go_wp2_with fail
      refine bodyPost_ret (by simp [results, Try.results33, go_sem, *]; try rfl) rfl ?_
      exact ⟨rfl, by go_grown⟩
    · rw [show (decide ((0 : Int) = 0) && (true || y)) = true by simp]
      go_enter Try.func33, Try.ntmps33
      go_wp2_with fail
      refine (T.out _).mono ?_
      rintro e w1 ⟨rfl, hb_w1⟩
      obtain ⟨hc_w1, hf_w1⟩ := bcell hb_w1
      have hz_w1 := hb_w1.size
      try simp at hz_w1
      have hB_w1 : Below w.heap.size w w1 := Below.trans (by go_grown) (hb_w1.mono (by go_size))
      have hs_w1_0 : w.heap.size < w1.heap.size := by omega
      have hs_w1_1 : w.heap.size + 1 < w1.heap.size := by omega
      have hs_w1_2 : w.heap.size + 1 + 1 < w1.heap.size := by omega
      go_wp2_with fail
      refine (O1.out _).mono ?_
      rintro e w2 ⟨rfl, hb_w2⟩
      obtain ⟨hc_w2, hf_w2⟩ := bcell hb_w2
      have hz_w2 := hb_w2.size
      try simp at hz_w2
      have hB_w2 : Below w.heap.size w w2 := Below.trans (by go_grown) (hb_w2.mono (by go_size))
      have hs_w2_0 : w.heap.size < w2.heap.size := by omega
      have hs_w2_1 : w.heap.size + 1 < w2.heap.size := by omega
      have hs_w2_2 : w.heap.size + 1 + 1 < w2.heap.size := by omega
      go_wp2_with fail
      refine bodyPost_ret (by simp [results, Try.results33, go_sem, *]; try rfl) rfl ?_
      exact ⟨rfl, by go_grown⟩
  · rw [show (decide (k = 0) && (x || y)) = false by simp [hk0]]
    have hne : (k == 0) = false := beq_eq_false_iff_ne.2 hk0
    go_enter Try.func33, Try.ntmps33
    go_wp2_with fail
    refine (T.out _).mono ?_
    rintro e w1 ⟨rfl, hb_w1⟩
    obtain ⟨hc_w1, hf_w1⟩ := bcell hb_w1
    have hz_w1 := hb_w1.size
    try simp at hz_w1
    have hB_w1 : Below w.heap.size w w1 := Below.trans (by go_grown) (hb_w1.mono (by go_size))
    have hs_w1_0 : w.heap.size < w1.heap.size := by omega
    have hs_w1_1 : w.heap.size + 1 < w1.heap.size := by omega
    have hs_w1_2 : w.heap.size + 1 + 1 < w1.heap.size := by omega
    go_wp2_with fail
    refine bodyPost_ret (by simp [results, Try.results33, go_sem, *]; try rfl) rfl ?_
    exact ⟨rfl, by go_grown⟩

theorem when_any (b : Bool) (z : Int) (w : World) : Calls Try.prog 32 #[.bool b, .int .i64 z] w fun e w' => e = .returned (.int .i64 (if b then z else 0)) ∧ Below w.heap.size w w' := by
  cases b <;>
  · go_enter Try.func32, Try.ntmps32
    go_wp2_with fail
    go_ret
    exact ⟨rfl, by go_grown⟩

theorem off_any (x y : Int) (w : World) : Calls Try.prog 29 #[(Value.agg #[.int .i32 (x), .int .i32 (y)])] w fun e w' => e = .returned (.bool (!inP (x, y))) ∧ Below w.heap.size w w' := by
  have H := Lib.hid (fun W => pin_any (x, y) W)
  obtain ⟨v, hv⟩ : ∃ z, inP (x, y) = z := ⟨_, rfl⟩
  rw [hv] at H ⊢
  dsimp only at H
  clear hv
  go_enter Try.func29, Try.ntmps29
  go_wp2_with fail
  refine (H.out _).mono ?_
  rintro e w1 ⟨rfl, hb_w1⟩
  obtain ⟨hc_w1, hf_w1⟩ := bcell hb_w1
  have hz_w1 := hb_w1.size
  try simp at hz_w1
  have hB_w1 : Below w.heap.size w w1 := Below.trans (by go_grown) (hb_w1.mono (by go_size))
  have hs_w1_w_0 : w.heap.size < w1.heap.size := by omega
  go_wp2_with fail
  refine bodyPost_ret (by simp [results, Try.results29, go_sem, *]; try rfl) rfl ?_
  exact ⟨rfl, by go_grown⟩

/-- The first point off the lattice; or -1. -/
def IdxOut (ps : List Pt) (z : Int) : Prop := (∃ k : Nat, z = (k : Int) ∧ k < ps.length ∧ ¬ InAt ps k ∧ ∀ m, m < k → InAt ps m) ∨ (z = -1 ∧ ∀ m, m < ps.length → InAt ps m)
def IdxSays (ps : List Pt) (e : Ending) : Prop := ∃ z, e = .returned (.int .i64 z) ∧ IdxOut ps z
theorem idx_put {ps : List Pt} {z : Int} (h : IdxOut ps z) : IdxSays ps (.returned (.int .i64 z)) := ⟨z, rfl, h⟩

set_option maxHeartbeats 1000000 in
set_option maxRecDepth 100000 in
theorem idx_any (ps : List Pt) (n : Nat) (hn : ps.length = n) (M : Nat) (A : Option Addr) (c : Nat) (w : World) (hP : PtsAt M w (.slice A n c) ps) (hM : M ≤ w.heap.size) (hlen : n ≤ 4096) :
    Calls Try.prog 28 #[.slice A n c, .func (.func 29) #[] #[]] w fun e w' => IdxSays ps e ∧ Below w.heap.size w w' := by
  have HP := Lib.hid (And.intro hP hn)
  clear hP hn
  go_enter Try.func28, Try.ntmps28
  go_wp2_with fail
  go_loopw [5, 8] (fun u i wr => ∃ k : Nat, k ≤ n ∧ i = .int .i64 (k : Int) ∧ (∀ m, m < k → InAt ps m) ∧ Below w.heap.size w wr) (fun _ i _ => n - (intOf i).toNat)
  case atStart => exact ⟨0, by omega, rfl, fun m hm => absurd hm (by omega), by go_grown⟩
  case round =>
    obtain ⟨k, hk, rfl, hall, hB⟩ := hrel
    have hzr := hB.size
    rcases Nat.lt_or_ge k n with hlt | hge
    · have hkI : (k : Int) < (n : Int) := by omega
      obtain ⟨g, off, rfl, hg, hc⟩ := pts_cells6 HP.out.1 (by omega)
      have c1 := (hB.cell (p := ⟨g, off + k * 2, none⟩) (show g < w.heap.size by omega)).trans (hc k (by have := HP.out.2; omega)).1
      have c2 := (hB.cell (p := ⟨g, off + k * 2 + 1, none⟩) (show g < w.heap.size by omega)).trans (hc k (by have := HP.out.2; omega)).2
      have hgz : g < wr.heap.size := by omega
      have HX := Lib.hid (And.intro hall hB)
      have HI := Lib.hid (fun W => off_any (gp ps k).1 (gp ps k).2 W)
      obtain ⟨v, hv⟩ : ∃ z, inP ((gp ps k).1, (gp ps k).2) = z := ⟨_, rfl⟩
      rw [hv] at HI
      have HV : Hid (inP (gp ps k) = v) := Lib.hid hv
      clear hc hall hB hv
      cases v with
      | true =>
        go_wp2_with fail
        refine (HI.out _).mono ?_
        rintro e w3 ⟨rfl, hb3⟩
        have H3 := Lib.hid (HX.out.2.trans (hb3.mono HX.out.2.size))
        clear hb3
        rw [show (!true) = false from rfl]
        go_wp2_with fail
        go_roundw
        case rel =>
          refine ⟨k + 1, by omega, by simp, fun m hm => ?_, H3.out⟩
          rcases Nat.lt_or_ge m k with h1 | h1
          · exact HX.out.1 m h1
          · rw [show m = k by omega]; exact HV.out
        case measure => simp [intOf]; omega
      | false =>
        go_wp2_with fail
        refine (HI.out _).mono ?_
        rintro e w3 ⟨rfl, hb3⟩
        have H3 := Lib.hid (HX.out.2.trans (hb3.mono HX.out.2.size))
        clear hb3
        rw [show (!false) = true from rfl]
        go_wp2_with fail
        go_ret
        exact ⟨idx_put (.inl ⟨k, rfl, by have := HP.out.2; omega, fun h => Bool.false_ne_true (HV.out.symm.trans h), HX.out.1⟩), H3.out⟩
    · have hkI : ¬ (k : Int) < (n : Int) := by omega
      have HX : Hid ((∀ m, m < ps.length → InAt ps m) ∧ Below w.heap.size w wr) := Lib.hid ⟨fun m hm => hall m (by have := HP.out.2; omega), hB⟩
      clear hall hB
      go_wp2_with fail
      go_ret
      exact ⟨idx_put (.inr ⟨rfl, HX.out.1⟩), HX.out.2⟩

end Go.Proofs.Ythbndilnobjjgaa
