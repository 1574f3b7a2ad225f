/-
  Bounds: the program's point.Bounds and ring.Bounds.
  ring.Bounds; the document's Bounds.
-/
import Derived.Test.YthbndilnobjjgaaJoin
import Derived.Test.YthbndilnobjjgaaTail
import Derived.Test.YthbndilnobjjgaaNormP
namespace Go.Proofs.Ythbndilnobjjgaa
section
open Go.RowKit

def grow (q : Int × Int × Int × Int) (p : Int × Int) : Int × Int × Int × Int := (min q.1 p.1, min q.2.1 p.2, max q.2.2.1 p.1, max q.2.2.2 p.2)
/-- The least box around points; of none: all noughts. -/
def bnd : List (Int × Int) → Int × Int × Int × Int
  | [] => (0, 0, 0, 0)
  | p :: t => t.foldl grow (p.1, p.2, p.1, p.2)
theorem bnd_snoc {ps : List (Int × Int)} (h : 0 < ps.length) (p : Int × Int) : bnd (ps ++ [p]) = grow (bnd ps) p := by
  cases ps with
  | nil => simp at h
  | cons q t => simp [bnd]
theorem take_snoc' {ps : List (Int × Int)} {k : Nat} {p : Int × Int} (h : ps[k]? = some p) : ps.take (k + 1) = ps.take k ++ [p] := by
  rw [List.take_add_one, h]; rfl
theorem grow_eq {a b c d x y a' b' c' d' : Int} (h1 : min a x = a') (h2 : min b y = b') (h3 : max c x = c') (h4 : max d y = d') : grow (a, b, c, d) (x, y) = (a', b', c', d') := by
  unfold grow; simp only [h1, h2, h3, h4]

section
variable {w : World} {g : Nat} {t : TypeId} {a b c d : Value}
theorem box0 (h : Var w g t #[a, b, c, d]) (u : Value) : Var (w.setCell ⟨g, 0, none⟩ u) g t #[u, b, c, d] := h.store 0 u
theorem box1 (h : Var w g t #[a, b, c, d]) (u : Value) : Var (w.setCell ⟨g, 1, none⟩ u) g t #[a, u, c, d] := h.store 1 u
theorem box2 (h : Var w g t #[a, b, c, d]) (u : Value) : Var (w.setCell ⟨g, 2, none⟩ u) g t #[a, b, u, d] := h.store 2 u
theorem box3 (h : Var w g t #[a, b, c, d]) (u : Value) : Var (w.setCell ⟨g, 3, none⟩ u) g t #[a, b, c, u] := h.store 3 u
end


theorem bnd_right : ∀ {ps : List (Int × Int)} {a b c d : Int}, 0 < ps.length → bnd ps = (a, b, c, d) → a ≤ c ∧ b ≤ d := by
  have key : ∀ (t : List (Int × Int)) (q : Int × Int × Int × Int), q.1 ≤ q.2.2.1 ∧ q.2.1 ≤ q.2.2.2 → (t.foldl grow q).1 ≤ (t.foldl grow q).2.2.1 ∧ (t.foldl grow q).2.1 ≤ (t.foldl grow q).2.2.2 := by
    intro t
    induction t with
    | nil => exact fun q h => h
    | cons p t ih =>
      intro q h
      refine ih _ ?_
      unfold grow
      dsimp only
      omega
  intro ps a b c d h0 h
  cases ps with
  | nil => simp at h0
  | cons p t =>
    have hk := key t (p.1, p.2, p.1, p.2) ⟨Int.le_refl _, Int.le_refl _⟩
    change t.foldl grow (p.1, p.2, p.1, p.2) = _ at h
    rw [h] at hk
    exact hk

theorem join_right (a b c d a' b' c' d' : Int) (w : World) (h : rightB a b c d = true) (h' : rightB a' b' c' d' = true) :
    Calls Try.prog 63 #[(Value.agg #[.int .i32 (a), .int .i32 (b), .int .i32 (c), .int .i32 (d)]), (Value.agg #[.int .i32 (a'), .int .i32 (b'), .int .i32 (c'), .int .i32 (d')])] w fun e w' => e = .returned ((Value.agg #[.int .i32 (min a a'), .int .i32 (min b b'), .int .i32 (max c c'), .int .i32 (max d d')])) ∧ Below w.heap.size w w' := by
  have H := join_any a b c d a' b' c' d' w
  rw [h, h'] at H
  simpa only [jn, if_true] using H

set_option maxHeartbeats 1000000 in
set_option maxRecDepth 100000 in
theorem bounds_any (ps : List Pt) (M : Nat) (A : Option Addr) (c n : Nat) (hn : ps.length = n) (hlen : n ≤ 17592186044416) {q0 q1 q2 q3 : Int} (hq : bnd ps = (q0, q1, q2, q3)) (w : World) (hP : PtsAt M w (.slice A n c) ps) (hM : M ≤ w.heap.size) (hc : n ≤ c) (_hcm : c ≤ 9223372036854775807) :
    Calls Try.prog 47 #[.slice A n c] w fun e w' => e = .returned (.tuple #[(Value.agg #[.int .i32 (q0), .int .i32 (q1), .int .i32 (q2), .int .i32 (q3)]), .bool (decide (0 < n))]) ∧ Below w.heap.size w w' := by
  rcases Nat.eq_zero_or_pos n with h0 | h0
  · subst h0
    obtain rfl : ps = [] := List.eq_nil_of_length_eq_zero hn
    simp only [bnd, Prod.mk.injEq] at hq
    obtain ⟨rfl, rfl, rfl, rfl⟩ := hq
    go_enter Try.func47, Try.ntmps47
    go_wp2_with fail
    refine bodyPost_ret (by simp [results, Try.results47, go_sem, *]; try rfl) rfl ?_
    exact ⟨rfl, by go_grown⟩
  · obtain ⟨b, off, rfl, hb, hc⟩ : ∃ b off, A = some ⟨b, off, none⟩ ∧ b < M ∧ ∀ k, k < ps.length → w.cell? ⟨b, off + k * 2, none⟩ = some (.int .i32 (gp ps k).1) ∧ w.cell? ⟨b, off + k * 2 + 1, none⟩ = some (.int .i32 (gp ps k).2) := by
      rcases hP with ⟨⟨A0, c0, _⟩, he⟩ | ⟨b, off, cap, he, hb, hc⟩
      · rw [he] at hn; simp at hn; omega
      · injection he with he1 he2 he3
        exact ⟨b, off, he1, hb, hc⟩
    have hbw : b < w.heap.size := by omega
    have hC := Lib.hid hc
    have HQ := Lib.hid (And.intro hq hn)
    obtain ⟨c0, c1⟩ := hc 0 (by omega)
    rw [Nat.zero_mul, Nat.add_zero] at c0 c1
    have hb0 : bnd (ps.take 1) = ((gp ps 0).1, (gp ps 0).2, (gp ps 0).1, (gp ps 0).2) := by
      cases ps with
      | nil => simp at hn; omega
      | cons p t => rfl
    obtain ⟨⟨p1, p2⟩, hp⟩ : ∃ p, gp ps 0 = p := ⟨_, rfl⟩
    rw [hp] at c0 c1 hb0
    dsimp only at c0 c1 hb0
    have hd1 : ((n : Int) == 0) = false := by simp; omega
    have hnI : (0 : Int) < (n : Int) := by omega
    have hd2 : decide (0 < n) = true := by simp; omega
    rw [hd2]
    clear hc hq hP hp hd2
    rcases Nat.lt_or_ge 1 n with hn2 | hn2
    · have hc1 : ¬ c = 1 := by omega
      go_enter Try.func47, Try.ntmps47
      go_wp2_with fail
      refine wp_gen (fun W hW => ?_)
      have vR : Var W w.heap.size 42 #[.int .i32 0, .int .i32 0, .int .i32 0, .int .i32 0] := by rw [hW]; exact Var.new _ _ _
      have hBW : Below w.heap.size w W := by rw [hW]; go_grown
      have d0 : W.cell? ⟨b, off, none⟩ = some (.int .i32 p1) := (hBW.cell (p := ⟨b, off, none⟩) hbw).trans c0
      have d1 : W.cell? ⟨b, off + 1, none⟩ = some (.int .i32 p2) := (hBW.cell (p := ⟨b, off + 1, none⟩) hbw).trans c1
      have hbW : b < W.heap.size := by have := hBW.size; omega
      have hRW := vR.lt
      clear hW c0 c1
      go_region
      go_wp2_with fail
      refine wp_gen (fun W2 hW2 => ?_)
      have vX : Var W2 W.heap.size 42 #[.int .i32 p1, .int .i32 p2, .int .i32 p1, .int .i32 p2] := by rw [hW2]; exact Var.new _ _ _
      have hBW2 : Below W.heap.size W W2 := by rw [hW2]; go_grown
      have vR2 := vR.keep hBW2
      have hBT : Below w.heap.size w W2 := hBW.trans (hBW2.mono hBW.size)
      obtain ⟨X, hX⟩ : ∃ X, W.heap.size = X := ⟨_, rfl⟩
      have hRX : w.heap.size < X := by omega
      rw [hX] at vX ⊢
      clear hW2 hBW2 hX vR d0 d1 hbW hRW hBW
      have hn1 : IntKind.i64.wrap ((n : Int) - 1) = (n : Int) - 1 := by simp only [IntKind.wrap, IntKind.signed, IntKind.bits]; simp; omega
      go_loopw [21] (fun t wr => ∃ (k : Nat) (x y z u : Int), k + 1 ≤ n ∧ t = .int .i64 (k : Int) ∧ bnd (ps.take (k + 1)) = (x, y, z, u) ∧ Var wr X 42 #[.int .i32 x, .int .i32 y, .int .i32 z, .int .i32 u] ∧ Var wr w.heap.size 42 #[.int .i32 0, .int .i32 0, .int .i32 0, .int .i32 0] ∧ Below w.heap.size w wr)
        (fun t _ => n - (intOf t).toNat)
      case atStart => exact ⟨0, p1, p2, p1, p2, by omega, rfl, hb0, vX, vR2, hBT⟩
      case round =>
        obtain ⟨k, x, y, z, u, hk, rfl, hbk, hVr, hRr, hB⟩ := hrel
        clear hb0 vX vR2 hBT
        have hz := hB.size
        have r0 : wr.cell? ⟨w.heap.size, 0, none⟩ = some (.int .i32 0) := hRr.cell 0
        have r1 : wr.cell? ⟨w.heap.size, 1, none⟩ = some (.int .i32 0) := hRr.cell 1
        have r2 : wr.cell? ⟨w.heap.size, 2, none⟩ = some (.int .i32 0) := hRr.cell 2
        have r3 : wr.cell? ⟨w.heap.size, 3, none⟩ = some (.int .i32 0) := hRr.cell 3
        have g0 := hRr.free 0
        have g1 := hRr.free 1
        have g2 := hRr.free 2
        have g3 := hRr.free 3
        have x0 : wr.cell? ⟨X, 0, none⟩ = some (.int .i32 x) := hVr.cell 0
        have x1 : wr.cell? ⟨X, 1, none⟩ = some (.int .i32 y) := hVr.cell 1
        have x2 : wr.cell? ⟨X, 2, none⟩ = some (.int .i32 z) := hVr.cell 2
        have x3 : wr.cell? ⟨X, 3, none⟩ = some (.int .i32 u) := hVr.cell 3
        have hXz := hVr.lt
        have hRz := hRr.lt
        rcases Nat.lt_or_ge (k + 1) n with hlt | hge
        · have hkI : (k : Int) < (n : Int) - 1 := by omega
          obtain ⟨c1, c2⟩ := hC.out (k + 1) (by rw [HQ.out.2]; omega)
          have htk := take_snoc' (ps := ps) (k := k + 1) (p := gp ps (k + 1)) (by unfold gp; rw [List.getElem?_eq_getElem (by rw [HQ.out.2]; omega)]; rfl)
          obtain ⟨⟨v1, v2⟩, hv⟩ : ∃ p, gp ps (k + 1) = p := ⟨_, rfl⟩
          rw [hv] at c1 c2 htk
          dsimp only at c1 c2
          have hbn : bnd (ps.take (k + 1 + 1)) = (min x v1, min y v2, max z v1, max u v2) := by
            rw [htk, bnd_snoc (by rw [List.length_take, HQ.out.2]; omega), hbk]
            rfl
          obtain ⟨hr1, hr2⟩ := bnd_right (by rw [List.length_take, HQ.out.2]; omega) hbk
          have c1 := (hB.cell (p := ⟨b, off + (k + 1) * 2, none⟩) hbw).trans c1
          have c2 := (hB.cell (p := ⟨b, off + (k + 1) * 2 + 1, none⟩) hbw).trans c2
          rw [show off + (k + 1) * 2 = off + 2 + k * 2 by omega] at c1 c2
          have HJ := Lib.hid (fun W => join_right x y z u v1 v2 v1 v2 W (decide_eq_true ⟨hr1, hr2⟩) (decide_eq_true ⟨Int.le_refl _, Int.le_refl _⟩))
          have hbX : ¬ b = X := by omega
          have HB := Lib.hid (And.intro hbn (And.intro hbk hB))
          clear hbn hbk hB htk hv
          go_wp2_with fail
          refine (HJ.out _).mono ?_
          rintro e w3 ⟨rfl, hb3⟩
          have hb4 : Below wr.heap.size wr w3 := Below.trans (by go_grown) (hb3.mono (by simp))
          have hV3 := hVr.keep hb4
          have hR3 := hRr.keep hb4
          have hB3 : Below w.heap.size w w3 := HB.out.2.2.trans (hb4.mono hz)
          have y0 : w3.cell? ⟨X, 0, none⟩ = some (.int .i32 x) := hV3.cell 0
          have y1 : w3.cell? ⟨X, 1, none⟩ = some (.int .i32 y) := hV3.cell 1
          have y2 : w3.cell? ⟨X, 2, none⟩ = some (.int .i32 z) := hV3.cell 2
          have y3 : w3.cell? ⟨X, 3, none⟩ = some (.int .i32 u) := hV3.cell 3
          have f0 := hV3.free 0
          have f1 := hV3.free 1
          have f2 := hV3.free 2
          have f3 := hV3.free 3
          have hXz3 := hV3.lt
          clear x0 x1 x2 x3 r0 r1 r2 r3 g0 g1 g2 g3 c1 c2 hb3 hb4 hz hVr hRr
          go_wp2_with fail
          go_roundw
          case rel => exact ⟨k + 1, _, _, _, _, by omega, by simp, HB.out.1, box3 (box2 (box1 (box0 hV3 _) _) _) _, Var.below (B := w.heap.size + 1) hR3 (by go_grown) (by omega), by go_grown⟩
          case measure => simp [intOf]; omega
        · have hkn : n = k + 1 := by omega
          have hfin : (x, y, z, u) = (q0, q1, q2, q3) := by
            rw [← hbk, ← HQ.out.1, List.take_of_length_le (by rw [HQ.out.2]; omega)]
          simp only [Prod.mk.injEq] at hfin
          obtain ⟨rfl, rfl, rfl, rfl⟩ := hfin
          have hkI : ¬ (k : Int) < (n : Int) - 1 := by omega
          clear hkn
          go_wp2_with fail
          refine bodyPost_ret (by simp [results, Try.results47, go_sem, *]; try rfl) rfl ?_
          exact ⟨rfl, by go_grown⟩

    · obtain rfl : n = 1 := by omega
      go_enter Try.func47, Try.ntmps47
      go_wp2_with fail
      refine wp_gen (fun W hW => ?_)
      have vR : Var W w.heap.size 42 #[.int .i32 0, .int .i32 0, .int .i32 0, .int .i32 0] := by rw [hW]; exact Var.new _ _ _
      have hBW : Below w.heap.size w W := by rw [hW]; go_grown
      have d0 : W.cell? ⟨b, off, none⟩ = some (.int .i32 p1) := (hBW.cell (p := ⟨b, off, none⟩) hbw).trans c0
      have d1 : W.cell? ⟨b, off + 1, none⟩ = some (.int .i32 p2) := (hBW.cell (p := ⟨b, off + 1, none⟩) hbw).trans c1
      have hbW : b < W.heap.size := by have := hBW.size; omega
      have hRW := vR.lt
      clear hW c0 c1
      go_region
      go_wp2_with fail
      all_goals
        refine wp_gen (fun W2 hW2 => ?_)
        have vX : Var W2 W.heap.size 42 #[.int .i32 p1, .int .i32 p2, .int .i32 p1, .int .i32 p2] := by rw [hW2]; exact Var.new _ _ _
        have hBW2 : Below W.heap.size W W2 := by rw [hW2]; go_grown
        have vR2 := vR.keep hBW2
        have hBT : Below w.heap.size w W2 := hBW.trans (hBW2.mono hBW.size)
        obtain ⟨X, hX⟩ : ∃ X, W.heap.size = X := ⟨_, rfl⟩
        have hRX : w.heap.size < X := by omega
        rw [hX] at vX ⊢
        clear hW2 hBW2 hX vR d0 d1 hbW hRW hBW
        go_loopw [21] (fun t wr => t = .int .i64 0 ∧ Var wr X 42 #[.int .i32 p1, .int .i32 p2, .int .i32 p1, .int .i32 p2] ∧ Var wr w.heap.size 42 #[.int .i32 0, .int .i32 0, .int .i32 0, .int .i32 0] ∧ Below w.heap.size w wr)
          (fun _ _ => 0)
        case atStart => exact ⟨rfl, vX, vR2, hBT⟩
        case round =>
          obtain ⟨rfl, hVr, hRr, hB⟩ := hrel
          have hfin : (p1, p2, p1, p2) = (q0, q1, q2, q3) := by
            rw [← hb0, ← HQ.out.1, List.take_of_length_le (by rw [HQ.out.2]; omega)]
          clear hb0 vX vR2 hBT
          have hz := hB.size
          have r0 : wr.cell? ⟨w.heap.size, 0, none⟩ = some (.int .i32 0) := hRr.cell 0
          have r1 : wr.cell? ⟨w.heap.size, 1, none⟩ = some (.int .i32 0) := hRr.cell 1
          have r2 : wr.cell? ⟨w.heap.size, 2, none⟩ = some (.int .i32 0) := hRr.cell 2
          have r3 : wr.cell? ⟨w.heap.size, 3, none⟩ = some (.int .i32 0) := hRr.cell 3
          have g0 := hRr.free 0
          have g1 := hRr.free 1
          have g2 := hRr.free 2
          have g3 := hRr.free 3
          have x0 : wr.cell? ⟨X, 0, none⟩ = some (.int .i32 p1) := hVr.cell 0
          have x1 : wr.cell? ⟨X, 1, none⟩ = some (.int .i32 p2) := hVr.cell 1
          have x2 : wr.cell? ⟨X, 2, none⟩ = some (.int .i32 p1) := hVr.cell 2
          have x3 : wr.cell? ⟨X, 3, none⟩ = some (.int .i32 p2) := hVr.cell 3
          have hXz := hVr.lt
          have hRz := hRr.lt
          simp only [Prod.mk.injEq] at hfin
          obtain ⟨rfl, rfl, rfl, rfl⟩ := hfin
          go_wp2_with fail
          refine bodyPost_ret (by simp [results, Try.results47, go_sem, *]; try rfl) rfl ?_
          exact ⟨rfl, by go_grown⟩
end

section
open Go.RowKit

theorem ringBounds_any (ps : List Pt) (M : Nat) (A : Option Addr) (c n : Nat) (hn : ps.length = n) (hlen : n ≤ 17592186044416) {q0 q1 q2 q3 : Int} (hq : bnd ps = (q0, q1, q2, q3)) (w : World) (hP : PtsAt M w (.slice A n c) ps) (hM : M ≤ w.heap.size) (hc : n ≤ c) (hcm : c ≤ 9223372036854775807) :
    Calls Try.prog 20 #[.slice A n c] w fun e w' => e = .returned (.tuple #[(Value.agg #[.int .i32 (q0), .int .i32 (q1), .int .i32 (q2), .int .i32 (q3)]), .bool (decide (0 < n))]) ∧ Below w.heap.size w w' := by
  have B := Lib.hid (fun W (h : Below w.heap.size w W) => bounds_any ps M A c n hn hlen hq W (hP.below (h.mono hM)) (Nat.le_trans hM h.size) hc hcm)
  clear hP hn hq
  go_enter Try.func20, Try.ntmps20
  go_wp2_with fail
  refine (B.out _ (by go_grown)).mono ?_
  rintro e w1 ⟨rfl, hb⟩
  have hB : Below w.heap.size w w1 := Below.trans (by go_grown) (hb.mono (by simp))
  have vR : Var w1 w.heap.size 42 #[.int .i32 0, .int .i32 0, .int .i32 0, .int .i32 0] := (Var.new _ _ _).keep hb
  have r0 : w1.cell? ⟨w.heap.size, 0, none⟩ = some (.int .i32 0) := vR.cell 0
  have r1 : w1.cell? ⟨w.heap.size, 1, none⟩ = some (.int .i32 0) := vR.cell 1
  have r2 : w1.cell? ⟨w.heap.size, 2, none⟩ = some (.int .i32 0) := vR.cell 2
  have r3 : w1.cell? ⟨w.heap.size, 3, none⟩ = some (.int .i32 0) := vR.cell 3
  have g0 := vR.free 0
  have g1 := vR.free 1
  have g2 := vR.free 2
  have g3 := vR.free 3
  have hRz := vR.lt
  have HB := Lib.hid hB
  clear hb hB
  go_wp2_with fail
  refine bodyPost_ret (by simp [results, Try.results20, go_sem, *]; try rfl) rfl ?_
  have hB := HB.out
  exact ⟨rfl, by go_grown⟩

/-- The first k points taken into the box around the first one. -/
def gro (ps : List Pt) (k : Nat) : Int × Int × Int × Int := (ps.take k).foldl grow ((gp ps 0).1, (gp ps 0).2, (gp ps 0).1, (gp ps 0).2)
theorem gro_succ {ps : List Pt} {k : Nat} (h : k < ps.length) : gro ps (k + 1) = grow (gro ps k) (gp ps k) := by
  have e : ps[k]? = some (gp ps k) := by unfold gp; rw [List.getElem?_eq_getElem h]; rfl
  unfold gro
  rw [take_snoc' e, List.foldl_append]
  rfl
theorem gro_all {ps : List Pt} (h : 0 < ps.length) : gro ps ps.length = bnd ps := by
  cases ps with
  | nil => simp at h
  | cons p t =>
    unfold gro
    rw [List.take_length]
    show t.foldl grow (grow (p.1, p.2, p.1, p.2) p) = t.foldl grow (p.1, p.2, p.1, p.2)
    have e : grow (p.1, p.2, p.1, p.2) p = (p.1, p.2, p.1, p.2) := by unfold grow; simp
    rw [e]

set_option maxHeartbeats 1000000 in
set_option maxRecDepth 100000 in
theorem bounds06 (ps : List Pt) (M : Nat) (A : Option Addr) (c n : Nat) (hn : ps.length = n) (hlen : n ≤ 17592186044416) {q0 q1 q2 q3 : Int} (hq : bnd ps = (q0, q1, q2, q3)) (w : World) (hP : PtsAt M w (.slice A n c) ps) (hM : M ≤ w.heap.size) :
    Calls Try.prog 21 #[.slice A n c] w fun e w' => e = .returned (.tuple #[(Value.agg #[.int .i32 (q0), .int .i32 (q1), .int .i32 (q2), .int .i32 (q3)]), .bool (decide (0 < n))]) ∧ Below w.heap.size w w' := by
  rcases Nat.eq_zero_or_pos n with h0 | h0
  · subst h0
    obtain rfl : ps = [] := List.eq_nil_of_length_eq_zero hn
    simp only [bnd, Prod.mk.injEq] at hq
    obtain ⟨rfl, rfl, rfl, rfl⟩ := hq
    clear hP
    go_enter Try.func21, Try.ntmps21
    go_wp2_with fail
    refine bodyPost_ret (by simp [results, Try.results21, go_sem, *]; try rfl) rfl ?_
    exact ⟨rfl, by go_grown⟩
  · obtain ⟨b, off, rfl, hb, hc⟩ : ∃ b off, A = some ⟨b, off, none⟩ ∧ b < M ∧ ∀ k, k < ps.length → w.cell? ⟨b, off + k * 2, none⟩ = some (.int .i32 (gp ps k).1) ∧ w.cell? ⟨b, off + k * 2 + 1, none⟩ = some (.int .i32 (gp ps k).2) := by
      rcases hP with ⟨⟨A0, c0, _⟩, he⟩ | ⟨b, off, cap, he, hb, hc⟩
      · rw [he] at hn; simp at hn; omega
      · injection he with he1 he2 he3
        exact ⟨b, off, he1, hb, hc⟩
    have hbw : b < w.heap.size := by omega
    have HC : Hid (∀ W, Below w.heap.size w W → ∀ k, k < n → W.cell? ⟨b, off + k * 2, none⟩ = some (.int .i32 (gp ps k).1) ∧ W.cell? ⟨b, off + k * 2 + 1, none⟩ = some (.int .i32 (gp ps k).2)) := Lib.hid (fun W h k hk => ⟨(h.cell (p := ⟨b, off + k * 2, none⟩) hbw).trans (hc k (by omega)).1, (h.cell (p := ⟨b, off + k * 2 + 1, none⟩) hbw).trans (hc k (by omega)).2⟩)
    have HS : Hid (∀ k, k < n → gro ps (k + 1) = grow (gro ps k) (gp ps k)) := Lib.hid (fun k hk => gro_succ (by omega))
    have HE : Hid (gro ps n = (q0, q1, q2, q3)) := Lib.hid (by rw [← hq, ← gro_all (by omega), hn])
    have H0 : Hid (gro ps 0 = ((gp ps 0).1, (gp ps 0).2, (gp ps 0).1, (gp ps 0).2)) := Lib.hid rfl
    obtain ⟨⟨p1, p2⟩, hp⟩ : ∃ p, gp ps 0 = p := ⟨_, rfl⟩
    obtain ⟨c0, c1⟩ := HC.out w (Below.refl _ _) 0 h0
    rw [hp, Nat.zero_mul, Nat.add_zero] at c0 c1
    rw [hp] at H0
    dsimp only at c0 c1 H0
    clear hc hP hn hq hp hM hb
    have hn0 : ((n : Int) == 0) = false := by rw [beq_eq_false_iff_ne]; omega
    have hn1 : ¬ n = 0 := by omega
    have hn2 : (0 : Int) < (n : Int) := by omega
    go_enter Try.func21, Try.ntmps21
    go_wp2_with fail
    refine wp_gen (fun W hW => ?_)
    have vR : Var W w.heap.size 42 #[.int .i32 0, .int .i32 0, .int .i32 0, .int .i32 0] := by rw [hW]; exact Var.new _ _ _
    have hBW : Below w.heap.size w W := by rw [hW]; go_grown
    have d0 : W.cell? ⟨b, off, none⟩ = some (.int .i32 p1) := (hBW.cell (p := ⟨b, off, none⟩) hbw).trans c0
    have d1 : W.cell? ⟨b, off + 1, none⟩ = some (.int .i32 p2) := (hBW.cell (p := ⟨b, off + 1, none⟩) hbw).trans c1
    have hbW : b < W.heap.size := by have := hBW.size; omega
    have hRW := vR.lt
    clear hW c0 c1
    go_region
    go_wp2_with fail
    refine wp_gen (fun W2 hW2 => ?_)
    have vX : Var W2 W.heap.size 42 #[.int .i32 p1, .int .i32 p2, .int .i32 p1, .int .i32 p2] := by rw [hW2]; exact Var.new _ _ _
    have hBW2 : Below W.heap.size W W2 := by rw [hW2]; go_grown
    have vR2 := vR.keep hBW2
    have hBT : Below w.heap.size w W2 := hBW.trans (hBW2.mono hBW.size)
    obtain ⟨X, hX⟩ : ∃ X, W.heap.size = X := ⟨_, rfl⟩
    have hRX : w.heap.size < X := by omega
    rw [hX] at vX ⊢
    clear hW2 hBW2 hX vR d0 d1 hbW hRW hBW
    go_loopw [5] (fun t wr => ∃ (k : Nat) (x y z u : Int), k ≤ n ∧ t = .int .i64 (k : Int) ∧ gro ps k = (x, y, z, u) ∧ Var wr X 42 #[.int .i32 x, .int .i32 y, .int .i32 z, .int .i32 u] ∧ Var wr w.heap.size 42 #[.int .i32 0, .int .i32 0, .int .i32 0, .int .i32 0] ∧ Below w.heap.size w wr) (fun t _ => n - (intOf t).toNat)
    case atStart => exact ⟨0, p1, p2, p1, p2, by omega, rfl, H0.out, vX, vR2, hBT⟩
    case round =>
      obtain ⟨k, x, y, z, u, hk, rfl, hbk, hVr, hRr, hB⟩ := hrel
      clear vX vR2 hBT
      have hz := hB.size
      have x0 : wr.cell? ⟨X, 0, none⟩ = some (.int .i32 x) := hVr.cell 0
      have x1 : wr.cell? ⟨X, 1, none⟩ = some (.int .i32 y) := hVr.cell 1
      have x2 : wr.cell? ⟨X, 2, none⟩ = some (.int .i32 z) := hVr.cell 2
      have x3 : wr.cell? ⟨X, 3, none⟩ = some (.int .i32 u) := hVr.cell 3
      have f0 := hVr.free 0
      have hXz := hVr.lt
      have hRz := hRr.lt
      rcases Nat.lt_or_ge k n with hlt | hge
      · have hkI : (k : Int) < (n : Int) := by omega
        obtain ⟨c1, c2⟩ := HC.out wr hB k hlt
        have hgs := HS.out k hlt
        rw [hbk] at hgs
        obtain ⟨⟨v1, v2⟩, hv⟩ : ∃ p, gp ps k = p := ⟨_, rfl⟩
        rw [hv] at c1 c2 hgs
        dsimp only at c1 c2 hgs
        have hbX : ¬ b = X := by omega
        have hbr : b < wr.heap.size := by omega
        have HG := Lib.hid hgs
        clear hbk hgs
        obtain ⟨x', hx'⟩ : ∃ m, min x v1 = m := ⟨_, rfl⟩
        obtain ⟨y', hy'⟩ : ∃ m, min y v2 = m := ⟨_, rfl⟩
        obtain ⟨z', hz'⟩ : ∃ m, max z v1 = m := ⟨_, rfl⟩
        obtain ⟨u', hu'⟩ : ∃ m, max u v2 = m := ⟨_, rfl⟩
        have hgg := Lib.hid (HG.out.trans (grow_eq hx' hy' hz' hu'))
        have i0 : (if v1 < x then v1 else x) = x' := by rw [← hx']; split <;> omega
        have i1 : (if v2 < y then v2 else y) = y' := by rw [← hy']; split <;> omega
        have i2 : (if z < v1 then v1 else z) = z' := by rw [← hz']; split <;> omega
        have i3 : (if u < v2 then v2 else u) = u' := by rw [← hu']; split <;> omega
        have HI := Lib.hid (And.intro i0 (And.intro i1 (And.intro i2 i3)))
        clear hx' hy' hz' hu' i0 i1 i2 i3 HG
        have hbwX := Lib.hid hbX
        go_wp2_with fail
        go_region
        rw [HI.out.1]
        go_wp2_with fail
        refine wp_gen (fun W3 hW3 => ?_)
        have vW3 : Var W3 X 42 #[.int .i32 x', .int .i32 y, .int .i32 z, .int .i32 u] := by rw [hW3]; exact (box0 hVr _).drew
        have rW3 : Var W3 w.heap.size 42 #[.int .i32 0, .int .i32 0, .int .i32 0, .int .i32 0] := by rw [hW3]; exact (Var.far hRr (by show w.heap.size ≠ X; omega) _).drew
        have bW3 : Below w.heap.size w W3 := by rw [hW3]; exact (hB.setCell (by show w.heap.size ≤ X; omega) _).drew
        obtain ⟨c1_0, c2_0⟩ := HC.out W3 bW3 k hlt
        rw [hv] at c1_0 c2_0
        dsimp only at c1_0 c2_0
        have x0_0 : W3.cell? ⟨X, 0, none⟩ = some (.int .i32 x') := vW3.cell 0
        have x1_0 : W3.cell? ⟨X, 1, none⟩ = some (.int .i32 y) := vW3.cell 1
        have x2_0 : W3.cell? ⟨X, 2, none⟩ = some (.int .i32 z) := vW3.cell 2
        have x3_0 : W3.cell? ⟨X, 3, none⟩ = some (.int .i32 u) := vW3.cell 3
        have f1_0 := vW3.free 1
        have l0 := vW3.lt
        have lb0 : b < W3.heap.size := by have := bW3.size; omega
        clear x0 x1 x2 x3 f0 hXz hRz hbr c1 c2 hVr hRr hB hW3
        go_region
        rw [HI.out.2.1]
        go_wp2_with fail
        refine wp_gen (fun W4 hW4 => ?_)
        have vW4 : Var W4 X 42 #[.int .i32 x', .int .i32 y', .int .i32 z, .int .i32 u] := by rw [hW4]; exact (box1 vW3 _).drew
        have rW4 : Var W4 w.heap.size 42 #[.int .i32 0, .int .i32 0, .int .i32 0, .int .i32 0] := by rw [hW4]; exact (Var.far rW3 (by show w.heap.size ≠ X; omega) _).drew
        have bW4 : Below w.heap.size w W4 := by rw [hW4]; exact (bW3.setCell (by show w.heap.size ≤ X; omega) _).drew
        obtain ⟨c1_1, c2_1⟩ := HC.out W4 bW4 k hlt
        rw [hv] at c1_1 c2_1
        dsimp only at c1_1 c2_1
        have x0_1 : W4.cell? ⟨X, 0, none⟩ = some (.int .i32 x') := vW4.cell 0
        have x1_1 : W4.cell? ⟨X, 1, none⟩ = some (.int .i32 y') := vW4.cell 1
        have x2_1 : W4.cell? ⟨X, 2, none⟩ = some (.int .i32 z) := vW4.cell 2
        have x3_1 : W4.cell? ⟨X, 3, none⟩ = some (.int .i32 u) := vW4.cell 3
        have f2_1 := vW4.free 2
        have l1 := vW4.lt
        have lb1 : b < W4.heap.size := by have := bW4.size; omega
        clear x0_0 x1_0 x2_0 x3_0 f1_0 l0 lb0 c1_0 c2_0 vW3 rW3 bW3 hW4
        go_region
        rw [HI.out.2.2.1]
        go_wp2_with fail
        refine wp_gen (fun W5 hW5 => ?_)
        have vW5 : Var W5 X 42 #[.int .i32 x', .int .i32 y', .int .i32 z', .int .i32 u] := by rw [hW5]; exact (box2 vW4 _).drew
        have rW5 : Var W5 w.heap.size 42 #[.int .i32 0, .int .i32 0, .int .i32 0, .int .i32 0] := by rw [hW5]; exact (Var.far rW4 (by show w.heap.size ≠ X; omega) _).drew
        have bW5 : Below w.heap.size w W5 := by rw [hW5]; exact (bW4.setCell (by show w.heap.size ≤ X; omega) _).drew
        obtain ⟨c1_2, c2_2⟩ := HC.out W5 bW5 k hlt
        rw [hv] at c1_2 c2_2
        dsimp only at c1_2 c2_2
        have x0_2 : W5.cell? ⟨X, 0, none⟩ = some (.int .i32 x') := vW5.cell 0
        have x1_2 : W5.cell? ⟨X, 1, none⟩ = some (.int .i32 y') := vW5.cell 1
        have x2_2 : W5.cell? ⟨X, 2, none⟩ = some (.int .i32 z') := vW5.cell 2
        have x3_2 : W5.cell? ⟨X, 3, none⟩ = some (.int .i32 u) := vW5.cell 3
        have f3_2 := vW5.free 3
        have l2 := vW5.lt
        have lb2 : b < W5.heap.size := by have := bW5.size; omega
        clear x0_1 x1_1 x2_1 x3_1 f2_1 l1 lb1 c1_1 c2_1 vW4 rW4 bW4 hW5
        go_region
        rw [HI.out.2.2.2]
        go_wp2_with fail
        go_roundw
        case rel => exact ⟨k + 1, _, _, _, _, hlt, by simp, hgg.out, (box3 vW5 _).drew, (Var.far rW5 (by show w.heap.size ≠ X; omega) _).drew, (bW5.setCell (by show w.heap.size ≤ X; omega) _).drew⟩
        case measure => simp [intOf]; omega
      · obtain rfl : k = n := by omega
        have hf := hbk.symm.trans HE.out
        injection hf with e0 hf
        injection hf with e1 hf
        injection hf with e2 e3
        subst e0 e1 e2 e3
        have r0 : wr.cell? ⟨w.heap.size, 0, none⟩ = some (.int .i32 0) := hRr.cell 0
        have r1 : wr.cell? ⟨w.heap.size, 1, none⟩ = some (.int .i32 0) := hRr.cell 1
        have r2 : wr.cell? ⟨w.heap.size, 2, none⟩ = some (.int .i32 0) := hRr.cell 2
        have r3 : wr.cell? ⟨w.heap.size, 3, none⟩ = some (.int .i32 0) := hRr.cell 3
        have g0 := hRr.free 0
        have g1 := hRr.free 1
        have g2 := hRr.free 2
        have g3 := hRr.free 3
        have hwX : ¬ w.heap.size = X := by omega
        have HB := Lib.hid hB
        clear hB
        go_wp2_with fail
        refine bodyPost_ret (by simp [results, Try.results21, go_sem, *]; try rfl) rfl ?_
        have hB := HB.out
        exact ⟨by rw [decide_eq_true h0], by go_grown⟩
end

end Go.Proofs.Ythbndilnobjjgaa
