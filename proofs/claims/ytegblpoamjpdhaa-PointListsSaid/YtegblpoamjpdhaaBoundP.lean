/-
  The program's Bounds.
-/
import Derived.Test.YtegblpoamjpdhaaBounds
import Derived.Test.YtegblpoamjpdhaaTail
import Derived.Test.YtegblpoamjpdhaaPts
namespace Go.Proofs.Ytegblpoamjpdhaa
open Go.RowKit

theorem bnd_right : ∀ {ps : List (Int × Int)} {a b c d : Int}, 0 < ps.length → bnd ps = (a, b, c, d) → a ≤ c ∧ b ≤ d := by
  have key : ∀ (t : List (Int × Int)) (q : Int × Int × Int × Int), q.1 ≤ q.2.2.1 ∧ q.2.1 ≤ q.2.2.2 → (t.foldl grow q).1 ≤ (t.foldl grow q).2.2.1 ∧ (t.foldl grow q).2.1 ≤ (t.foldl grow q).2.2.2 := by
    intro t
    induction t with
    | nil => exact fun q h => h
    | cons p t ih =>
      intro q h
      refine ih _ ?_
      unfold grow
      dsimp only
      omega
  intro ps a b c d h0 h
  cases ps with
  | nil => simp at h0
  | cons p t =>
    have hk := key t (p.1, p.2, p.1, p.2) ⟨Int.le_refl _, Int.le_refl _⟩
    change t.foldl grow (p.1, p.2, p.1, p.2) = _ at h
    rw [h] at hk
    exact hk

theorem join_right (a b c d a' b' c' d' : Int) (w : World) (h : rightB a b c d = true) (h' : rightB a' b' c' d' = true) :
    Calls Try.prog 16 #[(Value.agg #[.int .i32 (a), .int .i32 (b), .int .i32 (c), .int .i32 (d)]), (Value.agg #[.int .i32 (a'), .int .i32 (b'), .int .i32 (c'), .int .i32 (d')])] w fun e w' => e = .returned ((Value.agg #[.int .i32 (min a a'), .int .i32 (min b b'), .int .i32 (max c c'), .int .i32 (max d d')])) ∧ Below w.heap.size w w' := by
  have H := join_any a b c d a' b' c' d' w
  rw [h, h'] at H
  simpa only [jn, if_true] using H

set_option maxHeartbeats 1000000 in
set_option maxRecDepth 100000 in
theorem bounds_any (ps : List Pt) (M : Nat) (A : Option Addr) (c n : Nat) (hn : ps.length = n) (hlen : n ≤ 17592186044416) {q0 q1 q2 q3 : Int} (hq : bnd ps = (q0, q1, q2, q3)) (w : World) (hP : PtsAt M w (.slice A n c) ps) (hM : M ≤ w.heap.size) (hc : n ≤ c) (_hcm : c ≤ 9223372036854775807) :
    Calls Try.prog 19 #[.slice A n c] w fun e w' => e = .returned (.tuple #[(Value.agg #[.int .i32 (q0), .int .i32 (q1), .int .i32 (q2), .int .i32 (q3)]), .bool (decide (0 < n))]) ∧ Below w.heap.size w w' := by
  rcases Nat.eq_zero_or_pos n with h0 | h0
  · subst h0
    obtain rfl : ps = [] := List.eq_nil_of_length_eq_zero hn
    simp only [bnd, Prod.mk.injEq] at hq
    obtain ⟨rfl, rfl, rfl, rfl⟩ := hq
    go_enter Try.func19, Try.ntmps19
    go_wp2_with fail
    refine bodyPost_ret (by simp [results, Try.results19, go_sem, *]; try rfl) rfl ?_
    exact ⟨rfl, by go_grown⟩
  · obtain ⟨b, off, rfl, hb, hc⟩ : ∃ b off, A = some ⟨b, off, none⟩ ∧ b < M ∧ ∀ k, k < ps.length → w.cell? ⟨b, off + k * 2, none⟩ = some (.int .i32 (gp ps k).1) ∧ w.cell? ⟨b, off + k * 2 + 1, none⟩ = some (.int .i32 (gp ps k).2) := by
      rcases hP with ⟨⟨A0, c0, _⟩, he⟩ | ⟨b, off, cap, he, hb, hc⟩
      · rw [he] at hn; simp at hn; omega
      · injection he with he1 he2 he3
        exact ⟨b, off, he1, hb, hc⟩
    have hbw : b < w.heap.size := by omega
    have hC := Lib.hid hc
    have HQ := Lib.hid (And.intro hq hn)
    obtain ⟨c0, c1⟩ := hc 0 (by omega)
    rw [Nat.zero_mul, Nat.add_zero] at c0 c1
    have hb0 : bnd (ps.take 1) = ((gp ps 0).1, (gp ps 0).2, (gp ps 0).1, (gp ps 0).2) := by
      cases ps with
      | nil => simp at hn; omega
      | cons p t => rfl
    obtain ⟨⟨p1, p2⟩, hp⟩ : ∃ p, gp ps 0 = p := ⟨_, rfl⟩
    rw [hp] at c0 c1 hb0
    dsimp only at c0 c1 hb0
    have hd1 : ((n : Int) == 0) = false := by simp; omega
    have hnI : (0 : Int) < (n : Int) := by omega
    have hd2 : decide (0 < n) = true := by simp; omega
    rw [hd2]
    clear hc hq hP hp hd2
    rcases Nat.lt_or_ge 1 n with hn2 | hn2
    · have hc1 : ¬ c = 1 := by omega
      go_enter Try.func19, Try.ntmps19
      go_wp2_with fail
      refine wp_gen (fun W hW => ?_)
      have vR : Var W w.heap.size 27 #[.int .i32 0, .int .i32 0, .int .i32 0, .int .i32 0] := by rw [hW]; exact Var.new _ _ _
      have hBW : Below w.heap.size w W := by rw [hW]; go_grown
      have d0 : W.cell? ⟨b, off, none⟩ = some (.int .i32 p1) := (hBW.cell (p := ⟨b, off, none⟩) hbw).trans c0
      have d1 : W.cell? ⟨b, off + 1, none⟩ = some (.int .i32 p2) := (hBW.cell (p := ⟨b, off + 1, none⟩) hbw).trans c1
      have hbW : b < W.heap.size := by have := hBW.size; omega
      have hRW := vR.lt
      clear hW c0 c1
      go_region
      go_wp2_with fail
      refine wp_gen (fun W2 hW2 => ?_)
      have vX : Var W2 W.heap.size 27 #[.int .i32 p1, .int .i32 p2, .int .i32 p1, .int .i32 p2] := by rw [hW2]; exact Var.new _ _ _
      have hBW2 : Below W.heap.size W W2 := by rw [hW2]; go_grown
      have vR2 := vR.keep hBW2
      have hBT : Below w.heap.size w W2 := hBW.trans (hBW2.mono hBW.size)
      obtain ⟨X, hX⟩ : ∃ X, W.heap.size = X := ⟨_, rfl⟩
      have hRX : w.heap.size < X := by omega
      rw [hX] at vX ⊢
      clear hW2 hBW2 hX vR d0 d1 hbW hRW hBW
      have hn1 : IntKind.i64.wrap ((n : Int) - 1) = (n : Int) - 1 := by simp only [IntKind.wrap, IntKind.signed, IntKind.bits]; simp; omega
      go_loopw [21] (fun t wr => ∃ (k : Nat) (x y z u : Int), k + 1 ≤ n ∧ t = .int .i64 (k : Int) ∧ bnd (ps.take (k + 1)) = (x, y, z, u) ∧ Var wr X 27 #[.int .i32 x, .int .i32 y, .int .i32 z, .int .i32 u] ∧ Var wr w.heap.size 27 #[.int .i32 0, .int .i32 0, .int .i32 0, .int .i32 0] ∧ Below w.heap.size w wr)
        (fun t _ => n - (intOf t).toNat)
      case atStart => exact ⟨0, p1, p2, p1, p2, by omega, rfl, hb0, vX, vR2, hBT⟩
      case round =>
        obtain ⟨k, x, y, z, u, hk, rfl, hbk, hVr, hRr, hB⟩ := hrel
        clear hb0 vX vR2 hBT
        have hz := hB.size
        have r0 : wr.cell? ⟨w.heap.size, 0, none⟩ = some (.int .i32 0) := hRr.cell 0
        have r1 : wr.cell? ⟨w.heap.size, 1, none⟩ = some (.int .i32 0) := hRr.cell 1
        have r2 : wr.cell? ⟨w.heap.size, 2, none⟩ = some (.int .i32 0) := hRr.cell 2
        have r3 : wr.cell? ⟨w.heap.size, 3, none⟩ = some (.int .i32 0) := hRr.cell 3
        have g0 := hRr.free 0
        have g1 := hRr.free 1
        have g2 := hRr.free 2
        have g3 := hRr.free 3
        have x0 : wr.cell? ⟨X, 0, none⟩ = some (.int .i32 x) := hVr.cell 0
        have x1 : wr.cell? ⟨X, 1, none⟩ = some (.int .i32 y) := hVr.cell 1
        have x2 : wr.cell? ⟨X, 2, none⟩ = some (.int .i32 z) := hVr.cell 2
        have x3 : wr.cell? ⟨X, 3, none⟩ = some (.int .i32 u) := hVr.cell 3
        have hXz := hVr.lt
        have hRz := hRr.lt
        rcases Nat.lt_or_ge (k + 1) n with hlt | hge
        · have hkI : (k : Int) < (n : Int) - 1 := by omega
          obtain ⟨c1, c2⟩ := hC.out (k + 1) (by rw [HQ.out.2]; omega)
          have htk := take_snoc' (ps := ps) (k := k + 1) (p := gp ps (k + 1)) (by unfold gp; rw [List.getElem?_eq_getElem (by rw [HQ.out.2]; omega)]; rfl)
          obtain ⟨⟨v1, v2⟩, hv⟩ : ∃ p, gp ps (k + 1) = p := ⟨_, rfl⟩
          rw [hv] at c1 c2 htk
          dsimp only at c1 c2
          have hbn : bnd (ps.take (k + 1 + 1)) = (min x v1, min y v2, max z v1, max u v2) := by
            rw [htk, bnd_snoc (by rw [List.length_take, HQ.out.2]; omega), hbk]
            rfl
          obtain ⟨hr1, hr2⟩ := bnd_right (by rw [List.length_take, HQ.out.2]; omega) hbk
          have c1 := (hB.cell (p := ⟨b, off + (k + 1) * 2, none⟩) hbw).trans c1
          have c2 := (hB.cell (p := ⟨b, off + (k + 1) * 2 + 1, none⟩) hbw).trans c2
          rw [show off + (k + 1) * 2 = off + 2 + k * 2 by omega] at c1 c2
          have HJ := Lib.hid (fun W => join_right x y z u v1 v2 v1 v2 W (decide_eq_true ⟨hr1, hr2⟩) (decide_eq_true ⟨Int.le_refl _, Int.le_refl _⟩))
          have hbX : ¬ b = X := by omega
          have HB := Lib.hid (And.intro hbn (And.intro hbk hB))
          clear hbn hbk hB htk hv
          go_wp2_with fail
          refine (HJ.out _).mono ?_
          rintro e w3 ⟨rfl, hb3⟩
          have hb4 : Below wr.heap.size wr w3 := Below.trans (by go_grown) (hb3.mono (by simp))
          have hV3 := hVr.keep hb4
          have hR3 := hRr.keep hb4
          have hB3 : Below w.heap.size w w3 := HB.out.2.2.trans (hb4.mono hz)
          have y0 : w3.cell? ⟨X, 0, none⟩ = some (.int .i32 x) := hV3.cell 0
          have y1 : w3.cell? ⟨X, 1, none⟩ = some (.int .i32 y) := hV3.cell 1
          have y2 : w3.cell? ⟨X, 2, none⟩ = some (.int .i32 z) := hV3.cell 2
          have y3 : w3.cell? ⟨X, 3, none⟩ = some (.int .i32 u) := hV3.cell 3
          have f0 := hV3.free 0
          have f1 := hV3.free 1
          have f2 := hV3.free 2
          have f3 := hV3.free 3
          have hXz3 := hV3.lt
          clear x0 x1 x2 x3 r0 r1 r2 r3 g0 g1 g2 g3 c1 c2 hb3 hb4 hz hVr hRr
          go_wp2_with fail
          go_roundw
          case rel => exact ⟨k + 1, _, _, _, _, by omega, by simp, HB.out.1, box3 (box2 (box1 (box0 hV3 _) _) _) _, Var.below (B := w.heap.size + 1) hR3 (by go_grown) (by omega), by go_grown⟩
          case measure => simp [intOf]; omega
        · have hkn : n = k + 1 := by omega
          have hfin : (x, y, z, u) = (q0, q1, q2, q3) := by
            rw [← hbk, ← HQ.out.1, List.take_of_length_le (by rw [HQ.out.2]; omega)]
          simp only [Prod.mk.injEq] at hfin
          obtain ⟨rfl, rfl, rfl, rfl⟩ := hfin
          have hkI : ¬ (k : Int) < (n : Int) - 1 := by omega
          clear hkn
          go_wp2_with fail
          refine bodyPost_ret (by simp [results, Try.results19, go_sem, *]; try rfl) rfl ?_
          exact ⟨rfl, by go_grown⟩

    · obtain rfl : n = 1 := by omega
      go_enter Try.func19, Try.ntmps19
      go_wp2_with fail
      refine wp_gen (fun W hW => ?_)
      have vR : Var W w.heap.size 27 #[.int .i32 0, .int .i32 0, .int .i32 0, .int .i32 0] := by rw [hW]; exact Var.new _ _ _
      have hBW : Below w.heap.size w W := by rw [hW]; go_grown
      have d0 : W.cell? ⟨b, off, none⟩ = some (.int .i32 p1) := (hBW.cell (p := ⟨b, off, none⟩) hbw).trans c0
      have d1 : W.cell? ⟨b, off + 1, none⟩ = some (.int .i32 p2) := (hBW.cell (p := ⟨b, off + 1, none⟩) hbw).trans c1
      have hbW : b < W.heap.size := by have := hBW.size; omega
      have hRW := vR.lt
      clear hW c0 c1
      go_region
      go_wp2_with fail
      all_goals
        refine wp_gen (fun W2 hW2 => ?_)
        have vX : Var W2 W.heap.size 27 #[.int .i32 p1, .int .i32 p2, .int .i32 p1, .int .i32 p2] := by rw [hW2]; exact Var.new _ _ _
        have hBW2 : Below W.heap.size W W2 := by rw [hW2]; go_grown
        have vR2 := vR.keep hBW2
        have hBT : Below w.heap.size w W2 := hBW.trans (hBW2.mono hBW.size)
        obtain ⟨X, hX⟩ : ∃ X, W.heap.size = X := ⟨_, rfl⟩
        have hRX : w.heap.size < X := by omega
        rw [hX] at vX ⊢
        clear hW2 hBW2 hX vR d0 d1 hbW hRW hBW
        go_loopw [21] (fun t wr => t = .int .i64 0 ∧ Var wr X 27 #[.int .i32 p1, .int .i32 p2, .int .i32 p1, .int .i32 p2] ∧ Var wr w.heap.size 27 #[.int .i32 0, .int .i32 0, .int .i32 0, .int .i32 0] ∧ Below w.heap.size w wr)
          (fun _ _ => 0)
        case atStart => exact ⟨rfl, vX, vR2, hBT⟩
        case round =>
          obtain ⟨rfl, hVr, hRr, hB⟩ := hrel
          have hfin : (p1, p2, p1, p2) = (q0, q1, q2, q3) := by
            rw [← hb0, ← HQ.out.1, List.take_of_length_le (by rw [HQ.out.2]; omega)]
          clear hb0 vX vR2 hBT
          have hz := hB.size
          have r0 : wr.cell? ⟨w.heap.size, 0, none⟩ = some (.int .i32 0) := hRr.cell 0
          have r1 : wr.cell? ⟨w.heap.size, 1, none⟩ = some (.int .i32 0) := hRr.cell 1
          have r2 : wr.cell? ⟨w.heap.size, 2, none⟩ = some (.int .i32 0) := hRr.cell 2
          have r3 : wr.cell? ⟨w.heap.size, 3, none⟩ = some (.int .i32 0) := hRr.cell 3
          have g0 := hRr.free 0
          have g1 := hRr.free 1
          have g2 := hRr.free 2
          have g3 := hRr.free 3
          have x0 : wr.cell? ⟨X, 0, none⟩ = some (.int .i32 p1) := hVr.cell 0
          have x1 : wr.cell? ⟨X, 1, none⟩ = some (.int .i32 p2) := hVr.cell 1
          have x2 : wr.cell? ⟨X, 2, none⟩ = some (.int .i32 p1) := hVr.cell 2
          have x3 : wr.cell? ⟨X, 3, none⟩ = some (.int .i32 p2) := hVr.cell 3
          have hXz := hVr.lt
          have hRz := hRr.lt
          simp only [Prod.mk.injEq] at hfin
          obtain ⟨rfl, rfl, rfl, rfl⟩ := hfin
          go_wp2_with fail
          refine bodyPost_ret (by simp [results, Try.results19, go_sem, *]; try rfl) rfl ?_
          exact ⟨rfl, by go_grown⟩
end Go.Proofs.Ytegblpoamjpdhaa
