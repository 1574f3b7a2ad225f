/-
  The document's Off.
-/
import Derived.Test.YtcpojadinkonnaaThinR
import Derived.Deep.Cut
namespace Go.Proofs.Ytcpojadinkonnaa
open Go.RowKit

theorem small_one : Small 7 (1 : Int).natAbs := by unfold Small; decide +kernel
/-- The boxes of Off: the points, the two answers. -/
structure Ob (w : World) (ax ay bx by_ px py : Int) (W : World) : Prop where
  a : Var W w.heap.size 32 #[.int .i32 ax, .int .i32 ay]
  b : Var W (w.heap.size + 1) 32 #[.int .i32 bx, .int .i32 by_]
  p : Var W (w.heap.size + 1 + 1) 32 #[.int .i32 px, .int .i32 py]
  r : Var W (w.heap.size + 1 + 1 + 1) 64 #[.bool false, .slice none 0 0]
  q : Var W (w.heap.size + 1 + 1 + 1 + 1) 64 #[.bool false, .slice none 0 0]
  h : Below w.heap.size w W
theorem Ob.keep {w W W' : World} {ax ay bx by_ px py : Int} (h : Ob w ax ay bx by_ px py W) (hb : Below W.heap.size W W') : Ob w ax ay bx by_ px py W' := ⟨h.a.keep hb, h.b.keep hb, h.p.keep hb, h.r.keep hb, h.q.keep hb, h.h.trans (hb.mono h.h.size)⟩

set_option maxHeartbeats 4000000 in
set_option maxRecDepth 100000 in
theorem off_ref_eq {ax ay px py : Int} (ha : IL (ax, ay)) (hp : IL (px, py)) (w : World) :
    Calls Try.prog 63 #[(Value.agg #[.int .i32 (ax), .int .i32 (ay)]), (Value.agg #[.int .i32 (ax), .int .i32 (ay)]), (Value.agg #[.int .i32 (px), .int .i32 (py)])] w fun e w' => ∃ u v, e = .returned (.tuple #[u, v]) ∧ NumAt w' u (offN (ax, ay) (ax, ay) (px, py)) ∧ NumAt w' v (offD (ax, ay) (ax, ay) (px, py)) ∧ Below w.heap.size w w' := by
  have O1 := Lib.hid (fun W => of_ref 1 (by omega) W)
  have Q1 := Lib.hid (fun W => square04 ax ay px py ha.x ha.y hp.x hp.y W)
  clear ha hp
  have e1 : offN (ax, ay) (ax, ay) (px, py) = (px - ax) * (px - ax) + (py - ay) * (py - ay) := by unfold offN; rw [if_pos (.inl rfl)]; rfl
  have e2 : offD (ax, ay) (ax, ay) (px, py) = 1 := by unfold offD; rw [if_pos (.inl rfl)]
  rw [e1, e2]
  obtain ⟨z, hz⟩ : ∃ z, (px - ax) * (px - ax) + (py - ay) * (py - ay) = z := ⟨_, rfl⟩
  rw [hz] at Q1 ⊢
  clear e1 e2 hz
  go_enter Try.func63, Try.ntmps63
  go_upto_region 1 with fail
  refine wp_gen (fun W hW => ?_)
  have hO : Ob w ax ay ax ay px py W := by rw [hW]; exact ⟨((((Var.new _ _ _).alloc _).alloc _).alloc _).alloc _, (((Var.new' _ _ _ (by simp)).alloc _).alloc _).alloc _, ((Var.new' _ _ _ (by simp)).alloc _).alloc _, (Var.new' _ _ _ (by simp)).alloc _, Var.new' _ _ _ (by simp), by go_grown⟩
  clear hW
  go_wp2_with fail
  refine (open_num (O1.out _)).mono ?_
  rintro e w1 ⟨b1, A1, n1, c1, d1, rfl, hs1, hr1, ht1, hv1, hb_w1⟩
  have hO1 := hO.keep hb_w1
  go_upto_region 2 with fail
  refine wp_gen (fun W2 hW2 => ?_)
  have hbb : Below w1.heap.size w1 W2 := by rw [hW2]; go_grown
  have vX : Var W2 w1.heap.size 64 #[.bool b1, .slice A1 n1 c1] := by rw [hW2]; exact Var.new _ _ _
  have hO2 := hO1.keep hbb
  have hr2 := hr1.below hbb
  have hX0 : w.heap.size + 1 + 1 + 1 + 1 < w1.heap.size := hO1.q.lt
  clear hW2 hbb hr1 hO1 hO
  have a0 : W2.cell? ⟨w.heap.size, 0, none⟩ = some (.int .i32 ax) := hO2.a.cell 0
  have a1 : W2.cell? ⟨w.heap.size, 1, none⟩ = some (.int .i32 ay) := hO2.a.cell 1
  have q0 : W2.cell? ⟨w.heap.size + 1, 0, none⟩ = some (.int .i32 ax) := hO2.b.cell 0
  have q1 : W2.cell? ⟨w.heap.size + 1, 1, none⟩ = some (.int .i32 ay) := hO2.b.cell 1
  have p0 : W2.cell? ⟨w.heap.size + 1 + 1, 0, none⟩ = some (.int .i32 px) := hO2.p.cell 0
  have p1 : W2.cell? ⟨w.heap.size + 1 + 1, 1, none⟩ = some (.int .i32 py) := hO2.p.cell 1
  go_wp2_with fail
  have hM0 : HeldM (w.heap.size + 1 + 1 + 1) (w1.heap.size) (.bool b1) (.slice A1 n1 c1) W2 W2.drew := heldM_of (Below.refl _ _).drew vX.lt (vX.cell 0) (vX.cell 1) hO2.r hO2.q
  go_region_held3 (fun w' => Below (w.heap.size + 1 + 1 + 1) W2 w' ∧ w.heap.size + 1 + 1 + 1 + 1 < w'.heap.size ∧ w1.heap.size < w'.heap.size ∧ (∀ b o, b < w.heap.size + 1 + 1 + 1 → w'.cell? ⟨b, o, none⟩ = W2.cell? ⟨b, o, none⟩) ∧ w'.cell? ⟨w1.heap.size, 0, none⟩ = some (.bool b1) ∧ w'.cell? ⟨w1.heap.size, 1, none⟩ = some (.slice A1 n1 c1) ∧ (∀ o, o < 2 → w'.cell? ⟨w.heap.size + 1 + 1 + 1, o, none⟩ = some (rd w' (w.heap.size + 1 + 1 + 1) o)) ∧ (∀ o, o < 2 → w'.cell? ⟨w.heap.size + 1 + 1 + 1 + 1, o, none⟩ = some (rd w' (w.heap.size + 1 + 1 + 1 + 1) o)) ∧ (∀ o, w'.frozen? ⟨w.heap.size + 1 + 1 + 1, o, none⟩ = false) ∧ (∀ o, w'.frozen? ⟨w.heap.size + 1 + 1 + 1 + 1, o, none⟩ = false) ∧ (∃ p q, w'.heap[w.heap.size + 1 + 1 + 1]? = some (.cells #[p, q] 64 (0, 0))) ∧ ∃ x y, w'.heap[w.heap.size + 1 + 1 + 1 + 1]? = some (.cells #[x, y] 64 (0, 0)))
    (first | assumption | ((repeat (first | refine heldM_store (by omega) ?_ _ _ | refine heldM_store2 (by omega) ?_ _ _)); assumption))
    (first | (go_at_call 54; with_reducible refine (open_num (Q1.out _)).mono ?_; rintro e wk ⟨b7, A7, n7, c7, d7, rfl, hs7, hr7, ht7, hv7, hb_wk⟩; have hS_wk : HeldM (w.heap.size + 1 + 1 + 1) (w1.heap.size) (.bool b1) (.slice A1 n1 c1) W2 wk := heldM_step hb_wk (by assumption)))
  all_goals
    obtain ⟨W', e', hB', vR', vQ', hraw⟩ := heldM_four (by assumption)
    rw [e']
    clear e'
    go_wp2_with fail
    exact bodyPost_ret (v := .tuple #[.agg #[.bool b7, .slice A7 n7 c7], .agg #[.bool b1, .slice A1 n1 c1]]) (results_two_rows Try.results63 _ _ _ _ _ _ _ _ _ rfl rfl vR' vQ' Try.underlying64 rfl (by kernel_rfl) (by kernel_rfl)) rfl ⟨_, _, rfl, num_mk (hraw _ _ _ _ (hr7)) ht7 hs7.out hv7.out, num_mk (hraw _ _ _ _ (hr2.below (undrew hb_wk))) ht1 hs1.out hv1.out, hO2.h.trans (hB'.mono (by omega))⟩

set_option maxHeartbeats 4000000 in
set_option maxRecDepth 100000 in
theorem off_ref_ne {ax ay bx by_ px py : Int} (ha : IL (ax, ay)) (hb : IL (bx, by_)) (hp : IL (px, py)) (hne : ¬ ax = bx ∨ (ax = bx ∧ ¬ ay = by_)) (w : World) :
    Calls Try.prog 63 #[(Value.agg #[.int .i32 (ax), .int .i32 (ay)]), (Value.agg #[.int .i32 (bx), .int .i32 (by_)]), (Value.agg #[.int .i32 (px), .int .i32 (py)])] w fun e w' => ∃ u v, e = .returned (.tuple #[u, v]) ∧ NumAt w' u (offN (ax, ay) (bx, by_) (px, py)) ∧ NumAt w' v (offD (ax, ay) (bx, by_) (px, py)) ∧ Below w.heap.size w w' := by
  have O1 := Lib.hid (fun W => of_ref 1 (by omega) W)
  have I1 := Lib.hid (fun W => inner04 ax ay bx by_ px py ha.x ha.y hb.x hb.y hp.x hp.y W)
  have I2 := Lib.hid (fun W => inner04 bx by_ ax ay px py hb.x hb.y ha.x ha.y hp.x hp.y W)
  have Q1 := Lib.hid (fun W => square04 ax ay px py ha.x ha.y hp.x hp.y W)
  have Q2 := Lib.hid (fun W => square04 bx by_ px py hb.x hb.y hp.x hp.y W)
  have Q3 := Lib.hid (fun W => square04 ax ay bx by_ ha.x ha.y hb.x hb.y W)
  have P1 := Lib.hid (fun W => product04 ax ay bx by_ px py ha.x ha.y hb.x hb.y hp.x hp.y W)
  have S1 := Lib.hid (small_cr ha.x ha.y hb.x hb.y hp.x hp.y).2
  have S2 := Lib.hid (small_cr hb.x hb.y ha.x ha.y hp.x hp.y).2
  have S3 := Lib.hid (small_cr ha.x ha.y hb.x hb.y hp.x hp.y).1
  have hab : ¬ ((ax, ay) : Pt) = (bx, by_) := fun e => by injection e; omega
  clear ha hb hp
  obtain ⟨z1, hz1⟩ : ∃ z, (bx - ax) * (px - ax) + (by_ - ay) * (py - ay) = z := ⟨_, rfl⟩
  obtain ⟨z2, hz2⟩ : ∃ z, (ax - bx) * (px - bx) + (ay - by_) * (py - by_) = z := ⟨_, rfl⟩
  obtain ⟨y1, hy1⟩ : ∃ z, (px - ax) * (px - ax) + (py - ay) * (py - ay) = z := ⟨_, rfl⟩
  obtain ⟨y2, hy2⟩ : ∃ z, (px - bx) * (px - bx) + (py - by_) * (py - by_) = z := ⟨_, rfl⟩
  obtain ⟨y3, hy3⟩ : ∃ z, (bx - ax) * (bx - ax) + (by_ - ay) * (by_ - ay) = z := ⟨_, rfl⟩
  obtain ⟨z3, hz3⟩ : ∃ z, (bx - ax) * (py - ay) - (by_ - ay) * (px - ax) = z := ⟨_, rfl⟩
  have dd1 : dtt (ax, ay) (bx, by_) (px, py) = z1 := hz1
  have dd2 : dtt (bx, by_) (ax, ay) (px, py) = z2 := hz2
  have ll1 : lng (ax, ay) (px, py) = y1 := hy1
  have ll2 : lng (bx, by_) (px, py) = y2 := hy2
  have ll3 : lng (ax, ay) (bx, by_) = y3 := hy3
  have cc3 : crz (ax, ay) (bx, by_) (px, py) = z3 := by unfold crz crs; exact hz3
  unfold crs at S3
  rw [hz1] at I1 S1
  rw [hz2] at I2 S2
  rw [hy1] at Q1
  rw [hy2] at Q2
  rw [hy3] at Q3
  rw [hz3] at P1 S3
  unfold offN offD
  rw [dd1, dd2, ll1, ll2, ll3, cc3]
  clear dd1 dd2 ll1 ll2 ll3 cc3 hz1 hz2 hz3 hy1 hy2 hy3
  rcases Int.lt_or_le 0 z1 with h1 | h1
  · have g1 : 0 < cmpI z1 0 := cmpI_pos.2 h1
    have hc : ¬ (((ax, ay) : Pt) = (bx, by_) ∨ z1 ≤ 0) := by
      rintro (h | h)
      · exact hab h
      · omega
    rw [if_neg hc, if_neg hc]
    rcases Int.lt_or_le 0 z2 with h2 | h2
    · have g2 : 0 < cmpI z2 0 := cmpI_pos.2 h2
      have hc2 : ¬ z2 ≤ 0 := by omega
      rw [if_neg hc2, if_neg hc2]
      clear hc hc2
      clear hab h1 h2
      obtain ⟨s1, hs⟩ : ∃ z, cmpI z1 0 = z := ⟨_, rfl⟩
      have HS1 := Lib.hid hs
      rw [hs] at g1
      clear hs
      obtain ⟨s2, hs⟩ : ∃ z, cmpI z2 0 = z := ⟨_, rfl⟩
      have HS2 := Lib.hid hs
      rw [hs] at g2
      clear hs
      have g1' : ¬ s1 ≤ 0 := by omega
      have g2' : ¬ s2 ≤ 0 := by omega
      clear g1 g2
      rcases hne with hne | ⟨rfl, hne⟩
      · skip
        go_enter Try.func63, Try.ntmps63
        go_upto_region 1 with fail
        refine wp_gen (fun W hW => ?_)
        have hO : Ob w ax ay bx by_ px py W := by rw [hW]; exact ⟨((((Var.new _ _ _).alloc _).alloc _).alloc _).alloc _, (((Var.new' _ _ _ (by simp)).alloc _).alloc _).alloc _, ((Var.new' _ _ _ (by simp)).alloc _).alloc _, (Var.new' _ _ _ (by simp)).alloc _, Var.new' _ _ _ (by simp), by go_grown⟩
        clear hW
        go_wp2_with fail
        refine (open_num (O1.out _)).mono ?_
        rintro e w1 ⟨b1, A1, n1, c1, d1, rfl, hs1, hr1, ht1, hv1, hb_w1⟩
        have hO1 := hO.keep hb_w1
        go_upto_region 2 with fail
        refine wp_gen (fun W2 hW2 => ?_)
        have hbb : Below w1.heap.size w1 W2 := by rw [hW2]; go_grown
        have vX : Var W2 w1.heap.size 64 #[.bool b1, .slice A1 n1 c1] := by rw [hW2]; exact Var.new _ _ _
        have hO2 := hO1.keep hbb
        have hr2 := hr1.below hbb
        have hX0 : w.heap.size + 1 + 1 + 1 + 1 < w1.heap.size := hO1.q.lt
        clear hW2 hbb hr1 hO1 hO
        have a0 : W2.cell? ⟨w.heap.size, 0, none⟩ = some (.int .i32 ax) := hO2.a.cell 0
        have a1 : W2.cell? ⟨w.heap.size, 1, none⟩ = some (.int .i32 ay) := hO2.a.cell 1
        have q0 : W2.cell? ⟨w.heap.size + 1, 0, none⟩ = some (.int .i32 bx) := hO2.b.cell 0
        have q1 : W2.cell? ⟨w.heap.size + 1, 1, none⟩ = some (.int .i32 by_) := hO2.b.cell 1
        have p0 : W2.cell? ⟨w.heap.size + 1 + 1, 0, none⟩ = some (.int .i32 px) := hO2.p.cell 0
        have p1 : W2.cell? ⟨w.heap.size + 1 + 1, 1, none⟩ = some (.int .i32 py) := hO2.p.cell 1
        go_wp2_with fail
        refine (I1.out _).mono ?_
        rintro e wi2 ⟨ui2, rfl, hni2, hb_wi2⟩
        go_wp2_with fail
        refine (sign_ref hni2 S1.out (by omega) _ (Below.refl _ _)).mono ?_
        rintro e ws2 ⟨rfl, hb_ws2⟩
        have hbs2 : Below W2.heap.size W2 ws2 := hb_wi2.trans (hb_ws2.mono hb_wi2.size)
        have hO3 := hO2.keep hbs2
        have hr3 := hr2.below hbs2
        replace vX := vX.keep hbs2
        rw [HS1.out]
        clear a0 a1 q0 q1 p0 p1 hb_wi2 hb_ws2 hni2
        have a0 : ws2.cell? ⟨w.heap.size, 0, none⟩ = some (.int .i32 ax) := hO3.a.cell 0
        have a1 : ws2.cell? ⟨w.heap.size, 1, none⟩ = some (.int .i32 ay) := hO3.a.cell 1
        have q0 : ws2.cell? ⟨w.heap.size + 1, 0, none⟩ = some (.int .i32 bx) := hO3.b.cell 0
        have q1 : ws2.cell? ⟨w.heap.size + 1, 1, none⟩ = some (.int .i32 by_) := hO3.b.cell 1
        have p0 : ws2.cell? ⟨w.heap.size + 1 + 1, 0, none⟩ = some (.int .i32 px) := hO3.p.cell 0
        have p1 : ws2.cell? ⟨w.heap.size + 1 + 1, 1, none⟩ = some (.int .i32 py) := hO3.p.cell 1
        go_wp2_with fail
        refine (I2.out _).mono ?_
        rintro e wi3 ⟨ui3, rfl, hni3, hb_wi3⟩
        go_wp2_with fail
        refine (sign_ref hni3 S2.out (by omega) _ (Below.refl _ _)).mono ?_
        rintro e ws3 ⟨rfl, hb_ws3⟩
        have hbs3 : Below ws2.heap.size ws2 ws3 := hb_wi3.trans (hb_ws3.mono hb_wi3.size)
        have hO4 := hO3.keep hbs3
        have hr4 := hr3.below hbs3
        replace vX := vX.keep hbs3
        rw [HS2.out]
        clear a0 a1 q0 q1 p0 p1 hb_wi3 hb_ws3 hni3
        have a0 : ws3.cell? ⟨w.heap.size, 0, none⟩ = some (.int .i32 ax) := hO4.a.cell 0
        have a1 : ws3.cell? ⟨w.heap.size, 1, none⟩ = some (.int .i32 ay) := hO4.a.cell 1
        have q0 : ws3.cell? ⟨w.heap.size + 1, 0, none⟩ = some (.int .i32 bx) := hO4.b.cell 0
        have q1 : ws3.cell? ⟨w.heap.size + 1, 1, none⟩ = some (.int .i32 by_) := hO4.b.cell 1
        have p0 : ws3.cell? ⟨w.heap.size + 1 + 1, 0, none⟩ = some (.int .i32 px) := hO4.p.cell 0
        have p1 : ws3.cell? ⟨w.heap.size + 1 + 1, 1, none⟩ = some (.int .i32 py) := hO4.p.cell 1
        go_wp2_with fail
        refine (open_num (P1.out _)).mono ?_
        rintro e w5 ⟨b5, A5, n5, c5, d5, rfl, hs5, hr5, ht5, hv5, hb_w5⟩
        have hO5 := hO4.keep hb_w5
        go_upto_region 7 with fail
        refine wp_gen (fun W7 hW7 => ?_)
        have hbb : Below w5.heap.size w5 W7 := by rw [hW7]; go_grown
        have vC : Var W7 w5.heap.size 64 #[.bool b5, .slice A5 n5 c5] := by rw [hW7]; exact Var.new _ _ _
        have hO7 := hO5.keep hbb
        have hr7' := hr5.below hbb
        have hX7 : w.heap.size + 1 + 1 + 1 + 1 < w5.heap.size := hO5.q.lt
        clear hW7 hbb hr5 hO5 vX a0 a1 q0 q1 p0 p1
        replace vX := vC
        have hcur : Below W7.heap.size W7 W7.drew := (Below.refl _ _).drew
        have a0 : W7.cell? ⟨w.heap.size, 0, none⟩ = some (.int .i32 ax) := hO7.a.cell 0
        have a1 : W7.cell? ⟨w.heap.size, 1, none⟩ = some (.int .i32 ay) := hO7.a.cell 1
        have q0 : W7.cell? ⟨w.heap.size + 1, 0, none⟩ = some (.int .i32 bx) := hO7.b.cell 0
        have q1 : W7.cell? ⟨w.heap.size + 1, 1, none⟩ = some (.int .i32 by_) := hO7.b.cell 1
        have p0 : W7.cell? ⟨w.heap.size + 1 + 1, 0, none⟩ = some (.int .i32 px) := hO7.p.cell 0
        have p1 : W7.cell? ⟨w.heap.size + 1 + 1, 1, none⟩ = some (.int .i32 py) := hO7.p.cell 1
        have hM0 : HeldM (w.heap.size + 1 + 1 + 1) (w5.heap.size) (.bool b5) (.slice A5 n5 c5) W7 W7.drew := heldM_of (Below.refl _ _).drew vX.lt (vX.cell 0) (vX.cell 1) hO7.r hO7.q
        go_region_held3 (fun w' => Below (w.heap.size + 1 + 1 + 1) W7 w' ∧ w.heap.size + 1 + 1 + 1 + 1 < w'.heap.size ∧ w5.heap.size < w'.heap.size ∧ (∀ b o, b < w.heap.size + 1 + 1 + 1 → w'.cell? ⟨b, o, none⟩ = W7.cell? ⟨b, o, none⟩) ∧ w'.cell? ⟨w5.heap.size, 0, none⟩ = some (.bool b5) ∧ w'.cell? ⟨w5.heap.size, 1, none⟩ = some (.slice A5 n5 c5) ∧ (∀ o, o < 2 → w'.cell? ⟨w.heap.size + 1 + 1 + 1, o, none⟩ = some (rd w' (w.heap.size + 1 + 1 + 1) o)) ∧ (∀ o, o < 2 → w'.cell? ⟨w.heap.size + 1 + 1 + 1 + 1, o, none⟩ = some (rd w' (w.heap.size + 1 + 1 + 1 + 1) o)) ∧ (∀ o, w'.frozen? ⟨w.heap.size + 1 + 1 + 1, o, none⟩ = false) ∧ (∀ o, w'.frozen? ⟨w.heap.size + 1 + 1 + 1 + 1, o, none⟩ = false) ∧ (∃ p q, w'.heap[w.heap.size + 1 + 1 + 1]? = some (.cells #[p, q] 64 (0, 0))) ∧ ∃ x y, w'.heap[w.heap.size + 1 + 1 + 1 + 1]? = some (.cells #[x, y] 64 (0, 0)))
          (first | assumption | ((repeat (first | refine heldM_store (by omega) ?_ _ _ | refine heldM_store2 (by omega) ?_ _ _)); assumption))
          (first | (go_at_call 54; with_reducible refine (open_num (Q3.out _)).mono ?_; rintro e wk ⟨b7, A7, n7, c7, d7, rfl, hs7, hr7, ht7, hv7, hb_wk⟩; have hS_wk : HeldM (w.heap.size + 1 + 1 + 1) (w5.heap.size) (.bool b5) (.slice A5 n5 c5) W7 wk := heldM_step hb_wk (by assumption); have hcur := hcur.trans (hb_wk.mono hcur.size); (try replace hr8 := hr8.below hb_wk)) | (go_at_call 82; with_reducible refine (open_num (mul_num (num_mk hr7' ht5 hs5.out hv5.out) (num_mk hr7' ht5 hs5.out hv5.out) S3.out S3.out (by omega) _ hcur)).mono ?_; rintro e wm ⟨b8, A8, n8, c8, d8, rfl, hs8, hr8, ht8, hv8, hb_wm⟩; have hS_wm : HeldM (w.heap.size + 1 + 1 + 1) (w5.heap.size) (.bool b5) (.slice A5 n5 c5) W7 wm := heldM_step hb_wm (by assumption); have hcur := hcur.trans (hb_wm.mono hcur.size); (try replace hr7 := hr7.below hb_wm)))
        all_goals
          obtain ⟨W', e', hB', vR', vQ', hraw⟩ := heldM_four (by assumption)
          rw [e']
          clear e'
          go_wp2_with fail
          exact bodyPost_ret (v := .tuple #[.agg #[.bool b8, .slice A8 n8 c8], .agg #[.bool b7, .slice A7 n7 c7]]) (results_two_rows Try.results63 _ _ _ _ _ _ _ _ _ rfl rfl vR' vQ' Try.underlying64 rfl (by kernel_rfl) (by kernel_rfl)) rfl ⟨_, _, rfl, num_mk (hraw _ _ _ _ (hr8)) ht8 hs8.out hv8.out, num_mk (hraw _ _ _ _ (hr7)) ht7 hs7.out hv7.out, hO7.h.trans (hB'.mono (by omega))⟩
      · skip
        go_enter Try.func63, Try.ntmps63
        go_upto_region 1 with fail
        refine wp_gen (fun W hW => ?_)
        have hO : Ob w ax ay ax by_ px py W := by rw [hW]; exact ⟨((((Var.new _ _ _).alloc _).alloc _).alloc _).alloc _, (((Var.new' _ _ _ (by simp)).alloc _).alloc _).alloc _, ((Var.new' _ _ _ (by simp)).alloc _).alloc _, (Var.new' _ _ _ (by simp)).alloc _, Var.new' _ _ _ (by simp), by go_grown⟩
        clear hW
        go_wp2_with fail
        refine (open_num (O1.out _)).mono ?_
        rintro e w1 ⟨b1, A1, n1, c1, d1, rfl, hs1, hr1, ht1, hv1, hb_w1⟩
        have hO1 := hO.keep hb_w1
        go_upto_region 2 with fail
        refine wp_gen (fun W2 hW2 => ?_)
        have hbb : Below w1.heap.size w1 W2 := by rw [hW2]; go_grown
        have vX : Var W2 w1.heap.size 64 #[.bool b1, .slice A1 n1 c1] := by rw [hW2]; exact Var.new _ _ _
        have hO2 := hO1.keep hbb
        have hr2 := hr1.below hbb
        have hX0 : w.heap.size + 1 + 1 + 1 + 1 < w1.heap.size := hO1.q.lt
        clear hW2 hbb hr1 hO1 hO
        have a0 : W2.cell? ⟨w.heap.size, 0, none⟩ = some (.int .i32 ax) := hO2.a.cell 0
        have a1 : W2.cell? ⟨w.heap.size, 1, none⟩ = some (.int .i32 ay) := hO2.a.cell 1
        have q0 : W2.cell? ⟨w.heap.size + 1, 0, none⟩ = some (.int .i32 ax) := hO2.b.cell 0
        have q1 : W2.cell? ⟨w.heap.size + 1, 1, none⟩ = some (.int .i32 by_) := hO2.b.cell 1
        have p0 : W2.cell? ⟨w.heap.size + 1 + 1, 0, none⟩ = some (.int .i32 px) := hO2.p.cell 0
        have p1 : W2.cell? ⟨w.heap.size + 1 + 1, 1, none⟩ = some (.int .i32 py) := hO2.p.cell 1
        go_wp2_with fail
        refine (I1.out _).mono ?_
        rintro e wi2 ⟨ui2, rfl, hni2, hb_wi2⟩
        go_wp2_with fail
        refine (sign_ref hni2 S1.out (by omega) _ (Below.refl _ _)).mono ?_
        rintro e ws2 ⟨rfl, hb_ws2⟩
        have hbs2 : Below W2.heap.size W2 ws2 := hb_wi2.trans (hb_ws2.mono hb_wi2.size)
        have hO3 := hO2.keep hbs2
        have hr3 := hr2.below hbs2
        replace vX := vX.keep hbs2
        rw [HS1.out]
        clear a0 a1 q0 q1 p0 p1 hb_wi2 hb_ws2 hni2
        have a0 : ws2.cell? ⟨w.heap.size, 0, none⟩ = some (.int .i32 ax) := hO3.a.cell 0
        have a1 : ws2.cell? ⟨w.heap.size, 1, none⟩ = some (.int .i32 ay) := hO3.a.cell 1
        have q0 : ws2.cell? ⟨w.heap.size + 1, 0, none⟩ = some (.int .i32 ax) := hO3.b.cell 0
        have q1 : ws2.cell? ⟨w.heap.size + 1, 1, none⟩ = some (.int .i32 by_) := hO3.b.cell 1
        have p0 : ws2.cell? ⟨w.heap.size + 1 + 1, 0, none⟩ = some (.int .i32 px) := hO3.p.cell 0
        have p1 : ws2.cell? ⟨w.heap.size + 1 + 1, 1, none⟩ = some (.int .i32 py) := hO3.p.cell 1
        go_wp2_with fail
        refine (I2.out _).mono ?_
        rintro e wi3 ⟨ui3, rfl, hni3, hb_wi3⟩
        go_wp2_with fail
        refine (sign_ref hni3 S2.out (by omega) _ (Below.refl _ _)).mono ?_
        rintro e ws3 ⟨rfl, hb_ws3⟩
        have hbs3 : Below ws2.heap.size ws2 ws3 := hb_wi3.trans (hb_ws3.mono hb_wi3.size)
        have hO4 := hO3.keep hbs3
        have hr4 := hr3.below hbs3
        replace vX := vX.keep hbs3
        rw [HS2.out]
        clear a0 a1 q0 q1 p0 p1 hb_wi3 hb_ws3 hni3
        have a0 : ws3.cell? ⟨w.heap.size, 0, none⟩ = some (.int .i32 ax) := hO4.a.cell 0
        have a1 : ws3.cell? ⟨w.heap.size, 1, none⟩ = some (.int .i32 ay) := hO4.a.cell 1
        have q0 : ws3.cell? ⟨w.heap.size + 1, 0, none⟩ = some (.int .i32 ax) := hO4.b.cell 0
        have q1 : ws3.cell? ⟨w.heap.size + 1, 1, none⟩ = some (.int .i32 by_) := hO4.b.cell 1
        have p0 : ws3.cell? ⟨w.heap.size + 1 + 1, 0, none⟩ = some (.int .i32 px) := hO4.p.cell 0
        have p1 : ws3.cell? ⟨w.heap.size + 1 + 1, 1, none⟩ = some (.int .i32 py) := hO4.p.cell 1
        go_wp2_with fail
        refine (open_num (P1.out _)).mono ?_
        rintro e w5 ⟨b5, A5, n5, c5, d5, rfl, hs5, hr5, ht5, hv5, hb_w5⟩
        have hO5 := hO4.keep hb_w5
        go_upto_region 7 with fail
        refine wp_gen (fun W7 hW7 => ?_)
        have hbb : Below w5.heap.size w5 W7 := by rw [hW7]; go_grown
        have vC : Var W7 w5.heap.size 64 #[.bool b5, .slice A5 n5 c5] := by rw [hW7]; exact Var.new _ _ _
        have hO7 := hO5.keep hbb
        have hr7' := hr5.below hbb
        have hX7 : w.heap.size + 1 + 1 + 1 + 1 < w5.heap.size := hO5.q.lt
        clear hW7 hbb hr5 hO5 vX a0 a1 q0 q1 p0 p1
        replace vX := vC
        have hcur : Below W7.heap.size W7 W7.drew := (Below.refl _ _).drew
        have a0 : W7.cell? ⟨w.heap.size, 0, none⟩ = some (.int .i32 ax) := hO7.a.cell 0
        have a1 : W7.cell? ⟨w.heap.size, 1, none⟩ = some (.int .i32 ay) := hO7.a.cell 1
        have q0 : W7.cell? ⟨w.heap.size + 1, 0, none⟩ = some (.int .i32 ax) := hO7.b.cell 0
        have q1 : W7.cell? ⟨w.heap.size + 1, 1, none⟩ = some (.int .i32 by_) := hO7.b.cell 1
        have p0 : W7.cell? ⟨w.heap.size + 1 + 1, 0, none⟩ = some (.int .i32 px) := hO7.p.cell 0
        have p1 : W7.cell? ⟨w.heap.size + 1 + 1, 1, none⟩ = some (.int .i32 py) := hO7.p.cell 1
        have hM0 : HeldM (w.heap.size + 1 + 1 + 1) (w5.heap.size) (.bool b5) (.slice A5 n5 c5) W7 W7.drew := heldM_of (Below.refl _ _).drew vX.lt (vX.cell 0) (vX.cell 1) hO7.r hO7.q
        go_region_held3 (fun w' => Below (w.heap.size + 1 + 1 + 1) W7 w' ∧ w.heap.size + 1 + 1 + 1 + 1 < w'.heap.size ∧ w5.heap.size < w'.heap.size ∧ (∀ b o, b < w.heap.size + 1 + 1 + 1 → w'.cell? ⟨b, o, none⟩ = W7.cell? ⟨b, o, none⟩) ∧ w'.cell? ⟨w5.heap.size, 0, none⟩ = some (.bool b5) ∧ w'.cell? ⟨w5.heap.size, 1, none⟩ = some (.slice A5 n5 c5) ∧ (∀ o, o < 2 → w'.cell? ⟨w.heap.size + 1 + 1 + 1, o, none⟩ = some (rd w' (w.heap.size + 1 + 1 + 1) o)) ∧ (∀ o, o < 2 → w'.cell? ⟨w.heap.size + 1 + 1 + 1 + 1, o, none⟩ = some (rd w' (w.heap.size + 1 + 1 + 1 + 1) o)) ∧ (∀ o, w'.frozen? ⟨w.heap.size + 1 + 1 + 1, o, none⟩ = false) ∧ (∀ o, w'.frozen? ⟨w.heap.size + 1 + 1 + 1 + 1, o, none⟩ = false) ∧ (∃ p q, w'.heap[w.heap.size + 1 + 1 + 1]? = some (.cells #[p, q] 64 (0, 0))) ∧ ∃ x y, w'.heap[w.heap.size + 1 + 1 + 1 + 1]? = some (.cells #[x, y] 64 (0, 0)))
          (first | assumption | ((repeat (first | refine heldM_store (by omega) ?_ _ _ | refine heldM_store2 (by omega) ?_ _ _)); assumption))
          (first | (go_at_call 54; with_reducible refine (open_num (Q3.out _)).mono ?_; rintro e wk ⟨b7, A7, n7, c7, d7, rfl, hs7, hr7, ht7, hv7, hb_wk⟩; have hS_wk : HeldM (w.heap.size + 1 + 1 + 1) (w5.heap.size) (.bool b5) (.slice A5 n5 c5) W7 wk := heldM_step hb_wk (by assumption); have hcur := hcur.trans (hb_wk.mono hcur.size); (try replace hr8 := hr8.below hb_wk)) | (go_at_call 82; with_reducible refine (open_num (mul_num (num_mk hr7' ht5 hs5.out hv5.out) (num_mk hr7' ht5 hs5.out hv5.out) S3.out S3.out (by omega) _ hcur)).mono ?_; rintro e wm ⟨b8, A8, n8, c8, d8, rfl, hs8, hr8, ht8, hv8, hb_wm⟩; have hS_wm : HeldM (w.heap.size + 1 + 1 + 1) (w5.heap.size) (.bool b5) (.slice A5 n5 c5) W7 wm := heldM_step hb_wm (by assumption); have hcur := hcur.trans (hb_wm.mono hcur.size); (try replace hr7 := hr7.below hb_wm)))
        all_goals
          obtain ⟨W', e', hB', vR', vQ', hraw⟩ := heldM_four (by assumption)
          rw [e']
          clear e'
          go_wp2_with fail
          exact bodyPost_ret (v := .tuple #[.agg #[.bool b8, .slice A8 n8 c8], .agg #[.bool b7, .slice A7 n7 c7]]) (results_two_rows Try.results63 _ _ _ _ _ _ _ _ _ rfl rfl vR' vQ' Try.underlying64 rfl (by kernel_rfl) (by kernel_rfl)) rfl ⟨_, _, rfl, num_mk (hraw _ _ _ _ (hr8)) ht8 hs8.out hv8.out, num_mk (hraw _ _ _ _ (hr7)) ht7 hs7.out hv7.out, hO7.h.trans (hB'.mono (by omega))⟩
    · have g2 : cmpI z2 0 ≤ 0 := by have := (cmpI_pos (p := z2) (q := 0)); omega
      rw [if_pos h2, if_pos h2]
      clear hc
      clear hab h1 h2
      obtain ⟨s1, hs⟩ : ∃ z, cmpI z1 0 = z := ⟨_, rfl⟩
      have HS1 := Lib.hid hs
      rw [hs] at g1
      clear hs
      obtain ⟨s2, hs⟩ : ∃ z, cmpI z2 0 = z := ⟨_, rfl⟩
      have HS2 := Lib.hid hs
      rw [hs] at g2
      clear hs
      have g1' : ¬ s1 ≤ 0 := by omega
      clear g1
      rcases hne with hne | ⟨rfl, hne⟩
      · skip
        go_enter Try.func63, Try.ntmps63
        go_upto_region 1 with fail
        refine wp_gen (fun W hW => ?_)
        have hO : Ob w ax ay bx by_ px py W := by rw [hW]; exact ⟨((((Var.new _ _ _).alloc _).alloc _).alloc _).alloc _, (((Var.new' _ _ _ (by simp)).alloc _).alloc _).alloc _, ((Var.new' _ _ _ (by simp)).alloc _).alloc _, (Var.new' _ _ _ (by simp)).alloc _, Var.new' _ _ _ (by simp), by go_grown⟩
        clear hW
        go_wp2_with fail
        refine (open_num (O1.out _)).mono ?_
        rintro e w1 ⟨b1, A1, n1, c1, d1, rfl, hs1, hr1, ht1, hv1, hb_w1⟩
        have hO1 := hO.keep hb_w1
        go_upto_region 2 with fail
        refine wp_gen (fun W2 hW2 => ?_)
        have hbb : Below w1.heap.size w1 W2 := by rw [hW2]; go_grown
        have vX : Var W2 w1.heap.size 64 #[.bool b1, .slice A1 n1 c1] := by rw [hW2]; exact Var.new _ _ _
        have hO2 := hO1.keep hbb
        have hr2 := hr1.below hbb
        have hX0 : w.heap.size + 1 + 1 + 1 + 1 < w1.heap.size := hO1.q.lt
        clear hW2 hbb hr1 hO1 hO
        have a0 : W2.cell? ⟨w.heap.size, 0, none⟩ = some (.int .i32 ax) := hO2.a.cell 0
        have a1 : W2.cell? ⟨w.heap.size, 1, none⟩ = some (.int .i32 ay) := hO2.a.cell 1
        have q0 : W2.cell? ⟨w.heap.size + 1, 0, none⟩ = some (.int .i32 bx) := hO2.b.cell 0
        have q1 : W2.cell? ⟨w.heap.size + 1, 1, none⟩ = some (.int .i32 by_) := hO2.b.cell 1
        have p0 : W2.cell? ⟨w.heap.size + 1 + 1, 0, none⟩ = some (.int .i32 px) := hO2.p.cell 0
        have p1 : W2.cell? ⟨w.heap.size + 1 + 1, 1, none⟩ = some (.int .i32 py) := hO2.p.cell 1
        go_wp2_with fail
        refine (I1.out _).mono ?_
        rintro e wi2 ⟨ui2, rfl, hni2, hb_wi2⟩
        go_wp2_with fail
        refine (sign_ref hni2 S1.out (by omega) _ (Below.refl _ _)).mono ?_
        rintro e ws2 ⟨rfl, hb_ws2⟩
        have hbs2 : Below W2.heap.size W2 ws2 := hb_wi2.trans (hb_ws2.mono hb_wi2.size)
        have hO3 := hO2.keep hbs2
        have hr3 := hr2.below hbs2
        replace vX := vX.keep hbs2
        rw [HS1.out]
        clear a0 a1 q0 q1 p0 p1 hb_wi2 hb_ws2 hni2
        have a0 : ws2.cell? ⟨w.heap.size, 0, none⟩ = some (.int .i32 ax) := hO3.a.cell 0
        have a1 : ws2.cell? ⟨w.heap.size, 1, none⟩ = some (.int .i32 ay) := hO3.a.cell 1
        have q0 : ws2.cell? ⟨w.heap.size + 1, 0, none⟩ = some (.int .i32 bx) := hO3.b.cell 0
        have q1 : ws2.cell? ⟨w.heap.size + 1, 1, none⟩ = some (.int .i32 by_) := hO3.b.cell 1
        have p0 : ws2.cell? ⟨w.heap.size + 1 + 1, 0, none⟩ = some (.int .i32 px) := hO3.p.cell 0
        have p1 : ws2.cell? ⟨w.heap.size + 1 + 1, 1, none⟩ = some (.int .i32 py) := hO3.p.cell 1
        go_wp2_with fail
        refine (I2.out _).mono ?_
        rintro e wi3 ⟨ui3, rfl, hni3, hb_wi3⟩
        go_wp2_with fail
        refine (sign_ref hni3 S2.out (by omega) _ (Below.refl _ _)).mono ?_
        rintro e ws3 ⟨rfl, hb_ws3⟩
        have hbs3 : Below ws2.heap.size ws2 ws3 := hb_wi3.trans (hb_ws3.mono hb_wi3.size)
        have hO4 := hO3.keep hbs3
        have hr4 := hr3.below hbs3
        replace vX := vX.keep hbs3
        rw [HS2.out]
        clear a0 a1 q0 q1 p0 p1 hb_wi3 hb_ws3 hni3
        have a0 : ws3.cell? ⟨w.heap.size, 0, none⟩ = some (.int .i32 ax) := hO4.a.cell 0
        have a1 : ws3.cell? ⟨w.heap.size, 1, none⟩ = some (.int .i32 ay) := hO4.a.cell 1
        have q0 : ws3.cell? ⟨w.heap.size + 1, 0, none⟩ = some (.int .i32 bx) := hO4.b.cell 0
        have q1 : ws3.cell? ⟨w.heap.size + 1, 1, none⟩ = some (.int .i32 by_) := hO4.b.cell 1
        have p0 : ws3.cell? ⟨w.heap.size + 1 + 1, 0, none⟩ = some (.int .i32 px) := hO4.p.cell 0
        have p1 : ws3.cell? ⟨w.heap.size + 1 + 1, 1, none⟩ = some (.int .i32 py) := hO4.p.cell 1
        go_wp2_with fail
        have hM0 : HeldM (w.heap.size + 1 + 1 + 1) (w1.heap.size) (.bool b1) (.slice A1 n1 c1) ws3 ws3.drew := heldM_of (Below.refl _ _).drew vX.lt (vX.cell 0) (vX.cell 1) hO4.r hO4.q
        go_region_held3 (fun w' => Below (w.heap.size + 1 + 1 + 1) ws3 w' ∧ w.heap.size + 1 + 1 + 1 + 1 < w'.heap.size ∧ w1.heap.size < w'.heap.size ∧ (∀ b o, b < w.heap.size + 1 + 1 + 1 → w'.cell? ⟨b, o, none⟩ = ws3.cell? ⟨b, o, none⟩) ∧ w'.cell? ⟨w1.heap.size, 0, none⟩ = some (.bool b1) ∧ w'.cell? ⟨w1.heap.size, 1, none⟩ = some (.slice A1 n1 c1) ∧ (∀ o, o < 2 → w'.cell? ⟨w.heap.size + 1 + 1 + 1, o, none⟩ = some (rd w' (w.heap.size + 1 + 1 + 1) o)) ∧ (∀ o, o < 2 → w'.cell? ⟨w.heap.size + 1 + 1 + 1 + 1, o, none⟩ = some (rd w' (w.heap.size + 1 + 1 + 1 + 1) o)) ∧ (∀ o, w'.frozen? ⟨w.heap.size + 1 + 1 + 1, o, none⟩ = false) ∧ (∀ o, w'.frozen? ⟨w.heap.size + 1 + 1 + 1 + 1, o, none⟩ = false) ∧ (∃ p q, w'.heap[w.heap.size + 1 + 1 + 1]? = some (.cells #[p, q] 64 (0, 0))) ∧ ∃ x y, w'.heap[w.heap.size + 1 + 1 + 1 + 1]? = some (.cells #[x, y] 64 (0, 0)))
          (first | assumption | ((repeat (first | refine heldM_store (by omega) ?_ _ _ | refine heldM_store2 (by omega) ?_ _ _)); assumption))
          (first | (go_at_call 54; with_reducible refine (open_num (Q2.out _)).mono ?_; rintro e wk ⟨b7, A7, n7, c7, d7, rfl, hs7, hr7, ht7, hv7, hb_wk⟩; have hS_wk : HeldM (w.heap.size + 1 + 1 + 1) (w1.heap.size) (.bool b1) (.slice A1 n1 c1) ws3 wk := heldM_step hb_wk (by assumption)))
        all_goals
          obtain ⟨W', e', hB', vR', vQ', hraw⟩ := heldM_four (by assumption)
          rw [e']
          clear e'
          go_wp2_with fail
          exact bodyPost_ret (v := .tuple #[.agg #[.bool b7, .slice A7 n7 c7], .agg #[.bool b1, .slice A1 n1 c1]]) (results_two_rows Try.results63 _ _ _ _ _ _ _ _ _ rfl rfl vR' vQ' Try.underlying64 rfl (by kernel_rfl) (by kernel_rfl)) rfl ⟨_, _, rfl, num_mk (hraw _ _ _ _ (hr7)) ht7 hs7.out hv7.out, num_mk (hraw _ _ _ _ (hr4.below (undrew hb_wk))) ht1 hs1.out hv1.out, hO4.h.trans (hB'.mono (by omega))⟩
      · skip
        go_enter Try.func63, Try.ntmps63
        go_upto_region 1 with fail
        refine wp_gen (fun W hW => ?_)
        have hO : Ob w ax ay ax by_ px py W := by rw [hW]; exact ⟨((((Var.new _ _ _).alloc _).alloc _).alloc _).alloc _, (((Var.new' _ _ _ (by simp)).alloc _).alloc _).alloc _, ((Var.new' _ _ _ (by simp)).alloc _).alloc _, (Var.new' _ _ _ (by simp)).alloc _, Var.new' _ _ _ (by simp), by go_grown⟩
        clear hW
        go_wp2_with fail
        refine (open_num (O1.out _)).mono ?_
        rintro e w1 ⟨b1, A1, n1, c1, d1, rfl, hs1, hr1, ht1, hv1, hb_w1⟩
        have hO1 := hO.keep hb_w1
        go_upto_region 2 with fail
        refine wp_gen (fun W2 hW2 => ?_)
        have hbb : Below w1.heap.size w1 W2 := by rw [hW2]; go_grown
        have vX : Var W2 w1.heap.size 64 #[.bool b1, .slice A1 n1 c1] := by rw [hW2]; exact Var.new _ _ _
        have hO2 := hO1.keep hbb
        have hr2 := hr1.below hbb
        have hX0 : w.heap.size + 1 + 1 + 1 + 1 < w1.heap.size := hO1.q.lt
        clear hW2 hbb hr1 hO1 hO
        have a0 : W2.cell? ⟨w.heap.size, 0, none⟩ = some (.int .i32 ax) := hO2.a.cell 0
        have a1 : W2.cell? ⟨w.heap.size, 1, none⟩ = some (.int .i32 ay) := hO2.a.cell 1
        have q0 : W2.cell? ⟨w.heap.size + 1, 0, none⟩ = some (.int .i32 ax) := hO2.b.cell 0
        have q1 : W2.cell? ⟨w.heap.size + 1, 1, none⟩ = some (.int .i32 by_) := hO2.b.cell 1
        have p0 : W2.cell? ⟨w.heap.size + 1 + 1, 0, none⟩ = some (.int .i32 px) := hO2.p.cell 0
        have p1 : W2.cell? ⟨w.heap.size + 1 + 1, 1, none⟩ = some (.int .i32 py) := hO2.p.cell 1
        go_wp2_with fail
        refine (I1.out _).mono ?_
        rintro e wi2 ⟨ui2, rfl, hni2, hb_wi2⟩
        go_wp2_with fail
        refine (sign_ref hni2 S1.out (by omega) _ (Below.refl _ _)).mono ?_
        rintro e ws2 ⟨rfl, hb_ws2⟩
        have hbs2 : Below W2.heap.size W2 ws2 := hb_wi2.trans (hb_ws2.mono hb_wi2.size)
        have hO3 := hO2.keep hbs2
        have hr3 := hr2.below hbs2
        replace vX := vX.keep hbs2
        rw [HS1.out]
        clear a0 a1 q0 q1 p0 p1 hb_wi2 hb_ws2 hni2
        have a0 : ws2.cell? ⟨w.heap.size, 0, none⟩ = some (.int .i32 ax) := hO3.a.cell 0
        have a1 : ws2.cell? ⟨w.heap.size, 1, none⟩ = some (.int .i32 ay) := hO3.a.cell 1
        have q0 : ws2.cell? ⟨w.heap.size + 1, 0, none⟩ = some (.int .i32 ax) := hO3.b.cell 0
        have q1 : ws2.cell? ⟨w.heap.size + 1, 1, none⟩ = some (.int .i32 by_) := hO3.b.cell 1
        have p0 : ws2.cell? ⟨w.heap.size + 1 + 1, 0, none⟩ = some (.int .i32 px) := hO3.p.cell 0
        have p1 : ws2.cell? ⟨w.heap.size + 1 + 1, 1, none⟩ = some (.int .i32 py) := hO3.p.cell 1
        go_wp2_with fail
        refine (I2.out _).mono ?_
        rintro e wi3 ⟨ui3, rfl, hni3, hb_wi3⟩
        go_wp2_with fail
        refine (sign_ref hni3 S2.out (by omega) _ (Below.refl _ _)).mono ?_
        rintro e ws3 ⟨rfl, hb_ws3⟩
        have hbs3 : Below ws2.heap.size ws2 ws3 := hb_wi3.trans (hb_ws3.mono hb_wi3.size)
        have hO4 := hO3.keep hbs3
        have hr4 := hr3.below hbs3
        replace vX := vX.keep hbs3
        rw [HS2.out]
        clear a0 a1 q0 q1 p0 p1 hb_wi3 hb_ws3 hni3
        have a0 : ws3.cell? ⟨w.heap.size, 0, none⟩ = some (.int .i32 ax) := hO4.a.cell 0
        have a1 : ws3.cell? ⟨w.heap.size, 1, none⟩ = some (.int .i32 ay) := hO4.a.cell 1
        have q0 : ws3.cell? ⟨w.heap.size + 1, 0, none⟩ = some (.int .i32 ax) := hO4.b.cell 0
        have q1 : ws3.cell? ⟨w.heap.size + 1, 1, none⟩ = some (.int .i32 by_) := hO4.b.cell 1
        have p0 : ws3.cell? ⟨w.heap.size + 1 + 1, 0, none⟩ = some (.int .i32 px) := hO4.p.cell 0
        have p1 : ws3.cell? ⟨w.heap.size + 1 + 1, 1, none⟩ = some (.int .i32 py) := hO4.p.cell 1
        go_wp2_with fail
        have hM0 : HeldM (w.heap.size + 1 + 1 + 1) (w1.heap.size) (.bool b1) (.slice A1 n1 c1) ws3 ws3.drew := heldM_of (Below.refl _ _).drew vX.lt (vX.cell 0) (vX.cell 1) hO4.r hO4.q
        go_region_held3 (fun w' => Below (w.heap.size + 1 + 1 + 1) ws3 w' ∧ w.heap.size + 1 + 1 + 1 + 1 < w'.heap.size ∧ w1.heap.size < w'.heap.size ∧ (∀ b o, b < w.heap.size + 1 + 1 + 1 → w'.cell? ⟨b, o, none⟩ = ws3.cell? ⟨b, o, none⟩) ∧ w'.cell? ⟨w1.heap.size, 0, none⟩ = some (.bool b1) ∧ w'.cell? ⟨w1.heap.size, 1, none⟩ = some (.slice A1 n1 c1) ∧ (∀ o, o < 2 → w'.cell? ⟨w.heap.size + 1 + 1 + 1, o, none⟩ = some (rd w' (w.heap.size + 1 + 1 + 1) o)) ∧ (∀ o, o < 2 → w'.cell? ⟨w.heap.size + 1 + 1 + 1 + 1, o, none⟩ = some (rd w' (w.heap.size + 1 + 1 + 1 + 1) o)) ∧ (∀ o, w'.frozen? ⟨w.heap.size + 1 + 1 + 1, o, none⟩ = false) ∧ (∀ o, w'.frozen? ⟨w.heap.size + 1 + 1 + 1 + 1, o, none⟩ = false) ∧ (∃ p q, w'.heap[w.heap.size + 1 + 1 + 1]? = some (.cells #[p, q] 64 (0, 0))) ∧ ∃ x y, w'.heap[w.heap.size + 1 + 1 + 1 + 1]? = some (.cells #[x, y] 64 (0, 0)))
          (first | assumption | ((repeat (first | refine heldM_store (by omega) ?_ _ _ | refine heldM_store2 (by omega) ?_ _ _)); assumption))
          (first | (go_at_call 54; with_reducible refine (open_num (Q2.out _)).mono ?_; rintro e wk ⟨b7, A7, n7, c7, d7, rfl, hs7, hr7, ht7, hv7, hb_wk⟩; have hS_wk : HeldM (w.heap.size + 1 + 1 + 1) (w1.heap.size) (.bool b1) (.slice A1 n1 c1) ws3 wk := heldM_step hb_wk (by assumption)))
        all_goals
          obtain ⟨W', e', hB', vR', vQ', hraw⟩ := heldM_four (by assumption)
          rw [e']
          clear e'
          go_wp2_with fail
          exact bodyPost_ret (v := .tuple #[.agg #[.bool b7, .slice A7 n7 c7], .agg #[.bool b1, .slice A1 n1 c1]]) (results_two_rows Try.results63 _ _ _ _ _ _ _ _ _ rfl rfl vR' vQ' Try.underlying64 rfl (by kernel_rfl) (by kernel_rfl)) rfl ⟨_, _, rfl, num_mk (hraw _ _ _ _ (hr7)) ht7 hs7.out hv7.out, num_mk (hraw _ _ _ _ (hr4.below (undrew hb_wk))) ht1 hs1.out hv1.out, hO4.h.trans (hB'.mono (by omega))⟩
  · have g1 : cmpI z1 0 ≤ 0 := by have := (cmpI_pos (p := z1) (q := 0)); omega
    have hc : ((ax, ay) : Pt) = (bx, by_) ∨ z1 ≤ 0 := .inr h1
    rw [if_pos hc, if_pos hc]
    clear hc
    clear hab h1
    obtain ⟨s1, hs⟩ : ∃ z, cmpI z1 0 = z := ⟨_, rfl⟩
    have HS1 := Lib.hid hs
    rw [hs] at g1
    clear hs
    rcases hne with hne | ⟨rfl, hne⟩
    · skip
      go_enter Try.func63, Try.ntmps63
      go_upto_region 1 with fail
      refine wp_gen (fun W hW => ?_)
      have hO : Ob w ax ay bx by_ px py W := by rw [hW]; exact ⟨((((Var.new _ _ _).alloc _).alloc _).alloc _).alloc _, (((Var.new' _ _ _ (by simp)).alloc _).alloc _).alloc _, ((Var.new' _ _ _ (by simp)).alloc _).alloc _, (Var.new' _ _ _ (by simp)).alloc _, Var.new' _ _ _ (by simp), by go_grown⟩
      clear hW
      go_wp2_with fail
      refine (open_num (O1.out _)).mono ?_
      rintro e w1 ⟨b1, A1, n1, c1, d1, rfl, hs1, hr1, ht1, hv1, hb_w1⟩
      have hO1 := hO.keep hb_w1
      go_upto_region 2 with fail
      refine wp_gen (fun W2 hW2 => ?_)
      have hbb : Below w1.heap.size w1 W2 := by rw [hW2]; go_grown
      have vX : Var W2 w1.heap.size 64 #[.bool b1, .slice A1 n1 c1] := by rw [hW2]; exact Var.new _ _ _
      have hO2 := hO1.keep hbb
      have hr2 := hr1.below hbb
      have hX0 : w.heap.size + 1 + 1 + 1 + 1 < w1.heap.size := hO1.q.lt
      clear hW2 hbb hr1 hO1 hO
      have a0 : W2.cell? ⟨w.heap.size, 0, none⟩ = some (.int .i32 ax) := hO2.a.cell 0
      have a1 : W2.cell? ⟨w.heap.size, 1, none⟩ = some (.int .i32 ay) := hO2.a.cell 1
      have q0 : W2.cell? ⟨w.heap.size + 1, 0, none⟩ = some (.int .i32 bx) := hO2.b.cell 0
      have q1 : W2.cell? ⟨w.heap.size + 1, 1, none⟩ = some (.int .i32 by_) := hO2.b.cell 1
      have p0 : W2.cell? ⟨w.heap.size + 1 + 1, 0, none⟩ = some (.int .i32 px) := hO2.p.cell 0
      have p1 : W2.cell? ⟨w.heap.size + 1 + 1, 1, none⟩ = some (.int .i32 py) := hO2.p.cell 1
      go_wp2_with fail
      refine (I1.out _).mono ?_
      rintro e wi2 ⟨ui2, rfl, hni2, hb_wi2⟩
      go_wp2_with fail
      refine (sign_ref hni2 S1.out (by omega) _ (Below.refl _ _)).mono ?_
      rintro e ws2 ⟨rfl, hb_ws2⟩
      have hbs2 : Below W2.heap.size W2 ws2 := hb_wi2.trans (hb_ws2.mono hb_wi2.size)
      have hO3 := hO2.keep hbs2
      have hr3 := hr2.below hbs2
      replace vX := vX.keep hbs2
      rw [HS1.out]
      clear a0 a1 q0 q1 p0 p1 hb_wi2 hb_ws2 hni2
      have a0 : ws2.cell? ⟨w.heap.size, 0, none⟩ = some (.int .i32 ax) := hO3.a.cell 0
      have a1 : ws2.cell? ⟨w.heap.size, 1, none⟩ = some (.int .i32 ay) := hO3.a.cell 1
      have q0 : ws2.cell? ⟨w.heap.size + 1, 0, none⟩ = some (.int .i32 bx) := hO3.b.cell 0
      have q1 : ws2.cell? ⟨w.heap.size + 1, 1, none⟩ = some (.int .i32 by_) := hO3.b.cell 1
      have p0 : ws2.cell? ⟨w.heap.size + 1 + 1, 0, none⟩ = some (.int .i32 px) := hO3.p.cell 0
      have p1 : ws2.cell? ⟨w.heap.size + 1 + 1, 1, none⟩ = some (.int .i32 py) := hO3.p.cell 1
      go_wp2_with fail
      have hM0 : HeldM (w.heap.size + 1 + 1 + 1) (w1.heap.size) (.bool b1) (.slice A1 n1 c1) ws2 ws2.drew := heldM_of (Below.refl _ _).drew vX.lt (vX.cell 0) (vX.cell 1) hO3.r hO3.q
      go_region_held3 (fun w' => Below (w.heap.size + 1 + 1 + 1) ws2 w' ∧ w.heap.size + 1 + 1 + 1 + 1 < w'.heap.size ∧ w1.heap.size < w'.heap.size ∧ (∀ b o, b < w.heap.size + 1 + 1 + 1 → w'.cell? ⟨b, o, none⟩ = ws2.cell? ⟨b, o, none⟩) ∧ w'.cell? ⟨w1.heap.size, 0, none⟩ = some (.bool b1) ∧ w'.cell? ⟨w1.heap.size, 1, none⟩ = some (.slice A1 n1 c1) ∧ (∀ o, o < 2 → w'.cell? ⟨w.heap.size + 1 + 1 + 1, o, none⟩ = some (rd w' (w.heap.size + 1 + 1 + 1) o)) ∧ (∀ o, o < 2 → w'.cell? ⟨w.heap.size + 1 + 1 + 1 + 1, o, none⟩ = some (rd w' (w.heap.size + 1 + 1 + 1 + 1) o)) ∧ (∀ o, w'.frozen? ⟨w.heap.size + 1 + 1 + 1, o, none⟩ = false) ∧ (∀ o, w'.frozen? ⟨w.heap.size + 1 + 1 + 1 + 1, o, none⟩ = false) ∧ (∃ p q, w'.heap[w.heap.size + 1 + 1 + 1]? = some (.cells #[p, q] 64 (0, 0))) ∧ ∃ x y, w'.heap[w.heap.size + 1 + 1 + 1 + 1]? = some (.cells #[x, y] 64 (0, 0)))
        (first | assumption | ((repeat (first | refine heldM_store (by omega) ?_ _ _ | refine heldM_store2 (by omega) ?_ _ _)); assumption))
        (first | (go_at_call 54; with_reducible refine (open_num (Q1.out _)).mono ?_; rintro e wk ⟨b7, A7, n7, c7, d7, rfl, hs7, hr7, ht7, hv7, hb_wk⟩; have hS_wk : HeldM (w.heap.size + 1 + 1 + 1) (w1.heap.size) (.bool b1) (.slice A1 n1 c1) ws2 wk := heldM_step hb_wk (by assumption)))
      all_goals
        obtain ⟨W', e', hB', vR', vQ', hraw⟩ := heldM_four (by assumption)
        rw [e']
        clear e'
        go_wp2_with fail
        exact bodyPost_ret (v := .tuple #[.agg #[.bool b7, .slice A7 n7 c7], .agg #[.bool b1, .slice A1 n1 c1]]) (results_two_rows Try.results63 _ _ _ _ _ _ _ _ _ rfl rfl vR' vQ' Try.underlying64 rfl (by kernel_rfl) (by kernel_rfl)) rfl ⟨_, _, rfl, num_mk (hraw _ _ _ _ (hr7)) ht7 hs7.out hv7.out, num_mk (hraw _ _ _ _ (hr3.below (undrew hb_wk))) ht1 hs1.out hv1.out, hO3.h.trans (hB'.mono (by omega))⟩
    · skip
      go_enter Try.func63, Try.ntmps63
      go_upto_region 1 with fail
      refine wp_gen (fun W hW => ?_)
      have hO : Ob w ax ay ax by_ px py W := by rw [hW]; exact ⟨((((Var.new _ _ _).alloc _).alloc _).alloc _).alloc _, (((Var.new' _ _ _ (by simp)).alloc _).alloc _).alloc _, ((Var.new' _ _ _ (by simp)).alloc _).alloc _, (Var.new' _ _ _ (by simp)).alloc _, Var.new' _ _ _ (by simp), by go_grown⟩
      clear hW
      go_wp2_with fail
      refine (open_num (O1.out _)).mono ?_
      rintro e w1 ⟨b1, A1, n1, c1, d1, rfl, hs1, hr1, ht1, hv1, hb_w1⟩
      have hO1 := hO.keep hb_w1
      go_upto_region 2 with fail
      refine wp_gen (fun W2 hW2 => ?_)
      have hbb : Below w1.heap.size w1 W2 := by rw [hW2]; go_grown
      have vX : Var W2 w1.heap.size 64 #[.bool b1, .slice A1 n1 c1] := by rw [hW2]; exact Var.new _ _ _
      have hO2 := hO1.keep hbb
      have hr2 := hr1.below hbb
      have hX0 : w.heap.size + 1 + 1 + 1 + 1 < w1.heap.size := hO1.q.lt
      clear hW2 hbb hr1 hO1 hO
      have a0 : W2.cell? ⟨w.heap.size, 0, none⟩ = some (.int .i32 ax) := hO2.a.cell 0
      have a1 : W2.cell? ⟨w.heap.size, 1, none⟩ = some (.int .i32 ay) := hO2.a.cell 1
      have q0 : W2.cell? ⟨w.heap.size + 1, 0, none⟩ = some (.int .i32 ax) := hO2.b.cell 0
      have q1 : W2.cell? ⟨w.heap.size + 1, 1, none⟩ = some (.int .i32 by_) := hO2.b.cell 1
      have p0 : W2.cell? ⟨w.heap.size + 1 + 1, 0, none⟩ = some (.int .i32 px) := hO2.p.cell 0
      have p1 : W2.cell? ⟨w.heap.size + 1 + 1, 1, none⟩ = some (.int .i32 py) := hO2.p.cell 1
      go_wp2_with fail
      refine (I1.out _).mono ?_
      rintro e wi2 ⟨ui2, rfl, hni2, hb_wi2⟩
      go_wp2_with fail
      refine (sign_ref hni2 S1.out (by omega) _ (Below.refl _ _)).mono ?_
      rintro e ws2 ⟨rfl, hb_ws2⟩
      have hbs2 : Below W2.heap.size W2 ws2 := hb_wi2.trans (hb_ws2.mono hb_wi2.size)
      have hO3 := hO2.keep hbs2
      have hr3 := hr2.below hbs2
      replace vX := vX.keep hbs2
      rw [HS1.out]
      clear a0 a1 q0 q1 p0 p1 hb_wi2 hb_ws2 hni2
      have a0 : ws2.cell? ⟨w.heap.size, 0, none⟩ = some (.int .i32 ax) := hO3.a.cell 0
      have a1 : ws2.cell? ⟨w.heap.size, 1, none⟩ = some (.int .i32 ay) := hO3.a.cell 1
      have q0 : ws2.cell? ⟨w.heap.size + 1, 0, none⟩ = some (.int .i32 ax) := hO3.b.cell 0
      have q1 : ws2.cell? ⟨w.heap.size + 1, 1, none⟩ = some (.int .i32 by_) := hO3.b.cell 1
      have p0 : ws2.cell? ⟨w.heap.size + 1 + 1, 0, none⟩ = some (.int .i32 px) := hO3.p.cell 0
      have p1 : ws2.cell? ⟨w.heap.size + 1 + 1, 1, none⟩ = some (.int .i32 py) := hO3.p.cell 1
      go_wp2_with fail
      have hM0 : HeldM (w.heap.size + 1 + 1 + 1) (w1.heap.size) (.bool b1) (.slice A1 n1 c1) ws2 ws2.drew := heldM_of (Below.refl _ _).drew vX.lt (vX.cell 0) (vX.cell 1) hO3.r hO3.q
      go_region_held3 (fun w' => Below (w.heap.size + 1 + 1 + 1) ws2 w' ∧ w.heap.size + 1 + 1 + 1 + 1 < w'.heap.size ∧ w1.heap.size < w'.heap.size ∧ (∀ b o, b < w.heap.size + 1 + 1 + 1 → w'.cell? ⟨b, o, none⟩ = ws2.cell? ⟨b, o, none⟩) ∧ w'.cell? ⟨w1.heap.size, 0, none⟩ = some (.bool b1) ∧ w'.cell? ⟨w1.heap.size, 1, none⟩ = some (.slice A1 n1 c1) ∧ (∀ o, o < 2 → w'.cell? ⟨w.heap.size + 1 + 1 + 1, o, none⟩ = some (rd w' (w.heap.size + 1 + 1 + 1) o)) ∧ (∀ o, o < 2 → w'.cell? ⟨w.heap.size + 1 + 1 + 1 + 1, o, none⟩ = some (rd w' (w.heap.size + 1 + 1 + 1 + 1) o)) ∧ (∀ o, w'.frozen? ⟨w.heap.size + 1 + 1 + 1, o, none⟩ = false) ∧ (∀ o, w'.frozen? ⟨w.heap.size + 1 + 1 + 1 + 1, o, none⟩ = false) ∧ (∃ p q, w'.heap[w.heap.size + 1 + 1 + 1]? = some (.cells #[p, q] 64 (0, 0))) ∧ ∃ x y, w'.heap[w.heap.size + 1 + 1 + 1 + 1]? = some (.cells #[x, y] 64 (0, 0)))
        (first | assumption | ((repeat (first | refine heldM_store (by omega) ?_ _ _ | refine heldM_store2 (by omega) ?_ _ _)); assumption))
        (first | (go_at_call 54; with_reducible refine (open_num (Q1.out _)).mono ?_; rintro e wk ⟨b7, A7, n7, c7, d7, rfl, hs7, hr7, ht7, hv7, hb_wk⟩; have hS_wk : HeldM (w.heap.size + 1 + 1 + 1) (w1.heap.size) (.bool b1) (.slice A1 n1 c1) ws2 wk := heldM_step hb_wk (by assumption)))
      all_goals
        obtain ⟨W', e', hB', vR', vQ', hraw⟩ := heldM_four (by assumption)
        rw [e']
        clear e'
        go_wp2_with fail
        exact bodyPost_ret (v := .tuple #[.agg #[.bool b7, .slice A7 n7 c7], .agg #[.bool b1, .slice A1 n1 c1]]) (results_two_rows Try.results63 _ _ _ _ _ _ _ _ _ rfl rfl vR' vQ' Try.underlying64 rfl (by kernel_rfl) (by kernel_rfl)) rfl ⟨_, _, rfl, num_mk (hraw _ _ _ _ (hr7)) ht7 hs7.out hv7.out, num_mk (hraw _ _ _ _ (hr3.below (undrew hb_wk))) ht1 hs1.out hv1.out, hO3.h.trans (hB'.mono (by omega))⟩

theorem off_ref {a b p : Pt} (ha : IL a) (hb : IL b) (hp : IL p) (w : World) :
    Calls Try.prog 63 #[(Value.agg #[.int .i32 (a.1), .int .i32 (a.2)]), (Value.agg #[.int .i32 (b.1), .int .i32 (b.2)]), (Value.agg #[.int .i32 (p.1), .int .i32 (p.2)])] w fun e w' => ∃ u v, e = .returned (.tuple #[u, v]) ∧ NumAt w' u (offN a b p) ∧ NumAt w' v (offD a b p) ∧ Below w.heap.size w w' := by
  obtain ⟨ax, ay⟩ := a
  obtain ⟨bx, by_⟩ := b
  obtain ⟨px, py⟩ := p
  rcases Decidable.em (ax = bx) with h | h
  · rcases Decidable.em (ay = by_) with h2 | h2
    · subst h h2
      exact off_ref_eq ha hp w
    · exact off_ref_ne ha hb hp (.inr ⟨h, h2⟩) w
  · exact off_ref_ne ha hb hp (.inl h) w

end Go.Proofs.Ytcpojadinkonnaa
