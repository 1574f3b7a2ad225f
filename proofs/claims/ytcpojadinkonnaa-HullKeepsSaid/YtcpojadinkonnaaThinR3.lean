/-
  The document's cmp, Within.
-/
import Derived.Test.YtcpojadinkonnaaThinR2
namespace Go.Proofs.Ytcpojadinkonnaa
open Go.RowKit

theorem small_mul {k : Nat} {x y : Int} (hx : Small k x.natAbs) (hy : Small k y.natAbs) : Small (k + k) (x * y).natAbs := by rw [Int.natAbs_mul]; exact hx.mul hy

set_option maxHeartbeats 4000000 in
set_option maxRecDepth 100000 in
theorem cmp10 {w : World} {v1 v2 v3 v4 : Value} {x1 x2 x3 x4 : Int} {k : Nat} (h1 : NumAt w v1 x1) (h2 : NumAt w v2 x2) (h3 : NumAt w v3 x3) (h4 : NumAt w v4 x4)
    (s1 : Small k x1.natAbs) (s2 : Small k x2.natAbs) (s3 : Small k x3.natAbs) (s4 : Small k x4.natAbs) (hk : k ≤ 1000) :
    Calls Try.prog 64 #[v1, v2, v3, v4] w fun e w' => e = .returned (.int .i64 (cmpI (x1 * x4) (x3 * x2))) ∧ Below w.heap.size w w' := by
  obtain ⟨b1, A1, n1, c1, d1, rfl, hs1, hr1, ht1, hv1⟩ := num_open h1
  obtain ⟨b2, A2, n2, c2, d2, rfl, hs2, hr2, ht2, hv2⟩ := num_open h2
  obtain ⟨b3, A3, n3, c3, d3, rfl, hs3, hr3, ht3, hv3⟩ := num_open h3
  obtain ⟨b4, A4, n4, c4, d4, rfl, hs4, hr4, ht4, hv4⟩ := num_open h4
  have K := Lib.hid (And.intro s1 (And.intro s2 (And.intro s3 (And.intro s4 (And.intro (small_mul s1 s4) (small_mul s3 s2))))))
  have HH := Lib.hid (And.intro h1 (And.intro h2 (And.intro h3 h4)))
  clear h1 h2 h3 h4 s1 s2 s3 s4 hr1 hr2 hr3 hr4 hs1 hs2 hs3 hs4 hv1 hv2 hv3 hv4 ht1 ht2 ht3 ht4
  go_enter Try.func64, Try.ntmps64
  go_wp2_with fail
  refine wp_gen (fun W hW => ?_)
  have hbW : Below w.heap.size w W := by rw [hW]; go_grown
  have va : Var W w.heap.size 64 #[.bool b1, .slice A1 n1 c1] := by rw [hW]; exact (((Var.new _ _ _).alloc _).alloc _).alloc _
  have vb : Var W (w.heap.size + 1) 64 #[.bool b2, .slice A2 n2 c2] := by rw [hW]; exact ((Var.new' _ _ _ (by simp)).alloc _).alloc _
  have vc : Var W (w.heap.size + 1 + 1) 64 #[.bool b3, .slice A3 n3 c3] := by rw [hW]; exact (Var.new' _ _ _ (by simp)).alloc _
  have vd : Var W (w.heap.size + 1 + 1 + 1) 64 #[.bool b4, .slice A4 n4 c4] := by rw [hW]; exact Var.new' _ _ _ (by simp)
  clear hW
  have a0 : W.cell? ⟨w.heap.size, 0, none⟩ = some (.bool b1) := va.cell 0
  have a1 : W.cell? ⟨w.heap.size, 1, none⟩ = some (.slice A1 n1 c1) := va.cell 1
  have q0 : W.cell? ⟨w.heap.size + 1, 0, none⟩ = some (.bool b2) := vb.cell 0
  have q1 : W.cell? ⟨w.heap.size + 1, 1, none⟩ = some (.slice A2 n2 c2) := vb.cell 1
  have p0 : W.cell? ⟨w.heap.size + 1 + 1, 0, none⟩ = some (.bool b3) := vc.cell 0
  have p1 : W.cell? ⟨w.heap.size + 1 + 1, 1, none⟩ = some (.slice A3 n3 c3) := vc.cell 1
  have r0 : W.cell? ⟨w.heap.size + 1 + 1 + 1, 0, none⟩ = some (.bool b4) := vd.cell 0
  have r1 : W.cell? ⟨w.heap.size + 1 + 1 + 1, 1, none⟩ = some (.slice A4 n4 c4) := vd.cell 1
  have z0 := va.lt
  have z1 := vb.lt
  have z2 := vc.lt
  have z3 := vd.lt
  have hcur : Below W.heap.size W W.drew := (Below.refl _ _).drew
  have HB := Lib.hid hbW
  clear va vb vc vd hbW
  go_region_held3 (fun w' => Below W.heap.size W w' ∧ (∀ b o, b < W.heap.size → w'.cell? ⟨b, o, none⟩ = W.cell? ⟨b, o, none⟩))
    (first | assumption | exact held_start _)
    (first
      | (go_at_call 55; with_reducible refine (cmp_ref m1 m2 K.out.2.2.2.2.1 K.out.2.2.2.2.2 (by omega) _ (Below.refl _ _)).mono ?_; rintro e wc ⟨rfl, hb_wc⟩; have hS_wc := held_step hb_wc (W0 := W) (by first | assumption | exact held_start _); have hcur := hcur.trans (hb_wc.mono hcur.size))
      | (go_at_call 82; with_reducible refine (mul_num (HH.out.1.below HB.out) (HH.out.2.2.2.below HB.out) K.out.1 K.out.2.2.2.1 (by omega) _ hcur).mono ?_; rintro e wm ⟨u1, rfl, m1, hb_wm⟩; have hS_wm := held_step hb_wm (W0 := W) (by first | assumption | exact held_start _); have hcur := hcur.trans (hb_wm.mono hcur.size); (try replace m2 := m2.below hb_wm))
      | (go_at_call 82; with_reducible refine (mul_num (HH.out.2.2.1.below HB.out) (HH.out.2.1.below HB.out) K.out.2.2.1 K.out.2.1 (by omega) _ hcur).mono ?_; rintro e wn ⟨u2, rfl, m2, hb_wn⟩; have hS_wn := held_step hb_wn (W0 := W) (by first | assumption | exact held_start _); have hcur := hcur.trans (hb_wn.mono hcur.size); (try replace m1 := m1.below hb_wn)))
  all_goals
    go_wp2_with fail
    refine bodyPost_ret (by simp [results, Try.results64, go_sem, *]; try rfl) rfl ?_
    exact ⟨rfl, HB.out.trans (hcur.mono HB.out.size)⟩

end Go.Proofs.Ytcpojadinkonnaa
