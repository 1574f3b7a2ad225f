/-
  The document's Within.
-/
import Derived.Test.YtcpojadinkonnaaThinR3
namespace Go.Proofs.Ytcpojadinkonnaa
open Go.RowKit

def withinB (a b p : Pt) (t : Int) : Bool := decide (offP a b p ≤ t * t * mx1 (lng a b))
theorem within_cmp (a b p : Pt) (t : Int) : decide (cmpI (offN a b p * 1) (t * t * offD a b p) ≤ 0) = withinB a b p t := by
  unfold withinB
  refine decide_eq_decide.2 ?_
  have h1 := off_within a b p (t * t)
  have h2 := cmpI_pos (p := offN a b p * 1) (q := t * t * offD a b p)
  omega
theorem small_off {a b p : Pt} (ha : IL a) (hb : IL b) (hp : IL p) : Small 14 (offN a b p).natAbs ∧ Small 14 (offD a b p).natAbs := by
  have e : (65536 : Nat) ^ 14 = 26959946667150639794667015087019630673637144422540572481103610249216 := by decide +kernel
  have h1 := lng_bd ha hb
  have h2 := lng_bd ha hp
  have h3 := lng_bd hb hp
  have h4 := crz_bd ha hb hp
  have h5 := big_in (x := crz a b p) (y := crz a b p) (by omega) (by omega)
  unfold In128 at h5
  unfold Small offN offD
  rw [e]
  refine ⟨?_, ?_⟩
  · split
    · omega
    · split <;> omega
  · split
    · omega
    · split <;> omega
theorem small_tol {t : Int} (h : Tol t) : Small 14 t.natAbs := by
  have e : (65536 : Nat) ^ 14 = 26959946667150639794667015087019630673637144422540572481103610249216 := by decide +kernel
  unfold Tol at h
  unfold Small
  rw [e]
  omega
theorem small_tol2 {t : Int} (h : Tol t) : Small 14 (t * t).natAbs := by
  have e : (65536 : Nat) ^ 14 = 26959946667150639794667015087019630673637144422540572481103610249216 := by decide +kernel
  have h1 := tol_sq h
  unfold Small
  rw [e]
  omega

set_option maxHeartbeats 4000000 in
set_option maxRecDepth 100000 in
theorem within_ref {a b p : Pt} {t : Int} (ha : IL a) (hb : IL b) (hp : IL p) (ht : Tol t) (w : World) :
    Calls Try.prog 65 #[(Value.agg #[.int .i32 (a.1), .int .i32 (a.2)]), (Value.agg #[.int .i32 (b.1), .int .i32 (b.2)]), (Value.agg #[.int .i32 (p.1), .int .i32 (p.2)]), .int .i64 t] w fun e w' => e = .returned (.bool (withinB a b p t)) ∧ Below w.heap.size w w' := by
  rw [← within_cmp]
  have OF := Lib.hid (fun W => off_ref ha hb hp W)
  have OT := Lib.hid (fun W => of_ref t (by unfold Tol at ht; omega) W)
  have O1 := Lib.hid (fun W => of_ref 1 (by omega) W)
  have hso := small_off ha hb hp
  have K := Lib.hid (And.intro hso.1 (And.intro hso.2 (And.intro (small_tol ht) (And.intro (small_tol2 ht) (Small.mono small_one (by omega : 7 ≤ 14))))))
  obtain ⟨x, hx⟩ : ∃ z, offN a b p = z := ⟨_, rfl⟩
  obtain ⟨y, hy⟩ : ∃ z, offD a b p = z := ⟨_, rfl⟩
  rw [hx, hy] at OF K ⊢
  clear hso hx hy ha hb hp ht
  go_enter Try.func65, Try.ntmps65
  go_wp2_with fail
  refine (OF.out _).mono ?_
  rintro e w1 ⟨u, v, rfl, hu, hv, hb_w1⟩
  obtain ⟨b1, A1, n1, c1, d1, rfl, _⟩ := num_open hu
  obtain ⟨b2, A2, n2, c2, d2, rfl, _⟩ := num_open hv
  have hB1 : Below w.heap.size w w1 := Below.trans (by go_grown) (hb_w1.mono (by simp; omega))
  have hz1 := hb_w1.size
  simp at hz1
  clear hb_w1
  go_upto_region 2 with fail
  refine wp_gen (fun W hW => ?_)
  have hbW : Below w1.heap.size w1 W := by rw [hW]; go_grown
  have va : Var W w1.heap.size 64 #[.bool b1, .slice A1 n1 c1] := by rw [hW]; exact (Var.new _ _ _).alloc _
  have vb : Var W (w1.heap.size + 1) 64 #[.bool b2, .slice A2 n2 c2] := by rw [hW]; exact Var.new' _ _ _ (by simp)
  have H1 := Lib.hid (And.intro (hB1.trans (hbW.mono hB1.size)) (And.intro (hu.below hbW) (And.intro (hv.below hbW) (And.intro va vb))))
  clear hW hbW va vb hu hv hB1
  go_wp2_with fail
  refine (OT.out _).mono ?_
  rintro e w2 ⟨s, rfl, hs, hb_w2⟩
  obtain ⟨b3, A3, n3, c3, d3, rfl, _⟩ := num_open hs
  have hz2 := hb_w2.size
  have H2 := Lib.hid (And.intro (H1.out.1.trans (hb_w2.mono H1.out.1.size)) (And.intro (H1.out.2.1.below hb_w2) (And.intro (H1.out.2.2.1.below hb_w2) (And.intro (H1.out.2.2.2.1.keep hb_w2) (And.intro (H1.out.2.2.2.2.keep hb_w2) hs)))))
  clear hb_w2 hs H1
  go_upto_region 3 with fail
  refine wp_gen (fun W3 hW => ?_)
  have hbW : Below w2.heap.size w2 W3 := by rw [hW]; go_grown
  have vc : Var W3 w2.heap.size 64 #[.bool b3, .slice A3 n3 c3] := by rw [hW]; exact Var.new _ _ _
  have va := H2.out.2.2.2.1.keep hbW
  have vb := H2.out.2.2.2.2.1.keep hbW
  have H3 := Lib.hid (And.intro (H2.out.1.trans (hbW.mono H2.out.1.size)) (And.intro (H2.out.2.1.below hbW) (And.intro (H2.out.2.2.1.below hbW) (H2.out.2.2.2.2.2.below hbW))))
  have a0 : W3.cell? ⟨w1.heap.size, 0, none⟩ = some (.bool b1) := va.cell 0
  have a1 : W3.cell? ⟨w1.heap.size, 1, none⟩ = some (.slice A1 n1 c1) := va.cell 1
  have q0 : W3.cell? ⟨w1.heap.size + 1, 0, none⟩ = some (.bool b2) := vb.cell 0
  have q1 : W3.cell? ⟨w1.heap.size + 1, 1, none⟩ = some (.slice A2 n2 c2) := vb.cell 1
  have p0 : W3.cell? ⟨w2.heap.size, 0, none⟩ = some (.bool b3) := vc.cell 0
  have p1 : W3.cell? ⟨w2.heap.size, 1, none⟩ = some (.slice A3 n3 c3) := vc.cell 1
  have z0 := va.lt
  have z1 := vb.lt
  have z2 := vc.lt
  have hcur : Below W3.heap.size W3 W3.drew := (Below.refl _ _).drew
  clear va vb vc hbW hW H2
  go_region_held3 (fun w' => Below W3.heap.size W3 w' ∧ (∀ b o, b < W3.heap.size → w'.cell? ⟨b, o, none⟩ = W3.cell? ⟨b, o, none⟩))
    (first | assumption | exact held_start _)
    (first
      | (go_at_call 64; with_reducible refine (cmp10 (H3.out.2.1.below hcur) (H3.out.2.2.1.below hcur) m1 m2 K.out.1 K.out.2.1 K.out.2.2.2.1 K.out.2.2.2.2 (by omega)).mono ?_; rintro e wc ⟨rfl, hb_wc⟩; have hS_wc := held_step hb_wc (W0 := W3) (by first | assumption | exact held_start _); have hcur := hcur.trans (hb_wc.mono hcur.size))
      | (go_at_call 82; with_reducible refine (mul_num H3.out.2.2.2 H3.out.2.2.2 K.out.2.2.1 K.out.2.2.1 (by omega) _ hcur).mono ?_; rintro e wm ⟨u1, rfl, m1, hb_wm⟩; have hS_wm := held_step hb_wm (W0 := W3) (by first | assumption | exact held_start _); have hcur := hcur.trans (hb_wm.mono hcur.size); (try replace m2 := m2.below hb_wm))
      | (go_at_call 53; with_reducible refine (O1.out _).mono ?_; rintro e wn ⟨u2, rfl, m2, hb_wn⟩; have hS_wn := held_step hb_wn (W0 := W3) (by first | assumption | exact held_start _); have hcur := hcur.trans (hb_wn.mono hcur.size); (try replace m1 := m1.below hb_wn)))
  all_goals
    go_wp2_with fail
    refine bodyPost_ret (by simp [results, Try.results65, go_sem, *]; try rfl) rfl ?_
    exact ⟨ret_bool (by rw [Int.mul_one]), H3.out.1.trans (hcur.mono H3.out.1.size)⟩

end Go.Proofs.Ytcpojadinkonnaa
