/-
  Contracts of the document's way, cross, dot (as numbers of any size).
-/
import Derived.Test.YtcpojadinkonnaaCmpP
import Derived.Test.YtcpojadinkonnaaRef
namespace Go.Proofs.Ytcpojadinkonnaa
open Go.RowKit

theorem way_ref (a b : Int) (ha : I32 a) (hb : I32 b) (w : World) :
    Calls Try.prog 83 #[.int .i32 a, .int .i32 b] w fun e w' => ∃ u, e = .returned u ∧ NumAt w' u (b - a) ∧ Below w.heap.size w w' := by
  have OF := Lib.hid (fun W => of_ref (b - a) (d_64 hb ha) W)
  have e1 := wrap_sub hb ha
  have e2 : wrap64 b = b := by unfold I32 at hb; unfold wrap64; omega
  have e3 : wrap64 a = a := by unfold I32 at ha; unfold wrap64; omega
  rw [e2, e3] at e1
  clear ha hb
  go_enter Try.func83, Try.ntmps83
  go_wp2_with fail
  refine (open_num (OF.out _)).mono ?_
  rintro e w1 ⟨b1, A1, n1, c1, d1, rfl, hs1, hr1, ht1, hv1, hb_w1⟩
  obtain ⟨hc_w1, hf_w1⟩ := bcell hb_w1
  have hz_w1 := hb_w1.size
  try simp at hz_w1
  have hB_w1 : Below w.heap.size w w1 := Below.trans (by go_grown) (hb_w1.mono (by go_size))
  have hs_w1_0 : w.heap.size < w1.heap.size := by omega
  have vR : Var w1 w.heap.size 64 #[.bool false, .slice none 0 0] := (Var.new _ _ _).keep hb_w1
  go_wp2_with fail
  refine bodyPost_ret (by simp [results, Try.results83, go_sem, *]; try rfl) rfl ?_
  exact ⟨_, rfl, num_mk (hr1.over vR _ _) ht1 hs1.out hv1.out, by go_grown⟩

theorem small_way {a b : Int} (ha : I32 a) (hb : I32 b) : Small 3 (a - b).natAbs := by
  have := d_in ha hb
  unfold Small
  have : (65536 : Nat) ^ 3 = 281474976710656 := by decide +kernel
  omega
theorem small_pr {x y : Int} (hx : Small 3 x.natAbs) (hy : Small 3 y.natAbs) : Small 6 (x * y).natAbs := by
  rw [Int.natAbs_mul]; exact hx.mul hy

set_option maxHeartbeats 4000000 in
set_option maxRecDepth 100000 in
theorem cross_num (ox oy ax ay bx by_ : Int) (h1 : I32 ox) (h2 : I32 oy) (h3 : I32 ax) (h4 : I32 ay) (h5 : I32 bx) (h6 : I32 by_) (w : World) :
    Calls Try.prog 58 #[(Value.agg #[.int .i32 (ox), .int .i32 (oy)]), (Value.agg #[.int .i32 (ax), .int .i32 (ay)]), (Value.agg #[.int .i32 (bx), .int .i32 (by_)])] w fun e w' => ∃ u, e = .returned u ∧ NumAt w' u ((ax - ox) * (by_ - oy) - (ay - oy) * (bx - ox)) ∧ Below w.heap.size w w' := by
  have Y1 := Lib.hid (fun W => way_ref ox ax h1 h3 W)
  have s1 := small_way h3 h1
  have Y2 := Lib.hid (fun W => way_ref oy by_ h2 h6 W)
  have s2 := small_way h6 h2
  have Y3 := Lib.hid (fun W => way_ref oy ay h2 h4 W)
  have s3 := small_way h4 h2
  have Y4 := Lib.hid (fun W => way_ref ox bx h1 h5 W)
  have s4 := small_way h5 h1
  have K := Lib.hid (And.intro (And.intro s1 s2) (And.intro (And.intro s3 s4) (And.intro (small_pr s1 s2) (small_pr s3 s4))))
  clear h1 h2 h3 h4 h5 h6 s1 s2 s3 s4
  go_enter Try.func58, Try.ntmps58
  go_wp2_with fail
  refine wp_gen (fun W hW => ?_)
  have vo : Var W w.heap.size 32 #[.int .i32 ox, .int .i32 oy] := by rw [hW]; exact (((Var.new _ _ _).alloc _).alloc _).alloc _
  have va : Var W (w.heap.size + 1) 32 #[.int .i32 ax, .int .i32 ay] := by rw [hW]; exact ((Var.new' _ _ _ (by simp)).alloc _).alloc _
  have vb : Var W (w.heap.size + 1 + 1) 32 #[.int .i32 bx, .int .i32 by_] := by rw [hW]; exact (Var.new' _ _ _ (by simp)).alloc _
  have vR : Var W (w.heap.size + 1 + 1 + 1) 64 #[.bool false, .slice none 0 0] := by rw [hW]; exact Var.new' _ _ _ (by simp)
  have hB_W : Below w.heap.size w W := by rw [hW]; go_grown
  clear hW
  have o0 : W.cell? ⟨w.heap.size, 0, none⟩ = some (.int .i32 ox) := vo.cell 0
  have o1 : W.cell? ⟨w.heap.size, 1, none⟩ = some (.int .i32 oy) := vo.cell 1
  have a0 : W.cell? ⟨w.heap.size + 1, 0, none⟩ = some (.int .i32 ax) := va.cell 0
  have a1 : W.cell? ⟨w.heap.size + 1, 1, none⟩ = some (.int .i32 ay) := va.cell 1
  have b0 : W.cell? ⟨w.heap.size + 1 + 1, 0, none⟩ = some (.int .i32 bx) := vb.cell 0
  have b1 : W.cell? ⟨w.heap.size + 1 + 1, 1, none⟩ = some (.int .i32 by_) := vb.cell 1
  have hT0 : HeldT (w.heap.size + 1 + 1 + 1) 2 64 W W.drew := heldT_start vR
  go_region_held3 (fun w' => Below (w.heap.size + 1 + 1 + 1) W w' ∧ w.heap.size + 1 + 1 + 1 < w'.heap.size ∧ (∀ b o, b < w.heap.size + 1 + 1 + 1 → w'.cell? ⟨b, o, none⟩ = W.cell? ⟨b, o, none⟩) ∧ (∀ o, o < 2 → w'.cell? ⟨w.heap.size + 1 + 1 + 1, o, none⟩ = some (rd w' (w.heap.size + 1 + 1 + 1) o)) ∧ (∀ o, w'.frozen? ⟨w.heap.size + 1 + 1 + 1, o, none⟩ = false) ∧ (∃ cs, w'.heap[w.heap.size + 1 + 1 + 1]? = some (.cells cs 64 (0, 0))))
    (first | assumption | (repeat (refine heldT_store ?_ _ _)); assumption)
    (first
      | (go_at_call 81; with_reducible refine (open_num (sub_ref (((m1.below hb_w4).below hb_w5).below hb_w6) m2 K.out.2.2.1 K.out.2.2.2 (by omega) _ (Below.refl _ _))).mono ?_; rintro e w7 ⟨d7, A7, n7, c7, e7, rfl, hs7, hr7, ht7, hv7, hb_w7⟩; have hS_w7 : HeldT (w.heap.size + 1 + 1 + 1) 2 64 W w7 := heldT_step hb_w7 (by assumption))
      | (go_at_call 82; with_reducible refine (mul_num (n3.below hb_w5) n4 K.out.2.1.1 K.out.2.1.2 (by omega) _ (Below.refl _ _)).mono ?_; rintro e w6 ⟨v6, rfl, m2, hb_w6⟩; have hS_w6 : HeldT (w.heap.size + 1 + 1 + 1) 2 64 W w6 := heldT_step hb_w6 (by assumption))
      | (go_at_call 83; with_reducible refine (Y4.out _).mono ?_; rintro e w5 ⟨v5, rfl, n4, hb_w5⟩; have hS_w5 : HeldT (w.heap.size + 1 + 1 + 1) 2 64 W w5 := heldT_step hb_w5 (by assumption))
      | (go_at_call 83; with_reducible refine (Y3.out _).mono ?_; rintro e w4 ⟨v4, rfl, n3, hb_w4⟩; have hS_w4 : HeldT (w.heap.size + 1 + 1 + 1) 2 64 W w4 := heldT_step hb_w4 (by assumption))
      | (go_at_call 82; with_reducible refine (mul_num (n1.below hb_w2) n2 K.out.1.1 K.out.1.2 (by omega) _ (Below.refl _ _)).mono ?_; rintro e w3 ⟨v3, rfl, m1, hb_w3⟩; have hS_w3 : HeldT (w.heap.size + 1 + 1 + 1) 2 64 W w3 := heldT_step hb_w3 (by assumption))
      | (go_at_call 83; with_reducible refine (Y2.out _).mono ?_; rintro e w2 ⟨v2, rfl, n2, hb_w2⟩; have hS_w2 : HeldT (w.heap.size + 1 + 1 + 1) 2 64 W w2 := heldT_step hb_w2 (by assumption))
      | (go_at_call 83; with_reducible refine (Y1.out _).mono ?_; rintro e w1 ⟨v1, rfl, n1, hb_w1⟩; have hS_w1 : HeldT (w.heap.size + 1 + 1 + 1) 2 64 W w1 := heldT_step hb_w1 (by assumption)))
  obtain ⟨W', e', hB', k0, k1, cs, hVR⟩ := heldT_two (T := 64) (by assumption)
  have hraw := hr7.over hVR (.bool d7) (.slice A7 n7 c7)
  rw [e'] at hraw
  rw [e']
  clear e'
  go_wp2_with fail
  refine bodyPost_ret (by simp [results, Try.results58, go_sem, *]; try rfl) rfl ?_
  exact ⟨_, rfl, num_mk hraw ht7 hs7.out hv7.out, Below.trans hB_W (hB'.mono (by omega))⟩

set_option maxHeartbeats 4000000 in
set_option maxRecDepth 100000 in
theorem dot_num (ox oy ax ay bx by_ : Int) (h1 : I32 ox) (h2 : I32 oy) (h3 : I32 ax) (h4 : I32 ay) (h5 : I32 bx) (h6 : I32 by_) (w : World) :
    Calls Try.prog 78 #[(Value.agg #[.int .i32 (ox), .int .i32 (oy)]), (Value.agg #[.int .i32 (ax), .int .i32 (ay)]), (Value.agg #[.int .i32 (bx), .int .i32 (by_)])] w fun e w' => ∃ u, e = .returned u ∧ NumAt w' u ((ax - ox) * (bx - ox) + (ay - oy) * (by_ - oy)) ∧ Below w.heap.size w w' := by
  have Y1 := Lib.hid (fun W => way_ref ox ax h1 h3 W)
  have s1 := small_way h3 h1
  have Y2 := Lib.hid (fun W => way_ref ox bx h1 h5 W)
  have s2 := small_way h5 h1
  have Y3 := Lib.hid (fun W => way_ref oy ay h2 h4 W)
  have s3 := small_way h4 h2
  have Y4 := Lib.hid (fun W => way_ref oy by_ h2 h6 W)
  have s4 := small_way h6 h2
  have K := Lib.hid (And.intro (And.intro s1 s2) (And.intro (And.intro s3 s4) (And.intro (small_pr s1 s2) (small_pr s3 s4))))
  clear h1 h2 h3 h4 h5 h6 s1 s2 s3 s4
  go_enter Try.func78, Try.ntmps78
  go_wp2_with fail
  refine wp_gen (fun W hW => ?_)
  have vo : Var W w.heap.size 32 #[.int .i32 ox, .int .i32 oy] := by rw [hW]; exact (((Var.new _ _ _).alloc _).alloc _).alloc _
  have va : Var W (w.heap.size + 1) 32 #[.int .i32 ax, .int .i32 ay] := by rw [hW]; exact ((Var.new' _ _ _ (by simp)).alloc _).alloc _
  have vb : Var W (w.heap.size + 1 + 1) 32 #[.int .i32 bx, .int .i32 by_] := by rw [hW]; exact (Var.new' _ _ _ (by simp)).alloc _
  have vR : Var W (w.heap.size + 1 + 1 + 1) 64 #[.bool false, .slice none 0 0] := by rw [hW]; exact Var.new' _ _ _ (by simp)
  have hB_W : Below w.heap.size w W := by rw [hW]; go_grown
  clear hW
  have o0 : W.cell? ⟨w.heap.size, 0, none⟩ = some (.int .i32 ox) := vo.cell 0
  have o1 : W.cell? ⟨w.heap.size, 1, none⟩ = some (.int .i32 oy) := vo.cell 1
  have a0 : W.cell? ⟨w.heap.size + 1, 0, none⟩ = some (.int .i32 ax) := va.cell 0
  have a1 : W.cell? ⟨w.heap.size + 1, 1, none⟩ = some (.int .i32 ay) := va.cell 1
  have b0 : W.cell? ⟨w.heap.size + 1 + 1, 0, none⟩ = some (.int .i32 bx) := vb.cell 0
  have b1 : W.cell? ⟨w.heap.size + 1 + 1, 1, none⟩ = some (.int .i32 by_) := vb.cell 1
  have hT0 : HeldT (w.heap.size + 1 + 1 + 1) 2 64 W W.drew := heldT_start vR
  go_region_held3 (fun w' => Below (w.heap.size + 1 + 1 + 1) W w' ∧ w.heap.size + 1 + 1 + 1 < w'.heap.size ∧ (∀ b o, b < w.heap.size + 1 + 1 + 1 → w'.cell? ⟨b, o, none⟩ = W.cell? ⟨b, o, none⟩) ∧ (∀ o, o < 2 → w'.cell? ⟨w.heap.size + 1 + 1 + 1, o, none⟩ = some (rd w' (w.heap.size + 1 + 1 + 1) o)) ∧ (∀ o, w'.frozen? ⟨w.heap.size + 1 + 1 + 1, o, none⟩ = false) ∧ (∃ cs, w'.heap[w.heap.size + 1 + 1 + 1]? = some (.cells cs 64 (0, 0))))
    (first | assumption | (repeat (refine heldT_store ?_ _ _)); assumption)
    (first
      | (go_at_call 97; with_reducible refine (open_num (add_ref (((m1.below hb_w4).below hb_w5).below hb_w6) m2 K.out.2.2.1 K.out.2.2.2 (by omega) _ (Below.refl _ _))).mono ?_; rintro e w7 ⟨d7, A7, n7, c7, e7, rfl, hs7, hr7, ht7, hv7, hb_w7⟩; have hS_w7 : HeldT (w.heap.size + 1 + 1 + 1) 2 64 W w7 := heldT_step hb_w7 (by assumption))
      | (go_at_call 82; with_reducible refine (mul_num (n3.below hb_w5) n4 K.out.2.1.1 K.out.2.1.2 (by omega) _ (Below.refl _ _)).mono ?_; rintro e w6 ⟨v6, rfl, m2, hb_w6⟩; have hS_w6 : HeldT (w.heap.size + 1 + 1 + 1) 2 64 W w6 := heldT_step hb_w6 (by assumption))
      | (go_at_call 83; with_reducible refine (Y4.out _).mono ?_; rintro e w5 ⟨v5, rfl, n4, hb_w5⟩; have hS_w5 : HeldT (w.heap.size + 1 + 1 + 1) 2 64 W w5 := heldT_step hb_w5 (by assumption))
      | (go_at_call 83; with_reducible refine (Y3.out _).mono ?_; rintro e w4 ⟨v4, rfl, n3, hb_w4⟩; have hS_w4 : HeldT (w.heap.size + 1 + 1 + 1) 2 64 W w4 := heldT_step hb_w4 (by assumption))
      | (go_at_call 82; with_reducible refine (mul_num (n1.below hb_w2) n2 K.out.1.1 K.out.1.2 (by omega) _ (Below.refl _ _)).mono ?_; rintro e w3 ⟨v3, rfl, m1, hb_w3⟩; have hS_w3 : HeldT (w.heap.size + 1 + 1 + 1) 2 64 W w3 := heldT_step hb_w3 (by assumption))
      | (go_at_call 83; with_reducible refine (Y2.out _).mono ?_; rintro e w2 ⟨v2, rfl, n2, hb_w2⟩; have hS_w2 : HeldT (w.heap.size + 1 + 1 + 1) 2 64 W w2 := heldT_step hb_w2 (by assumption))
      | (go_at_call 83; with_reducible refine (Y1.out _).mono ?_; rintro e w1 ⟨v1, rfl, n1, hb_w1⟩; have hS_w1 : HeldT (w.heap.size + 1 + 1 + 1) 2 64 W w1 := heldT_step hb_w1 (by assumption)))
  obtain ⟨W', e', hB', k0, k1, cs, hVR⟩ := heldT_two (T := 64) (by assumption)
  have hraw := hr7.over hVR (.bool d7) (.slice A7 n7 c7)
  rw [e'] at hraw
  rw [e']
  clear e'
  go_wp2_with fail
  refine bodyPost_ret (by simp [results, Try.results78, go_sem, *]; try rfl) rfl ?_
  exact ⟨_, rfl, num_mk hraw ht7 hs7.out hv7.out, Below.trans hB_W (hB'.mono (by omega))⟩

end Go.Proofs.Ytcpojadinkonnaa
