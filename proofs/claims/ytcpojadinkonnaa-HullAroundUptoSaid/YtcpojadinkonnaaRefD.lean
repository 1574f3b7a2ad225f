/-
  Contracts of the reference's functions on whole numbers: Sub, Cmp, Sign.
-/
import Derived.Test.YtcpojadinkonnaaRefC
import Derived.Test.YtcpojadinkonnaaHeld
namespace Go.Proofs.Ytcpojadinkonnaa
open Go.RowKit

/-- A contract that answers a number, its value laid open; the equations are kept from the walk. -/
theorem open_num {P : Program} {f : FuncId} {args : Array Value} {w : World} {z : Int} (h : Calls P f args w fun e w' => ∃ v, e = .returned v ∧ NumAt w' v z ∧ Below w.heap.size w w') :
    Calls P f args w fun e w' => ∃ b A n c ds, e = .returned (.agg #[.bool b, .slice A n c]) ∧ Hid (b = decide (z < 0)) ∧ RawAt w' A n c ds ∧ Tight ds ∧ Hid (val ds = z.natAbs) ∧ Below w.heap.size w w' :=
  open_mag h

set_option maxHeartbeats 1600000 in
set_option maxRecDepth 100000 in
theorem sub_ref {w0 : World} {v v' : Value} {x y : Int} {k : Nat} (h : NumAt w0 v x) (h' : NumAt w0 v' y) (hk : Small k x.natAbs) (hk' : Small k y.natAbs) (hk9 : k ≤ 90000) (w : World) (hw : Below w0.heap.size w0 w) :
    Calls Try.prog 81 #[v, v'] w fun e w' => ∃ u, e = .returned u ∧ NumAt w' u (x - y) ∧ Below w.heap.size w w' := by
  obtain ⟨b, A, n, c, ds, rfl, hs, hr, ht, hv⟩ := num_open (h.below hw)
  obtain ⟨b', A', n', c', ds', rfl, hs', hr', ht', hv'⟩ := num_open (h'.below hw)
  have hkn : Small k (-y).natAbs := by rw [Int.natAbs_neg]; exact hk'
  clear h h' hw hk'
  go_enter Try.func81, Try.ntmps81
  go_wp2_with fail
  refine wp_gen (fun W0 hW => ?_)
  have va : Var W0 w.heap.size 64 #[.bool b, .slice A n c] := by rw [hW]; exact ((Var.new _ _ _).alloc _).alloc _
  have vb : Var W0 (w.heap.size + 1) 64 #[.bool b', .slice A' n' c'] := by rw [hW]; exact (Var.new' _ _ _ (by simp)).alloc _
  have vR : Var W0 (w.heap.size + 1 + 1) 64 #[.bool false, .slice none 0 0] := by rw [hW]; exact Var.new' _ _ _ (by simp)
  have hB_W0 : Below w.heap.size w W0 := by rw [hW]; go_grown
  clear hW
  have a0 : W0.cell? ⟨w.heap.size, 0, none⟩ = some (.bool b) := va.cell 0
  have a1 : W0.cell? ⟨w.heap.size, 1, none⟩ = some (.slice A n c) := va.cell 1
  have b0 : W0.cell? ⟨w.heap.size + 1, 0, none⟩ = some (.bool b') := vb.cell 0
  have b1 : W0.cell? ⟨w.heap.size + 1, 1, none⟩ = some (.slice A' n' c') := vb.cell 1
  go_region_held3 (fun w' => Below (w.heap.size + 1 + 1) W0 w' ∧ w.heap.size + 1 + 1 < w'.heap.size ∧ (∀ b o, b < w.heap.size + 1 + 1 → w'.cell? ⟨b, o, none⟩ = W0.cell? ⟨b, o, none⟩) ∧ (∀ o, o < 2 → w'.cell? ⟨w.heap.size + 1 + 1, o, none⟩ = some (rd w' (w.heap.size + 1 + 1) o)) ∧ (∀ o, w'.frozen? ⟨w.heap.size + 1 + 1, o, none⟩ = false) ∧ (∃ cs, w'.heap[w.heap.size + 1 + 1]? = some (.cells cs 64 (0, 0))))
    (first | exact heldT_step hb_wk (by assumption) | exact heldT_start vR | (repeat (refine heldT_store ?_ _ _)); assumption)
    (first | (go_at_call 99; refine (open_num (neg_ref (num_mk hr' ht' hs'.out hv'.out) _ (heldT_bel (W0 := W0) (w.heap.size + 1 + 1) 2 64 (by assumption) hB_W0 (by omega)))).mono ?_; rintro e wk ⟨d1, A1, n1, c1, e1, rfl, hs1, hr1, ht1, hv1, hb_wk⟩) | (go_at_call 97; refine (open_num (add_ref ((num_mk hr ht hs.out hv.out).below (heldT_bel (W0 := W0) (w.heap.size + 1 + 1) 2 64 (by assumption) hB_W0 (by omega))) (num_mk hr1 ht1 hs1.out hv1.out) hk hkn hk9 _ (Below.refl _ _))).mono ?_; rintro e wk ⟨d2, A2, n2, c2, e2, rfl, hs2, hr2, ht2, hv2, hb_wk⟩))
  obtain ⟨W', e', hB', k0, k1, cs, hVR⟩ := heldT_two (T := 64) (by assumption)
  have hraw := hr2.over hVR (.bool d2) (.slice A2 n2 c2)
  rw [e'] at hraw
  rw [e']
  clear e'
  go_wp2_with fail
  refine bodyPost_ret (by simp [results, Try.results81, go_sem, *]; try rfl) rfl ?_
  exact ⟨_, rfl, num_mk hraw ht2 (by rw [hs2.out, Int.sub_eq_add_neg]) (by rw [hv2.out, Int.sub_eq_add_neg]), Below.trans hB_W0 (hB'.mono (by omega))⟩

set_option maxHeartbeats 800000 in
theorem cmp_ref {w0 : World} {v v' : Value} {x y : Int} {k : Nat} (h : NumAt w0 v x) (h' : NumAt w0 v' y) (hk : Small k x.natAbs) (hk' : Small k y.natAbs) (hk9 : k ≤ 90000) (w : World) (hw : Below w0.heap.size w0 w) :
    Calls Try.prog 55 #[v, v'] w fun e w' => e = .returned (.int .i64 (cmpI x y)) ∧ Below w.heap.size w w' := by
  obtain ⟨b, A, n, c, ds, rfl, hs, hr, ht, hv⟩ := num_open (h.below hw)
  obtain ⟨b', A', n', c', ds', rfl, hs', hr', ht', hv'⟩ := num_open (h'.below hw)
  have l1 := num_len hr ht hv.out hk
  have l2 := num_len hr' ht' hv'.out hk'
  clear h h' hw hk hk'
  by_cases hx : x < 0
  all_goals by_cases hy : y < 0
  · obtain rfl : b = true := by rw [hs.out]; simp [hx]
    obtain rfl : b' = true := by rw [hs'.out]; simp [hy]
    have HC := Lib.hid (show cmpI x y = cmpI (val ds') (val ds) by have := hv.out; have := hv'.out; unfold cmpI; split <;> split <;> first | rfl | omega | (split <;> (try split) <;> first | rfl | omega))
    clear hs hs'
    go_enter Try.func55, Try.ntmps55
    go_wp2_with fail
    refine (cmpSize_any hr' hr _ _ (by omega) (by omega) _ (by go_grown)).mono ?_
    rintro e w1 ⟨rfl, hb_w1⟩
    obtain ⟨hc_w1, hf_w1⟩ := bcell hb_w1
    have hz_w1 := hb_w1.size
    try simp at hz_w1
    have hB_w1 : Below w.heap.size w w1 := Below.trans (by go_grown) (hb_w1.mono (by go_size))
    go_wp2_with fail
    go_ret
    exact ⟨ret_int HC.out.symm, by go_grown⟩
  · obtain rfl : b = true := by rw [hs.out]; simp [hx]
    obtain rfl : b' = false := by rw [hs'.out]; simp [hy]
    have HC := Lib.hid (show cmpI x y = -1 by unfold cmpI; rw [if_pos (by omega)])
    clear hs hs'
    go_enter Try.func55, Try.ntmps55
    go_wp2_with fail
    go_ret
    exact ⟨ret_int HC.out.symm, by go_grown⟩
  · obtain rfl : b = false := by rw [hs.out]; simp [hx]
    obtain rfl : b' = true := by rw [hs'.out]; simp [hy]
    have HC := Lib.hid (show cmpI x y = 1 by unfold cmpI; rw [if_neg (by omega), if_neg (by omega)])
    clear hs hs'
    go_enter Try.func55, Try.ntmps55
    go_wp2_with fail
    go_ret
    exact ⟨ret_int HC.out.symm, by go_grown⟩
  · obtain rfl : b = false := by rw [hs.out]; simp [hx]
    obtain rfl : b' = false := by rw [hs'.out]; simp [hy]
    have HC := Lib.hid (show cmpI x y = cmpI (val ds) (val ds') by have := hv.out; have := hv'.out; unfold cmpI; split <;> split <;> first | rfl | omega | (split <;> (try split) <;> first | rfl | omega))
    clear hs hs'
    go_enter Try.func55, Try.ntmps55
    go_wp2_with fail
    refine (cmpSize_any hr hr' _ _ (by omega) (by omega) _ (by go_grown)).mono ?_
    rintro e w1 ⟨rfl, hb_w1⟩
    obtain ⟨hc_w1, hf_w1⟩ := bcell hb_w1
    have hz_w1 := hb_w1.size
    try simp at hz_w1
    have hB_w1 : Below w.heap.size w w1 := Below.trans (by go_grown) (hb_w1.mono (by go_size))
    go_wp2_with fail
    go_ret
    exact ⟨ret_int HC.out.symm, by go_grown⟩

theorem num_zero (w : World) : NumAt w (.agg #[.bool false, .slice none 0 0]) 0 := ⟨none, 0, 0, [], rfl, ⟨rfl, Nat.le_refl _, by omega, Sl.nil _ _, Digs.nil⟩, Tight.nil, rfl⟩
theorem small_zero (k : Nat) : Small k 0 := Nat.pow_pos (by omega)

theorem sign_ref {w0 : World} {v : Value} {x : Int} {k : Nat} (h : NumAt w0 v x) (hk : Small k x.natAbs) (hk9 : k ≤ 90000) (w : World) (hw : Below w0.heap.size w0 w) :
    Calls Try.prog 57 #[v] w fun e w' => e = .returned (.int .i64 (cmpI x 0)) ∧ Below w.heap.size w w' := by
  obtain ⟨b, A, n, c, ds, rfl, hs, hr, ht, hv⟩ := num_open (h.below hw)
  clear h hw
  go_enter Try.func57, Try.ntmps57
  go_wp2_with fail
  refine (cmp_ref ((num_mk hr ht hs.out hv.out).below (by go_grown)) (num_zero _) hk (small_zero k) hk9 _ (Below.refl _ _)).mono ?_
  rintro e w1 ⟨rfl, hb_w1⟩
  obtain ⟨hc_w1, hf_w1⟩ := bcell hb_w1
  have hz_w1 := hb_w1.size
  try simp at hz_w1
  have hB_w1 : Below w.heap.size w w1 := Below.trans (by go_grown) (hb_w1.mono (by go_size))
  go_wp2_with fail
  go_ret
  exact ⟨rfl, by go_grown⟩
end Go.Proofs.Ytcpojadinkonnaa
