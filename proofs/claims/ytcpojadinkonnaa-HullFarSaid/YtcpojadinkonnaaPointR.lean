/-
  Contracts of the document's Cross, Dot, Dist2, Turn, On, Around of chapter 04 (all but those whose arithmetic stands in XSect).
-/
import Derived.Test.YtcpojadinkonnaaWayR
import Derived.Test.YtcpojadinkonnaaInts
import Derived.Test.YtcpojadinkonnaaTurnsM
import Derived.Test.YtcpojadinkonnaaSect
namespace Go.Proofs.Ytcpojadinkonnaa
open Go.RowKit

theorem wrap_lo (x : Int) : wrap64 (lo64 x) = wrap64 x := by unfold lo64 wrap64; omega
theorem ret_i64 {a b : Int} (h : a = b) : Ending.returned (.int .i64 a) = .returned (.int .i64 b) := by rw [h]

theorem round04 (HR : RoundSays) {w0 : World} {v : Value} {x : Int} {k : Nat} (h : NumAt w0 v x) (hk : Small k x.natAbs) (hk9 : k ≤ 40000) (w : World) (hw : Below w0.heap.size w0 w) :
    Calls Try.prog 80 #[v] w fun e w' => e = .returned (.int .i64 (wrap64 x)) ∧ Below w.heap.size w w' := by
  have h1 := h.below hw
  have C := Lib.hid (fun W (h : Below w.heap.size w W) => HR h1 hk hk9 W h)
  obtain ⟨b, A, n, c, ds, rfl, hs, hr, ht, hv⟩ := num_open h1
  clear h hw h1 hk hk9 HR
  go_enter Try.func80, Try.ntmps80
  go_wp2_with fail
  refine (C.out _ (by go_grown)).mono ?_
  rintro e w1 ⟨rfl, hb_w1⟩
  obtain ⟨hc_w1, hf_w1⟩ := bcell hb_w1
  have hz_w1 := hb_w1.size
  try simp at hz_w1
  have hB_w1 : Below w.heap.size w w1 := Below.trans (by go_grown) (hb_w1.mono (by go_size))
  go_wp2_with fail
  refine bodyPost_ret (by simp [results, Try.results80, go_sem, *]; try rfl) rfl ?_
  exact ⟨ret_i64 (wrap_lo x), by go_grown⟩

theorem small_cr {ox oy ax ay bx by_ : Int} (h1 : I32 ox) (h2 : I32 oy) (h3 : I32 ax) (h4 : I32 ay) (h5 : I32 bx) (h6 : I32 by_) :
    Small 7 (crs ox oy ax ay bx by_).natAbs ∧ Small 7 ((ax - ox) * (bx - ox) + (ay - oy) * (by_ - oy)).natAbs := by
  have a1 := small_pr (small_way h3 h1) (small_way h6 h2)
  have a2 := small_pr (small_way h4 h2) (small_way h5 h1)
  have a3 := small_pr (small_way h3 h1) (small_way h5 h1)
  have a4 := small_pr (small_way h4 h2) (small_way h6 h2)
  unfold crs
  exact ⟨(a1.add a2).le (by omega), (a3.add a4).le (by omega)⟩

theorem square04 (ax ay bx by_ : Int) (h3 : I32 ax) (h4 : I32 ay) (h5 : I32 bx) (h6 : I32 by_) (w : World) :
    Calls Try.prog 54 #[(Value.agg #[.int .i32 (ax), .int .i32 (ay)]), (Value.agg #[.int .i32 (bx), .int .i32 (by_)])] w fun e w' => ∃ u, e = .returned u ∧ NumAt w' u ((bx - ax) * (bx - ax) + (by_ - ay) * (by_ - ay)) ∧ Below w.heap.size w w' := by
  have C := Lib.hid (fun W => dot_num ax ay bx by_ bx by_ h3 h4 h5 h6 h5 h6 W)
  clear h3 h4 h5 h6
  go_enter Try.func54, Try.ntmps54
  go_wp2_with fail
  refine (open_num (C.out _)).mono ?_
  rintro e w1 ⟨b1, A1, n1, c1, d1, rfl, hs1, hr1, ht1, hv1, hb_w1⟩
  obtain ⟨hc_w1, hf_w1⟩ := bcell hb_w1
  have hz_w1 := hb_w1.size
  try simp at hz_w1
  have hB_w1 : Below w.heap.size w w1 := Below.trans (by go_grown) (hb_w1.mono (by go_size))
  have hs_w1_0 : w.heap.size + 1 + 1 < w1.heap.size := by omega
  have vR : Var w1 (w.heap.size + 1 + 1) 64 #[.bool false, .slice none 0 0] := (Var.new' _ _ _ (by simp)).keep hb_w1
  go_wp2_with fail
  refine bodyPost_ret (by simp [results, Try.results54, go_sem, *]; try rfl) rfl ?_
  exact ⟨_, rfl, num_mk (hr1.over vR _ _) ht1 hs1.out hv1.out, by go_grown⟩

theorem dist04 (HR : RoundSays) (ax ay bx by_ : Int) (h3 : I32 ax) (h4 : I32 ay) (h5 : I32 bx) (h6 : I32 by_) (w : World) :
    Calls Try.prog 56 #[(Value.agg #[.int .i32 (ax), .int .i32 (ay)]), (Value.agg #[.int .i32 (bx), .int .i32 (by_)])] w fun e w' => e = .returned (.int .i64 (wrap64 ((bx - ax) * (bx - ax) + (by_ - ay) * (by_ - ay)))) ∧ Below w.heap.size w w' := by
  have C := Lib.hid (fun W => square04 ax ay bx by_ h3 h4 h5 h6 W)
  have hs := (small_cr h3 h4 h5 h6 h5 h6).2
  obtain ⟨z, hz⟩ : ∃ z, (bx - ax) * (bx - ax) + (by_ - ay) * (by_ - ay) = z := ⟨_, rfl⟩
  rw [hz] at C hs ⊢
  have R := Lib.hid (fun (w0 : World) (v : Value) (h : NumAt w0 v z) => round04 HR h hs (by omega) w0 (Below.refl _ _))
  clear hz hs h3 h4 h5 h6 HR
  go_enter Try.func56, Try.ntmps56
  go_wp2_with fail
  refine (C.out _).mono ?_
  rintro e w1 ⟨u, rfl, hn, hb_w1⟩
  obtain ⟨hc_w1, hf_w1⟩ := bcell hb_w1
  have hz_w1 := hb_w1.size
  try simp at hz_w1
  have hB_w1 : Below w.heap.size w w1 := Below.trans (by go_grown) (hb_w1.mono (by go_size))
  go_wp2_with fail
  refine (R.out _ _ hn).mono ?_
  rintro e w2 ⟨rfl, hb_w2⟩
  obtain ⟨hc_w2, hf_w2⟩ := bcell hb_w2
  have hz_w2 := hb_w2.size
  try simp at hz_w2
  have hB_w2 : Below w.heap.size w w2 := Below.trans (by go_grown) (hb_w2.mono (by go_size))
  go_wp2_with fail
  refine bodyPost_ret (by simp [results, Try.results56, go_sem, *]; try rfl) rfl ?_
  exact ⟨rfl, by go_grown⟩

end Go.Proofs.Ytcpojadinkonnaa
