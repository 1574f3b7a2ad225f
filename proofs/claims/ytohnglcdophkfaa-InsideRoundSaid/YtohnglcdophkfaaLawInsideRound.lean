/-
  Proved: the law InsideRound returns true for any ring, any holes, any point, any number of places and any shift. No condition.
-/
import Derived.Test.YtohnglcdophkfaaOpenPts
import Derived.Test.YtohnglcdophkfaaRoundLaw
import Derived.Lib.SmallJoins
namespace Go.Proofs.Ytohnglcdophkfaa
open Go.ChangeShapes Go.WideShapes Go.ChangeAt Go.RowKit

set_option maxRecDepth 100000 in
theorem open_point {H : Type} {enc : TypeId × Value → H} {W : World} {base : Nat} {v : Value} {d : DataW H} {p : List MemPlace} (hv : Value.okWide Try.prog W .any base 25 v)
    (h : DataW.Trod enc Try.prog W 0 (fun _ => true) true 25 v d p) : ∃ q : Pt, IPt q ∧ v = .agg #[.int .i32 q.1, .int .i32 q.2] := by
  obtain ⟨c0, c1, y0, y1, m, rfl, rfl, rfl, hy0, hy1⟩ := Joins.open_agg2 Try.underlying25 (by kernel_rfl) (show Try.prog.cellsOf 25 = 2 by kernel_rfl) hv h
  obtain ⟨a, e0, _, wa⟩ := DataW.trod_int Try.underlying21 hy0
  obtain ⟨b, e1, _, wb⟩ := DataW.trod_int Try.underlying21 hy1
  simp at e0 e1
  subst e0 e1
  exact ⟨(a, b), ⟨wf_i32 wa, wf_i32 wb⟩, rfl⟩

set_option maxRecDepth 100000 in
theorem open_ask {H : Type} {enc : TypeId × Value → H} {W : World} {base : Nat} {v : Value} {d : DataW H} {p : List MemPlace} (hv : Value.okWide Try.prog W .any base 27 v)
    (h : DataW.Trod enc Try.prog W 0 (fun _ => true) true 27 v d p) :
    ∃ sA sl sc hA hl hc ps q, v = .agg #[.slice sA sl sc, .slice hA hl hc, .int .i32 q.1, .int .i32 q.2] ∧ PtsAt W.heap.size W (.slice sA sl sc) ps ∧ (∀ p ∈ ps, IPt p) ∧ IPt q ∧
      ∀ L, (∀ n ∈ d.weights Try.prog 27, n ≤ L) → ps.length * 8 ≤ L := by
  obtain ⟨cs, rfl, hl, hall⟩ := open_cells (ts := [22, 23, 21, 21]) Try.underlying27 (by kernel_rfl) (by kernel_rfl) hv
  match cs, hl with
  | [c0, c1, c2, c3], _ =>
    obtain ⟨t0, e0, k0⟩ := hall 0 c0 rfl
    obtain ⟨t1, e1, k1⟩ := hall 1 c1 rfl
    obtain ⟨t2, e2, k2⟩ := hall 2 c2 rfl
    obtain ⟨t3, e3, k3⟩ := hall 3 c3 rfl
    injection e0 with e0
    injection e1 with e1
    injection e2 with e2
    injection e3 with e3
    subst e0 e1 e2 e3
    obtain ⟨hA, hln, hcp, rfl, _⟩ := cell_slice Try.underlying23 k1
    obtain ⟨x, rfl, kx⟩ := cell_int Try.underlying21 k2
    obtain ⟨y, rfl, ky⟩ := cell_int Try.underlying21 k3
    obtain ⟨fuel, hf⟩ := h
    obtain ⟨xs, n, _, hx, _, hlen, hg⟩ := DataW.trod_struct Try.underlying27 hf
    have hlen' : xs.length = 3 := hlen
    match xs, hlen' with
    | [y0, y1, y2], _ =>
      have g0 := hg 0 _ rfl
      have hring : DataW.trod enc Try.prog W 0 (fun _ => true) true n 22 [c0] = some y0 := g0
      obtain ⟨sA, sl, sc, ps, e, hP, hI, hlp, hL⟩ := open_pts hring
      simp only [List.cons.injEq, and_true] at e
      subst e
      refine ⟨sA, sl, sc, hA, hln, hcp, ps, (x, y), rfl, hP, hI, ⟨has_i32 kx, has_i32 ky⟩, fun L hn => ?_⟩
      rw [hlp]
      refine hL L (fun m hm => hn m ?_)
      simp only [Prod.mk.injEq] at hx
      rw [hx.1]
      simp only [DataW.weights, Try.underlying27]
      exact DataW.weights_mem_each (j := 0) rfl rfl m hm

set_option maxRecDepth 100000 in
theorem insideRound_walk {H : Type} {enc : TypeId × Value → H} (W : World) (base : Nat) (v0 v1 v2 : Value) {d0 d1 d2 : DataW H} {p0 p1 p2 : List MemPlace}
    (k0 : Value.okWide Try.prog W .any base 27 v0) (k1 : Value.okWide Try.prog W .any base 3 v1) (k2 : Value.okWide Try.prog W .any base 25 v2)
    (h0 : DataW.Trod enc Try.prog W 0 (fun _ => true) true 27 v0 d0 p0) (_ : DataW.Trod enc Try.prog W 0 (fun _ => true) true 3 v1 d1 p1) (h2 : DataW.Trod enc Try.prog W 0 (fun _ => true) true 25 v2 d2 p2)
    (hsz : (DataW.weightsEach Try.prog [27, 3, 25] [d0, d1, d2]).all (· ≤ reachBytes) = true) :
    Calls Try.prog 3 #[v0, v1, v2] W fun e w' => e = .returned (.bool true) ∧ Below W.heap.size W w' := by
  obtain ⟨sA, sl, sc, hA, hl, hc, ps, q, rfl, hP, hI, hq, hL⟩ := open_ask k0 h0
  obtain ⟨n, rfl⟩ := okWide_int Try.underlying3 k1
  obtain ⟨d, hd, rfl⟩ := open_point k2 h2
  have hr := hL reachBytes (fun m hm => by
    have := List.all_eq_true.1 hsz m (DataW.weights_mem_each (j := 0) rfl rfl m hm)
    simpa using this)
  exact insideRound_core W sA hA sl sc hl hc ps q d n hq hd hI (Nat.le_trans hr (by decide)) hP


set_option maxRecDepth 100000 in
theorem insideRound_lifted (os : Os) (started : os.Started) (H : Type) (enc : TypeId × Value → H) :
    ReturnsInHanded {} Try.checked os 3 .any (Rows.insideRoundSpec.pre6 enc Try.prog Try.f3 Rows.insideRoundRow.domain false) (Rows.insideRoundSpec.post enc Try.prog Try.f3 false true false false) := by
  refine returnsInHanded_of_change_sized (C := Try.checked) own started (by kernel_rfl) Try.func3
    (ChangeSpec.witness6 (enc := enc) (C := Try.checked) false ⟨#[], #[.agg #[.slice none 0 0, .slice none 0 0, .int .i32 0, .int .i32 0], .int .i64 0, .agg #[.int .i32 0, .int .i32 0]], []⟩ 8 (by kernel_rfl) (by kernel_rfl) (by kernel_rfl) (by kernel_rfl)) ?_
  intro W base args ds gs before hval0 hW hcnd hsz _
  have hval : ∀ (j : Nat) t v, Try.f3.params[j]? = some t → args[j]? = some v → Value.okWide Try.prog W .any base t v := hval0
  have hW' := hW
  obtain ⟨p, q, hA0, hV, rfl, hfz, hnd⟩ := hW
  have hA : DataW.TrodAll enc Try.prog W 0 (fun _ => true) true Try.f3.params.toList args.toList ds p := hA0
  rw [Try.params3] at hA hval
  obtain ⟨v0, v1, v2, d0, d1, d2, p0, p1, p2, rfl, rfl, rfl, h0, h1, h2⟩ := trodAll_three hA
  obtain ⟨rfl, rfl⟩ := trodVars_none hV
  clear hA0 hval0
  refine (insideRound_walk W base v0 v1 v2 (hval 0 27 v0 rfl rfl) (hval 1 3 v1 rfl rfl) (hval 2 25 v2 rfl rfl) h0 h1 h2 hsz).mono fun e W' ⟨he, hb⟩ => ?_
  subst he
  exact ⟨_, rfl, law_post laidOut (by kernel_rfl) hW' rfl rfl Try.underlying4 rfl rfl rfl hb⟩

/-- For every input, whatever it is: the call returns true, and each argument reads as it did. -/
theorem insideRound_holds : Rows.InsideRoundSaid :=
  OpenClaim.holds_of_wide 3 Try.f3 rfl rfl rfl rfl rfl rfl rfl ⟨rfl, rfl, rfl, rfl, rfl⟩ rfl rfl rfl rfl rfl (by kernel_rfl) Try.func3 (by kernel_rfl)
    (of_decide_eq_true (by kernel_rfl)) (by unfold Func.isWrapper; first | (rw [if_pos (by decide +kernel)]; kernel_rfl) | (rw [if_neg (by decide +kernel)]; exact ⟨rfl, rfl⟩))
    (fun os started H enc _ => insideRound_lifted os started H enc)
#print axioms insideRound_holds

end Go.Proofs.Ytohnglcdophkfaa
