/-
  Proved: the law HullHas returns true for every input. No condition.
-/
import Derived.Test.YtcpojadinkonnaaHasX
import Derived.Test.YtcpojadinkonnaaOpenPts2
import Derived.Lib.SmallJoins
namespace Go.Proofs.Ytcpojadinkonnaa
open Go.ChangeShapes Go.WideShapes Go.ChangeAt Go.RowKit Go.Deep

set_option maxRecDepth 100000 in
theorem open_pointL {H : Type} {enc : TypeId × Value → H} {W : World} {base : Nat} {v : Value} {d : DataW H} {p : List MemPlace} (hv : Value.okWide Try.prog W .any base 32 v)
    (h : DataW.Trod enc Try.prog W 0 (fun _ => true) true 32 v d p) : ∃ q : Pt, IPt q ∧ v = .agg #[.int .i32 q.1, .int .i32 q.2] := by
  obtain ⟨c0, c1, y0, y1, m, rfl, rfl, rfl, hy0, hy1⟩ := Joins.open_agg2 Try.underlying32 (by kernel_rfl) (show Try.prog.cellsOf 32 = 2 by kernel_rfl) hv h
  obtain ⟨a, e0, _, wa⟩ := DataW.trod_int Try.underlying21 hy0
  obtain ⟨b, e1, _, wb⟩ := DataW.trod_int Try.underlying21 hy1
  simp at e0 e1
  subst e0 e1
  exact ⟨(a, b), ⟨wf_i32 wa, wf_i32 wb⟩, rfl⟩

set_option maxRecDepth 100000 in
theorem hullHas_walk {H : Type} {enc : TypeId × Value → H} (W : World) (base : Nat) (A0 : Option Addr) (n0 c0 : Nat) (v1 : Value) {d0 d1 : DataW H} {p0 p1 : List MemPlace}
    (k1 : Value.okWide Try.prog W .any base 32 v1)
    (h0 : DataW.Trod enc Try.prog W 0 (fun _ => true) true 23 (.slice A0 n0 c0) d0 p0)
    (h1 : DataW.Trod enc Try.prog W 0 (fun _ => true) true 32 v1 d1 p1)
    (hsz : (DataW.weightsEach Try.prog [23, 32] [d0, d1]).all (· ≤ reachBytes) = true) :
    Calls Try.prog 7 #[.slice A0 n0 c0, v1] W fun e w' => e = .returned (.bool true) ∧ Below W.heap.size W w' := by
  obtain ⟨f0, h0⟩ := h0
  obtain ⟨A', l, c', ps0, e0, hP0, hI0, hl0, hL0⟩ := open_pts h0
  have r0 := hL0 reachBytes (fun m hm => by
    have := List.all_eq_true.1 hsz m (DataW.weights_mem_each (j := 0) rfl rfl m hm)
    simpa using this)
  simp only [Value.cells, List.cons.injEq, and_true] at e0
  simp at e0
  obtain ⟨rfl, rfl, rfl⟩ := e0
  unfold reachBytes at r0
  obtain ⟨q1, hq1, rfl⟩ := open_pointL k1 h1
  exact hullHas_core W A0 n0 c0 ps0 hI0 q1 hq1 hl0 (by omega) hP0

set_option maxRecDepth 100000 in
theorem hullHas_lifted (os : Os) (started : os.Started) (H : Type) (enc : TypeId × Value → H) :
    ReturnsInHanded {} Try.checked os 7 .any (Rows.hullHasSpec.pre6 enc Try.prog Try.f7 Rows.hullHasRow.domain false) (Rows.hullHasSpec.post enc Try.prog Try.f7 false true false false) := by
  refine returnsInHanded_of_change_sized (C := Try.checked) own started (by kernel_rfl) Try.func7
    (ChangeSpec.witness6 (enc := enc) (C := Try.checked) false ⟨#[], #[.slice none 0 0, .agg #[.int .i32 0, .int .i32 0]], []⟩ 8 (by kernel_rfl) (by kernel_rfl) (by kernel_rfl) (by kernel_rfl)) ?_
  intro W base args ds gs before hval0 hW hcnd hsz _
  have hval : ∀ (j : Nat) t v, Try.f7.params[j]? = some t → args[j]? = some v → Value.okWide Try.prog W .any base t v := hval0
  have hW' := hW
  obtain ⟨p, q, hA0, hV, rfl, hfz, hnd⟩ := hW
  have hA : DataW.TrodAll enc Try.prog W 0 (fun _ => true) true Try.f7.params.toList args.toList ds p := hA0
  rw [Try.params7] at hA hval
  obtain ⟨v0, v1, d0, d1, p0, p1, rfl, rfl, rfl, h0, h1⟩ := trodAll_two hA
  obtain ⟨rfl, rfl⟩ := trodVars_none hV
  clear hA0 hval0
  obtain ⟨A0, n0, c0, rfl⟩ := okWide_slice Try.underlying23 (hval 0 23 v0 rfl rfl)
  refine (hullHas_walk W base A0 n0 c0 v1 (hval 1 32 v1 rfl rfl) h0 h1 hsz).mono fun e W' ⟨he, hb⟩ => ?_
  subst he
  exact ⟨_, rfl, law_post laidOut (by kernel_rfl) hW' rfl rfl Try.underlying4 rfl rfl rfl hb⟩

/-- For every input, whatever it is: the call returns true, and each argument reads as it did. -/
theorem hullHas_holds : Rows.HullHasSaid :=
  OpenClaim.holds_of_wide 7 Try.f7 rfl rfl rfl rfl rfl rfl rfl ⟨rfl, rfl, rfl, rfl, rfl⟩ rfl rfl rfl rfl rfl (by kernel_rfl) Try.func7 (by kernel_rfl)
    (of_decide_eq_true (by kernel_rfl)) (by unfold Func.isWrapper; first | (rw [if_pos (by decide +kernel)]; kernel_rfl) | (rw [if_neg (by decide +kernel)]; exact ⟨rfl, rfl⟩))
    (fun os started H enc _ => hullHas_lifted os started H enc)
#print axioms hullHas_holds


end Go.Proofs.Ytcpojadinkonnaa
