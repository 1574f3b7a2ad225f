/-
  Proved: the law RingMore returns true for every input. No condition.
-/
import Derived.Test.YthbndilnobjjgaaMoreW
import Derived.Test.YthbndilnobjjgaaOpenPts
import Derived.Lib.SmallJoins
namespace Go.Proofs.Ythbndilnobjjgaa
open Go.ChangeShapes Go.WideShapes Go.ChangeAt Go.RowKit Go.Deep

set_option maxRecDepth 100000 in
theorem ringMore_walk {H : Type} {enc : TypeId × Value → H} (W : World) (_ : Nat) (A0 : Option Addr) (n0 c0 : Nat) (z1 : Int) {d0 d1 : DataW H} {p0 : List MemPlace}
    (h0 : DataW.Trod enc Try.prog W 0 (fun _ => true) true 23 (.slice A0 n0 c0) d0 p0)
    (hsz : (DataW.weightsEach Try.prog [23, 3] [d0, d1]).all (· ≤ reachBytes) = true) :
    Calls Try.prog 4 #[.slice A0 n0 c0, .int .i64 z1] W fun e w' => e = .returned (.bool true) ∧ Below W.heap.size W w' := by
  obtain ⟨f0, h0⟩ := h0
  obtain ⟨A', l, c', ps0, e0, hP0, hI0, hl0, hL0⟩ := open_pts h0
  have r0 := hL0 reachBytes (fun m hm => by
    have := List.all_eq_true.1 hsz m (DataW.weights_mem_each (j := 0) rfl rfl m hm)
    simpa using this)
  simp only [Value.cells, List.cons.injEq, and_true] at e0
  simp at e0
  obtain ⟨rfl, rfl, rfl⟩ := e0
  unfold reachBytes at r0
  exact ringMore_core W A0 n0 c0 ps0 hI0 z1 hl0 (by omega) hP0

set_option maxRecDepth 100000 in
theorem ringMore_lifted (os : Os) (started : os.Started) (H : Type) (enc : TypeId × Value → H) :
    ReturnsInHanded {} Try.checked os 4 .any (Rows.ringMoreSpec.pre6 enc Try.prog Try.f4 Rows.ringMoreRow.domain false) (Rows.ringMoreSpec.post enc Try.prog Try.f4 false true false false) := by
  refine returnsInHanded_of_change_sized (C := Try.checked) own started (by kernel_rfl) Try.func4
    (ChangeSpec.witness6 (enc := enc) (C := Try.checked) false ⟨#[], #[.slice none 0 0, .int .i64 0], []⟩ 8 (by kernel_rfl) (by kernel_rfl) (by kernel_rfl) (by kernel_rfl)) ?_
  intro W base args ds gs before hval0 hW hcnd hsz _
  have hval : ∀ (j : Nat) t v, Try.f4.params[j]? = some t → args[j]? = some v → Value.okWide Try.prog W .any base t v := hval0
  have hW' := hW
  obtain ⟨p, q, hA0, hV, rfl, hfz, hnd⟩ := hW
  have hA : DataW.TrodAll enc Try.prog W 0 (fun _ => true) true Try.f4.params.toList args.toList ds p := hA0
  rw [Try.params4] at hA hval
  obtain ⟨v0, v1, d0, d1, p0, p1, rfl, rfl, rfl, h0, h1⟩ := trodAll_two hA
  obtain ⟨rfl, rfl⟩ := trodVars_none hV
  clear hA0 hval0
  obtain ⟨A0, n0, c0, rfl⟩ := okWide_slice Try.underlying23 (hval 0 23 v0 rfl rfl)
  obtain ⟨z1, rfl⟩ := okWide_int Try.underlying3 (hval 1 3 v1 rfl rfl)
  refine (ringMore_walk W base A0 n0 c0 z1  h0 hsz).mono fun e W' ⟨he, hb⟩ => ?_
  subst he
  exact ⟨_, rfl, law_post laidOut (by kernel_rfl) hW' rfl rfl Try.underlying4 rfl rfl rfl hb⟩

/-- For every input, whatever it is: the call returns true, and each argument reads as it did. -/
theorem ringMore_holds : Rows.RingMoreSaid :=
  OpenClaim.holds_of_wide 4 Try.f4 rfl rfl rfl rfl rfl rfl rfl ⟨rfl, rfl, rfl, rfl, rfl⟩ rfl rfl rfl rfl rfl (by kernel_rfl) Try.func4 (by kernel_rfl)
    (of_decide_eq_true (by kernel_rfl)) (by unfold Func.isWrapper; first | (rw [if_pos (by decide +kernel)]; kernel_rfl) | (rw [if_neg (by decide +kernel)]; exact ⟨rfl, rfl⟩))
    (fun os started H enc _ => ringMore_lifted os started H enc)
#print axioms ringMore_holds


end Go.Proofs.Ythbndilnobjjgaa
