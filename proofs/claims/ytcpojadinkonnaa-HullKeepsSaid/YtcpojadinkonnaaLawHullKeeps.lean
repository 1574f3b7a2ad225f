/-
  Proved: the law HullKeeps returns true for any line and any tolerance. No condition.
-/
import Derived.Test.YtcpojadinkonnaaKeeps
import Derived.Test.YtcpojadinkonnaaOpenPts2
import Derived.Lib.SmallJoins
namespace Go.Proofs.Ytcpojadinkonnaa
open Go.ChangeShapes Go.WideShapes Go.ChangeAt Go.RowKit Go.Deep

set_option maxRecDepth 100000 in
theorem pts_none_cap {H : Type} {enc : TypeId × Value → H} {W : World} {base : Nat} {spare : Nat → Bool} {held : Bool} {fuel : Nat} {cs : List Value} {x : DataW H × List MemPlace} {A : Option Addr} {n c : Nat}
    (h : DataW.trod enc Try.prog W base spare held fuel 23 cs = some x) (e : cs = [.slice A n c]) : A = none → c = 0 := by
  rcases open_slice Try.underlying23 h with ⟨rfl, rfl⟩ | ⟨a, len, cap, m, n', D, Pl, rfl, hb, hl, hm, hmm, hx, hi⟩
  · simp at e
    intro _
    omega
  · simp at e
    intro ha
    rw [ha] at e
    cases e.1

set_option maxRecDepth 100000 in
theorem hullKeeps_walk {H : Type} {enc : TypeId × Value → H} (W : World) (base : Nat) (A : Option Addr) (n c : Nat) (v1 : Value) {d0 d1 : DataW H} {p0 p1 : List MemPlace}
    (k1 : Value.okWide Try.prog W .any base 2 v1)
    (h0 : DataW.Trod enc Try.prog W 0 (fun _ => true) true 23 (.slice A n c) d0 p0) (_ : DataW.Trod enc Try.prog W 0 (fun _ => true) true 2 v1 d1 p1)
    (hsz : (DataW.weightsEach Try.prog [23, 2] [d0, d1]).all (· ≤ reachBytes) = true) :
    Calls Try.prog 5 #[.slice A n c, v1] W fun e w' => e = .returned (.bool true) ∧ Below W.heap.size W w' := by
  obtain ⟨f0, h0⟩ := h0
  obtain ⟨A', l, c', ps, e0, hP, hI, hl, hL⟩ := open_pts h0
  have hA := pts_none_cap h0 e0
  obtain ⟨t, rfl⟩ := okWide_int Try.underlying2 k1
  have r0 := hL reachBytes (fun m hm => by
    have := List.all_eq_true.1 hsz m (DataW.weights_mem_each (j := 0) rfl rfl m hm)
    simpa using this)
  simp only [Value.cells, List.cons.injEq, and_true] at e0
  simp at e0
  obtain ⟨rfl, rfl, rfl⟩ := e0
  unfold reachBytes at r0
  exact hullKeeps_core W A n c ps t hl (fun _ => hA) hP

set_option maxRecDepth 100000 in
theorem hullKeeps_lifted (os : Os) (started : os.Started) (H : Type) (enc : TypeId × Value → H) :
    ReturnsInHanded {} Try.checked os 5 .any (Rows.hullKeepsSpec.pre6 enc Try.prog Try.f5 Rows.hullKeepsRow.domain false) (Rows.hullKeepsSpec.post enc Try.prog Try.f5 false true false false) := by
  refine returnsInHanded_of_change_sized (C := Try.checked) own started (by kernel_rfl) Try.func5
    (ChangeSpec.witness6 (enc := enc) (C := Try.checked) false ⟨#[], #[.slice none 0 0, .int .i64 0], []⟩ 8 (by kernel_rfl) (by kernel_rfl) (by kernel_rfl) (by kernel_rfl)) ?_
  intro W base args ds gs before hval0 hW hcnd hsz _
  have hW' := hW
  obtain ⟨p, q, hA0, hV, rfl, hfz, hnd⟩ := hW
  have hA : DataW.TrodAll enc Try.prog W 0 (fun _ => true) true Try.f5.params.toList args.toList ds p := hA0
  have hval : ∀ (j : Nat) t v, Try.f5.params[j]? = some t → args[j]? = some v → Value.okWide Try.prog W .any base t v := hval0
  rw [Try.params5] at hA hval
  obtain ⟨v0, v1, d0, d1, p0, p1, rfl, rfl, rfl, h0, h1⟩ := trodAll_two hA
  obtain ⟨rfl, rfl⟩ := trodVars_none hV
  clear hA0 hval0
  obtain ⟨A0, n0, c0, rfl⟩ := okWide_slice Try.underlying23 (hval 0 23 v0 rfl rfl)
  refine (hullKeeps_walk W base _ _ _ _ (hval 1 2 v1 rfl rfl) h0 h1 hsz).mono fun e W' ⟨he, hb⟩ => ?_
  subst he
  exact ⟨_, rfl, law_post laidOut (by kernel_rfl) hW' rfl rfl Try.underlying4 rfl rfl rfl hb⟩

/-- For every input, whatever it is: the call returns true, and each argument reads as it did. -/
theorem hullKeeps_holds : Rows.HullKeepsSaid :=
  OpenClaim.holds_of_wide 5 Try.f5 rfl rfl rfl rfl rfl rfl rfl ⟨rfl, rfl, rfl, rfl, rfl⟩ rfl rfl rfl rfl rfl (by kernel_rfl) Try.func5 (by kernel_rfl)
    (of_decide_eq_true (by kernel_rfl)) (by unfold Func.isWrapper; first | (rw [if_pos (by decide +kernel)]; kernel_rfl) | (rw [if_neg (by decide +kernel)]; exact ⟨rfl, rfl⟩))
    (fun os started H enc _ => hullKeeps_lifted os started H enc)
#print axioms hullKeeps_holds

end Go.Proofs.Ytcpojadinkonnaa
