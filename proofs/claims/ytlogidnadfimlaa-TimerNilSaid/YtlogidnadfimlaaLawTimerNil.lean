/-
  Proved: the law TimerNil returns true for any due. No condition.
-/
import Derived.Test.YtlogidnadfimlaaNothing
import Derived.Lib.SmallJoins
namespace Go.Proofs.Ytlogidnadfimlaa
open Go.ChangeShapes Go.WideShapes Go.ChangeAt Go.RowKit

set_option maxRecDepth 100000 in
theorem open_due {W : World} {base : Nat} {v : Value} (hv : Value.okWide Try.prog W .any base 31 v) : ∃ x y z, v = .agg #[.int .u32 x, .int .u32 y, .int .u32 z] := by
  obtain ⟨cs, rfl, hl, hall⟩ := open_cells (ts := [29, 29, 29]) Try.underlying31 (by kernel_rfl) (by kernel_rfl) hv
  match cs, hl with
  | [c0, c1, c2], _ =>
    obtain ⟨t0, e0, h0⟩ := hall 0 c0 rfl
    obtain ⟨t1, e1, h1⟩ := hall 1 c1 rfl
    obtain ⟨t2, e2, h2⟩ := hall 2 c2 rfl
    injection e0 with e0
    injection e1 with e1
    injection e2 with e2
    subst e0 e1 e2
    obtain ⟨x0, rfl, _⟩ := cell_int Try.underlying29 h0
    obtain ⟨x1, rfl, _⟩ := cell_int Try.underlying29 h1
    obtain ⟨x2, rfl, _⟩ := cell_int Try.underlying29 h2
    exact ⟨x0, x1, x2, rfl⟩

set_option maxRecDepth 100000 in
theorem timerNil_walk (W : World) (base : Nat) (v0 : Value) (k0 : Value.okWide Try.prog W .any base 31 v0) {H : Type} {enc : TypeId × Value → H} {d0 : DataW H} {p0 : List MemPlace} (_ : DataW.Trod enc Try.prog W 0 (fun _ => true) true 31 v0 d0 p0) :
    Calls Try.prog 6 #[v0] W fun e w' => e = .returned (.bool true) ∧ Below W.heap.size W w' := by
  obtain ⟨x, y, z, rfl⟩ := open_due k0
  exact timerNil_core x y z W

set_option maxRecDepth 100000 in
theorem timerNil_lifted (os : Os) (started : os.Started) (H : Type) (enc : TypeId × Value → H) :
    ReturnsInHanded {} Try.checked os 6 .any (Rows.timerNilSpec.pre6 enc Try.prog Try.f6 Rows.timerNilRow.domain false) (Rows.timerNilSpec.post enc Try.prog Try.f6 false true false false) := by
  refine returnsInHanded_of_change (C := Try.checked) own started (by kernel_rfl) Try.func6
    (ChangeSpec.witness6 (enc := enc) (C := Try.checked) false ⟨#[], #[.agg #[.int .u32 0, .int .u32 0, .int .u32 0]], []⟩ 8 (by kernel_rfl) (by kernel_rfl) (by kernel_rfl) (by kernel_rfl)) ?_
  intro W base args ds gs before hval0 hW hcnd _
  have hval : ∀ (j : Nat) t v, Try.f6.params[j]? = some t → args[j]? = some v → Value.okWide Try.prog W .any base t v := hval0
  have hW' := hW
  obtain ⟨p, q, hA0, hV, rfl, hfz, hnd⟩ := hW
  have hA : DataW.TrodAll enc Try.prog W 0 (fun _ => true) true Try.f6.params.toList args.toList ds p := hA0
  rw [Try.params6] at hA hval
  obtain ⟨v0, d0, rfl, rfl, h0⟩ := trodAll_one hA
  obtain ⟨rfl, rfl⟩ := trodVars_none hV
  clear hA0 hval0
  refine (timerNil_walk W base v0 (hval 0 31 v0 rfl rfl) h0).mono fun e W' ⟨he, hb⟩ => ?_
  subst he
  exact ⟨_, rfl, law_post laidOut (by kernel_rfl) hW' rfl rfl Try.underlying4 rfl rfl rfl hb⟩

/-- For every input, whatever it is: the call returns true, and each argument reads as it did. -/
theorem timerNil_holds : Rows.TimerNilSaid :=
  OpenClaim.holds_of_wide 6 Try.f6 rfl rfl rfl rfl rfl rfl rfl ⟨rfl, rfl, rfl, rfl, rfl⟩ rfl rfl rfl rfl rfl (by kernel_rfl) Try.func6 (by kernel_rfl)
    (of_decide_eq_true (by kernel_rfl)) (by unfold Func.isWrapper; first | (rw [if_pos (by decide +kernel)]; kernel_rfl) | (rw [if_neg (by decide +kernel)]; exact ⟨rfl, rfl⟩))
    (fun os started H enc _ => timerNil_lifted os started H enc)
#print axioms timerNil_holds


end Go.Proofs.Ytlogidnadfimlaa
