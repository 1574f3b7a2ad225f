/-
  Proved: the law WideMuls returns true for any four numbers of 64 bits. No condition.
-/
import Derived.Test.YtedodoaeecbalaaMulsLaw
import Derived.Test.YtedodoaeecbalaaRound
namespace Go.Proofs.Ytedodoaeecbalaa
open Go.ChangeShapes Go.WideShapes Go.ChangeAt Go.RowKit

set_option maxRecDepth 100000 in
theorem open_four64 {W : World} {base : Nat} {v : Value} (hv : Value.okWide Try.prog W .any base 47 v) : ∃ a b c d, I64 a ∧ I64 b ∧ I64 c ∧ I64 d ∧ v = .agg #[.int .i64 a, .int .i64 b, .int .i64 c, .int .i64 d] := by
  obtain ⟨cs, rfl, hl, hall⟩ := open_cells (ts := [2, 2, 2, 2]) Try.underlying47 (by kernel_rfl) (by kernel_rfl) hv
  match cs, hl with
  | [c0, c1, c2, c3], _ =>
    obtain ⟨t0, e0, h0⟩ := hall 0 c0 rfl
    obtain ⟨t1, e1, h1⟩ := hall 1 c1 rfl
    obtain ⟨t2, e2, h2⟩ := hall 2 c2 rfl
    obtain ⟨t3, e3, h3⟩ := hall 3 c3 rfl
    injection e0 with e0
    injection e1 with e1
    injection e2 with e2
    injection e3 with e3
    subst e0 e1 e2 e3
    obtain ⟨x0, rfl, k0⟩ := cell_int Try.underlying2 h0
    obtain ⟨x1, rfl, k1⟩ := cell_int Try.underlying2 h1
    obtain ⟨x2, rfl, k2⟩ := cell_int Try.underlying2 h2
    obtain ⟨x3, rfl, k3⟩ := cell_int Try.underlying2 h3
    exact ⟨x0, x1, x2, x3, has_i64 k0, has_i64 k1, has_i64 k2, has_i64 k3, rfl⟩

set_option maxRecDepth 100000 in
theorem wideMuls_walk (W : World) (base : Nat) (v0 : Value) (k0 : Value.okWide Try.prog W .any base 47 v0) {H : Type} {enc : TypeId × Value → H} {d0 : DataW H} {p0 : List MemPlace} (_ : DataW.Trod enc Try.prog W 0 (fun _ => true) true 47 v0 d0 p0) :
    Calls Try.prog 6 #[v0] W fun e w' => e = .returned (.bool true) ∧ Below W.heap.size W w' := by
  obtain ⟨a, b, c, d, h1, h2, h3, h4, rfl⟩ := open_four64 k0
  exact wideMuls_core round_says a b c d h1 h2 h3 h4 W

set_option maxRecDepth 100000 in
theorem wideMuls_lifted (os : Os) (started : os.Started) (H : Type) (enc : TypeId × Value → H) :
    ReturnsInHanded {} Try.checked os 6 .any (Rows.wideMulsSpec.pre6 enc Try.prog Try.f6 Rows.wideMulsRow.domain false) (Rows.wideMulsSpec.post enc Try.prog Try.f6 false true false false) := by
  refine returnsInHanded_of_change (C := Try.checked) own started (by kernel_rfl) Try.func6
    (ChangeSpec.witness6 (enc := enc) (C := Try.checked) false ⟨#[], #[.agg #[.int .i64 0, .int .i64 0, .int .i64 0, .int .i64 0]], []⟩ 8 (by kernel_rfl) (by kernel_rfl) (by kernel_rfl) (by kernel_rfl)) ?_
  intro W base args ds gs before hval0 hW hcnd _
  have hval : ∀ (j : Nat) t v, Try.f6.params[j]? = some t → args[j]? = some v → Value.okWide Try.prog W .any base t v := hval0
  have hW' := hW
  obtain ⟨p, q, hA0, hV, rfl, hfz, hnd⟩ := hW
  have hA : DataW.TrodAll enc Try.prog W 0 (fun _ => true) true Try.f6.params.toList args.toList ds p := hA0
  rw [Try.params6] at hA hval
  obtain ⟨v0, d0, rfl, rfl, h0⟩ := trodAll_one hA
  obtain ⟨rfl, rfl⟩ := trodVars_none hV
  clear hA0 hval0
  refine (wideMuls_walk W base v0 (hval 0 47 v0 rfl rfl) h0).mono fun e W' ⟨he, hb⟩ => ?_
  subst he
  exact ⟨_, rfl, law_post laidOut (by kernel_rfl) hW' rfl rfl Try.underlying4 rfl rfl rfl hb⟩

/-- For every input, whatever it is: the call returns true, and each argument reads as it did. -/
theorem wideMuls_holds : Rows.WideMulsSaid :=
  OpenClaim.holds_of_wide 6 Try.f6 rfl rfl rfl rfl rfl rfl rfl ⟨rfl, rfl, rfl, rfl, rfl⟩ rfl rfl rfl rfl rfl (by kernel_rfl) Try.func6 (by kernel_rfl)
    (of_decide_eq_true (by kernel_rfl)) (by unfold Func.isWrapper; first | (rw [if_pos (by decide +kernel)]; kernel_rfl) | (rw [if_neg (by decide +kernel)]; exact ⟨rfl, rfl⟩))
    (fun os started H enc _ => wideMuls_lifted os started H enc)
#print axioms wideMuls_holds


end Go.Proofs.Ytedodoaeecbalaa
