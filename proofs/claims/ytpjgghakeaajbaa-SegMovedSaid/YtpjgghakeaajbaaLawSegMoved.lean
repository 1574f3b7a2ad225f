/-
  Proved: the law SegMoved returns true for any two segments, any movement and any radius. No condition.
-/
import Derived.Test.YtpjgghakeaajbaaMovedW
import Derived.Test.YtpjgghakeaajbaaMeet
namespace Go.Proofs.Ytpjgghakeaajbaa
open Go.ChangeShapes Go.WideShapes Go.ChangeAt Go.RowKit

set_option maxRecDepth 100000 in
theorem segMoved_walk (W : World) (base : Nat) (v0 v1 v2 : Value) (k0 : Value.okWide Try.prog W .any base 25 v0) (k1 : Value.okWide Try.prog W .any base 43 v1) (k2 : Value.okWide Try.prog W .any base 2 v2) {H : Type} {enc : TypeId × Value → H} {d0 d1 d2 : DataW H} {p0 p1 p2 : List MemPlace} (_ : DataW.Trod enc Try.prog W 0 (fun _ => true) true 25 v0 d0 p0) (_ : DataW.Trod enc Try.prog W 0 (fun _ => true) true 43 v1 d1 p1) (_ : DataW.Trod enc Try.prog W 0 (fun _ => true) true 2 v2 d2 p2) :
    Calls Try.prog 6 #[v0, v1, v2] W fun e w' => e = .returned (.bool true) ∧ Below W.heap.size W w' := by
  obtain ⟨a, b, c, d, e, f, g, h, h1, h2, h3, h4, h5, h6, h7, h8, rfl⟩ := open_quad k0
  obtain ⟨m, q, x, y, hq, hx, hy, rfl⟩ := open_move k1
  obtain ⟨r, rfl, hr⟩ := cell_int Try.underlying2 k2
  exact segMoved_core meet_says (a, b) (c, d) (e, f) (g, h) m q x y r ⟨h1, h2⟩ ⟨h3, h4⟩ ⟨h5, h6⟩ ⟨h7, h8⟩ hx hy (has_i64 hr) W

set_option maxRecDepth 100000 in
theorem segMoved_lifted (os : Os) (started : os.Started) (H : Type) (enc : TypeId × Value → H) :
    ReturnsInHanded {} Try.checked os 6 .any (Rows.segMovedSpec.pre6 enc Try.prog Try.f6 Rows.segMovedRow.domain false) (Rows.segMovedSpec.post enc Try.prog Try.f6 false true false false) := by
  refine returnsInHanded_of_change (C := Try.checked) own started (by kernel_rfl) Try.func6
    (ChangeSpec.witness6 (enc := enc) (C := Try.checked) false ⟨#[], #[.agg #[.int .i32 0, .int .i32 0, .int .i32 0, .int .i32 0, .int .i32 0, .int .i32 0, .int .i32 0, .int .i32 0], .agg #[.bool false, .int .i64 0, .int .i64 0, .int .i64 0], .int .i64 0], []⟩ 8 (by kernel_rfl) (by kernel_rfl) (by kernel_rfl) (by kernel_rfl)) ?_
  intro W base args ds gs before hval0 hW hcnd _
  have hval : ∀ (j : Nat) t v, Try.f6.params[j]? = some t → args[j]? = some v → Value.okWide Try.prog W .any base t v := hval0
  have hW' := hW
  obtain ⟨p, q, hA0, hV, rfl, hfz, hnd⟩ := hW
  have hA : DataW.TrodAll enc Try.prog W 0 (fun _ => true) true Try.f6.params.toList args.toList ds p := hA0
  rw [Try.params6] at hA hval
  obtain ⟨v0, v1, v2, d0, d1, d2, p0, p1, p2, rfl, rfl, rfl, h0, h1, h2⟩ := trodAll_three hA
  obtain ⟨rfl, rfl⟩ := trodVars_none hV
  clear hA0 hval0
  refine (segMoved_walk W base v0 v1 v2 (hval 0 25 v0 rfl rfl) (hval 1 43 v1 rfl rfl) (hval 2 2 v2 rfl rfl) h0 h1 h2).mono fun e W' ⟨he, hb⟩ => ?_
  subst he
  exact ⟨_, rfl, law_post laidOut (by kernel_rfl) hW' rfl rfl Try.underlying4 rfl rfl rfl hb⟩

/-- For every input, whatever it is: the call returns true, and each argument reads as it did. -/
theorem segMoved_holds : Rows.SegMovedSaid :=
  OpenClaim.holds_of_wide 6 Try.f6 rfl rfl rfl rfl rfl rfl rfl ⟨rfl, rfl, rfl, rfl, rfl⟩ rfl rfl rfl rfl rfl (by kernel_rfl) Try.func6 (by kernel_rfl)
    (of_decide_eq_true (by kernel_rfl)) (by unfold Func.isWrapper; first | (rw [if_pos (by decide +kernel)]; kernel_rfl) | (rw [if_neg (by decide +kernel)]; exact ⟨rfl, rfl⟩))
    (fun os started H enc _ => segMoved_lifted os started H enc)
#print axioms segMoved_holds


end Go.Proofs.Ytpjgghakeaajbaa
