/-
  Proved: the law SegSides returns true for any two segments and any two radii. No condition.
-/
import Derived.Test.YtpjgghakeaajbaaSidesA1
import Derived.Test.YtpjgghakeaajbaaSidesA2
import Derived.Test.YtpjgghakeaajbaaSidesA0
import Derived.Test.YtpjgghakeaajbaaSidesB1
import Derived.Test.YtpjgghakeaajbaaSidesB2
import Derived.Test.YtpjgghakeaajbaaSidesB0
import Derived.Test.YtpjgghakeaajbaaMeet
import Derived.Test.YtpjgghakeaajbaaOpenQuad
namespace Go.Proofs.Ytpjgghakeaajbaa
open Go.ChangeShapes Go.WideShapes Go.ChangeAt Go.RowKit

theorem segSides_core (a1 a2 b1 b2 : Int) (c d : Pt) (r more : Int) (hr : I64 r) (hm : I64 more) (w : World) :
    Calls Try.prog 4 #[.agg #[.int .i32 a1, .int .i32 a2, .int .i32 b1, .int .i32 b2, .int .i32 c.1, .int .i32 c.2, .int .i32 d.1, .int .i32 d.2], .int .i64 r, .int .i64 more] w fun e w' => e = .returned (.bool true) ∧ Below w.heap.size w w' := by
  rcases Decidable.em (a1 = b1) with h1 | h1
  · subst h1
    rcases Decidable.em (a2 = b2) with h2 | h2
    · subst h2
      rcases Decidable.em ((meet (a1, a2) (a1, a2) c d).k = 0) with hk | hk
      · exact segSides_no0 meet_says a1 a2 c d r more hr hm hk w
      · exact segSides_yes0 meet_says a1 a2 c d r more hr hm hk w
    · rcases Decidable.em ((meet (a1, a2) (a1, b2) c d).k = 0) with hk | hk
      · exact segSides_no2 meet_says a1 a2 b2 c d r more hr hm hk h2 w
      · exact segSides_yes2 meet_says a1 a2 b2 c d r more hr hm hk h2 w
  · rcases Decidable.em ((meet (a1, a2) (b1, b2) c d).k = 0) with hk | hk
    · exact segSides_no1 meet_says a1 a2 b1 b2 c d r more hr hm hk h1 w
    · exact segSides_yes1 meet_says a1 a2 b1 b2 c d r more hr hm hk h1 w

set_option maxRecDepth 100000 in
theorem segSides_walk (W : World) (base : Nat) (v0 v1 v2 : Value) (k0 : Value.okWide Try.prog W .any base 25 v0) (k1 : Value.okWide Try.prog W .any base 2 v1) (k2 : Value.okWide Try.prog W .any base 2 v2) {H : Type} {enc : TypeId × Value → H} {d0 d1 d2 : DataW H} {p0 p1 p2 : List MemPlace} (_ : DataW.Trod enc Try.prog W 0 (fun _ => true) true 25 v0 d0 p0) (_ : DataW.Trod enc Try.prog W 0 (fun _ => true) true 2 v1 d1 p1) (_ : DataW.Trod enc Try.prog W 0 (fun _ => true) true 2 v2 d2 p2) :
    Calls Try.prog 4 #[v0, v1, v2] W fun e w' => e = .returned (.bool true) ∧ Below W.heap.size W w' := by
  obtain ⟨a, b, c, d, e, f, g, h, h1, h2, h3, h4, h5, h6, h7, h8, rfl⟩ := open_quad k0
  obtain ⟨r, rfl, hr⟩ := cell_int Try.underlying2 k1
  obtain ⟨m, rfl, hm⟩ := cell_int Try.underlying2 k2
  exact segSides_core a b c d (e, f) (g, h) r m (has_i64 hr) (has_i64 hm) W

set_option maxRecDepth 100000 in
theorem segSides_lifted (os : Os) (started : os.Started) (H : Type) (enc : TypeId × Value → H) :
    ReturnsInHanded {} Try.checked os 4 .any (Rows.segSidesSpec.pre6 enc Try.prog Try.f4 Rows.segSidesRow.domain false) (Rows.segSidesSpec.post enc Try.prog Try.f4 false true false false) := by
  refine returnsInHanded_of_change (C := Try.checked) own started (by kernel_rfl) Try.func4
    (ChangeSpec.witness6 (enc := enc) (C := Try.checked) false ⟨#[], #[.agg #[.int .i32 0, .int .i32 0, .int .i32 0, .int .i32 0, .int .i32 0, .int .i32 0, .int .i32 0, .int .i32 0], .int .i64 0, .int .i64 0], []⟩ 8 (by kernel_rfl) (by kernel_rfl) (by kernel_rfl) (by kernel_rfl)) ?_
  intro W base args ds gs before hval0 hW hcnd _
  have hval : ∀ (j : Nat) t v, Try.f4.params[j]? = some t → args[j]? = some v → Value.okWide Try.prog W .any base t v := hval0
  have hW' := hW
  obtain ⟨p, q, hA0, hV, rfl, hfz, hnd⟩ := hW
  have hA : DataW.TrodAll enc Try.prog W 0 (fun _ => true) true Try.f4.params.toList args.toList ds p := hA0
  rw [Try.params4] at hA hval
  obtain ⟨v0, v1, v2, d0, d1, d2, p0, p1, p2, rfl, rfl, rfl, h0, h1, h2⟩ := trodAll_three hA
  obtain ⟨rfl, rfl⟩ := trodVars_none hV
  clear hA0 hval0
  refine (segSides_walk W base v0 v1 v2 (hval 0 25 v0 rfl rfl) (hval 1 2 v1 rfl rfl) (hval 2 2 v2 rfl rfl) h0 h1 h2).mono fun e W' ⟨he, hb⟩ => ?_
  subst he
  exact ⟨_, rfl, law_post laidOut (by kernel_rfl) hW' rfl rfl Try.underlying4 rfl rfl rfl hb⟩

/-- For every input, whatever it is: the call returns true, and each argument reads as it did. -/
theorem segSides_holds : Rows.SegSidesSaid :=
  OpenClaim.holds_of_wide 4 Try.f4 rfl rfl rfl rfl rfl rfl rfl ⟨rfl, rfl, rfl, rfl, rfl⟩ rfl rfl rfl rfl rfl (by kernel_rfl) Try.func4 (by kernel_rfl)
    (of_decide_eq_true (by kernel_rfl)) (by unfold Func.isWrapper; first | (rw [if_pos (by decide +kernel)]; kernel_rfl) | (rw [if_neg (by decide +kernel)]; exact ⟨rfl, rfl⟩))
    (fun os started H enc _ => segSides_lifted os started H enc)
#print axioms segSides_holds



end Go.Proofs.Ytpjgghakeaajbaa
