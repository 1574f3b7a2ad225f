/-
  Proved: the law WireTurned returns true for any body, any place and any bytes that are turned. No condition.
-/
import Derived.Test.YtiejgandjlldjaaTurnW
import Derived.Test.YtiejgandjlldjaaOpenB
import Derived.Lib.SmallJoins
namespace Go.Proofs.Ytiejgandjlldjaa
open Go.ChangeShapes Go.WideShapes Go.ChangeAt Go.RowKit

theorem has_u8 {n : Int} (h : IntKind.u8.has n) : 0 ≤ n ∧ n ≤ 255 := by simpa [IntKind.has, IntKind.min, IntKind.max, IntKind.signed, IntKind.bits] using h

set_option maxRecDepth 100000 in
theorem open_turn {H : Type} {enc : TypeId × Value → H} {W : World} {base : Nat} {v : Value} {d : DataW H} {p : List MemPlace} (hv : Value.okWide Try.prog W .any base 26 v)
    (h : DataW.Trod enc Try.prog W 0 (fun _ => true) true 26 v d p) :
    ∃ A n c l at_ y0 y1 y2 y3 four, v = .agg #[.slice A n c, .int .i64 at_, B8 y0, B8 y1, B8 y2, B8 y3, .bool four] ∧ Bs W A n c l := by
  obtain ⟨cs, rfl, hl, hall⟩ := open_cells (ts := [23, 3, 5, 5, 5, 5, 4]) Try.underlying26 (by kernel_rfl) (by kernel_rfl) hv
  match cs, hl with
  | [c0, c1, c2, c3, c4, c5, c6], _ =>
    obtain ⟨t1, e1, k1⟩ := hall 1 c1 rfl
    obtain ⟨t2, e2, k2⟩ := hall 2 c2 rfl
    obtain ⟨t3, e3, k3⟩ := hall 3 c3 rfl
    obtain ⟨t4, e4, k4⟩ := hall 4 c4 rfl
    obtain ⟨t5, e5, k5⟩ := hall 5 c5 rfl
    obtain ⟨t6, e6, k6⟩ := hall 6 c6 rfl
    injection e1 with e1
    injection e2 with e2
    injection e3 with e3
    injection e4 with e4
    injection e5 with e5
    injection e6 with e6
    subst e1 e2 e3 e4 e5 e6
    obtain ⟨at_, rfl, _⟩ := cell_int Try.underlying3 k1
    obtain ⟨z0, rfl, r0⟩ := cell_int Try.underlying5 k2
    obtain ⟨z1, rfl, r1⟩ := cell_int Try.underlying5 k3
    obtain ⟨z2, rfl, r2⟩ := cell_int Try.underlying5 k4
    obtain ⟨z3, rfl, r3⟩ := cell_int Try.underlying5 k5
    obtain ⟨four, rfl⟩ := cell_bool Try.underlying4 k6
    obtain ⟨fuel, hf⟩ := h
    obtain ⟨xs, n, _, hx, _, hlen, hg⟩ := DataW.trod_struct Try.underlying26 hf
    have hlen' : xs.length = 4 := hlen
    match xs, hlen' with
    | [w0, w1, w2, w3], _ =>
      have g0 := hg 0 _ rfl
      have hring : DataW.trod enc Try.prog W 0 (fun _ => true) true n 23 [c0] = some w0 := g0
      obtain ⟨A, m, c, l, e, hP, _⟩ := open_bytes hring
      simp only [List.cons.injEq, and_true] at e
      subst e
      rw [u8_of (has_u8 r0), u8_of (has_u8 r1), u8_of (has_u8 r2), u8_of (has_u8 r3)]
      exact ⟨A, m, c, l, at_, _, _, _, _, four, rfl, hP⟩

set_option maxRecDepth 100000 in
theorem wireTurned_walk (W : World) (base : Nat) (v0 : Value) (k0 : Value.okWide Try.prog W .any base 26 v0) {H : Type} {enc : TypeId × Value → H} {d0 : DataW H} {p0 : List MemPlace} (h0 : DataW.Trod enc Try.prog W 0 (fun _ => true) true 26 v0 d0 p0) :
    Calls Try.prog 4 #[v0] W fun e w' => e = .returned (.bool true) ∧ Below W.heap.size W w' := by
  obtain ⟨A, n, c, l, at_, y0, y1, y2, y3, four, rfl, hs⟩ := open_turn k0 h0
  rcases Nat.lt_or_ge 8184 n with h | h
  · exact turned_over A n c at_ y0 y1 y2 y3 four W h
  · exact turned_in A n c l at_ y0 y1 y2 y3 four W hs h

set_option maxRecDepth 100000 in
theorem wireTurned_lifted (os : Os) (started : os.Started) (H : Type) (enc : TypeId × Value → H) :
    ReturnsInHanded {} Try.checked os 4 .any (Rows.wireTurnedSpec.pre6 enc Try.prog Try.f4 Rows.wireTurnedRow.domain false) (Rows.wireTurnedSpec.post enc Try.prog Try.f4 false true false false) := by
  refine returnsInHanded_of_change (C := Try.checked) own started (by kernel_rfl) Try.func4
    (ChangeSpec.witness6 (enc := enc) (C := Try.checked) false ⟨#[], #[.agg #[.slice none 0 0, .int .i64 0, .int .u8 0, .int .u8 0, .int .u8 0, .int .u8 0, .bool false]], []⟩ 8 (by kernel_rfl) (by kernel_rfl) (by kernel_rfl) (by kernel_rfl)) ?_
  intro W base args ds gs before hval0 hW hcnd _
  have hval : ∀ (j : Nat) t v, Try.f4.params[j]? = some t → args[j]? = some v → Value.okWide Try.prog W .any base t v := hval0
  have hW' := hW
  obtain ⟨p, q, hA0, hV, rfl, hfz, hnd⟩ := hW
  have hA : DataW.TrodAll enc Try.prog W 0 (fun _ => true) true Try.f4.params.toList args.toList ds p := hA0
  rw [Try.params4] at hA hval
  obtain ⟨v0, d0, rfl, rfl, h0⟩ := trodAll_one hA
  obtain ⟨rfl, rfl⟩ := trodVars_none hV
  clear hA0 hval0
  refine (wireTurned_walk W base v0 (hval 0 26 v0 rfl rfl) h0).mono fun e W' ⟨he, hb⟩ => ?_
  subst he
  exact ⟨_, rfl, law_post laidOut (by kernel_rfl) hW' rfl rfl Try.underlying4 rfl rfl rfl hb⟩

/-- For every input, whatever it is: the call returns true, and each argument reads as it did. -/
theorem wireTurned_holds : Rows.WireTurnedSaid :=
  OpenClaim.holds_of_wide 4 Try.f4 rfl rfl rfl rfl rfl rfl rfl ⟨rfl, rfl, rfl, rfl, rfl⟩ rfl rfl rfl rfl rfl (by kernel_rfl) Try.func4 (by kernel_rfl)
    (of_decide_eq_true (by kernel_rfl)) (by unfold Func.isWrapper; first | (rw [if_pos (by decide +kernel)]; kernel_rfl) | (rw [if_neg (by decide +kernel)]; exact ⟨rfl, rfl⟩))
    (fun os started H enc _ => wireTurned_lifted os started H enc)
#print axioms wireTurned_holds


end Go.Proofs.Ytiejgandjlldjaa
