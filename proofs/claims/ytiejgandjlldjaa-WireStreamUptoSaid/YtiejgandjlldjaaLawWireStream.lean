/-
  Proved: the law WireStream returns true for any bodies and any bytes ahead of them, of bulk at most 1048576.
-/
import Derived.Test.YtiejgandjlldjaaStreamW
import Derived.Lib.SmallJoins
import Derived.JoinedCond
namespace Go.Proofs.Ytiejgandjlldjaa
open Go.ChangeShapes Go.WideShapes Go.ChangeAt Go.RowKit Go.Deep

set_option maxRecDepth 100000 in
theorem wireStream_walk {H : Type} {enc : TypeId × Value → H} (W : World) (A0 : Option Addr) (n0 c0 : Nat) (A1 : Option Addr) (n1 c1 : Nat) {d0 d1 : DataW H} {p0 p1 : List MemPlace}
    (h0 : DataW.Trod enc Try.prog W 0 (fun _ => true) true 37 (.slice A0 n0 c0) d0 p0) (h1 : DataW.Trod enc Try.prog W 0 (fun _ => true) true 23 (.slice A1 n1 c1) d1 p1)
    (hk : Rows.uptoSmall H [d0, d1] = true) :
    Calls Try.prog 6 #[.slice A0 n0 c0, .slice A1 n1 c1] W fun e w' => e = .returned (.bool true) ∧ Below W.heap.size W w' := by
  obtain ⟨f0, h0⟩ := h0
  obtain ⟨f1, h1⟩ := h1
  obtain ⟨v, l, e0, hBB, hbk⟩ := open_bb h0
  obtain ⟨A, n, c, ah, e1, hB, hbn⟩ := open_bytes_n h1
  simp only [Value.cells, List.cons.injEq, and_true] at e0 e1
  simp at e1
  obtain ⟨rfl, rfl, rfl⟩ := e1
  obtain ⟨A', c', ev, hl⟩ := hBB.bbs
  rw [ev] at e0
  simp at e0
  obtain ⟨rfl, rfl, rfl⟩ := e0
  have h : Rows.uptoBulkAll [d0, d1] ≤ 1048576 := of_decide_eq_true hk
  simp only [Rows.uptoBulkAll] at h
  exact stream_walk _ _ _ _ _ l ah W hl hB (by simp only at hbk; omega) (by simp only at hbn; omega)

set_option maxRecDepth 100000 in
theorem wireStream_lifted (os : Os) (started : os.Started) (H : Type) (enc : TypeId × Value → H) (F : Stop.Interp) :
    ReturnsInHanded {} Try.checked os 6 .any ((Rows.OpenSpec.upto Rows.wireStreamSpec).pre6 enc Try.prog Try.f6 Rows.wireStreamUptoRow.domain false) (((Rows.OpenSpec.upto Rows.wireStreamSpec).at F).post enc Try.prog Try.f6 false true false false) := by
  refine returnsInHanded_of_cond (C := Try.checked) (s := Rows.OpenSpec.upto Rows.wireStreamSpec) (k := Rows.uptoSmall) rfl own started (by kernel_rfl) Try.func6
    (OpenSpec.witness (enc := enc) (C := Try.checked) (s := Rows.OpenSpec.upto Rows.wireStreamSpec) (k := Rows.uptoSmall) rfl false ⟨#[], #[.slice none 0 0, .slice none 0 0], []⟩ 8 (by kernel_rfl) (by kernel_rfl) (by kernel_rfl)
      (x := ([.nil, .nil], [], [])) (by kernel_rfl) rfl (by kernel_rfl)) ?_
  intro W base args ds gs before hval0 hW _ hk _
  have hval : ∀ (j : Nat) t v, Try.f6.params[j]? = some t → args[j]? = some v → Value.okWide Try.prog W .any base t v := hval0
  have hW' := hW
  obtain ⟨p, q, hA0, hV, rfl, hfz, hnd⟩ := hW
  have hA : DataW.TrodAll enc Try.prog W 0 (fun _ => true) true Try.f6.params.toList args.toList ds p := hA0
  rw [Try.params6] at hA hval
  obtain ⟨v0, v1, d0, d1, p0, p1, rfl, rfl, rfl, h0, h1⟩ := trodAll_two hA
  obtain ⟨rfl, rfl⟩ := trodVars_none hV
  clear hA0 hval0
  obtain ⟨A0, n0, c0, rfl⟩ := okWide_slice Try.underlying37 (hval 0 37 v0 rfl rfl)
  obtain ⟨A1, n1, c1, rfl⟩ := okWide_slice Try.underlying23 (hval 1 23 v1 rfl rfl)
  refine (wireStream_walk W _ _ _ _ _ _ h0 h1 hk).mono fun e W' ⟨he, hb⟩ => ?_
  subst he
  exact ⟨_, rfl, law_post laidOut (by kernel_rfl) hW' rfl rfl Try.underlying4 rfl rfl rfl hb⟩

/-- For every input of bulk at most 1048576: the call returns true, and each argument reads as it did. -/
theorem wireStreamUpto_holds : Rows.WireStreamUptoSaid :=
  OpenClaim.holds_of_cond 6 Try.f6 rfl rfl rfl rfl rfl rfl rfl ⟨rfl, rfl, rfl, rfl, rfl⟩ rfl rfl rfl rfl rfl (by kernel_rfl) Try.func6 (by kernel_rfl)
    (of_decide_eq_true (by kernel_rfl)) (by unfold Func.isWrapper; first | (rw [if_pos (by decide +kernel)]; kernel_rfl) | (rw [if_neg (by decide +kernel)]; exact ⟨rfl, rfl⟩))
    (fun os started H enc _ F => wireStream_lifted os started H enc F)
#print axioms wireStreamUpto_holds

end Go.Proofs.Ytiejgandjlldjaa
