/-
  Proved: the law WireTakes returns true for any bytes and any wants. No condition.
-/
import Derived.Test.YtiejgandjlldjaaTakesW
import Derived.Test.YtiejgandjlldjaaOpenWants
import Derived.Lib.SmallJoins
namespace Go.Proofs.Ytiejgandjlldjaa
open Go.ChangeShapes Go.WideShapes Go.ChangeAt Go.RowKit Go.Deep

set_option maxRecDepth 100000 in
theorem bytes_none_cap {H : Type} {enc : TypeId × Value → H} {W : World} {base : Nat} {spare : Nat → Bool} {held : Bool} {fuel : Nat} {cs : List Value} {x : DataW H × List MemPlace} {A : Option Addr} {n c : Nat}
    (h : DataW.trod enc Try.prog W base spare held fuel 23 cs = some x) (e : cs = [.slice A n c]) : A = none → c = 0 := by
  have hc1 : Try.prog.cellsOf 5 = 1 := by kernel_rfl
  rcases open_slice1 Try.underlying23 hc1 h with ⟨rfl, rfl⟩ | ⟨a, len, cap, m, n', V, D, Pl, rfl, hb, hl, hm, hmm, hx, hi⟩
  · simp at e
    intro _
    omega
  · simp at e
    intro ha
    rw [ha] at e
    cases e.1

set_option maxRecDepth 100000 in
theorem wireTakes_walk {H : Type} {enc : TypeId × Value → H} (W : World) (A0 : Option Addr) (n0 c0 : Nat) (A1 : Option Addr) (n1 c1 : Nat) {d0 d1 : DataW H} {p0 p1 : List MemPlace}
    (h0 : DataW.Trod enc Try.prog W 0 (fun _ => true) true 23 (.slice A0 n0 c0) d0 p0) (h1 : DataW.Trod enc Try.prog W 0 (fun _ => true) true 62 (.slice A1 n1 c1) d1 p1)
    (hsz : (DataW.weightsEach Try.prog [23, 62] [d0, d1]).all (· ≤ reachBytes) = true) :
    Calls Try.prog 8 #[.slice A0 n0 c0, .slice A1 n1 c1] W fun e w' => e = .returned (.bool true) ∧ Below W.heap.size W w' := by
  obtain ⟨f0, h0⟩ := h0
  obtain ⟨f1, h1⟩ := h1
  obtain ⟨A, n, c, l, e0, hB, hL⟩ := open_bytes h0
  have hA0 := bytes_none_cap h0 e0
  obtain ⟨u, ls, e1, hW, hM⟩ := open_wants h1
  have r0 := hL reachBytes (fun m hm => by
    have := List.all_eq_true.1 hsz m (DataW.weights_mem_each (j := 0) rfl rfl m hm)
    simpa using this)
  have r1 := hM reachBytes (fun m hm => by
    have := List.all_eq_true.1 hsz m (DataW.weights_mem_each (j := 1) rfl rfl m hm)
    simpa using this)
  simp only [Value.cells, List.cons.injEq, and_true] at e0 e1
  unfold reachBytes at r0 r1
  simp at e0 e1
  obtain ⟨rfl, rfl, rfl⟩ := e0
  subst e1
  exact takes_core _ _ _ l _ ls W hB hA0 hW (by omega) (by omega)

set_option maxRecDepth 100000 in
theorem wireTakes_lifted (os : Os) (started : os.Started) (H : Type) (enc : TypeId × Value → H) :
    ReturnsInHanded {} Try.checked os 8 .any (Rows.wireTakesSpec.pre6 enc Try.prog Try.f8 Rows.wireTakesRow.domain false) (Rows.wireTakesSpec.post enc Try.prog Try.f8 false true false false) := by
  refine returnsInHanded_of_change_sized (C := Try.checked) own started (by kernel_rfl) Try.func8
    (ChangeSpec.witness6 (enc := enc) (C := Try.checked) false ⟨#[], #[.slice none 0 0, .slice none 0 0], []⟩ 8 (by kernel_rfl) (by kernel_rfl) (by kernel_rfl) (by kernel_rfl)) ?_
  intro W base args ds gs before hval0 hW hcnd hsz _
  have hW' := hW
  obtain ⟨p, q, hA0, hV, rfl, hfz, hnd⟩ := hW
  have hA : DataW.TrodAll enc Try.prog W 0 (fun _ => true) true Try.f8.params.toList args.toList ds p := hA0
  have hval : ∀ (j : Nat) t v, Try.f8.params[j]? = some t → args[j]? = some v → Value.okWide Try.prog W .any base t v := hval0
  rw [Try.params8] at hA hval
  obtain ⟨v0, v1, d0, d1, p0, p1, rfl, rfl, rfl, h0, h1⟩ := trodAll_two hA
  obtain ⟨rfl, rfl⟩ := trodVars_none hV
  clear hA0 hval0
  obtain ⟨A0, n0, c0, rfl⟩ := okWide_slice Try.underlying23 (hval 0 23 v0 rfl rfl)
  obtain ⟨A1, n1, c1, rfl⟩ := okWide_slice Try.underlying62 (hval 1 62 v1 rfl rfl)
  refine (wireTakes_walk W _ _ _ _ _ _ h0 h1 hsz).mono fun e W' ⟨he, hb⟩ => ?_
  subst he
  exact ⟨_, rfl, law_post laidOut (by kernel_rfl) hW' rfl rfl Try.underlying4 rfl rfl rfl hb⟩

/-- For every input, whatever it is: the call returns true, and each argument reads as it did. -/
theorem wireTakes_holds : Rows.WireTakesSaid :=
  OpenClaim.holds_of_wide 8 Try.f8 rfl rfl rfl rfl rfl rfl rfl ⟨rfl, rfl, rfl, rfl, rfl⟩ rfl rfl rfl rfl rfl (by kernel_rfl) Try.func8 (by kernel_rfl)
    (of_decide_eq_true (by kernel_rfl)) (by unfold Func.isWrapper; first | (rw [if_pos (by decide +kernel)]; kernel_rfl) | (rw [if_neg (by decide +kernel)]; exact ⟨rfl, rfl⟩))
    (fun os started H enc _ => wireTakes_lifted os started H enc)
#print axioms wireTakes_holds

end Go.Proofs.Ytiejgandjlldjaa
