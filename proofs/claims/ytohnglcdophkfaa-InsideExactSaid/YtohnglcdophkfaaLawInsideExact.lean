/-
  Proved: the law InsideExact returns true for any ring, any holes and any point. No condition.
-/
import Derived.Test.YtohnglcdophkfaaOpenPts
import Derived.Test.YtohnglcdophkfaaExact7
namespace Go.Proofs.Ytohnglcdophkfaa
open Go.ChangeShapes Go.WideShapes Go.ChangeAt Go.RowKit Go.Deep

theorem weights_mem_all {H : Type} {P : Program} {e : TypeId} {d : DataW H} {n : Nat} (hn : n ∈ d.weights P e) : ∀ {l : List (DataW H)}, d ∈ l → n ∈ DataW.weightsAll P e l
  | d' :: r, h => by
    simp only [DataW.weightsAll, List.mem_append]
    rcases List.mem_cons.1 h with rfl | h1
    · exact .inl hn
    · exact .inr (weights_mem_all hn h1)
theorem spot_none {W : World} {a : Addr} {v : Value} (h : W.cell? a = some v) : a.spot = none := by
  unfold World.cell? at h
  split at h
  · split at h
    · cases h
    · rename_i hs; simpa using hs
  · cases h

section
variable {H : Type} {enc : TypeId × Value → H} {W : World} {base : Nat} {spare : Nat → Bool} {held : Bool}
set_option maxRecDepth 100000 in
theorem open_holes {fuel : Nat} {cs : List Value} {x : DataW H × List MemPlace} (h : DataW.trod enc Try.prog W base spare held fuel 23 cs = some x) :
    ∃ A n c sv hh, cs = [.slice A n c] ∧ HolesAt W.heap.size W (.slice A n c) n sv hh ∧ (∀ j, j < n → ∀ p ∈ hh j, IPt p) ∧ ∀ L, (∀ m ∈ x.1.weights Try.prog 23, m ≤ L) → n * 24 ≤ L ∧ ∀ j, j < n → (hh j).length * 8 ≤ L := by
  rcases open_slice Try.underlying23 h with ⟨rfl, rfl⟩ | ⟨a, len, cap, m, n, D, Pl, rfl, hb, hl, hm, hmm, hx, hi⟩
  · exact ⟨none, 0, 0, fun _ => undef, fun _ => [], rfl, ⟨.inl ⟨rfl, _, _, rfl⟩, fun j hj => absurd hj (Nat.not_lt_zero _)⟩, fun j hj => absurd hj (Nat.not_lt_zero _), fun L _ => ⟨by omega, fun j hj => absurd hj (Nat.not_lt_zero _)⟩⟩
  · have hc1 : Try.prog.cellsOf 22 = 1 := by kernel_rfl
    have hb24 : Try.prog.bytesOf 22 = 24 := by kernel_rfl
    have hml : len ≤ m := by rw [hmm]; split <;> omega
    have each : ∀ i, ∃ y : Value × List Pt, i < len → W.cell? (a.add i) = some y.1 ∧ PtsAt W.heap.size W y.1 y.2 ∧ (∀ p ∈ y.2, IPt p) ∧ ∀ L, (∀ q ∈ (D i).weights Try.prog 22, q ≤ L) → y.2.length * 8 ≤ L := fun i => by
      rcases Nat.lt_or_ge i len with hi' | hi'
      · obtain ⟨cs', hc, ht⟩ := hi i (by omega)
        rw [hc1] at hc
        obtain ⟨_, hcl, hat⟩ := World.cells?_some hc
        obtain ⟨A, l, c, ps, rfl, hP, hI, hlp, hL⟩ := open_pts ht
        have k0 := hat 0 (by omega)
        rw [add_add, Nat.mul_one, Nat.add_zero] at k0
        refine ⟨(.slice A l c, ps), fun _ => ⟨k0, hP, hI, fun L hq => ?_⟩⟩
        show ps.length * 8 ≤ L
        rw [hlp]
        exact hL L hq
      · exact ⟨(undef, []), fun h0 => by omega⟩
    obtain ⟨f, hf⟩ := Classical.skolem.1 each
    refine ⟨some a, len, cap, fun i => (f i).1, fun i => (f i).2, rfl, ⟨?_, fun j hj => (hf j hj).2.1⟩, fun j hj => (hf j hj).2.2.1, fun L hL => ?_⟩
    · rcases Nat.eq_zero_or_pos len with h0 | h0
      · exact .inl ⟨h0, _, _, by rw [h0]⟩
      · have k0 := (hf 0 h0).1
        have hlt := World.block_lt_of_cell? W _ k0
        have ha : a.add 0 = a := by simp [Addr.add]
        rw [ha] at k0 hlt
        have hsp := spot_none k0
        obtain ⟨b, off, sp⟩ := a
        obtain rfl : sp = none := hsp
        refine .inr ⟨b, off, cap, rfl, hlt, fun j hj => ?_⟩
        have kj := (hf j hj).1
        have hadd : (⟨b, off, none⟩ : Addr).add j = ⟨b, off + j, none⟩ := by
          unfold Addr.add
          by_cases hj0 : j = 0 <;> simp [hj0]
        rw [hadd] at kj
        exact kj
    · subst hx
      simp only [DataW.weights, Try.underlying23, List.mem_cons, List.mem_append] at hL
      refine ⟨?_, fun j hj => (hf j hj).2.2.2 L (fun q hq => hL q (.inr (.inl (weights_mem_all hq (List.mem_map.2 ⟨j, List.mem_range.2 hj, rfl⟩)))))⟩
      have := hL _ (.inl rfl)
      rw [hb24] at this
      simp at this
      omega
end

set_option maxRecDepth 100000 in
theorem open_ask2 {H : Type} {enc : TypeId × Value → H} {W : World} {base : Nat} {v : Value} {d : DataW H} {p : List MemPlace} (hv : Value.okWide Try.prog W .any base 27 v)
    (h : DataW.Trod enc Try.prog W 0 (fun _ => true) true 27 v d p) :
    ∃ sA sl sc hA n hc ps q sv hh, v = .agg #[.slice sA sl sc, .slice hA n hc, .int .i32 q.1, .int .i32 q.2] ∧ PtsAt W.heap.size W (.slice sA sl sc) ps ∧ (∀ p ∈ ps, IPt p) ∧ IPt q ∧
      HolesAt W.heap.size W (.slice hA n hc) n sv hh ∧ (∀ j, j < n → ∀ p ∈ hh j, IPt p) ∧
      ∀ L, (∀ m ∈ d.weights Try.prog 27, m ≤ L) → ps.length * 8 ≤ L ∧ n * 24 ≤ L ∧ ∀ j, j < n → (hh j).length * 8 ≤ L := by
  obtain ⟨cs, rfl, hl, hall⟩ := open_cells (ts := [22, 23, 21, 21]) Try.underlying27 (by kernel_rfl) (by kernel_rfl) hv
  match cs, hl with
  | [c0, c1, c2, c3], _ =>
    obtain ⟨t2, e2, k2⟩ := hall 2 c2 rfl
    obtain ⟨t3, e3, k3⟩ := hall 3 c3 rfl
    injection e2 with e2
    injection e3 with e3
    subst e2 e3
    obtain ⟨x, rfl, kx⟩ := cell_int Try.underlying21 k2
    obtain ⟨y, rfl, ky⟩ := cell_int Try.underlying21 k3
    obtain ⟨fuel, hf⟩ := h
    obtain ⟨xs, n, _, hx, _, hlen, hg⟩ := DataW.trod_struct Try.underlying27 hf
    have hlen' : xs.length = 3 := hlen
    match xs, hlen' with
    | [y0, y1, y2], _ =>
      have g0 := hg 0 _ rfl
      have g1 := hg 1 _ rfl
      have hring : DataW.trod enc Try.prog W 0 (fun _ => true) true n 22 [c0] = some y0 := g0
      have hholes : DataW.trod enc Try.prog W 0 (fun _ => true) true n 23 [c1] = some y1 := g1
      obtain ⟨sA, sl, sc, ps, e, hP, hI, hlp, hL⟩ := open_pts hring
      obtain ⟨hA, hn, hc, sv, hh, e', hH, hJ, hM⟩ := open_holes hholes
      simp only [List.cons.injEq, and_true] at e e'
      subst e
      subst e'
      refine ⟨sA, sl, sc, hA, hn, hc, ps, (x, y), sv, hh, rfl, hP, hI, ⟨has_i32 kx, has_i32 ky⟩, hH, hJ, fun L hq => ?_⟩
      simp only [Prod.mk.injEq] at hx
      rw [hx.1] at hq
      simp only [DataW.weights, Try.underlying27] at hq
      obtain ⟨h1, h2⟩ := hM L (fun m hm => hq m (DataW.weights_mem_each (j := 1) rfl rfl m hm))
      refine ⟨?_, h1, h2⟩
      rw [hlp]
      exact hL L (fun m hm => hq m (DataW.weights_mem_each (j := 0) rfl rfl m hm))

set_option maxRecDepth 100000 in
theorem insideExact_walk {H : Type} {enc : TypeId × Value → H} (W : World) (base : Nat) (v0 : Value) {d0 : DataW H} {p0 : List MemPlace}
    (k0 : Value.okWide Try.prog W .any base 27 v0) (h0 : DataW.Trod enc Try.prog W 0 (fun _ => true) true 27 v0 d0 p0)
    (hsz : (DataW.weightsEach Try.prog [27] [d0]).all (· ≤ reachBytes) = true) :
    Calls Try.prog 6 #[v0] W fun e w' => e = .returned (.bool true) ∧ Below W.heap.size W w' := by
  obtain ⟨sA, sl, sc, hA, n, hc, ps, q, sv, hh, rfl, hP, hI, hq, hH, hJ, hL⟩ := open_ask2 k0 h0
  obtain ⟨r1, r2, r3⟩ := hL reachBytes (fun m hm => by
    have := List.all_eq_true.1 hsz m (DataW.weights_mem_each (j := 0) rfl rfl m hm)
    simpa using this)
  exact insideExact_core W sA hA sl sc n hc ps q sv hh hq hI r1 hP r2 (fun j hj => ⟨hJ j hj, r3 j hj⟩) hH


set_option maxRecDepth 100000 in
theorem insideExact_lifted (os : Os) (started : os.Started) (H : Type) (enc : TypeId × Value → H) :
    ReturnsInHanded {} Try.checked os 6 .any (Rows.insideExactSpec.pre6 enc Try.prog Try.f6 Rows.insideExactRow.domain false) (Rows.insideExactSpec.post enc Try.prog Try.f6 false true false false) := by
  refine returnsInHanded_of_change_sized (C := Try.checked) own started (by kernel_rfl) Try.func6
    (ChangeSpec.witness6 (enc := enc) (C := Try.checked) false ⟨#[], #[.agg #[.slice none 0 0, .slice none 0 0, .int .i32 0, .int .i32 0]], []⟩ 8 (by kernel_rfl) (by kernel_rfl) (by kernel_rfl) (by kernel_rfl)) ?_
  intro W base args ds gs before hval0 hW hcnd hsz _
  have hval : ∀ (j : Nat) t v, Try.f6.params[j]? = some t → args[j]? = some v → Value.okWide Try.prog W .any base t v := hval0
  have hW' := hW
  obtain ⟨p, q, hA0, hV, rfl, hfz, hnd⟩ := hW
  have hA : DataW.TrodAll enc Try.prog W 0 (fun _ => true) true Try.f6.params.toList args.toList ds p := hA0
  rw [Try.params6] at hA hval
  obtain ⟨v0, d0, rfl, rfl, h0⟩ := trodAll_one hA
  obtain ⟨rfl, rfl⟩ := trodVars_none hV
  clear hA0 hval0
  refine (insideExact_walk W base v0 (hval 0 27 v0 rfl rfl) h0 hsz).mono fun e W' ⟨he, hb⟩ => ?_
  subst he
  exact ⟨_, rfl, law_post laidOut (by kernel_rfl) hW' rfl rfl Try.underlying4 rfl rfl rfl hb⟩

/-- For every input, whatever it is: the call returns true, and each argument reads as it did. -/
theorem insideExact_holds : Rows.InsideExactSaid :=
  OpenClaim.holds_of_wide 6 Try.f6 rfl rfl rfl rfl rfl rfl rfl ⟨rfl, rfl, rfl, rfl, rfl⟩ rfl rfl rfl rfl rfl (by kernel_rfl) Try.func6 (by kernel_rfl)
    (of_decide_eq_true (by kernel_rfl)) (by unfold Func.isWrapper; first | (rw [if_pos (by decide +kernel)]; kernel_rfl) | (rw [if_neg (by decide +kernel)]; exact ⟨rfl, rfl⟩))
    (fun os started H enc _ => insideExact_lifted os started H enc)
#print axioms insideExact_holds

end Go.Proofs.Ytohnglcdophkfaa
