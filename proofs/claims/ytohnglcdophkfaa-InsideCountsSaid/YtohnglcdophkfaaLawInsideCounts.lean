/-
  Proved: the law InsideCounts returns true for every input. No condition.
-/
import Derived.Test.YtohnglcdophkfaaIterY
import Derived.Test.YtohnglcdophkfaaCovers
import Derived.Deep.Slices
import Derived.SizedLaws
import Derived.Lib.SmallJoins
namespace Go.Proofs.Ytohnglcdophkfaa
open Go.ChangeShapes Go.WideShapes Go.ChangeAt Go.RowKit Go.Deep

theorem cell_slice {P : Program} {W : World} {base : Nat} {t e : TypeId} {v : Value} (ht : P.underlying t = some (.slice e)) (h : Cell.okWide P W .any base t v) : ∃ A len cap, v = .slice A len cap ∧ (∀ a, A = some a → a.spot = none) := by
  unfold Cell.okWide at h
  rw [ht] at h
  unfold Cell.ok at h
  rw [ht] at h
  cases v <;> simp_all
  rename_i A len cap
  intro a ha
  subst ha
  exact h.2.2.2.1

/-- The number at a cell. -/
def numAt (W : World) (a : Addr) : Int := match W.cell? a with
  | some (.int _ z) => z
  | _ => 0
theorem numAt_eq {W : World} {a : Addr} {k : IntKind} {z : Int} (h : W.cell? a = some (.int k z)) : numAt W a = z := by unfold numAt; rw [h]

theorem gp_map (f : Nat → Pt) (n j : Nat) (h : j < n) : gp ((List.range n).map f) j = f j := by
  unfold gp
  simp [h]
theorem wf_i32 {n : Int} (h : (Lit.int .i32 n).wf = true) : I32 n := by
  unfold I32
  exact has_i32 (by simpa [Lit.wf, IntKind.has] using h)

section
variable {H : Type} {enc : TypeId × Value → H} {W : World} {base : Nat} {spare : Nat → Bool} {held : Bool}
set_option maxRecDepth 100000 in
theorem open_pt {fuel : Nat} {cs : List Value} {x : DataW H × List MemPlace} (h : DataW.trod enc Try.prog W base spare held fuel 25 cs = some x) :
    ∃ a b, cs = [.int .i32 a, .int .i32 b] ∧ I32 a ∧ I32 b := by
  obtain ⟨xs, n, _, hx, hl, hlen, hf⟩ := DataW.trod_struct Try.underlying25 h
  have hl' : cs.length = 2 := hl.trans (by kernel_rfl)
  have hlen' : xs.length = 2 := hlen
  match cs, hl', xs, hlen' with
  | [u, v], _, [y0, y1], _ =>
    have h0 := hf 0 _ rfl
    have h1 := hf 1 _ rfl
    obtain ⟨a, e0, _, wa⟩ := DataW.trod_int Try.underlying21 (cs := [u]) (x := y0) h0
    obtain ⟨b, e1, _, wb⟩ := DataW.trod_int Try.underlying21 (cs := [v]) (x := y1) h1
    simp only [List.cons.injEq, and_true] at e0 e1
    subst e0 e1
    exact ⟨a, b, rfl, wf_i32 wa, wf_i32 wb⟩

set_option maxRecDepth 100000 in
theorem open_pts {fuel : Nat} {cs : List Value} {x : DataW H × List MemPlace} (h : DataW.trod enc Try.prog W base spare held fuel 22 cs = some x) :
    ∃ A len cap ps, cs = [.slice A len cap] ∧ PtsAt W.heap.size W (.slice A len cap) ps ∧ (∀ p ∈ ps, IPt p) ∧ ps.length = len ∧ ∀ L, (∀ n ∈ x.1.weights Try.prog 22, n ≤ L) → len * 8 ≤ L := by
  rcases open_slice Try.underlying22 h with ⟨rfl, rfl⟩ | ⟨a, len, cap, m, n, D, Pl, rfl, hb, hl, hm, hmm, hx, hi⟩
  · exact ⟨none, 0, 0, [], rfl, .inl ⟨⟨_, _, rfl⟩, rfl⟩, fun p hp => (by cases hp), rfl, fun L _ => by omega⟩
  · have hc2 : Try.prog.cellsOf 25 = 2 := by kernel_rfl
    have hml : len ≤ m := by rw [hmm]; split <;> omega
    have each : ∀ i, i < len → ∃ z y, I32 z ∧ I32 y ∧ W.cell? (a.add (i * 2)) = some (.int .i32 z) ∧ W.cell? (a.add (i * 2 + 1)) = some (.int .i32 y) := fun i hi' => by
      obtain ⟨cs', hc, ht⟩ := hi i (by omega)
      rw [hc2] at hc
      obtain ⟨_, hcl, hat⟩ := World.cells?_some hc
      obtain ⟨z, y, rfl, wz, wy⟩ := open_pt ht
      have k0 := hat 0 (by omega)
      have k1 := hat 1 (by omega)
      rw [add_add] at k0 k1
      exact ⟨z, y, wz, wy, k0, k1⟩
    refine ⟨some a, len, cap, (List.range len).map fun i => (numAt W (a.add (i * 2)), numAt W (a.add (i * 2 + 1))), rfl, ?_, ?_, by simp, ?_⟩
    · rcases Nat.eq_zero_or_pos len with h0 | h0
      · subst h0
        exact .inl ⟨⟨_, _, rfl⟩, rfl⟩
      · obtain ⟨z, y, _, _, k0, _⟩ := each 0 h0
        have hlt := World.block_lt_of_cell? W _ k0
        have hsp : a.spot = none := by
          have : a.add (0 * 2) = a := by simp [Addr.add]
          rw [this] at k0
          unfold World.cell? at k0
          split at k0
          · split at k0
            · cases k0
            · rename_i hs; simpa using hs
          · cases k0
        obtain ⟨b, off, sp⟩ := a
        obtain rfl : sp = none := hsp
        have hadd : ∀ j, (⟨b, off, none⟩ : Addr).add j = ⟨b, off + j, none⟩ := fun j => by
          unfold Addr.add
          by_cases hj0 : j = 0 <;> simp [hj0]
        have hlen : ((List.range len).map fun i => (numAt W ((⟨b, off, none⟩ : Addr).add (i * 2)), numAt W ((⟨b, off, none⟩ : Addr).add (i * 2 + 1)))).length = len := by simp
        refine .inr ⟨b, off, cap, by rw [hlen], by rw [hadd] at hlt; exact hlt, fun j hj => ?_⟩
        rw [hlen] at hj
        rw [gp_map _ _ _ hj]
        obtain ⟨z, y, _, _, k0, k1⟩ := each j hj
        rw [← numAt_eq k0] at k0
        rw [← numAt_eq k1] at k1
        rw [hadd] at k0 k1 ⊢
        rw [hadd]
        exact ⟨k0, k1⟩
    · intro p hp
      rw [List.mem_map] at hp
      obtain ⟨i, hi', rfl⟩ := hp
      rw [List.mem_range] at hi'
      obtain ⟨z, y, wz, wy, k0, k1⟩ := each i hi'
      exact ⟨by show I32 (numAt W _); rw [numAt_eq k0]; exact wz, by show I32 (numAt W _); rw [numAt_eq k1]; exact wy⟩
    · intro L hL
      subst hx
      have hb8 : Try.prog.bytesOf 25 = 8 := by kernel_rfl
      have := hL ((((List.range len).map D).length + ((List.range (m - len)).map fun j => D (len + j)).length) * Try.prog.bytesOf 25) (by simp [DataW.weights, Try.underlying22])
      rw [hb8] at this
      simp at this
      omega
end

set_option maxRecDepth 100000 in
theorem insideCounts_walk {H : Type} {enc : TypeId × Value → H} (W : World) (_ : Nat) (A0 : Option Addr) (n0 c0 : Nat) {d0 : DataW H} {p0 : List MemPlace}
    (h0 : DataW.Trod enc Try.prog W 0 (fun _ => true) true 22 (.slice A0 n0 c0) d0 p0)
    (hsz : (DataW.weightsEach Try.prog [22] [d0]).all (· ≤ reachBytes) = true) :
    Calls Try.prog 7 #[.slice A0 n0 c0] W fun e w' => e = .returned (.bool true) ∧ Below W.heap.size W w' := by
  obtain ⟨f0, h0⟩ := h0
  obtain ⟨A', l, c', ps0, e0, hP0, hI0, hl0, hL0⟩ := open_pts h0
  have r0 := hL0 reachBytes (fun m hm => by
    have := List.all_eq_true.1 hsz m (DataW.weights_mem_each (j := 0) rfl rfl m hm)
    simpa using this)
  simp only [Value.cells, List.cons.injEq, and_true] at e0
  simp at e0
  obtain ⟨rfl, rfl, rfl⟩ := e0
  unfold reachBytes at r0
  exact insideCounts_core W A0 n0 c0 ps0 hI0 hl0 (by omega) hP0

set_option maxRecDepth 100000 in
theorem insideCounts_lifted (os : Os) (started : os.Started) (H : Type) (enc : TypeId × Value → H) :
    ReturnsInHanded {} Try.checked os 7 .any (Rows.insideCountsSpec.pre6 enc Try.prog Try.f7 Rows.insideCountsRow.domain false) (Rows.insideCountsSpec.post enc Try.prog Try.f7 false true false false) := by
  refine returnsInHanded_of_change_sized (C := Try.checked) own started (by kernel_rfl) Try.func7
    (ChangeSpec.witness6 (enc := enc) (C := Try.checked) false ⟨#[], #[.slice none 0 0], []⟩ 8 (by kernel_rfl) (by kernel_rfl) (by kernel_rfl) (by kernel_rfl)) ?_
  intro W base args ds gs before hval0 hW hcnd hsz _
  have hval : ∀ (j : Nat) t v, Try.f7.params[j]? = some t → args[j]? = some v → Value.okWide Try.prog W .any base t v := hval0
  have hW' := hW
  obtain ⟨p, q, hA0, hV, rfl, hfz, hnd⟩ := hW
  have hA : DataW.TrodAll enc Try.prog W 0 (fun _ => true) true Try.f7.params.toList args.toList ds p := hA0
  rw [Try.params7] at hA hval
  obtain ⟨v0, d0, rfl, rfl, h0⟩ := trodAll_one hA
  obtain ⟨rfl, rfl⟩ := trodVars_none hV
  clear hA0 hval0
  obtain ⟨A0, n0, c0, rfl⟩ := okWide_slice Try.underlying22 (hval 0 22 v0 rfl rfl)
  refine (insideCounts_walk W base A0 n0 c0  h0 hsz).mono fun e W' ⟨he, hb⟩ => ?_
  subst he
  exact ⟨_, rfl, law_post laidOut (by kernel_rfl) hW' rfl rfl Try.underlying4 rfl rfl rfl hb⟩

/-- For every input, whatever it is: the call returns true, and each argument reads as it did. -/
theorem insideCounts_holds : Rows.InsideCountsSaid :=
  OpenClaim.holds_of_wide 7 Try.f7 rfl rfl rfl rfl rfl rfl rfl ⟨rfl, rfl, rfl, rfl, rfl⟩ rfl rfl rfl rfl rfl (by kernel_rfl) Try.func7 (by kernel_rfl)
    (of_decide_eq_true (by kernel_rfl)) (by unfold Func.isWrapper; first | (rw [if_pos (by decide +kernel)]; kernel_rfl) | (rw [if_neg (by decide +kernel)]; exact ⟨rfl, rfl⟩))
    (fun os started H enc _ => insideCounts_lifted os started H enc)
#print axioms insideCounts_holds


end Go.Proofs.Ytohnglcdophkfaa
