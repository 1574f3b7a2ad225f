/-
  An argument that is a slice of points, opened.
-/
import Derived.Test.YthbndilnobjjgaaCovers
import Derived.Deep.Slices
import Derived.SizedLaws
namespace Go.Proofs.Ythbndilnobjjgaa
open Go.ChangeShapes Go.WideShapes Go.ChangeAt Go.RowKit Go.Deep

theorem cell_slice {P : Program} {W : World} {base : Nat} {t e : TypeId} {v : Value} (ht : P.underlying t = some (.slice e)) (h : Cell.okWide P W .any base t v) : ∃ A len cap, v = .slice A len cap ∧ (∀ a, A = some a → a.spot = none) := by
  unfold Cell.okWide at h
  rw [ht] at h
  unfold Cell.ok at h
  rw [ht] at h
  cases v <;> simp_all
  rename_i A len cap
  intro a ha
  subst ha
  exact h.2.2.2.1

/-- The number at a cell. -/
def numAt (W : World) (a : Addr) : Int := match W.cell? a with
  | some (.int _ z) => z
  | _ => 0
theorem numAt_eq {W : World} {a : Addr} {k : IntKind} {z : Int} (h : W.cell? a = some (.int k z)) : numAt W a = z := by unfold numAt; rw [h]

theorem gp_map (f : Nat → Pt) (n j : Nat) (h : j < n) : gp ((List.range n).map f) j = f j := by
  unfold gp
  simp [h]
theorem wf_i32 {n : Int} (h : (Lit.int .i32 n).wf = true) : I32 n := by
  unfold I32
  exact has_i32 (by simpa [Lit.wf, IntKind.has] using h)

section
variable {H : Type} {enc : TypeId × Value → H} {W : World} {base : Nat} {spare : Nat → Bool} {held : Bool}
set_option maxRecDepth 100000 in
theorem open_pt {fuel : Nat} {cs : List Value} {x : DataW H × List MemPlace} (h : DataW.trod enc Try.prog W base spare held fuel 28 cs = some x) :
    ∃ a b, cs = [.int .i32 a, .int .i32 b] ∧ I32 a ∧ I32 b := by
  obtain ⟨xs, n, _, hx, hl, hlen, hf⟩ := DataW.trod_struct Try.underlying28 h
  have hl' : cs.length = 2 := hl.trans (by kernel_rfl)
  have hlen' : xs.length = 2 := hlen
  match cs, hl', xs, hlen' with
  | [u, v], _, [y0, y1], _ =>
    have h0 := hf 0 _ rfl
    have h1 := hf 1 _ rfl
    obtain ⟨a, e0, _, wa⟩ := DataW.trod_int Try.underlying21 (cs := [u]) (x := y0) h0
    obtain ⟨b, e1, _, wb⟩ := DataW.trod_int Try.underlying21 (cs := [v]) (x := y1) h1
    simp only [List.cons.injEq, and_true] at e0 e1
    subst e0 e1
    exact ⟨a, b, rfl, wf_i32 wa, wf_i32 wb⟩

set_option maxRecDepth 100000 in
theorem open_pts {fuel : Nat} {cs : List Value} {x : DataW H × List MemPlace} (h : DataW.trod enc Try.prog W base spare held fuel 23 cs = some x) :
    ∃ A len cap ps, cs = [.slice A len cap] ∧ PtsAt W.heap.size W (.slice A len cap) ps ∧ (∀ p ∈ ps, IPt p) ∧ ps.length = len ∧ ∀ L, (∀ n ∈ x.1.weights Try.prog 23, n ≤ L) → len * 8 ≤ L := by
  rcases open_slice Try.underlying23 h with ⟨rfl, rfl⟩ | ⟨a, len, cap, m, n, D, Pl, rfl, hb, hl, hm, hmm, hx, hi⟩
  · exact ⟨none, 0, 0, [], rfl, .inl ⟨⟨_, _, rfl⟩, rfl⟩, fun p hp => (by cases hp), rfl, fun L _ => by omega⟩
  · have hc2 : Try.prog.cellsOf 28 = 2 := by kernel_rfl
    have hml : len ≤ m := by rw [hmm]; split <;> omega
    have each : ∀ i, i < len → ∃ z y, I32 z ∧ I32 y ∧ W.cell? (a.add (i * 2)) = some (.int .i32 z) ∧ W.cell? (a.add (i * 2 + 1)) = some (.int .i32 y) := fun i hi' => by
      obtain ⟨cs', hc, ht⟩ := hi i (by omega)
      rw [hc2] at hc
      obtain ⟨_, hcl, hat⟩ := World.cells?_some hc
      obtain ⟨z, y, rfl, wz, wy⟩ := open_pt ht
      have k0 := hat 0 (by omega)
      have k1 := hat 1 (by omega)
      rw [add_add] at k0 k1
      exact ⟨z, y, wz, wy, k0, k1⟩
    refine ⟨some a, len, cap, (List.range len).map fun i => (numAt W (a.add (i * 2)), numAt W (a.add (i * 2 + 1))), rfl, ?_, ?_, by simp, ?_⟩
    · rcases Nat.eq_zero_or_pos len with h0 | h0
      · subst h0
        exact .inl ⟨⟨_, _, rfl⟩, rfl⟩
      · obtain ⟨z, y, _, _, k0, _⟩ := each 0 h0
        have hlt := World.block_lt_of_cell? W _ k0
        have hsp : a.spot = none := by
          have : a.add (0 * 2) = a := by simp [Addr.add]
          rw [this] at k0
          unfold World.cell? at k0
          split at k0
          · split at k0
            · cases k0
            · rename_i hs; simpa using hs
          · cases k0
        obtain ⟨b, off, sp⟩ := a
        obtain rfl : sp = none := hsp
        have hadd : ∀ j, (⟨b, off, none⟩ : Addr).add j = ⟨b, off + j, none⟩ := fun j => by
          unfold Addr.add
          by_cases hj0 : j = 0 <;> simp [hj0]
        have hlen : ((List.range len).map fun i => (numAt W ((⟨b, off, none⟩ : Addr).add (i * 2)), numAt W ((⟨b, off, none⟩ : Addr).add (i * 2 + 1)))).length = len := by simp
        refine .inr ⟨b, off, cap, by rw [hlen], by rw [hadd] at hlt; exact hlt, fun j hj => ?_⟩
        rw [hlen] at hj
        rw [gp_map _ _ _ hj]
        obtain ⟨z, y, _, _, k0, k1⟩ := each j hj
        rw [← numAt_eq k0] at k0
        rw [← numAt_eq k1] at k1
        rw [hadd] at k0 k1 ⊢
        rw [hadd]
        exact ⟨k0, k1⟩
    · intro p hp
      rw [List.mem_map] at hp
      obtain ⟨i, hi', rfl⟩ := hp
      rw [List.mem_range] at hi'
      obtain ⟨z, y, wz, wy, k0, k1⟩ := each i hi'
      exact ⟨by show I32 (numAt W _); rw [numAt_eq k0]; exact wz, by show I32 (numAt W _); rw [numAt_eq k1]; exact wy⟩
    · intro L hL
      subst hx
      have hb8 : Try.prog.bytesOf 28 = 8 := by kernel_rfl
      have := hL ((((List.range len).map D).length + ((List.range (m - len)).map fun j => D (len + j)).length) * Try.prog.bytesOf 28) (by simp [DataW.weights, Try.underlying23])
      rw [hb8] at this
      simp at this
      omega
end

end Go.Proofs.Ythbndilnobjjgaa
