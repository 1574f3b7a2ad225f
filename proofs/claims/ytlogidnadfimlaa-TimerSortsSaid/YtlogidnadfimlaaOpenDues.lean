/-
  An argument that is a slice of dues, opened.
-/
import Derived.Test.YtlogidnadfimlaaDueZ
import Derived.Deep.Slices
import Derived.SizedLaws
namespace Go.Proofs.Ytlogidnadfimlaa
open Go.ChangeShapes Go.WideShapes Go.ChangeAt Go.RowKit Go.Deep

theorem cell_slice {P : Program} {W : World} {base : Nat} {t e : TypeId} {v : Value} (ht : P.underlying t = some (.slice e)) (h : Cell.okWide P W .any base t v) : ∃ A len cap, v = .slice A len cap ∧ (∀ a, A = some a → a.spot = none) := by
  unfold Cell.okWide at h
  rw [ht] at h
  unfold Cell.ok at h
  rw [ht] at h
  cases v <;> simp_all
  rename_i A len cap
  intro a ha
  subst ha
  exact h.2.2.2.1

/-- The number at a cell. -/
def numAt (W : World) (a : Addr) : Int := match W.cell? a with
  | some (.int _ z) => z
  | _ => 0
theorem numAt_eq {W : World} {a : Addr} {k : IntKind} {z : Int} (h : W.cell? a = some (.int k z)) : numAt W a = z := by unfold numAt; rw [h]

theorem gd_map (f : Nat → Du) (n j : Nat) (h : j < n) : gd ((List.range n).map f) j = f j := by
  unfold gd
  simp [h]
theorem wf_u32 {n : Int} (h : (Lit.int .u32 n).wf = true) : U32 n := by
  have h0 : IntKind.u32.has n := by simpa [Lit.wf, IntKind.has] using h
  have h1 : 0 ≤ n ∧ n ≤ 4294967295 := by simpa [IntKind.has, IntKind.min, IntKind.max, IntKind.signed, IntKind.bits] using h0
  unfold U32
  omega

section
variable {H : Type} {enc : TypeId × Value → H} {W : World} {base : Nat} {spare : Nat → Bool} {held : Bool}
set_option maxRecDepth 100000 in
theorem open_du {fuel : Nat} {cs : List Value} {x : DataW H × List MemPlace} (h : DataW.trod enc Try.prog W base spare held fuel 31 cs = some x) :
    ∃ a b c, cs = [.int .u32 a, .int .u32 b, .int .u32 c] ∧ U32 a ∧ U32 b ∧ U32 c := by
  obtain ⟨xs, n, _, hx, hl, hlen, hf⟩ := DataW.trod_struct Try.underlying31 h
  have hl' : cs.length = 3 := hl.trans (by kernel_rfl)
  have hlen' : xs.length = 3 := hlen
  match cs, hl', xs, hlen' with
  | [u, v, t], _, [y0, y1, y2], _ =>
    have h0 := hf 0 _ rfl
    have h1 := hf 1 _ rfl
    have h2 := hf 2 _ rfl
    obtain ⟨a, e0, _, wa⟩ := DataW.trod_int Try.underlying29 (cs := [u]) (x := y0) h0
    obtain ⟨b, e1, _, wb⟩ := DataW.trod_int Try.underlying29 (cs := [v]) (x := y1) h1
    obtain ⟨c, e2, _, wc⟩ := DataW.trod_int Try.underlying29 (cs := [t]) (x := y2) h2
    simp only [List.cons.injEq, and_true] at e0 e1 e2
    subst e0 e1 e2
    exact ⟨a, b, c, rfl, wf_u32 wa, wf_u32 wb, wf_u32 wc⟩

set_option maxRecDepth 100000 in
theorem open_dues {fuel : Nat} {cs : List Value} {x : DataW H × List MemPlace} (h : DataW.trod enc Try.prog W base spare held fuel 23 cs = some x) :
    ∃ A len cap l, cs = [.slice A len cap] ∧ DsAt W.heap.size W (.slice A len cap) l ∧ (∀ p ∈ l, UD p) ∧ l.length = len := by
  rcases open_slice Try.underlying23 h with ⟨rfl, rfl⟩ | ⟨a, len, cap, m, n, D, Pl, rfl, hb, hl, hm, hmm, hx, hi⟩
  · exact ⟨none, 0, 0, [], rfl, .inl ⟨⟨_, _, rfl⟩, rfl⟩, fun p hp => (by cases hp), rfl⟩
  · have hc2 : Try.prog.cellsOf 31 = 3 := by kernel_rfl
    have hml : len ≤ m := by rw [hmm]; split <;> omega
    have each : ∀ i, i < len → ∃ z y u, U32 z ∧ U32 y ∧ U32 u ∧ W.cell? (a.add (i * 3)) = some (.int .u32 z) ∧ W.cell? (a.add (i * 3 + 1)) = some (.int .u32 y) ∧ W.cell? (a.add (i * 3 + 2)) = some (.int .u32 u) := fun i hi' => by
      obtain ⟨cs', hc, ht⟩ := hi i (by omega)
      rw [hc2] at hc
      obtain ⟨_, hcl, hat⟩ := World.cells?_some hc
      obtain ⟨z, y, u, rfl, wz, wy, wu⟩ := open_du ht
      have k0 := hat 0 (by omega)
      have k1 := hat 1 (by omega)
      have k2 := hat 2 (by omega)
      rw [add_add] at k0 k1 k2
      exact ⟨z, y, u, wz, wy, wu, k0, k1, k2⟩
    refine ⟨some a, len, cap, (List.range len).map fun i => (numAt W (a.add (i * 3)), numAt W (a.add (i * 3 + 1)), numAt W (a.add (i * 3 + 2))), rfl, ?_, ?_, by simp⟩
    · rcases Nat.eq_zero_or_pos len with h0 | h0
      · subst h0
        exact .inl ⟨⟨_, _, rfl⟩, rfl⟩
      · obtain ⟨z, y, u, _, _, _, k0, _⟩ := each 0 h0
        have hlt := World.block_lt_of_cell? W _ k0
        have hsp : a.spot = none := by
          have : a.add (0 * 3) = a := by simp [Addr.add]
          rw [this] at k0
          unfold World.cell? at k0
          split at k0
          · split at k0
            · cases k0
            · rename_i hs; simpa using hs
          · cases k0
        obtain ⟨b, off, sp⟩ := a
        obtain rfl : sp = none := hsp
        have hadd : ∀ j, (⟨b, off, none⟩ : Addr).add j = ⟨b, off + j, none⟩ := fun j => by
          unfold Addr.add
          by_cases hj0 : j = 0 <;> simp [hj0]
        have hlen : ((List.range len).map fun i => ((numAt W ((⟨b, off, none⟩ : Addr).add (i * 3)), numAt W ((⟨b, off, none⟩ : Addr).add (i * 3 + 1)), numAt W ((⟨b, off, none⟩ : Addr).add (i * 3 + 2))) : Du)).length = len := by simp
        refine .inr ⟨b, off, cap, by rw [hlen], by rw [hadd] at hlt; exact hlt, fun j hj => ?_⟩
        rw [hlen] at hj
        rw [gd_map _ _ _ hj]
        obtain ⟨z, y, u, _, _, _, k0, k1, k2⟩ := each j hj
        rw [← numAt_eq k0] at k0
        rw [← numAt_eq k1] at k1
        rw [← numAt_eq k2] at k2
        rw [hadd] at k0 k1 k2 ⊢
        rw [hadd, hadd]
        exact ⟨k0, k1, k2⟩
    · intro p hp
      rw [List.mem_map] at hp
      obtain ⟨i, hi', rfl⟩ := hp
      rw [List.mem_range] at hi'
      obtain ⟨z, y, u, wz, wy, wu, k0, k1, k2⟩ := each i hi'
      exact ⟨by show U32 (numAt W _); rw [numAt_eq k0]; exact wz, by show U32 (numAt W _); rw [numAt_eq k1]; exact wy, by show U32 (numAt W _); rw [numAt_eq k2]; exact wu⟩
end
end Go.Proofs.Ytlogidnadfimlaa
