/-
  An argument that is a slice of Wants, opened.
-/
import Derived.Test.YtiejgandjlldjaaOpenB
namespace Go.Proofs.Ytiejgandjlldjaa
open Go.ChangeShapes Go.WideShapes Go.ChangeAt Go.RowKit Go.Deep

/-- A slice of Wants: kind, most. -/
def WantsAt (W : World) (v : Value) (l : List (Int × Int)) : Prop := (l = [] ∧ ∃ A c, v = .slice A 0 c) ∨
  ∃ b off c, v = .slice (some ⟨b, off, none⟩) l.length c ∧ b < W.heap.size ∧ ∀ (j : Nat) k m, l[j]? = some (k, m) →
    W.cell? ⟨b, off + j * 2, none⟩ = some (.int .i64 k) ∧ W.cell? ⟨b, off + (j * 2 + 1), none⟩ = some (.int .i64 m)

/-- The Want at a place. -/
def wantOf (W : World) (a : Addr) (j : Nat) : Int × Int :=
  ((match W.cell? (a.add (j * 2)) with | some (.int _ z) => z | _ => 0), (match W.cell? (a.add (j * 2 + 1)) with | some (.int _ z) => z | _ => 0))

section
variable {H : Type} {enc : TypeId × Value → H} {W : World} {base : Nat} {spare : Nat → Bool} {held : Bool}
set_option maxRecDepth 100000 in
theorem open_want {fuel : Nat} {cs : List Value} {x : DataW H × List MemPlace} (h : DataW.trod enc Try.prog W base spare held fuel 75 cs = some x) :
    ∃ k m, cs = [.int .i64 k, .int .i64 m] := by
  obtain ⟨xs, n, _, hx, hl, hlen, hf⟩ := DataW.trod_struct Try.underlying75 h
  have hl' : cs.length = 2 := hl.trans (by kernel_rfl)
  have hlen' : xs.length = 2 := hlen
  match cs, hl', xs, hlen' with
  | [u, v], _, [y0, y1], _ =>
    have h0 := hf 0 _ rfl
    have h1 := hf 1 _ rfl
    obtain ⟨a, e0, _, wa⟩ := DataW.trod_int Try.underlying3 (cs := [u]) (x := y0) h0
    obtain ⟨b, e1, _, wb⟩ := DataW.trod_int Try.underlying3 (cs := [v]) (x := y1) h1
    simp only [List.cons.injEq, and_true] at e0 e1
    subst e0 e1
    exact ⟨a, b, rfl⟩

set_option maxRecDepth 100000 in
theorem open_wants {fuel : Nat} {cs : List Value} {x : DataW H × List MemPlace} (h : DataW.trod enc Try.prog W base spare held fuel 62 cs = some x) :
    ∃ v l, cs = [v] ∧ WantsAt W v l ∧ ∀ L, (∀ n ∈ x.1.weights Try.prog 62, n ≤ L) → l.length * 16 ≤ L := by
  rcases open_slice Try.underlying62 h with ⟨rfl, rfl⟩ | ⟨a, len, cap, m, n, D, Pl, rfl, hb, hl, hm, hmm, hx, hi⟩
  · exact ⟨_, [], rfl, .inl ⟨rfl, _, _, rfl⟩, fun L _ => by simp⟩
  · have hc2 : Try.prog.cellsOf 75 = 2 := by kernel_rfl
    have hml : len ≤ m := by rw [hmm]; split <;> omega
    have each : ∀ i, i < len → ∃ k, ∃ n, wantOf W a i = (k, n) ∧ W.cell? (a.add (i * 2)) = some (.int .i64 k) ∧ W.cell? (a.add (i * 2 + 1)) = some (.int .i64 n) := fun i hi' => by
      obtain ⟨cs', hc, ht⟩ := hi i (by omega)
      rw [hc2] at hc
      obtain ⟨_, hcl, hat⟩ := World.cells?_some hc
      obtain ⟨k, n, rfl⟩ := open_want ht
      have k0 := hat 0 (by omega)
      have k1 := hat 1 (by omega)
      rw [add_add] at k0 k1
      refine ⟨k, n, ?_, k0, k1⟩
      unfold wantOf
      rw [show W.cell? (a.add (i * 2)) = some (.int .i64 k) from k0, show W.cell? (a.add (i * 2 + 1)) = some (.int .i64 n) from k1]
    refine ⟨_, (List.range len).map (wantOf W a), rfl, ?_, ?_⟩
    · rcases Nat.eq_zero_or_pos len with h0 | h0
      · subst h0
        exact .inl ⟨rfl, _, _, rfl⟩
      · obtain ⟨_, _, _, k0, _⟩ := each 0 h0
        have hlt := World.block_lt_of_cell? W _ k0
        have hsp : a.spot = none := by
          have : a.add (0 * 2) = a := by simp [Addr.add]
          rw [this] at k0
          unfold World.cell? at k0
          split at k0
          · split at k0
            · cases k0
            · rename_i hs; simpa using hs
          · cases k0
        obtain ⟨b, off, sp⟩ := a
        obtain rfl : sp = none := hsp
        have hadd : ∀ j, (⟨b, off, none⟩ : Addr).add j = ⟨b, off + j, none⟩ := fun j => by
          unfold Addr.add
          by_cases hj0 : j = 0 <;> simp [hj0]
        refine .inr ⟨b, off, cap, by simp, by rw [hadd] at hlt; exact hlt, fun j k n hj => ?_⟩
        rw [List.getElem?_map] at hj
        have hjl : j < len := by
          rcases Nat.lt_or_ge j len with h1 | h1
          · exact h1
          · rw [List.getElem?_eq_none (by simpa using h1)] at hj; cases hj
        rw [List.getElem?_range hjl] at hj
        injection hj with hj
        obtain ⟨k', n', e, c0, c1⟩ := each j hjl
        rw [e] at hj
        injection hj with e0 e1
        subst e0 e1
        rw [hadd] at c0 c1
        exact ⟨c0, c1⟩
    · intro L hL
      subst hx
      have hb8 : Try.prog.bytesOf 75 = 16 := by kernel_rfl
      have := hL ((((List.range len).map D).length + ((List.range (m - len)).map fun j => D (len + j)).length) * Try.prog.bytesOf 75) (by simp [DataW.weights, Try.underlying62])
      rw [hb8] at this
      simp at this ⊢
      omega
end

end Go.Proofs.Ytiejgandjlldjaa
