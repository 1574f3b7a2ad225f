/-
  An argument that is a slice of Adds, opened.
-/
import Derived.Test.YtiejgandjlldjaaOpenB
namespace Go.Proofs.Ytiejgandjlldjaa
open Go.ChangeShapes Go.WideShapes Go.ChangeAt Go.RowKit Go.Deep

/-- A slice of Adds: kind, number, text. -/
def AddsAt (W : World) (v : Value) (l : List (Int × Nat × ByteArray)) : Prop := (l = [] ∧ ∃ A c, v = .slice A 0 c) ∨
  ∃ b off c, v = .slice (some ⟨b, off, none⟩) l.length c ∧ b < W.heap.size ∧ ∀ (j : Nat) k (n : Nat) s, l[j]? = some (k, n, s) → n < 18446744073709551616 ∧
    W.cell? ⟨b, off + j * 3, none⟩ = some (.int .i64 k) ∧ W.cell? ⟨b, off + (j * 3 + 1), none⟩ = some (.int .u64 (n : Int)) ∧ W.cell? ⟨b, off + (j * 3 + 2), none⟩ = some (.string s)

/-- The Add at a place. -/
def addOf (W : World) (a : Addr) (j : Nat) : Int × Nat × ByteArray :=
  ((match W.cell? (a.add (j * 3)) with | some (.int _ z) => z | _ => 0), (match W.cell? (a.add (j * 3 + 1)) with | some (.int _ z) => z.toNat | _ => 0), (match W.cell? (a.add (j * 3 + 2)) with | some (.string s) => s | _ => ⟨#[]⟩))
theorem wf_u64 {n : Int} (h : (Lit.int .u64 n).wf = true) : 0 ≤ n ∧ n ≤ 18446744073709551615 := by simpa [Lit.wf, IntKind.has, IntKind.min, IntKind.max, IntKind.signed, IntKind.bits] using h

section
variable {H : Type} {enc : TypeId × Value → H} {W : World} {base : Nat} {spare : Nat → Bool} {held : Bool}
set_option maxRecDepth 100000 in
theorem open_add {fuel : Nat} {cs : List Value} {x : DataW H × List MemPlace} (h : DataW.trod enc Try.prog W base spare held fuel 42 cs = some x) :
    ∃ k, ∃ n : Nat, ∃ s, cs = [.int .i64 k, .int .u64 (n : Int), .string s] ∧ n < 18446744073709551616 := by
  obtain ⟨xs, n, _, hx, hl, hlen, hf⟩ := DataW.trod_struct Try.underlying42 h
  have hl' : cs.length = 3 := hl.trans (by kernel_rfl)
  have hlen' : xs.length = 3 := hlen
  match cs, hl', xs, hlen' with
  | [u, v, t], _, [y0, y1, y2], _ =>
    have h0 := hf 0 _ rfl
    have h1 := hf 1 _ rfl
    have h2 := hf 2 _ rfl
    obtain ⟨a, e0, _, wa⟩ := DataW.trod_int Try.underlying3 (cs := [u]) (x := y0) h0
    obtain ⟨b, e1, _, wb⟩ := DataW.trod_int Try.underlying40 (cs := [v]) (x := y1) h1
    obtain ⟨s, e2, _, _⟩ := DataW.trod_string Try.underlying9 (cs := [t]) (x := y2) h2
    simp only [List.cons.injEq, and_true] at e0 e1 e2
    subst e0 e1 e2
    have hb := wf_u64 wb
    refine ⟨a, b.toNat, s, ?_, by omega⟩
    rw [Int.toNat_of_nonneg hb.1]

set_option maxRecDepth 100000 in
theorem open_adds {fuel : Nat} {cs : List Value} {x : DataW H × List MemPlace} (h : DataW.trod enc Try.prog W base spare held fuel 31 cs = some x) :
    ∃ v l, cs = [v] ∧ AddsAt W v l ∧ (l = [] ∨ ∃ es sp, x.1 = .slice es sp ∧ es.length = l.length) := by
  rcases open_slice Try.underlying31 h with ⟨rfl, rfl⟩ | ⟨a, len, cap, m, n, D, Pl, rfl, hb, hl, hm, hmm, hx, hi⟩
  · exact ⟨_, [], rfl, .inl ⟨rfl, _, _, rfl⟩, .inl rfl⟩
  · have hc3 : Try.prog.cellsOf 42 = 3 := by kernel_rfl
    have hml : len ≤ m := by rw [hmm]; split <;> omega
    have each : ∀ i, i < len → ∃ k, ∃ n : Nat, ∃ s, addOf W a i = (k, n, s) ∧ n < 18446744073709551616 ∧ W.cell? (a.add (i * 3)) = some (.int .i64 k) ∧ W.cell? (a.add (i * 3 + 1)) = some (.int .u64 (n : Int)) ∧ W.cell? (a.add (i * 3 + 2)) = some (.string s) := fun i hi' => by
      obtain ⟨cs', hc, ht⟩ := hi i (by omega)
      rw [hc3] at hc
      obtain ⟨_, hcl, hat⟩ := World.cells?_some hc
      obtain ⟨k, n, s, rfl, hn⟩ := open_add ht
      have k0 := hat 0 (by omega)
      have k1 := hat 1 (by omega)
      have k2 := hat 2 (by omega)
      rw [add_add] at k0 k1 k2
      refine ⟨k, n, s, ?_, hn, k0, k1, k2⟩
      unfold addOf
      rw [show W.cell? (a.add (i * 3)) = some (.int .i64 k) from k0, show W.cell? (a.add (i * 3 + 1)) = some (.int .u64 (n : Int)) from k1, show W.cell? (a.add (i * 3 + 2)) = some (.string s) from k2]
      simp
    refine ⟨_, (List.range len).map (addOf W a), rfl, ?_, .inr ⟨_, _, by rw [hx], by simp⟩⟩
    rcases Nat.eq_zero_or_pos len with h0 | h0
    · subst h0
      exact .inl ⟨rfl, _, _, rfl⟩
    · obtain ⟨_, _, _, _, _, k0, _⟩ := each 0 h0
      have hlt := World.block_lt_of_cell? W _ k0
      have hsp : a.spot = none := by
        have : a.add (0 * 3) = a := by simp [Addr.add]
        rw [this] at k0
        unfold World.cell? at k0
        split at k0
        · split at k0
          · cases k0
          · rename_i hs; simpa using hs
        · cases k0
      obtain ⟨b, off, sp⟩ := a
      obtain rfl : sp = none := hsp
      have hadd : ∀ j, (⟨b, off, none⟩ : Addr).add j = ⟨b, off + j, none⟩ := fun j => by
        unfold Addr.add
        by_cases hj0 : j = 0 <;> simp [hj0]
      refine .inr ⟨b, off, cap, by simp, by rw [hadd] at hlt; exact hlt, fun j k n s hj => ?_⟩
      rw [List.getElem?_map] at hj
      have hjl : j < len := by
        rcases Nat.lt_or_ge j len with h1 | h1
        · exact h1
        · rw [List.getElem?_eq_none (by simpa using h1)] at hj; cases hj
      rw [List.getElem?_range hjl] at hj
      injection hj with hj
      obtain ⟨k', n', s', e, hn, c0, c1, c2⟩ := each j hjl
      rw [e] at hj
      injection hj with e0 e1
      injection e1 with e1 e2
      subst e0 e1 e2
      rw [hadd] at c0 c1 c2
      exact ⟨hn, c0, c1, c2⟩
end

end Go.Proofs.Ytiejgandjlldjaa
