/-
  An argument that is a slice of byte slices, opened; bulks.
-/
import Derived.Test.YtiejgandjlldjaaOpenB
import Derived.Test.YtiejgandjlldjaaStrM
namespace Go.Proofs.Ytiejgandjlldjaa
open Go.ChangeShapes Go.WideShapes Go.ChangeAt Go.RowKit Go.Deep

/-- A slice of byte slices. -/
def BBAt (W : World) (v : Value) (l : List (List UInt8)) : Prop := (l = [] ∧ ∃ A c, v = .slice A 0 c) ∨
  ∃ b off c, v = .slice (some ⟨b, off, none⟩) l.length c ∧ b < W.heap.size ∧ ∀ (j : Nat) t, l[j]? = some t → ∃ A m, W.cell? ⟨b, off + j, none⟩ = some (.slice A t.length m) ∧ Bs W A t.length m t

theorem bulk_pos {H : Type} (d : DataW H) : 1 ≤ Rows.uptoBulk d := by
  cases d with
  | lit l => cases l <;> simp [Rows.uptoBulk]
  | nil => simp [Rows.uptoBulk]
  | ptr d => simp [Rows.uptoBulk]
  | slice elems spare => simp [Rows.uptoBulk]
  | agg parts => simp [Rows.uptoBulk]
  | iface t d => simp [Rows.uptoBulk]
  | map entries => simp [Rows.uptoBulk]
  | held h => simp [Rows.uptoBulk]
theorem bulk_many {H : Type} (l : List (DataW H)) : l.length ≤ Rows.uptoBulkAll l := by
  induction l with
  | nil => simp [Rows.uptoBulkAll]
  | cons x r ih => have := bulk_pos x; simp only [Rows.uptoBulkAll, List.length_cons]; omega
theorem bulk_flat {H : Type} (g : Nat → List UInt8) (D : Nat → DataW H) : ∀ is : List Nat, (∀ i ∈ is, (g i).length + 1 ≤ Rows.uptoBulk (D i)) → (flat (is.map g)).length ≤ 8 * Rows.uptoBulkAll (is.map D)
  | [], _ => by simp [flat]
  | i :: r, h => by
    have h1 := bulk_flat g D r (fun j hj => h j (by simp [hj]))
    have h2 := h i (by simp)
    rw [List.map_cons, List.map_cons, flat_length]
    simp only [Rows.uptoBulkAll]
    omega

section
variable {H : Type} {enc : TypeId × Value → H} {W : World} {base : Nat} {spare : Nat → Bool} {held : Bool}
set_option maxRecDepth 100000 in
theorem open_bytes_n {fuel : Nat} {cs : List Value} {x : DataW H × List MemPlace} (h : DataW.trod enc Try.prog W base spare held fuel 23 cs = some x) :
    ∃ A len cap l, cs = [.slice A len cap] ∧ Bs W A len cap l ∧ len + 1 ≤ Rows.uptoBulk x.1 := by
  obtain ⟨A, len, cap, l, rfl, hs, _⟩ := open_bytes h
  refine ⟨A, len, cap, l, rfl, hs, ?_⟩
  have hc1 : Try.prog.cellsOf 5 = 1 := by kernel_rfl
  rcases open_slice1 Try.underlying23 hc1 h with ⟨e, _⟩ | ⟨a, len', cap', m, n, V, D, Pl, e, hb, hl, hm, hmm, hx, hi⟩
  · simp only [List.cons.injEq, and_true, Value.slice.injEq] at e
    rw [e.2.1]
    exact bulk_pos _
  · simp only [List.cons.injEq, and_true, Value.slice.injEq] at e
    rw [e.2.1, hx]
    have := bulk_many ((List.range len').map D)
    simp only [Rows.uptoBulk, List.length_map, List.length_range] at this ⊢
    omega

/-- The bytes that a slice in a cell holds. -/
def bytesAt (W : World) (a : Addr) : List UInt8 := match W.cell? a with
  | some (.slice (some b) n _) => (List.range n).map fun i => byteAt W (b.add i)
  | _ => []
theorem bs_bytesAt {A : Option Addr} {n c : Nat} {l : List UInt8} {a : Addr} (h : W.cell? a = some (.slice A n c)) (hs : Bs W A n c l) : bytesAt W a = l := by
  unfold bytesAt
  rw [h]
  rcases hs.at_ with h0 | ⟨g, o, rfl, hg, hat⟩
  · have : l = [] := List.eq_nil_of_length_eq_zero (by have := hs.len; omega)
    subst h0 this
    cases A <;> simp
  · refine List.ext_getElem (by simp; exact hs.len.symm) fun i h1 h2 => ?_
    have hc := hat i _ (List.getElem?_eq_getElem h2)
    have hadd : (⟨g, o, none⟩ : Addr).add i = ⟨g, o + i, none⟩ := by unfold Addr.add; by_cases hj0 : i = 0 <;> simp [hj0]
    simp only [List.getElem_map, List.getElem_range]
    unfold byteAt
    rw [hadd, hc]
    simp [B8]

set_option maxRecDepth 100000 in
theorem open_bb {fuel : Nat} {cs : List Value} {x : DataW H × List MemPlace} (h : DataW.trod enc Try.prog W base spare held fuel 37 cs = some x) :
    ∃ v l, cs = [v] ∧ BBAt W v l ∧ (flat l).length + l.length ≤ 9 * Rows.uptoBulk x.1 := by
  have hc1 : Try.prog.cellsOf 23 = 1 := by kernel_rfl
  rcases open_slice1 Try.underlying37 hc1 h with ⟨rfl, rfl⟩ | ⟨a, len, cap, m, n, V, D, Pl, rfl, hb, hl, hm, hmm, hx, hi⟩
  · exact ⟨_, [], rfl, .inl ⟨rfl, _, _, rfl⟩, by simp [flat]⟩
  · have hml : len ≤ m := by rw [hmm]; split <;> omega
    have each : ∀ i, i < len → ∃ A c t, W.cell? (a.add i) = some (.slice A t.length c) ∧ Bs W A t.length c t ∧ bytesAt W (a.add i) = t ∧ t.length + 1 ≤ Rows.uptoBulk (D i) := fun i hi' => by
      obtain ⟨hc, ht⟩ := hi i (by omega)
      obtain ⟨A, n', c, t, e, hs, hbk⟩ := open_bytes_n ht
      simp only [List.cons.injEq, and_true] at e
      rw [e] at hc
      have hbt := bs_bytesAt hc hs
      obtain rfl := hs.len
      exact ⟨A, c, t, hc, hs, hbt, hbk⟩
    refine ⟨_, (List.range len).map fun i => bytesAt W (a.add i), rfl, ?_, ?_⟩
    · rcases Nat.eq_zero_or_pos len with h0 | h0
      · subst h0
        exact .inl ⟨rfl, _, _, rfl⟩
      · obtain ⟨_, _, _, k0, _⟩ := each 0 h0
        have hlt := World.block_lt_of_cell? W _ k0
        have hsp : a.spot = none := by
          have : a.add 0 = a := by simp [Addr.add]
          rw [this] at k0
          unfold World.cell? at k0
          split at k0
          · split at k0
            · cases k0
            · rename_i hs; simpa using hs
          · cases k0
        obtain ⟨b, off, sp⟩ := a
        obtain rfl : sp = none := hsp
        have hadd : ∀ j, (⟨b, off, none⟩ : Addr).add j = ⟨b, off + j, none⟩ := fun j => by
          unfold Addr.add
          by_cases hj0 : j = 0 <;> simp [hj0]
        refine .inr ⟨b, off, cap, by simp, by rw [hadd] at hlt; exact hlt, fun j t hj => ?_⟩
        rw [List.getElem?_map] at hj
        have hjl : j < len := by
          rcases Nat.lt_or_ge j len with h1 | h1
          · exact h1
          · rw [List.getElem?_eq_none (by simpa using h1)] at hj; cases hj
        rw [List.getElem?_range hjl] at hj
        injection hj with hj
        obtain ⟨A, c, t', c0, hs, hbt, _⟩ := each j hjl
        obtain rfl : t' = t := hbt.symm.trans hj
        rw [hadd] at c0
        exact ⟨A, c, c0, hs⟩
    · have h1 := bulk_flat (fun i => bytesAt W (a.add i)) D (List.range len) (fun i hi' => by
        obtain ⟨_, _, _, _, _, hbt, hbk⟩ := each i (by simpa using hi')
        show (bytesAt W (a.add i)).length + 1 ≤ _
        rw [hbt]; exact hbk)
      have h2 := bulk_many ((List.range len).map D)
      rw [hx]
      simp only [Rows.uptoBulk, List.length_map, List.length_range] at h2 ⊢
      omega
end

end Go.Proofs.Ytiejgandjlldjaa
