/-
  Arguments that hold byte slices, opened.
-/
import Derived.Test.YtiejgandjlldjaaBytes
import Derived.Deep.Slices
import Derived.SizedLaws
namespace Go.Proofs.Ytiejgandjlldjaa
open Go.ChangeShapes Go.WideShapes Go.ChangeAt Go.RowKit Go.Deep

theorem cell_slice {P : Program} {W : World} {base : Nat} {t e : TypeId} {v : Value} (ht : P.underlying t = some (.slice e)) (h : Cell.okWide P W .any base t v) : ∃ A len cap, v = .slice A len cap ∧ (∀ a, A = some a → a.spot = none) := by
  unfold Cell.okWide at h
  rw [ht] at h
  unfold Cell.ok at h
  rw [ht] at h
  cases v <;> simp_all
  rename_i A len cap
  intro a ha
  subst ha
  exact h.2.2.2.1
theorem cell_bool {P : Program} {W : World} {base : Nat} {t : TypeId} {v : Value} (ht : P.underlying t = some .bool) (h : Cell.okWide P W .any base t v) : ∃ b : Bool, v = Value.bool b := by
  unfold Cell.okWide at h
  rw [ht] at h
  unfold Cell.ok at h
  rw [ht] at h
  cases v <;> simp_all

/-- The byte at a cell. -/
def byteAt (W : World) (a : Addr) : UInt8 := match W.cell? a with
  | some (.int _ z) => UInt8.ofNat z.toNat
  | _ => 0
theorem wf_u8 {n : Int} (h : (Lit.int .u8 n).wf = true) : 0 ≤ n ∧ n ≤ 255 := by simpa [Lit.wf, IntKind.has, IntKind.min, IntKind.max, IntKind.signed, IntKind.bits] using h
theorem byteAt_eq {W : World} {a : Addr} {z : Int} (h : W.cell? a = some (.int .u8 z)) (hz : 0 ≤ z ∧ z ≤ 255) : W.cell? a = some (B8 (byteAt W a)) := by
  have e : byteAt W a = UInt8.ofNat z.toNat := by unfold byteAt; rw [h]
  rw [h, e]
  unfold B8
  rw [UInt8.toNat_ofNat', Nat.mod_eq_of_lt (by omega)]
  congr 2
  omega
theorem u8_of {z : Int} (hz : 0 ≤ z ∧ z ≤ 255) : Value.int .u8 z = B8 (UInt8.ofNat z.toNat) := by
  unfold B8
  rw [UInt8.toNat_ofNat', Nat.mod_eq_of_lt (by omega)]
  congr 1
  omega

section
variable {H : Type} {enc : TypeId × Value → H} {W : World} {base : Nat} {spare : Nat → Bool} {held : Bool}
set_option maxRecDepth 100000 in
theorem open_bytes {fuel : Nat} {cs : List Value} {x : DataW H × List MemPlace} (h : DataW.trod enc Try.prog W base spare held fuel 23 cs = some x) :
    ∃ A len cap l, cs = [.slice A len cap] ∧ Bs W A len cap l ∧ ∀ L, (∀ n ∈ x.1.weights Try.prog 23, n ≤ L) → len ≤ L := by
  have hc1 : Try.prog.cellsOf 5 = 1 := by kernel_rfl
  rcases open_slice1 Try.underlying23 hc1 h with ⟨rfl, rfl⟩ | ⟨a, len, cap, m, n, V, D, Pl, rfl, hb, hl, hm, hmm, hx, hi⟩
  · exact ⟨none, 0, 0, [], rfl, Bs.nil _, fun L _ => by omega⟩
  · have hml : len ≤ m := by rw [hmm]; split <;> omega
    have each : ∀ i, i < len → W.cell? (a.add i) = some (B8 (byteAt W (a.add i))) := fun i hi' => by
      obtain ⟨hc, ht⟩ := hi i (by omega)
      obtain ⟨z, e0, _, wz⟩ := DataW.trod_int Try.underlying5 ht
      simp only [List.cons.injEq, and_true] at e0
      rw [e0] at hc
      exact byteAt_eq hc (wf_u8 wz)
    refine ⟨some a, len, cap, (List.range len).map fun i => byteAt W (a.add i), rfl, ⟨by simp, hl, hm, ?_⟩, ?_⟩
    · rcases Nat.eq_zero_or_pos len with h0 | h0
      · exact .inl h0
      · have k0 := each 0 h0
        have hlt := World.block_lt_of_cell? W _ k0
        have ha0 : a.add 0 = a := by simp [Addr.add]
        have hsp : a.spot = none := by
          rw [ha0] at k0
          unfold World.cell? at k0
          split at k0
          · split at k0
            · cases k0
            · rename_i hs; simpa using hs
          · cases k0
        obtain ⟨b, off, sp⟩ := a
        obtain rfl : sp = none := hsp
        have hadd : ∀ j, (⟨b, off, none⟩ : Addr).add j = ⟨b, off + j, none⟩ := fun j => by
          unfold Addr.add
          by_cases hj0 : j = 0 <;> simp [hj0]
        refine .inr ⟨b, off, rfl, by rw [hadd] at hlt; exact hlt, fun j x hj => ?_⟩
        rw [List.getElem?_map] at hj
        have hjl : j < len := by
          rcases Nat.lt_or_ge j len with h1 | h1
          · exact h1
          · rw [List.getElem?_eq_none (by simpa using h1)] at hj; cases hj
        rw [List.getElem?_range hjl] at hj
        injection hj with hj
        have := each j hjl
        rw [hadd] at this
        rw [← hj]
        show _ = some (B8 (byteAt W ((⟨b, off, none⟩ : Addr).add j)))
        rw [hadd]
        exact this
    · intro L hL
      subst hx
      have hb8 : Try.prog.bytesOf 5 = 1 := by kernel_rfl
      have := hL ((((List.range len).map D).length + ((List.range (m - len)).map fun j => D (len + j)).length) * Try.prog.bytesOf 5) (by simp [DataW.weights, Try.underlying23])
      rw [hb8] at this
      simp at this
      omega
end

end Go.Proofs.Ytiejgandjlldjaa
