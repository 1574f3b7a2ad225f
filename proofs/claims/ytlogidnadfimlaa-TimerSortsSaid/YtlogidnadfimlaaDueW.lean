/-
  Dues in memory: what turns in a call; the keys of the map of places.
-/
import Derived.Test.YtlogidnadfimlaaHeapM
import Derived.Test.YtlogidnadfimlaaTurnW
import Derived.Test.YtlogidnadfimlaaTail
import Derived.Maps.OwnSet
import Derived.Maps.AppendAt
import Derived.DeepKeys4
import Derived.Lib.Hide
namespace Go.Proofs.Ytlogidnadfimlaa
open Go.RowKit Go.Maps

section
variable {S S' : Nat → Prop} {w w' w'' : World}
theorem map_turn {H : Type} {P : Program} {k : TypeId} {R : Value → Option (DataW H × List MemPlace)} {b n : Nat} {D : DataW H} (h : w.ownsMap P k R b n D) (ht : Turn S w w') (hb : ¬ S b) : w'.ownsMap P k R b n D := by
  have hlt := h.lt
  obtain ⟨es, clock, hb', F, hs, hD⟩ := h
  exact ⟨es, clock, (ht.block b hlt hb).trans hb', F, hs, hD⟩
/-- The map has just as many entries as its reading. -/
theorem map_tight {H : Type} {P : Program} {k : TypeId} {R : Value → Option (DataW H × List MemPlace)} {b n : Nat} {D : DataW H} (h : w.ownsMap P k R b n D) : w.ownsMap P k R b (Maps.size D) D := by
  obtain ⟨es, clock, hb, F, hs, rfl⟩ := h
  refine ⟨es, clock, hb, F, ?_, rfl⟩
  rw [Maps.size_eq, length_sorted]
  simp
end

theorem keyed_pair : Keyed Try.prog 61 := Keyed.of_law (deep_law_laid laidOut (m := 3) (by omega) (Nat.le_of_ble_eq_true (by kernel_rfl)) (by kernel_rfl) (by kernel_rfl))
def U32 (x : Int) : Prop := 0 ≤ x ∧ x < 4294967296
/-- What a pair of an object and a fence reads as. -/
def KL (k : Int × Int) : Lit := .string (keyBytes [.int .u32 k.1, .int .u32 k.2])
def UK (k : Int × Int) : Prop := U32 k.1 ∧ U32 k.2
theorem u32_wf {x : Int} (h : U32 x) : (Lit.int .u32 x).wf = true := by
  unfold U32 at h
  have e1 : IntKind.u32.min = 0 := rfl
  have e2 : IntKind.u32.max = 4294967295 := rfl
  simp [Lit.wf, e1, e2]
  omega
theorem keyL {k : Int × Int} (h : UK k) : keyOf Try.prog 61 (.agg #[.int .u32 k.1, .int .u32 k.2]) = some (KL k) := by
  have w1 := u32_wf h.1
  have w2 := u32_wf h.2
  have e3 : Try.prog.keyType 61 = true := by kernel_rfl
  have e4 : Try.prog.cellsOf 61 = 2 := by kernel_rfl
  have e5 : Try.prog.cellsOf 29 = 1 := by kernel_rfl
  obtain ⟨n, hn⟩ : ∃ n, Try.prog.types.size = n + 1 := ⟨_, (Nat.sub_add_cancel (Nat.le_of_ble_eq_true (by kernel_rfl))).symm⟩
  unfold keyOf
  rw [Try.underlying61]
  simp only [e3, hn]
  simp [Value.formed, Try.underlying61, Try.underlying29, e4, e5, Value.cells, Program.keyLits, w1, w2, KL]
theorem KL_inj {k j : Int × Int} (hk : UK k) (hj : UK j) (h : KL k = KL j) : k = j := by
  have := keyed_pair.inj (keyL hk) (h ▸ keyL hj)
  simp at this
  exact Prod.ext this.1 this.2
theorem KL_key (k : Int × Int) : WideAt.IsKeyLit (KL k) := by unfold KL; trivial
end Go.Proofs.Ytlogidnadfimlaa
