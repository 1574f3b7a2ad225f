/-
  No dues, and zero ones: what each call answers.
-/
import Derived.RangeFuncNested
import Derived.RangeFuncBound
import Derived.RangeFuncCalls
import Derived.RangeFuncLeaves
import Derived.Shelf.Abstract
import Derived.Shelf.RegionOpen
import Derived.WalkKit
import Derived.OwnWalkIn
import Derived.TacticsInMore
import Derived.LoopNIn
import Derived.LoopIn
import Derived.Test.YtlogidnadfimlaaMem
import Derived.WalkSpells
import Derived.WalkLawsBesides
import Derived.Lib.Hide
namespace Go.Proofs.Ytlogidnadfimlaa
open Go.RowKit Go.Shelf

/-- Dues that are none: nil, or zero ones in a block. -/
def ZD (w : World) (d : Option Addr) : Prop := d = none ∨ ∃ D, d = some ⟨D, 0, none⟩ ∧ D < w.heap.size ∧ w.cell? ⟨D, 3, none⟩ = some (.map none)
theorem ZD.keep {n : Nat} {w w' : World} {d : Option Addr} (h : ZD w d) (hn : w.heap.size ≤ n) (hb : Below n w w') : ZD w' d := by
  rcases h with rfl | ⟨D, rfl, hD, hc⟩
  · exact .inl rfl
  · exact .inr ⟨D, rfl, Nat.lt_of_lt_of_le hD hb.size, (hb.cell (p := ⟨D, 3, none⟩) (by show D < n; omega)).trans hc⟩

set_option maxRecDepth 100000 in
theorem there_no (d : Option Addr) (w : World) (h : ZD w d) :
    Calls Try.prog 22 #[.pointer d] w fun e w' => e = .returned (.bool false) ∧ Below w.heap.size w w' := by
  have hm : (binOp .neq 50 (.map none) (.map none) : Sem Value).run Try.prog w = .ok (.bool false) w := by rfl
  rcases h with rfl | ⟨D, rfl, hD, hc⟩
  all_goals
    go_enter Try.func22, Try.ntmps22
    go_wp2
    go_ret
    exact ⟨rfl, by go_grown⟩

theorem len_no (d : Option Addr) (w : World) (h : ZD w d) :
    Calls Try.prog 13 #[.pointer d] w fun e w' => e = .returned (.int .i64 0) ∧ Below w.heap.size w w' := by
  have H := Lib.hid (fun W => there_no d W)
  go_enter Try.func13, Try.ntmps13
  go_wp2_with fail
  refine (H.out _ h).mono ?_
  rintro e w1 ⟨rfl, hb_w1⟩
  obtain ⟨hc_w1, hf_w1⟩ := bcell hb_w1
  have hz_w1 := hb_w1.size
  try simp at hz_w1
  have hB_w1 : Below w.heap.size w w1 := Below.trans (by go_grown) (hb_w1.mono (by go_size))
  go_wp2_with fail
  go_ret
  exact ⟨rfl, by go_grown⟩

def due0 : Value := .agg #[.int .u32 0, .int .u32 0, .int .u32 0]
theorem first_no (d : Option Addr) (w : World) (h : ZD w d) :
    Calls Try.prog 29 #[.pointer d] w fun e w' => e = .returned (.tuple #[due0, .bool false]) ∧ Below w.heap.size w w' := by
  have H := Lib.hid (fun W => len_no d W)
  go_enter Try.func29, Try.ntmps29
  go_wp2_with fail
  refine (H.out _ (h.keep (Nat.le_refl _) (by go_grown))).mono ?_
  rintro e w1 ⟨rfl, hb_w1⟩
  obtain ⟨hc_w1, hf_w1⟩ := bcell hb_w1
  have hz_w1 := hb_w1.size
  try simp at hz_w1
  have hB_w1 : Below w.heap.size w w1 := Below.trans (by go_grown) (hb_w1.mono (by go_size))
  have hs_w1_0 : w.heap.size < w1.heap.size := by omega
  go_wp2_with fail
  refine bodyPost_ret (by simp [results, Try.results29, go_sem, *]; try rfl) rfl ?_
  exact ⟨rfl, by go_grown⟩

theorem ready_no (d : Option Addr) (t : Int) (w : World) (h : ZD w d) :
    Calls Try.prog 24 #[.pointer d, .int .u32 t] w fun e w' => e = .returned (.bool false) ∧ Below w.heap.size w w' := by
  have H := Lib.hid (fun W => first_no d W)
  unfold due0 at H
  go_enter Try.func24, Try.ntmps24
  go_wp2_with fail
  refine (H.out _ (h.keep (Nat.le_refl _) (by go_grown))).mono ?_
  rintro e w1 ⟨rfl, hb_w1⟩
  obtain ⟨hc_w1, hf_w1⟩ := bcell hb_w1
  have hz_w1 := hb_w1.size
  try simp at hz_w1
  have hB_w1 : Below w.heap.size w w1 := Below.trans (by go_grown) (hb_w1.mono (by go_size))
  go_wp2_with fail
  refine bodyPost_ret (by simp [results, Try.results24, go_sem, *]; try rfl) rfl ?_
  exact ⟨rfl, by go_grown⟩

theorem take_no (d : Option Addr) (t : Int) (w : World) (h : ZD w d) :
    Calls Try.prog 10 #[.pointer d, .int .u32 t] w fun e w' => e = .returned (.tuple #[due0, .bool false]) ∧ Below w.heap.size w w' := by
  have H := Lib.hid (fun W => ready_no d t W)
  go_enter Try.func10, Try.ntmps10
  go_wp2_with fail
  refine (H.out _ (h.keep (Nat.le_refl _) (by go_grown))).mono ?_
  rintro e w1 ⟨rfl, hb_w1⟩
  obtain ⟨hc_w1, hf_w1⟩ := bcell hb_w1
  have hz_w1 := hb_w1.size
  try simp at hz_w1
  have hB_w1 : Below w.heap.size w w1 := Below.trans (by go_grown) (hb_w1.mono (by go_size))
  have hs_w1_0 : w.heap.size < w1.heap.size := by omega
  go_wp2_with fail
  refine bodyPost_ret (by simp [results, Try.results10, go_sem, *]; try rfl) rfl ?_
  exact ⟨rfl, by go_grown⟩

theorem set_no (d : Option Addr) (x y z : Int) (w : World) (h : ZD w d) :
    Calls Try.prog 9 #[.pointer d, .agg #[.int .u32 x, .int .u32 y, .int .u32 z]] w fun e w' => e = .returned (.int .i64 1) ∧ Below w.heap.size w w' := by
  have H := Lib.hid (fun W => there_no d W)
  go_enter Try.func9, Try.ntmps9
  go_wp2_with fail
  refine (H.out _ (h.keep (Nat.le_refl _) (by go_grown))).mono ?_
  rintro e w1 ⟨rfl, hb_w1⟩
  obtain ⟨hc_w1, hf_w1⟩ := bcell hb_w1
  have hz_w1 := hb_w1.size
  try simp at hz_w1
  have hB_w1 : Below w.heap.size w w1 := Below.trans (by go_grown) (hb_w1.mono (by go_size))
  have hs_w1_0 : w.heap.size < w1.heap.size := by omega
  go_wp2_with fail
  go_ret
  exact ⟨rfl, by go_grown⟩

theorem cut_no (d : Option Addr) (y z : Int) (w : World) (h : ZD w d) :
    Calls Try.prog 30 #[.pointer d, .int .u32 y, .int .u32 z] w fun e w' => e = .returned (.bool false) ∧ Below w.heap.size w w' := by
  have H := Lib.hid (fun W => there_no d W)
  go_enter Try.func30, Try.ntmps30
  go_wp2_with fail
  refine (H.out _ (h.keep (Nat.le_refl _) (by go_grown))).mono ?_
  rintro e w1 ⟨rfl, hb_w1⟩
  obtain ⟨hc_w1, hf_w1⟩ := bcell hb_w1
  have hz_w1 := hb_w1.size
  try simp at hz_w1
  have hB_w1 : Below w.heap.size w w1 := Below.trans (by go_grown) (hb_w1.mono (by go_size))
  go_wp2_with fail
  go_ret
  exact ⟨rfl, by go_grown⟩

theorem all_no (d : Option Addr) (f : Value) (w : World) (h : ZD w d) :
    Calls Try.prog 44 #[.pointer d, f] w fun e w' => e = .returned (.int .i64 0) ∧ Below w.heap.size w w' := by
  have H := Lib.hid (fun W => there_no d W)
  go_enter Try.func44, Try.ntmps44
  go_wp2_with fail
  refine (H.out _ (h.keep (Nat.le_refl _) (by go_grown))).mono ?_
  rintro e w1 ⟨rfl, hb_w1⟩
  obtain ⟨hc_w1, hf_w1⟩ := bcell hb_w1
  have hz_w1 := hb_w1.size
  try simp at hz_w1
  have hB_w1 : Below w.heap.size w w1 := Below.trans (by go_grown) (hb_w1.mono (by go_size))
  go_wp2_with fail
  go_ret
  exact ⟨rfl, by go_grown⟩

theorem cutObject_no (d : Option Addr) (y : Int) (w : World) (h : ZD w d) :
    Calls Try.prog 31 #[.pointer d, .int .u32 y] w fun e w' => e = .returned (.int .i64 0) ∧ Below w.heap.size w w' := by
  have H := Lib.hid (fun f W => all_no d f W)
  go_enter Try.func31, Try.ntmps31
  go_wp2_with fail
  refine (H.out _ _ (h.keep (Nat.le_refl _) (by go_grown))).mono ?_
  rintro e w1 ⟨rfl, hb_w1⟩
  obtain ⟨hc_w1, hf_w1⟩ := bcell hb_w1
  have hz_w1 := hb_w1.size
  try simp at hz_w1
  have hB_w1 : Below w.heap.size w w1 := Below.trans (by go_grown) (hb_w1.mono (by go_size))
  go_wp2_with fail
  go_ret
  exact ⟨rfl, by go_grown⟩

theorem cutFence_no (d : Option Addr) (y : Int) (w : World) (h : ZD w d) :
    Calls Try.prog 32 #[.pointer d, .int .u32 y] w fun e w' => e = .returned (.int .i64 0) ∧ Below w.heap.size w w' := by
  have H := Lib.hid (fun f W => all_no d f W)
  go_enter Try.func32, Try.ntmps32
  go_wp2_with fail
  refine (H.out _ _ (h.keep (Nat.le_refl _) (by go_grown))).mono ?_
  rintro e w1 ⟨rfl, hb_w1⟩
  obtain ⟨hc_w1, hf_w1⟩ := bcell hb_w1
  have hz_w1 := hb_w1.size
  try simp at hz_w1
  have hB_w1 : Below w.heap.size w w1 := Below.trans (by go_grown) (hb_w1.mono (by go_size))
  go_wp2_with fail
  go_ret
  exact ⟨rfl, by go_grown⟩

end Go.Proofs.Ytlogidnadfimlaa
