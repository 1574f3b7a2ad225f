/-
  The law's own awake: the square of the document's examples.
-/
import Derived.Test.YtohnglcdophkfaaMoved
namespace Go.Proofs.Ytohnglcdophkfaa
open Go.RowKit Go.Shelf

def square : List Pt := [(0, 0), (4, 0), (4, 4), (0, 4)]
theorem square_i : ∀ p ∈ square, IPt p := fun p hp => by
  simp only [square, List.mem_cons, List.not_mem_nil, or_false] at hp
  rcases hp with rfl | rfl | rfl | rfl <;> exact ⟨by unfold I32; decide, by unfold I32; decide⟩
theorem square_in : covers square (2, 2) = true := by kernel_rfl
theorem square_out : covers square (5, 2) = false := by kernel_rfl
theorem square_edge : edge square (4, 2) = true := by kernel_rfl
theorem square_mid : edge square (2, 2) = false := by kernel_rfl
theorem square_wind : winding square (2, 2) = 1 := by kernel_rfl
theorem square_cross : crossings square (2, 2) = 1 := by kernel_rfl

set_option maxRecDepth 100000 in
set_option maxHeartbeats 400000 in
theorem awake_any (w : World) : Calls Try.prog 9 #[] w fun e w' => e = .returned (.bool true) ∧ Below w.heap.size w w' := by
  go_enter Try.func9, Try.ntmps9
  go_wp2_with fail
  obtain ⟨W, hW⟩ : ∃ W, (w.alloc (.cells #[.int .i32 0, .int .i32 0, .int .i32 4, .int .i32 0, .int .i32 4, .int .i32 4, .int .i32 0, .int .i32 4] 25)).alloc (.cells #[.int .i32 2, .int .i32 2] 25) = W := ⟨_, rfl⟩
  rw [hW]
  have hB_W : Below w.heap.size w W := by rw [← hW]; go_grown
  have hWs : w.heap.size + 1 + 1 ≤ W.heap.size := by rw [← hW]; simp
  have d0 : W.cell? ⟨w.heap.size + 1, 0, none⟩ = some (.int .i32 2) := by rw [← hW]; simp
  have d1 : W.cell? ⟨w.heap.size + 1, 1, none⟩ = some (.int .i32 2) := by rw [← hW]; simp
  have hI : PtsAt W.heap.size W (.slice (some ⟨w.heap.size, 0, none⟩) 4 4) square := by
    refine .inr ⟨w.heap.size, 0, 4, rfl, by omega, fun j hj => ?_⟩
    have hj' : j < 4 := hj
    rw [← hW]
    rcases j with _ | _ | _ | _ | j
    · constructor <;> simp [square, gp]
    · constructor <;> simp [square, gp]
    · constructor <;> simp [square, gp]
    · constructor <;> simp [square, gp]
    · omega
  clear hW
  have i22 : IPt (2, 2) := ⟨by unfold I32; decide, by unfold I32; decide⟩
  have i52 : IPt (5, 2) := ⟨by unfold I32; decide, by unfold I32; decide⟩
  have i42 : IPt (4, 2) := ⟨by unfold I32; decide, by unfold I32; decide⟩
  have hr : square.length * 8 ≤ 140737488355328 := by decide
  have H1 := Lib.hid (fun W' (h : Below W.heap.size W W') => covers_any _ square (2, 2) W.heap.size i22 square_i hr W' h.size (hI.below h))
  have H2 := Lib.hid (fun W' (h : Below W.heap.size W W') => covers_any _ square (5, 2) W.heap.size i52 square_i hr W' h.size (hI.below h))
  have H3 := Lib.hid (fun W' (h : Below W.heap.size W W') => edge_any W' _ square (4, 2) i42 square_i hr ((hI.below h).up h.size))
  have H4 := Lib.hid (fun W' (h : Below W.heap.size W W') => edge_any W' _ square (2, 2) i22 square_i hr ((hI.below h).up h.size))
  have H5 := Lib.hid (fun W' (h : Below W.heap.size W W') => winding_any _ square (2, 2) W.heap.size i22 square_i hr W' h.size (hI.below h))
  have H6 := Lib.hid (fun W' (h : Below W.heap.size W W') => crossings_any _ square (2, 2) W.heap.size i22 square_i hr W' h.size (hI.below h))
  rw [square_in] at H1
  rw [square_out] at H2
  rw [square_edge] at H3
  rw [square_mid] at H4
  rw [square_wind] at H5
  rw [square_cross] at H6
  clear hI i22 i52 i42 hr
  refine (H1.out _ (Below.refl _ _)).mono ?_
  rintro e w1 ⟨rfl, hb_w1⟩
  obtain ⟨hc_w1, hf_w1⟩ := bcell hb_w1
  have hz_w1 := hb_w1.size
  try simp at hz_w1
  have hB_w1 : Below w.heap.size w w1 := Below.trans (by go_grown) (hb_w1.mono (by go_size))
  have k1 := hb_w1
  have e0 := (k1.cell (p := ⟨w.heap.size + 1, 0, none⟩) (by show w.heap.size + 1 < _; omega)).trans d0
  have e1 := (k1.cell (p := ⟨w.heap.size + 1, 1, none⟩) (by show w.heap.size + 1 < _; omega)).trans d1
  go_wp2_with fail
  refine (H2.out _ k1).mono ?_
  rintro e w2 ⟨rfl, hb_w2⟩
  obtain ⟨hc_w2, hf_w2⟩ := bcell hb_w2
  have hz_w2 := hb_w2.size
  try simp at hz_w2
  have hB_w2 : Below w.heap.size w w2 := Below.trans (by go_grown) (hb_w2.mono (by go_size))
  have k2 := k1.trans (hb_w2.mono k1.size)
  go_wp2_with fail
  refine (H3.out _ k2).mono ?_
  rintro e w3 ⟨rfl, hb_w3⟩
  obtain ⟨hc_w3, hf_w3⟩ := bcell hb_w3
  have hz_w3 := hb_w3.size
  try simp at hz_w3
  have hB_w3 : Below w.heap.size w w3 := Below.trans (by go_grown) (hb_w3.mono (by go_size))
  have k3 := k2.trans (hb_w3.mono k2.size)
  have f0 := (k3.cell (p := ⟨w.heap.size + 1, 0, none⟩) (by show w.heap.size + 1 < _; omega)).trans d0
  have f1 := (k3.cell (p := ⟨w.heap.size + 1, 1, none⟩) (by show w.heap.size + 1 < _; omega)).trans d1
  go_wp2_with fail
  refine (H4.out _ k3).mono ?_
  rintro e w4 ⟨rfl, hb_w4⟩
  obtain ⟨hc_w4, hf_w4⟩ := bcell hb_w4
  have hz_w4 := hb_w4.size
  try simp at hz_w4
  have hB_w4 : Below w.heap.size w w4 := Below.trans (by go_grown) (hb_w4.mono (by go_size))
  have k4 := k3.trans (hb_w4.mono k3.size)
  have g0 := (k4.cell (p := ⟨w.heap.size + 1, 0, none⟩) (by show w.heap.size + 1 < _; omega)).trans d0
  have g1 := (k4.cell (p := ⟨w.heap.size + 1, 1, none⟩) (by show w.heap.size + 1 < _; omega)).trans d1
  go_wp2_with fail
  refine (H5.out _ k4).mono ?_
  rintro e w5 ⟨rfl, hb_w5⟩
  obtain ⟨hc_w5, hf_w5⟩ := bcell hb_w5
  have hz_w5 := hb_w5.size
  try simp at hz_w5
  have hB_w5 : Below w.heap.size w w5 := Below.trans (by go_grown) (hb_w5.mono (by go_size))
  have k5 := k4.trans (hb_w5.mono k4.size)
  have l0 := (k5.cell (p := ⟨w.heap.size + 1, 0, none⟩) (by show w.heap.size + 1 < _; omega)).trans d0
  have l1 := (k5.cell (p := ⟨w.heap.size + 1, 1, none⟩) (by show w.heap.size + 1 < _; omega)).trans d1
  go_wp2_with fail
  refine (H6.out _ k5).mono ?_
  rintro e w6 ⟨rfl, hb_w6⟩
  obtain ⟨hc_w6, hf_w6⟩ := bcell hb_w6
  have hz_w6 := hb_w6.size
  try simp at hz_w6
  have hB_w6 : Below w.heap.size w w6 := Below.trans (by go_grown) (hb_w6.mono (by go_size))
  have k6 := k5.trans (hb_w6.mono k5.size)
  go_wp2_with fail
  go_ret
  exact ⟨rfl, by go_grown⟩

end Go.Proofs.Ytohnglcdophkfaa
