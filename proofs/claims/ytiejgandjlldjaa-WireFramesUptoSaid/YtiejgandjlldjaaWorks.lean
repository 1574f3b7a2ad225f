/-
  The law's works: a number is laid down and taken, a frame opened.
-/
import Derived.Test.YtiejgandjlldjaaOpn
import Derived.Test.YtiejgandjlldjaaTakeT
namespace Go.Proofs.Ytiejgandjlldjaa
open Go.RowKit

theorem le258 : leN 2 258 = [2, 1] := by decide +kernel
theorem fixed258 : ((Ist.mk [2, 1] 0 0).fixed 2).1 = 258 := by decide +kernel
theorem frame7 : openCode (frameB [7]) = 0 := by decide +kernel
theorem body7 : openBody (frameB [7]) = [7] := by decide +kernel

set_option maxRecDepth 100000 in
set_option maxHeartbeats 800000 in
theorem works_any (w : World) : Calls Try.prog 12 #[] w fun e w' => e = .returned (.bool true) ∧ Below w.heap.size w w' := by
  go_enter Try.func12, Try.ntmps12
  go_wp2_with fail
  have hW0 : Below w.heap.size w (w.alloc (.cells #[.slice none 0 0] 35)) := by go_grown
  have ho0 : OutAt (w.alloc (.cells #[.slice none 0 0] 35)) w.heap.size [] := ⟨none, 0, 0, Var.new _ _ _, Bs.nil _⟩
  refine (put_u16 _ 258 (by omega) _ (lays_out ho0 (leN 2 258) (by rw [leN_length]; simp))).mono ?_
  rintro e w1 ⟨⟨_, rfl⟩, ho1, hu1⟩
  have hB1 : Below w.heap.size w w1 := Upd.below hW0 hu1 (Nat.le_refl _) (by simp)
  rw [List.nil_append, le258] at ho1
  clear hu1 ho0 hW0
  go_wp2_with fail
  refine (bytes_any w.heap.size [2, 1] w1 ho1 (by simp)).mono ?_
  rintro e w2 ⟨A2, c2, rfl, hf2, hb2⟩
  have hB2 := hB1.trans (hb2.mono hB1.size)
  have hs2 : Bs w2 A2 2 c2 [2, 1] := hf2.1
  obtain ⟨g, o, rfl, hg, c0⟩ := hs2.get (i := 0) (by omega)
  have c0' : w2.cell? ⟨g, o, none⟩ = some (.int .u8 2) := c0
  clear hf2 hb2 hB1 ho1 c0
  go_wp2_with fail
  refine (read_any _ 2 c2 [2, 1] w2 hs2 (by omega)).mono ?_
  rintro e w3 ⟨I, rfl, hI, hin, hb3⟩
  have hB3 := hB2.trans (hb3.mono hB2.size)
  clear hb3 hs2 c0'
  go_wp2_with fail
  refine (take_u16_any I ⟨[2, 1], 0, 0⟩ w3 hin).mono ?_
  rintro e w4 ⟨rfl, hin4, hu4⟩
  have hB4 := Upd.below hB3 hu4 (by have := hB2.size; omega) hB3.size
  rw [fixed258]
  clear hin hu4 hin4 hB3 hB2 hI hg
  go_wp2_with fail
  have hk : Bs (w4.alloc (.cells #[.int .u8 7] 5)) (some ⟨w4.heap.size, 0, none⟩) 1 1 [7] := ⟨rfl, by omega, by unfold maxLen; omega, .inr ⟨w4.heap.size, 0, rfl, by simp, fun j b hj => by
    rw [(Var.new w4 5 #[.int .u8 7]).cell (0 + j)]
    match j, hj with
    | 0, hj => injection hj with hj; rw [← hj]; rfl
    | j + 1, hj => simp at hj⟩⟩
  refine (frame_any _ 1 1 [7] _ hk (by omega)).mono ?_
  rintro e w5 ⟨A5, c5, rfl, hs5, _, hb5⟩
  have hB5 := (hB4.alloc hB4.size (.cells #[.int .u8 7] 5)).trans (hb5.mono (by have := hB4.size; simp; omega))
  clear hk hb5 hB4
  go_wp2_with fail
  refine (open_any A5 9 c5 (frameB [7]) w5 hs5 (by omega)).mono ?_
  rintro e w6 ⟨A6, m6, c6, rfl, hs6, _, hb6⟩
  have hB6 := hB5.trans (hb6.mono hB5.size)
  rw [frame7]
  rw [body7] at hs6
  have hm6 : m6 = 1 := hs6.len.symm
  subst hm6
  obtain ⟨g6, o6, rfl, hg6, c60⟩ := hs6.get (i := 0) (by omega)
  have c60' : w6.cell? ⟨g6, o6, none⟩ = some (.int .u8 7) := c60
  clear hs5 hs6 hb6 hB5 c60
  go_wp2_with fail
  go_ret
  exact ⟨rfl, hB6⟩

end Go.Proofs.Ytiejgandjlldjaa
