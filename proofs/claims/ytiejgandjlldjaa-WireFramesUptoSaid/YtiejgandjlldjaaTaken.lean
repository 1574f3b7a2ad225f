/-
  The law's taken, at each kind; takes on a nil In; width (printed by gen_taken.py).
-/
import Derived.Test.YtiejgandjlldjaaRefIn
import Derived.Test.YtiejgandjlldjaaLaysA
namespace Go.Proofs.Ytiejgandjlldjaa
open Go.RowKit

theorem RInAt.away {w : World} {I R : Nat} {s : Ist} {T : TypeId} {cs : Array Value} (h : RInAt w I s) (hR : Var w R T cs) (hne : R ≠ I) (hno : ∀ (o : Nat) (b : UInt8), cs[o]? ≠ some (B8 b)) (o : Nat) (u : Value) : RInAt (w.setCell ⟨R, o, none⟩ u) I s := by
  obtain ⟨A, c, hv, hs, hat⟩ := h
  refine ⟨A, c, hv.far (p := ⟨R, o, none⟩) (fun e => hne e.symm) u, bs_upd hs (Upd.set _) (fun o b => ?_), hat⟩
  rw [hR.cell o]
  exact hno o b
theorem nan_float (s : Ist) : nan s.float.1 = true ↔ (s.float.2.code = 0 ∧ s.float.1 = 9221120237041090561) := by
  constructor
  · intro h
    unfold Ist.float at h ⊢
    split at h
    · rw [nan0] at h; cases h
    · rename_i hn
      rw [if_neg hn]
      refine ⟨Decidable.byContradiction fun hc => ?_, Decidable.byContradiction fun hv => hn ⟨h, hv⟩⟩
      rw [fixed_zero hc, nan0] at h
      cases h
  · rintro ⟨_, h⟩
    rw [h]
    exact nan_no

theorem width_2 (w : World) : Calls Try.prog 57 #[.int .i64 2] w fun e w' => e = .returned (.int .i64 1) ∧ Below w.heap.size w w' := by
  go_enter Try.func57, Try.ntmps57
  go_wp2_with fail
  go_ret
  exact ⟨rfl, by go_grown⟩
theorem width_12 (w : World) : Calls Try.prog 57 #[.int .i64 12] w fun e w' => e = .returned (.int .i64 1) ∧ Below w.heap.size w w' := by
  go_enter Try.func57, Try.ntmps57
  go_wp2_with fail
  go_ret
  exact ⟨rfl, by go_grown⟩
theorem width_4 (w : World) : Calls Try.prog 57 #[.int .i64 4] w fun e w' => e = .returned (.int .i64 2) ∧ Below w.heap.size w w' := by
  go_enter Try.func57, Try.ntmps57
  go_wp2_with fail
  go_ret
  exact ⟨rfl, by go_grown⟩
theorem width_6 (w : World) : Calls Try.prog 57 #[.int .i64 6] w fun e w' => e = .returned (.int .i64 4) ∧ Below w.heap.size w w' := by
  go_enter Try.func57, Try.ntmps57
  go_wp2_with fail
  go_ret
  exact ⟨rfl, by go_grown⟩
theorem width_7 (w : World) : Calls Try.prog 57 #[.int .i64 7] w fun e w' => e = .returned (.int .i64 8) ∧ Below w.heap.size w w' := by
  go_enter Try.func57, Try.ntmps57
  go_wp2_with fail
  go_ret
  exact ⟨rfl, by go_grown⟩
theorem width_8 (w : World) : Calls Try.prog 57 #[.int .i64 8] w fun e w' => e = .returned (.int .i64 8) ∧ Below w.heap.size w w' := by
  go_enter Try.func57, Try.ntmps57
  go_wp2_with fail
  go_ret
  exact ⟨rfl, by go_grown⟩
theorem width_other (k : Int) (hk : k < 1 ∨ 12 < k) (w : World) : Calls Try.prog 57 #[.int .i64 k] w fun e w' => e = .returned (.int .i64 0) ∧ Below w.heap.size w w' := by
  have n1 : ¬ k = 1 := by omega
  have b1 : (k == 1) = false := by simp [n1]
  have n2 : ¬ k = 2 := by omega
  have b2 : (k == 2) = false := by simp [n2]
  have n3 : ¬ k = 3 := by omega
  have b3 : (k == 3) = false := by simp [n3]
  have n4 : ¬ k = 4 := by omega
  have b4 : (k == 4) = false := by simp [n4]
  have n5 : ¬ k = 5 := by omega
  have b5 : (k == 5) = false := by simp [n5]
  have n6 : ¬ k = 6 := by omega
  have b6 : (k == 6) = false := by simp [n6]
  have n7 : ¬ k = 7 := by omega
  have b7 : (k == 7) = false := by simp [n7]
  have n8 : ¬ k = 8 := by omega
  have b8 : (k == 8) = false := by simp [n8]
  have n9 : ¬ k = 9 := by omega
  have b9 : (k == 9) = false := by simp [n9]
  have n10 : ¬ k = 10 := by omega
  have b10 : (k == 10) = false := by simp [n10]
  have n11 : ¬ k = 11 := by omega
  have b11 : (k == 11) = false := by simp [n11]
  have n12 : ¬ k = 12 := by omega
  have b12 : (k == 12) = false := by simp [n12]
  clear hk
  go_enter Try.func57, Try.ntmps57
  go_wp2_with fail
  go_ret
  exact ⟨rfl, by go_grown⟩

set_option maxRecDepth 100000 in
theorem taken_1 (R : Nat) (s : Ist) (most : Int) (w : World) (h : RInAt w R s) : Calls Try.prog 30 #[.pointer (some ⟨R, 0, none⟩), .agg #[.int .i64 1, .int .i64 most]] w fun e w' => RTook R w ((s.fixed 1).2) e (gotV (sx .i8 (s.fixed 1).1) []) w' := by
  have HT := Lib.hid (fun W h => rfixed_any R s 1 W h (by omega))
  have HI := Lib.hid h
  obtain ⟨v, hv⟩ : ∃ z, (s.fixed 1).1 = z := ⟨_, rfl⟩
  obtain ⟨s', hs'⟩ : ∃ z, (s.fixed 1).2 = z := ⟨_, rfl⟩
  have hlt := s.fixed_lt 1
  rw [hs', hv] at HT
  rw [hv] at hlt
  rw [hs', hv]
  clear h hv hs'
  unfold gotV
  have hsx := sx_eq .i8 v
  clear hlt
  go_enter Try.func30, Try.ntmps30
  go_wp2_with fail
  refine (HT.out _ (HI.out.keep (by go_grown))).mono ?_
  rintro e w2 ⟨rfl, hI2, hU2⟩
  have vR : Var w2 (w.heap.size + 1) 72 #[.int .u64 0, .string ⟨#[]⟩] := Var.upd (Var.new' _ _ _ (by simp)) hU2 (by have := HI.out.lt; omega)
  have r0 : w2.cell? ⟨w.heap.size + 1, 0, none⟩ = some (.int .u64 0) := vR.cell 0
  have r1 : w2.cell? ⟨w.heap.size + 1, 1, none⟩ = some (.string ⟨#[]⟩) := vR.cell 1
  have f0 := vR.free 0
  have f1 := vR.free 1
  have hIR : w.heap.size + 1 ≠ R := by have := HI.out.lt; omega
  go_wp2_with fail
  refine bodyPost_ret (by simp [results, Try.results30, go_sem, *]; try rfl) rfl ?_
  exact ⟨rfl, (hI2.away vR hIR got_no _ _).away (vR.store 0 _) hIR got_no _ _, ((Upd.new ((Upd.of_below (by go_grown)).trans hU2) (by omega) _ _)).new (by omega) _ _⟩

set_option maxRecDepth 100000 in
theorem taken_3 (R : Nat) (s : Ist) (most : Int) (w : World) (h : RInAt w R s) : Calls Try.prog 30 #[.pointer (some ⟨R, 0, none⟩), .agg #[.int .i64 3, .int .i64 most]] w fun e w' => RTook R w ((s.fixed 2).2) e (gotV (sx .i16 (s.fixed 2).1) []) w' := by
  have HT := Lib.hid (fun W h => rfixed_any R s 2 W h (by omega))
  have HI := Lib.hid h
  obtain ⟨v, hv⟩ : ∃ z, (s.fixed 2).1 = z := ⟨_, rfl⟩
  obtain ⟨s', hs'⟩ : ∃ z, (s.fixed 2).2 = z := ⟨_, rfl⟩
  have hlt := s.fixed_lt 2
  rw [hs', hv] at HT
  rw [hv] at hlt
  rw [hs', hv]
  clear h hv hs'
  unfold gotV
  have hsx := sx_eq .i16 v
  clear hlt
  go_enter Try.func30, Try.ntmps30
  go_wp2_with fail
  refine (HT.out _ (HI.out.keep (by go_grown))).mono ?_
  rintro e w2 ⟨rfl, hI2, hU2⟩
  have vR : Var w2 (w.heap.size + 1) 72 #[.int .u64 0, .string ⟨#[]⟩] := Var.upd (Var.new' _ _ _ (by simp)) hU2 (by have := HI.out.lt; omega)
  have r0 : w2.cell? ⟨w.heap.size + 1, 0, none⟩ = some (.int .u64 0) := vR.cell 0
  have r1 : w2.cell? ⟨w.heap.size + 1, 1, none⟩ = some (.string ⟨#[]⟩) := vR.cell 1
  have f0 := vR.free 0
  have f1 := vR.free 1
  have hIR : w.heap.size + 1 ≠ R := by have := HI.out.lt; omega
  go_wp2_with fail
  refine bodyPost_ret (by simp [results, Try.results30, go_sem, *]; try rfl) rfl ?_
  exact ⟨rfl, (hI2.away vR hIR got_no _ _).away (vR.store 0 _) hIR got_no _ _, ((Upd.new ((Upd.of_below (by go_grown)).trans hU2) (by omega) _ _)).new (by omega) _ _⟩

set_option maxRecDepth 100000 in
theorem taken_5 (R : Nat) (s : Ist) (most : Int) (w : World) (h : RInAt w R s) : Calls Try.prog 30 #[.pointer (some ⟨R, 0, none⟩), .agg #[.int .i64 5, .int .i64 most]] w fun e w' => RTook R w ((s.fixed 4).2) e (gotV (sx .i32 (s.fixed 4).1) []) w' := by
  have HT := Lib.hid (fun W h => rfixed_any R s 4 W h (by omega))
  have HI := Lib.hid h
  obtain ⟨v, hv⟩ : ∃ z, (s.fixed 4).1 = z := ⟨_, rfl⟩
  obtain ⟨s', hs'⟩ : ∃ z, (s.fixed 4).2 = z := ⟨_, rfl⟩
  have hlt := s.fixed_lt 4
  rw [hs', hv] at HT
  rw [hv] at hlt
  rw [hs', hv]
  clear h hv hs'
  unfold gotV
  have hsx : IntKind.u64.wrap (wrap32 (v : Int)) = ((sx .i32 v : Nat) : Int) := by rw [← IntWalk.i32_left]; exact sx_eq .i32 v
  clear hlt
  go_enter Try.func30, Try.ntmps30
  go_wp2_with fail
  refine (HT.out _ (HI.out.keep (by go_grown))).mono ?_
  rintro e w2 ⟨rfl, hI2, hU2⟩
  have vR : Var w2 (w.heap.size + 1) 72 #[.int .u64 0, .string ⟨#[]⟩] := Var.upd (Var.new' _ _ _ (by simp)) hU2 (by have := HI.out.lt; omega)
  have r0 : w2.cell? ⟨w.heap.size + 1, 0, none⟩ = some (.int .u64 0) := vR.cell 0
  have r1 : w2.cell? ⟨w.heap.size + 1, 1, none⟩ = some (.string ⟨#[]⟩) := vR.cell 1
  have f0 := vR.free 0
  have f1 := vR.free 1
  have hIR : w.heap.size + 1 ≠ R := by have := HI.out.lt; omega
  go_wp2_with fail
  refine bodyPost_ret (by simp [results, Try.results30, go_sem, *]; try rfl) rfl ?_
  exact ⟨rfl, (hI2.away vR hIR got_no _ _).away (vR.store 0 _) hIR got_no _ _, ((Upd.new ((Upd.of_below (by go_grown)).trans hU2) (by omega) _ _)).new (by omega) _ _⟩

set_option maxRecDepth 100000 in
theorem taken_2 (R : Nat) (s : Ist) (most : Int) (w : World) (h : RInAt w R s) : Calls Try.prog 30 #[.pointer (some ⟨R, 0, none⟩), .agg #[.int .i64 2, .int .i64 most]] w fun e w' => RTook R w ((s.fixed 1).2) e (gotV (s.fixed 1).1 []) w' := by
  have HT := Lib.hid (fun W h => rfixed_any R s 1 W h (by omega))
  have HI := Lib.hid h
  obtain ⟨v, hv⟩ : ∃ z, (s.fixed 1).1 = z := ⟨_, rfl⟩
  obtain ⟨s', hs'⟩ : ∃ z, (s.fixed 1).2 = z := ⟨_, rfl⟩
  have hlt := s.fixed_lt 1
  rw [hs', hv] at HT
  rw [hv] at hlt
  rw [hs', hv]
  clear h hv hs'
  unfold gotV
  have hv' : (v : Int) < 256 := by omega
  clear hlt
  go_enter Try.func30, Try.ntmps30
  go_wp2_with fail
  refine (width_2 _).mono ?_
  rintro e w1 ⟨rfl, hb_w1⟩
  obtain ⟨hc_w1, hf_w1⟩ := bcell hb_w1
  have hz_w1 := hb_w1.size
  try simp at hz_w1
  have hB_w1 : Below w.heap.size w w1 := Below.trans (by go_grown) (hb_w1.mono (by go_size))
  go_wp2_with fail
  refine (HT.out _ (HI.out.keep hB_w1)).mono ?_
  rintro e w2 ⟨rfl, hI2, hU2⟩
  have vR : Var w2 (w.heap.size + 1) 72 #[.int .u64 0, .string ⟨#[]⟩] := Var.upd ((Var.new' _ _ _ (by simp)).keep hb_w1) hU2 (by have := HI.out.lt; omega)
  have r0 : w2.cell? ⟨w.heap.size + 1, 0, none⟩ = some (.int .u64 0) := vR.cell 0
  have r1 : w2.cell? ⟨w.heap.size + 1, 1, none⟩ = some (.string ⟨#[]⟩) := vR.cell 1
  have f0 := vR.free 0
  have f1 := vR.free 1
  have hIR : w.heap.size + 1 ≠ R := by have := HI.out.lt; omega
  go_wp2_with fail
  refine bodyPost_ret (by simp [results, Try.results30, go_sem, *]; try rfl) rfl ?_
  exact ⟨rfl, (hI2.away vR hIR got_no _ _).away (vR.store 0 _) hIR got_no _ _, ((Upd.new ((Upd.of_below hB_w1).trans hU2) (by omega) _ _)).new (by omega) _ _⟩

set_option maxRecDepth 100000 in
theorem taken_4 (R : Nat) (s : Ist) (most : Int) (w : World) (h : RInAt w R s) : Calls Try.prog 30 #[.pointer (some ⟨R, 0, none⟩), .agg #[.int .i64 4, .int .i64 most]] w fun e w' => RTook R w ((s.fixed 2).2) e (gotV (s.fixed 2).1 []) w' := by
  have HT := Lib.hid (fun W h => rfixed_any R s 2 W h (by omega))
  have HI := Lib.hid h
  obtain ⟨v, hv⟩ : ∃ z, (s.fixed 2).1 = z := ⟨_, rfl⟩
  obtain ⟨s', hs'⟩ : ∃ z, (s.fixed 2).2 = z := ⟨_, rfl⟩
  have hlt := s.fixed_lt 2
  rw [hs', hv] at HT
  rw [hv] at hlt
  rw [hs', hv]
  clear h hv hs'
  unfold gotV
  have hv' : (v : Int) < 65536 := by omega
  clear hlt
  go_enter Try.func30, Try.ntmps30
  go_wp2_with fail
  refine (width_4 _).mono ?_
  rintro e w1 ⟨rfl, hb_w1⟩
  obtain ⟨hc_w1, hf_w1⟩ := bcell hb_w1
  have hz_w1 := hb_w1.size
  try simp at hz_w1
  have hB_w1 : Below w.heap.size w w1 := Below.trans (by go_grown) (hb_w1.mono (by go_size))
  go_wp2_with fail
  refine (HT.out _ (HI.out.keep hB_w1)).mono ?_
  rintro e w2 ⟨rfl, hI2, hU2⟩
  have vR : Var w2 (w.heap.size + 1) 72 #[.int .u64 0, .string ⟨#[]⟩] := Var.upd ((Var.new' _ _ _ (by simp)).keep hb_w1) hU2 (by have := HI.out.lt; omega)
  have r0 : w2.cell? ⟨w.heap.size + 1, 0, none⟩ = some (.int .u64 0) := vR.cell 0
  have r1 : w2.cell? ⟨w.heap.size + 1, 1, none⟩ = some (.string ⟨#[]⟩) := vR.cell 1
  have f0 := vR.free 0
  have f1 := vR.free 1
  have hIR : w.heap.size + 1 ≠ R := by have := HI.out.lt; omega
  go_wp2_with fail
  refine bodyPost_ret (by simp [results, Try.results30, go_sem, *]; try rfl) rfl ?_
  exact ⟨rfl, (hI2.away vR hIR got_no _ _).away (vR.store 0 _) hIR got_no _ _, ((Upd.new ((Upd.of_below hB_w1).trans hU2) (by omega) _ _)).new (by omega) _ _⟩

set_option maxRecDepth 100000 in
theorem taken_6 (R : Nat) (s : Ist) (most : Int) (w : World) (h : RInAt w R s) : Calls Try.prog 30 #[.pointer (some ⟨R, 0, none⟩), .agg #[.int .i64 6, .int .i64 most]] w fun e w' => RTook R w ((s.fixed 4).2) e (gotV (s.fixed 4).1 []) w' := by
  have HT := Lib.hid (fun W h => rfixed_any R s 4 W h (by omega))
  have HI := Lib.hid h
  obtain ⟨v, hv⟩ : ∃ z, (s.fixed 4).1 = z := ⟨_, rfl⟩
  obtain ⟨s', hs'⟩ : ∃ z, (s.fixed 4).2 = z := ⟨_, rfl⟩
  have hlt := s.fixed_lt 4
  rw [hs', hv] at HT
  rw [hv] at hlt
  rw [hs', hv]
  clear h hv hs'
  unfold gotV
  have hv' : (v : Int) < 4294967296 := by omega
  clear hlt
  go_enter Try.func30, Try.ntmps30
  go_wp2_with fail
  refine (width_6 _).mono ?_
  rintro e w1 ⟨rfl, hb_w1⟩
  obtain ⟨hc_w1, hf_w1⟩ := bcell hb_w1
  have hz_w1 := hb_w1.size
  try simp at hz_w1
  have hB_w1 : Below w.heap.size w w1 := Below.trans (by go_grown) (hb_w1.mono (by go_size))
  go_wp2_with fail
  refine (HT.out _ (HI.out.keep hB_w1)).mono ?_
  rintro e w2 ⟨rfl, hI2, hU2⟩
  have vR : Var w2 (w.heap.size + 1) 72 #[.int .u64 0, .string ⟨#[]⟩] := Var.upd ((Var.new' _ _ _ (by simp)).keep hb_w1) hU2 (by have := HI.out.lt; omega)
  have r0 : w2.cell? ⟨w.heap.size + 1, 0, none⟩ = some (.int .u64 0) := vR.cell 0
  have r1 : w2.cell? ⟨w.heap.size + 1, 1, none⟩ = some (.string ⟨#[]⟩) := vR.cell 1
  have f0 := vR.free 0
  have f1 := vR.free 1
  have hIR : w.heap.size + 1 ≠ R := by have := HI.out.lt; omega
  go_wp2_with fail
  refine bodyPost_ret (by simp [results, Try.results30, go_sem, *]; try rfl) rfl ?_
  exact ⟨rfl, (hI2.away vR hIR got_no _ _).away (vR.store 0 _) hIR got_no _ _, ((Upd.new ((Upd.of_below hB_w1).trans hU2) (by omega) _ _)).new (by omega) _ _⟩

set_option maxRecDepth 100000 in
theorem taken_7 (R : Nat) (s : Ist) (most : Int) (w : World) (h : RInAt w R s) : Calls Try.prog 30 #[.pointer (some ⟨R, 0, none⟩), .agg #[.int .i64 7, .int .i64 most]] w fun e w' => RTook R w ((s.fixed 8).2) e (gotV (s.fixed 8).1 []) w' := by
  have HT := Lib.hid (fun W h => rfixed_any R s 8 W h (by omega))
  have HI := Lib.hid h
  obtain ⟨v, hv⟩ : ∃ z, (s.fixed 8).1 = z := ⟨_, rfl⟩
  obtain ⟨s', hs'⟩ : ∃ z, (s.fixed 8).2 = z := ⟨_, rfl⟩
  have hlt := s.fixed_lt 8
  rw [hs', hv] at HT
  rw [hv] at hlt
  rw [hs', hv]
  clear h hv hs'
  unfold gotV
  have hv' : (v : Int) < 18446744073709551616 := by omega
  clear hlt
  go_enter Try.func30, Try.ntmps30
  go_wp2_with fail
  refine (width_7 _).mono ?_
  rintro e w1 ⟨rfl, hb_w1⟩
  obtain ⟨hc_w1, hf_w1⟩ := bcell hb_w1
  have hz_w1 := hb_w1.size
  try simp at hz_w1
  have hB_w1 : Below w.heap.size w w1 := Below.trans (by go_grown) (hb_w1.mono (by go_size))
  go_wp2_with fail
  refine (HT.out _ (HI.out.keep hB_w1)).mono ?_
  rintro e w2 ⟨rfl, hI2, hU2⟩
  have vR : Var w2 (w.heap.size + 1) 72 #[.int .u64 0, .string ⟨#[]⟩] := Var.upd ((Var.new' _ _ _ (by simp)).keep hb_w1) hU2 (by have := HI.out.lt; omega)
  have r0 : w2.cell? ⟨w.heap.size + 1, 0, none⟩ = some (.int .u64 0) := vR.cell 0
  have r1 : w2.cell? ⟨w.heap.size + 1, 1, none⟩ = some (.string ⟨#[]⟩) := vR.cell 1
  have f0 := vR.free 0
  have f1 := vR.free 1
  have hIR : w.heap.size + 1 ≠ R := by have := HI.out.lt; omega
  go_wp2_with fail
  refine bodyPost_ret (by simp [results, Try.results30, go_sem, *]; try rfl) rfl ?_
  exact ⟨rfl, (hI2.away vR hIR got_no _ _).away (vR.store 0 _) hIR got_no _ _, ((Upd.new ((Upd.of_below hB_w1).trans hU2) (by omega) _ _)).new (by omega) _ _⟩

set_option maxRecDepth 100000 in
theorem taken_8 (R : Nat) (s : Ist) (most : Int) (w : World) (h : RInAt w R s) : Calls Try.prog 30 #[.pointer (some ⟨R, 0, none⟩), .agg #[.int .i64 8, .int .i64 most]] w fun e w' => RTook R w ((s.fixed 8).2) e (gotV (s.fixed 8).1 []) w' := by
  have HT := Lib.hid (fun W h => rfixed_any R s 8 W h (by omega))
  have HI := Lib.hid h
  obtain ⟨v, hv⟩ : ∃ z, (s.fixed 8).1 = z := ⟨_, rfl⟩
  obtain ⟨s', hs'⟩ : ∃ z, (s.fixed 8).2 = z := ⟨_, rfl⟩
  have hlt := s.fixed_lt 8
  rw [hs', hv] at HT
  rw [hv] at hlt
  rw [hs', hv]
  clear h hv hs'
  unfold gotV
  have hv' : (v : Int) < 18446744073709551616 := by omega
  clear hlt
  go_enter Try.func30, Try.ntmps30
  go_wp2_with fail
  refine (width_8 _).mono ?_
  rintro e w1 ⟨rfl, hb_w1⟩
  obtain ⟨hc_w1, hf_w1⟩ := bcell hb_w1
  have hz_w1 := hb_w1.size
  try simp at hz_w1
  have hB_w1 : Below w.heap.size w w1 := Below.trans (by go_grown) (hb_w1.mono (by go_size))
  go_wp2_with fail
  refine (HT.out _ (HI.out.keep hB_w1)).mono ?_
  rintro e w2 ⟨rfl, hI2, hU2⟩
  have vR : Var w2 (w.heap.size + 1) 72 #[.int .u64 0, .string ⟨#[]⟩] := Var.upd ((Var.new' _ _ _ (by simp)).keep hb_w1) hU2 (by have := HI.out.lt; omega)
  have r0 : w2.cell? ⟨w.heap.size + 1, 0, none⟩ = some (.int .u64 0) := vR.cell 0
  have r1 : w2.cell? ⟨w.heap.size + 1, 1, none⟩ = some (.string ⟨#[]⟩) := vR.cell 1
  have f0 := vR.free 0
  have f1 := vR.free 1
  have hIR : w.heap.size + 1 ≠ R := by have := HI.out.lt; omega
  go_wp2_with fail
  refine bodyPost_ret (by simp [results, Try.results30, go_sem, *]; try rfl) rfl ?_
  exact ⟨rfl, (hI2.away vR hIR got_no _ _).away (vR.store 0 _) hIR got_no _ _, ((Upd.new ((Upd.of_below hB_w1).trans hU2) (by omega) _ _)).new (by omega) _ _⟩

set_option maxRecDepth 100000 in
theorem taken_12 (R : Nat) (s : Ist) (most : Int) (w : World) (h : RInAt w R s) : Calls Try.prog 30 #[.pointer (some ⟨R, 0, none⟩), .agg #[.int .i64 12, .int .i64 most]] w fun e w' => RTook R w ((s.fixed 1).2) e (gotV (s.fixed 1).1 []) w' := by
  have HT := Lib.hid (fun W h => rfixed_any R s 1 W h (by omega))
  have HI := Lib.hid h
  obtain ⟨v, hv⟩ : ∃ z, (s.fixed 1).1 = z := ⟨_, rfl⟩
  obtain ⟨s', hs'⟩ : ∃ z, (s.fixed 1).2 = z := ⟨_, rfl⟩
  have hlt := s.fixed_lt 1
  rw [hs', hv] at HT
  rw [hv] at hlt
  rw [hs', hv]
  clear h hv hs'
  unfold gotV
  have hv' : (v : Int) < 256 := by omega
  clear hlt
  go_enter Try.func30, Try.ntmps30
  go_wp2_with fail
  refine (width_12 _).mono ?_
  rintro e w1 ⟨rfl, hb_w1⟩
  obtain ⟨hc_w1, hf_w1⟩ := bcell hb_w1
  have hz_w1 := hb_w1.size
  try simp at hz_w1
  have hB_w1 : Below w.heap.size w w1 := Below.trans (by go_grown) (hb_w1.mono (by go_size))
  go_wp2_with fail
  refine (HT.out _ (HI.out.keep hB_w1)).mono ?_
  rintro e w2 ⟨rfl, hI2, hU2⟩
  have vR : Var w2 (w.heap.size + 1) 72 #[.int .u64 0, .string ⟨#[]⟩] := Var.upd ((Var.new' _ _ _ (by simp)).keep hb_w1) hU2 (by have := HI.out.lt; omega)
  have r0 : w2.cell? ⟨w.heap.size + 1, 0, none⟩ = some (.int .u64 0) := vR.cell 0
  have r1 : w2.cell? ⟨w.heap.size + 1, 1, none⟩ = some (.string ⟨#[]⟩) := vR.cell 1
  have f0 := vR.free 0
  have f1 := vR.free 1
  have hIR : w.heap.size + 1 ≠ R := by have := HI.out.lt; omega
  go_wp2_with fail
  refine bodyPost_ret (by simp [results, Try.results30, go_sem, *]; try rfl) rfl ?_
  exact ⟨rfl, (hI2.away vR hIR got_no _ _).away (vR.store 0 _) hIR got_no _ _, ((Upd.new ((Upd.of_below hB_w1).trans hU2) (by omega) _ _)).new (by omega) _ _⟩

set_option maxRecDepth 100000 in
theorem taken_9 (R : Nat) (s : Ist) (most : Int) (w : World) (h : RInAt w R s) : Calls Try.prog 30 #[.pointer (some ⟨R, 0, none⟩), .agg #[.int .i64 9, .int .i64 most]] w fun e w' => RTook R w (s.float.2) e (if nan s.float.1 then gotV 0 noneT else gotV s.float.1 []) w' := by
  have HT := Lib.hid (fun W h => rfloat_any R s W h)
  have HI := Lib.hid h
  have hnf := nan_float s
  obtain ⟨v, hv⟩ : ∃ z, s.float.1 = z := ⟨_, rfl⟩
  obtain ⟨s', hs'⟩ : ∃ z, s.float.2 = z := ⟨_, rfl⟩
  rw [hs', hv] at HT hnf
  rw [hs', hv]
  clear h hv hs'
  unfold gotV
  cases hn : nan v
  · rw [if_neg Bool.false_ne_true]
    have hways : (s'.code = 0 ∧ ¬ v = 9221120237041090561) ∨ ¬ s'.code = 0 := by
      rw [hn] at hnf
      rcases Decidable.em (s'.code = 0) with hc | hc
      · exact .inl ⟨hc, fun h => Bool.false_ne_true (hnf.2 ⟨hc, h⟩)⟩
      · exact .inr hc
    clear hnf
    rcases hways with ⟨hc, hv⟩ | hc
    · rw [decide_eq_true hc] at HT
      have hv1 : ((v : Int) == 9221120237041090561) = false := by simp; omega
      have hv2 : ¬ (v : Int) = 9221120237041090561 := by omega
      go_enter Try.func30, Try.ntmps30
      go_wp2_with fail
      refine (HT.out _ (HI.out.keep (by go_grown))).mono ?_
      rintro e w2 ⟨rfl, hI2, hU2⟩
      have vR : Var w2 (w.heap.size + 1) 72 #[.int .u64 0, .string ⟨#[]⟩] := Var.upd (Var.new' _ _ _ (by simp)) hU2 (by have := HI.out.lt; omega)
      have r0 : w2.cell? ⟨w.heap.size + 1, 0, none⟩ = some (.int .u64 0) := vR.cell 0
      have r1 : w2.cell? ⟨w.heap.size + 1, 1, none⟩ = some (.string ⟨#[]⟩) := vR.cell 1
      have f0 := vR.free 0
      have f1 := vR.free 1
      have hIR : w.heap.size + 1 ≠ R := by have := HI.out.lt; omega
      go_wp2_with fail
      refine bodyPost_ret (by simp [results, Try.results30, go_sem, *]; try rfl) rfl ?_
      exact ⟨rfl, (hI2.away vR hIR got_no _ _).away (vR.store 0 _) hIR got_no _ _, ((Upd.new ((Upd.of_below (by go_grown)).trans hU2) (by omega) _ _)).new (by omega) _ _⟩
    · rw [decide_eq_false hc] at HT
      go_enter Try.func30, Try.ntmps30
      go_wp2_with fail
      refine (HT.out _ (HI.out.keep (by go_grown))).mono ?_
      rintro e w2 ⟨rfl, hI2, hU2⟩
      have vR : Var w2 (w.heap.size + 1) 72 #[.int .u64 0, .string ⟨#[]⟩] := Var.upd (Var.new' _ _ _ (by simp)) hU2 (by have := HI.out.lt; omega)
      have r0 : w2.cell? ⟨w.heap.size + 1, 0, none⟩ = some (.int .u64 0) := vR.cell 0
      have r1 : w2.cell? ⟨w.heap.size + 1, 1, none⟩ = some (.string ⟨#[]⟩) := vR.cell 1
      have f0 := vR.free 0
      have f1 := vR.free 1
      have hIR : w.heap.size + 1 ≠ R := by have := HI.out.lt; omega
      go_wp2_with fail
      refine bodyPost_ret (by simp [results, Try.results30, go_sem, *]; try rfl) rfl ?_
      exact ⟨rfl, (hI2.away vR hIR got_no _ _).away (vR.store 0 _) hIR got_no _ _, ((Upd.new ((Upd.of_below (by go_grown)).trans hU2) (by omega) _ _)).new (by omega) _ _⟩
  · rw [if_pos rfl]
    obtain ⟨hc, rfl⟩ := hnf.1 hn
    rw [decide_eq_true hc] at HT
    unfold noneT
    go_enter Try.func30, Try.ntmps30
    go_wp2_with fail
    refine (HT.out _ (HI.out.keep (by go_grown))).mono ?_
    rintro e w2 ⟨rfl, hI2, hU2⟩
    have vR : Var w2 (w.heap.size + 1) 72 #[.int .u64 0, .string ⟨#[]⟩] := Var.upd (Var.new' _ _ _ (by simp)) hU2 (by have := HI.out.lt; omega)
    have r0 : w2.cell? ⟨w.heap.size + 1, 0, none⟩ = some (.int .u64 0) := vR.cell 0
    have r1 : w2.cell? ⟨w.heap.size + 1, 1, none⟩ = some (.string ⟨#[]⟩) := vR.cell 1
    have f0 := vR.free 0
    have f1 := vR.free 1
    have hIR : w.heap.size + 1 ≠ R := by have := HI.out.lt; omega
    go_wp2_with fail
    refine bodyPost_ret (by simp [results, Try.results30, go_sem, *]; try rfl) rfl ?_
    exact ⟨rfl, (hI2.away vR hIR got_no _ _).away (vR.store 0 _) hIR got_no _ _, ((Upd.new ((Upd.of_below (by go_grown)).trans hU2) (by omega) _ _)).new (by omega) _ _⟩

set_option maxRecDepth 100000 in
theorem taken_10 (R : Nat) (s : Ist) (most : Int) (w : World) (h : RInAt w R s) : Calls Try.prog 30 #[.pointer (some ⟨R, 0, none⟩), .agg #[.int .i64 10, .int .i64 most]] w fun e w' => RTook R w ((s.text most).2) e (gotV 0 (s.text most).1) w' := by
  have HT := Lib.hid (fun W h => rtext_any R s most W h)
  have HI := Lib.hid h
  obtain ⟨v, hv⟩ : ∃ z, (s.text most).1 = z := ⟨_, rfl⟩
  obtain ⟨s', hs'⟩ : ∃ z, (s.text most).2 = z := ⟨_, rfl⟩
  rw [hs', hv] at HT
  rw [hs', hv]
  clear h hv hs'
  unfold gotV
  go_enter Try.func30, Try.ntmps30
  go_wp2_with fail
  refine (HT.out _ (HI.out.keep (by go_grown))).mono ?_
  rintro e w2 ⟨rfl, hI2, hU2⟩
  have vR : Var w2 (w.heap.size + 1) 72 #[.int .u64 0, .string ⟨#[]⟩] := Var.upd (Var.new' _ _ _ (by simp)) hU2 (by have := HI.out.lt; omega)
  have r0 : w2.cell? ⟨w.heap.size + 1, 0, none⟩ = some (.int .u64 0) := vR.cell 0
  have r1 : w2.cell? ⟨w.heap.size + 1, 1, none⟩ = some (.string ⟨#[]⟩) := vR.cell 1
  have f0 := vR.free 0
  have f1 := vR.free 1
  have hIR : w.heap.size + 1 ≠ R := by have := HI.out.lt; omega
  go_wp2_with fail
  refine bodyPost_ret (by simp [results, Try.results30, go_sem, *]; try rfl) rfl ?_
  exact ⟨rfl, (hI2.away vR hIR got_no _ _).away (vR.store 0 _) hIR got_no _ _, ((Upd.new ((Upd.of_below (by go_grown)).trans hU2) (by omega) _ _)).new (by omega) _ _⟩

set_option maxRecDepth 100000 in
theorem taken_11 (R : Nat) (s : Ist) (most : Int) (w : World) (h : RInAt w R s) : Calls Try.prog 30 #[.pointer (some ⟨R, 0, none⟩), .agg #[.int .i64 11, .int .i64 most]] w fun e w' => RTook R w ((s.count most).2) e (gotV (s.count most).1 []) w' := by
  have HT := Lib.hid (fun W h => rcount_any R s most W h)
  have HI := Lib.hid h
  have hlt : (s.count most).1 < 65536 := by
    unfold Ist.count
    split
    · simp
    · exact s.fixed_lt 2
  obtain ⟨v, hv⟩ : ∃ z, (s.count most).1 = z := ⟨_, rfl⟩
  obtain ⟨s', hs'⟩ : ∃ z, (s.count most).2 = z := ⟨_, rfl⟩
  rw [hs', hv] at HT
  rw [hv] at hlt
  rw [hs', hv]
  have hv' : (v : Int) < 65536 := by omega
  clear h hv hs' hlt
  unfold gotV
  go_enter Try.func30, Try.ntmps30
  go_wp2_with fail
  refine (HT.out _ (HI.out.keep (by go_grown))).mono ?_
  rintro e w2 ⟨rfl, hI2, hU2⟩
  have vR : Var w2 (w.heap.size + 1) 72 #[.int .u64 0, .string ⟨#[]⟩] := Var.upd (Var.new' _ _ _ (by simp)) hU2 (by have := HI.out.lt; omega)
  have r0 : w2.cell? ⟨w.heap.size + 1, 0, none⟩ = some (.int .u64 0) := vR.cell 0
  have r1 : w2.cell? ⟨w.heap.size + 1, 1, none⟩ = some (.string ⟨#[]⟩) := vR.cell 1
  have f0 := vR.free 0
  have f1 := vR.free 1
  have hIR : w.heap.size + 1 ≠ R := by have := HI.out.lt; omega
  go_wp2_with fail
  refine bodyPost_ret (by simp [results, Try.results30, go_sem, *]; try rfl) rfl ?_
  exact ⟨rfl, (hI2.away vR hIR got_no _ _).away (vR.store 0 _) hIR got_no _ _, ((Upd.new ((Upd.of_below (by go_grown)).trans hU2) (by omega) _ _)).new (by omega) _ _⟩

set_option maxRecDepth 100000 in
theorem taken_other (a : Option Addr) (k most : Int) (hk : k < 1 ∨ 12 < k) (w : World) : Calls Try.prog 30 #[.pointer a, .agg #[.int .i64 k, .int .i64 most]] w fun e w' => e = .returned (gotV 0 []) ∧ Below w.heap.size w w' := by
  have HW := Lib.hid (fun W => width_other k hk W)
  have n1 : ¬ k = 1 := by omega
  have b1 : (k == 1) = false := by simp [n1]
  have n2 : ¬ k = 2 := by omega
  have b2 : (k == 2) = false := by simp [n2]
  have n3 : ¬ k = 3 := by omega
  have b3 : (k == 3) = false := by simp [n3]
  have n4 : ¬ k = 4 := by omega
  have b4 : (k == 4) = false := by simp [n4]
  have n5 : ¬ k = 5 := by omega
  have b5 : (k == 5) = false := by simp [n5]
  have n6 : ¬ k = 6 := by omega
  have b6 : (k == 6) = false := by simp [n6]
  have n7 : ¬ k = 7 := by omega
  have b7 : (k == 7) = false := by simp [n7]
  have n8 : ¬ k = 8 := by omega
  have b8 : (k == 8) = false := by simp [n8]
  have n9 : ¬ k = 9 := by omega
  have b9 : (k == 9) = false := by simp [n9]
  have n10 : ¬ k = 10 := by omega
  have b10 : (k == 10) = false := by simp [n10]
  have n11 : ¬ k = 11 := by omega
  have b11 : (k == 11) = false := by simp [n11]
  have n12 : ¬ k = 12 := by omega
  have b12 : (k == 12) = false := by simp [n12]
  clear hk
  unfold gotV
  go_enter Try.func30, Try.ntmps30
  go_wp2_with fail
  refine (HW.out _).mono ?_
  rintro e w1 ⟨rfl, hb_w1⟩
  obtain ⟨hc_w1, hf_w1⟩ := bcell hb_w1
  have hz_w1 := hb_w1.size
  try simp at hz_w1
  have hB_w1 : Below w.heap.size w w1 := Below.trans (by go_grown) (hb_w1.mono (by go_size))
  have vR : Var w1 (w.heap.size + 1) 72 #[.int .u64 0, .string ⟨#[]⟩] := (Var.new' _ _ _ (by simp)).keep hb_w1
  have r0 : w1.cell? ⟨w.heap.size + 1, 0, none⟩ = some (.int .u64 0) := vR.cell 0
  have r1 : w1.cell? ⟨w.heap.size + 1, 1, none⟩ = some (.string ⟨#[]⟩) := vR.cell 1
  have f0 := vR.free 0
  have f1 := vR.free 1
  have hz := vR.lt
  go_wp2_with fail
  refine bodyPost_ret (by simp [results, Try.results30, go_sem, *]; try rfl) rfl ?_
  exact ⟨rfl, by go_grown⟩

set_option maxRecDepth 100000 in
theorem takes0_1 (most : Int) (w : World) : Calls Try.prog 29 #[.pointer none, .agg #[.int .i64 1, .int .i64 most]] w fun e w' => e = .returned (gotV 0 []) ∧ Below w.heap.size w w' := by
  unfold gotV
  go_enter Try.func29, Try.ntmps29
  go_wp2_with fail
  refine (take_i8_none _).mono ?_
  rintro e w1 ⟨rfl, hb_w1⟩
  obtain ⟨hc_w1, hf_w1⟩ := bcell hb_w1
  have hz_w1 := hb_w1.size
  try simp at hz_w1
  have hB_w1 : Below w.heap.size w w1 := Below.trans (by go_grown) (hb_w1.mono (by go_size))
  have vR : Var w1 (w.heap.size + 1) 72 #[.int .u64 0, .string ⟨#[]⟩] := (Var.new' _ _ _ (by simp)).keep hb_w1
  have r0 : w1.cell? ⟨w.heap.size + 1, 0, none⟩ = some (.int .u64 0) := vR.cell 0
  have r1 : w1.cell? ⟨w.heap.size + 1, 1, none⟩ = some (.string ⟨#[]⟩) := vR.cell 1
  have f0 := vR.free 0
  have f1 := vR.free 1
  have hz := vR.lt
  go_wp2_with fail
  refine bodyPost_ret (by simp [results, Try.results29, go_sem, *]; try rfl) rfl ?_
  exact ⟨rfl, by go_grown⟩

set_option maxRecDepth 100000 in
theorem takes0_2 (most : Int) (w : World) : Calls Try.prog 29 #[.pointer none, .agg #[.int .i64 2, .int .i64 most]] w fun e w' => e = .returned (gotV 0 []) ∧ Below w.heap.size w w' := by
  unfold gotV
  go_enter Try.func29, Try.ntmps29
  go_wp2_with fail
  refine (take_u8_none _).mono ?_
  rintro e w1 ⟨rfl, hb_w1⟩
  obtain ⟨hc_w1, hf_w1⟩ := bcell hb_w1
  have hz_w1 := hb_w1.size
  try simp at hz_w1
  have hB_w1 : Below w.heap.size w w1 := Below.trans (by go_grown) (hb_w1.mono (by go_size))
  have vR : Var w1 (w.heap.size + 1) 72 #[.int .u64 0, .string ⟨#[]⟩] := (Var.new' _ _ _ (by simp)).keep hb_w1
  have r0 : w1.cell? ⟨w.heap.size + 1, 0, none⟩ = some (.int .u64 0) := vR.cell 0
  have r1 : w1.cell? ⟨w.heap.size + 1, 1, none⟩ = some (.string ⟨#[]⟩) := vR.cell 1
  have f0 := vR.free 0
  have f1 := vR.free 1
  have hz := vR.lt
  go_wp2_with fail
  refine bodyPost_ret (by simp [results, Try.results29, go_sem, *]; try rfl) rfl ?_
  exact ⟨rfl, by go_grown⟩

set_option maxRecDepth 100000 in
theorem takes0_3 (most : Int) (w : World) : Calls Try.prog 29 #[.pointer none, .agg #[.int .i64 3, .int .i64 most]] w fun e w' => e = .returned (gotV 0 []) ∧ Below w.heap.size w w' := by
  unfold gotV
  go_enter Try.func29, Try.ntmps29
  go_wp2_with fail
  refine (take_i16_none _).mono ?_
  rintro e w1 ⟨rfl, hb_w1⟩
  obtain ⟨hc_w1, hf_w1⟩ := bcell hb_w1
  have hz_w1 := hb_w1.size
  try simp at hz_w1
  have hB_w1 : Below w.heap.size w w1 := Below.trans (by go_grown) (hb_w1.mono (by go_size))
  have vR : Var w1 (w.heap.size + 1) 72 #[.int .u64 0, .string ⟨#[]⟩] := (Var.new' _ _ _ (by simp)).keep hb_w1
  have r0 : w1.cell? ⟨w.heap.size + 1, 0, none⟩ = some (.int .u64 0) := vR.cell 0
  have r1 : w1.cell? ⟨w.heap.size + 1, 1, none⟩ = some (.string ⟨#[]⟩) := vR.cell 1
  have f0 := vR.free 0
  have f1 := vR.free 1
  have hz := vR.lt
  go_wp2_with fail
  refine bodyPost_ret (by simp [results, Try.results29, go_sem, *]; try rfl) rfl ?_
  exact ⟨rfl, by go_grown⟩

set_option maxRecDepth 100000 in
theorem takes0_4 (most : Int) (w : World) : Calls Try.prog 29 #[.pointer none, .agg #[.int .i64 4, .int .i64 most]] w fun e w' => e = .returned (gotV 0 []) ∧ Below w.heap.size w w' := by
  unfold gotV
  go_enter Try.func29, Try.ntmps29
  go_wp2_with fail
  refine (take_u16_none _).mono ?_
  rintro e w1 ⟨rfl, hb_w1⟩
  obtain ⟨hc_w1, hf_w1⟩ := bcell hb_w1
  have hz_w1 := hb_w1.size
  try simp at hz_w1
  have hB_w1 : Below w.heap.size w w1 := Below.trans (by go_grown) (hb_w1.mono (by go_size))
  have vR : Var w1 (w.heap.size + 1) 72 #[.int .u64 0, .string ⟨#[]⟩] := (Var.new' _ _ _ (by simp)).keep hb_w1
  have r0 : w1.cell? ⟨w.heap.size + 1, 0, none⟩ = some (.int .u64 0) := vR.cell 0
  have r1 : w1.cell? ⟨w.heap.size + 1, 1, none⟩ = some (.string ⟨#[]⟩) := vR.cell 1
  have f0 := vR.free 0
  have f1 := vR.free 1
  have hz := vR.lt
  go_wp2_with fail
  refine bodyPost_ret (by simp [results, Try.results29, go_sem, *]; try rfl) rfl ?_
  exact ⟨rfl, by go_grown⟩

set_option maxRecDepth 100000 in
theorem takes0_5 (most : Int) (w : World) : Calls Try.prog 29 #[.pointer none, .agg #[.int .i64 5, .int .i64 most]] w fun e w' => e = .returned (gotV 0 []) ∧ Below w.heap.size w w' := by
  unfold gotV
  go_enter Try.func29, Try.ntmps29
  go_wp2_with fail
  refine (take_i32_none _).mono ?_
  rintro e w1 ⟨rfl, hb_w1⟩
  obtain ⟨hc_w1, hf_w1⟩ := bcell hb_w1
  have hz_w1 := hb_w1.size
  try simp at hz_w1
  have hB_w1 : Below w.heap.size w w1 := Below.trans (by go_grown) (hb_w1.mono (by go_size))
  have vR : Var w1 (w.heap.size + 1) 72 #[.int .u64 0, .string ⟨#[]⟩] := (Var.new' _ _ _ (by simp)).keep hb_w1
  have r0 : w1.cell? ⟨w.heap.size + 1, 0, none⟩ = some (.int .u64 0) := vR.cell 0
  have r1 : w1.cell? ⟨w.heap.size + 1, 1, none⟩ = some (.string ⟨#[]⟩) := vR.cell 1
  have f0 := vR.free 0
  have f1 := vR.free 1
  have hz := vR.lt
  go_wp2_with fail
  refine bodyPost_ret (by simp [results, Try.results29, go_sem, *]; try rfl) rfl ?_
  exact ⟨rfl, by go_grown⟩

set_option maxRecDepth 100000 in
theorem takes0_6 (most : Int) (w : World) : Calls Try.prog 29 #[.pointer none, .agg #[.int .i64 6, .int .i64 most]] w fun e w' => e = .returned (gotV 0 []) ∧ Below w.heap.size w w' := by
  unfold gotV
  go_enter Try.func29, Try.ntmps29
  go_wp2_with fail
  refine (take_u32_none _).mono ?_
  rintro e w1 ⟨rfl, hb_w1⟩
  obtain ⟨hc_w1, hf_w1⟩ := bcell hb_w1
  have hz_w1 := hb_w1.size
  try simp at hz_w1
  have hB_w1 : Below w.heap.size w w1 := Below.trans (by go_grown) (hb_w1.mono (by go_size))
  have vR : Var w1 (w.heap.size + 1) 72 #[.int .u64 0, .string ⟨#[]⟩] := (Var.new' _ _ _ (by simp)).keep hb_w1
  have r0 : w1.cell? ⟨w.heap.size + 1, 0, none⟩ = some (.int .u64 0) := vR.cell 0
  have r1 : w1.cell? ⟨w.heap.size + 1, 1, none⟩ = some (.string ⟨#[]⟩) := vR.cell 1
  have f0 := vR.free 0
  have f1 := vR.free 1
  have hz := vR.lt
  go_wp2_with fail
  refine bodyPost_ret (by simp [results, Try.results29, go_sem, *]; try rfl) rfl ?_
  exact ⟨rfl, by go_grown⟩

set_option maxRecDepth 100000 in
theorem takes0_7 (most : Int) (w : World) : Calls Try.prog 29 #[.pointer none, .agg #[.int .i64 7, .int .i64 most]] w fun e w' => e = .returned (gotV 0 []) ∧ Below w.heap.size w w' := by
  unfold gotV
  go_enter Try.func29, Try.ntmps29
  go_wp2_with fail
  refine (take_i64_none _).mono ?_
  rintro e w1 ⟨rfl, hb_w1⟩
  obtain ⟨hc_w1, hf_w1⟩ := bcell hb_w1
  have hz_w1 := hb_w1.size
  try simp at hz_w1
  have hB_w1 : Below w.heap.size w w1 := Below.trans (by go_grown) (hb_w1.mono (by go_size))
  have vR : Var w1 (w.heap.size + 1) 72 #[.int .u64 0, .string ⟨#[]⟩] := (Var.new' _ _ _ (by simp)).keep hb_w1
  have r0 : w1.cell? ⟨w.heap.size + 1, 0, none⟩ = some (.int .u64 0) := vR.cell 0
  have r1 : w1.cell? ⟨w.heap.size + 1, 1, none⟩ = some (.string ⟨#[]⟩) := vR.cell 1
  have f0 := vR.free 0
  have f1 := vR.free 1
  have hz := vR.lt
  go_wp2_with fail
  refine bodyPost_ret (by simp [results, Try.results29, go_sem, *]; try rfl) rfl ?_
  exact ⟨rfl, by go_grown⟩

set_option maxRecDepth 100000 in
theorem takes0_8 (most : Int) (w : World) : Calls Try.prog 29 #[.pointer none, .agg #[.int .i64 8, .int .i64 most]] w fun e w' => e = .returned (gotV 0 []) ∧ Below w.heap.size w w' := by
  unfold gotV
  go_enter Try.func29, Try.ntmps29
  go_wp2_with fail
  refine (take_u64_none _).mono ?_
  rintro e w1 ⟨rfl, hb_w1⟩
  obtain ⟨hc_w1, hf_w1⟩ := bcell hb_w1
  have hz_w1 := hb_w1.size
  try simp at hz_w1
  have hB_w1 : Below w.heap.size w w1 := Below.trans (by go_grown) (hb_w1.mono (by go_size))
  have vR : Var w1 (w.heap.size + 1) 72 #[.int .u64 0, .string ⟨#[]⟩] := (Var.new' _ _ _ (by simp)).keep hb_w1
  have r0 : w1.cell? ⟨w.heap.size + 1, 0, none⟩ = some (.int .u64 0) := vR.cell 0
  have r1 : w1.cell? ⟨w.heap.size + 1, 1, none⟩ = some (.string ⟨#[]⟩) := vR.cell 1
  have f0 := vR.free 0
  have f1 := vR.free 1
  have hz := vR.lt
  go_wp2_with fail
  refine bodyPost_ret (by simp [results, Try.results29, go_sem, *]; try rfl) rfl ?_
  exact ⟨rfl, by go_grown⟩

set_option maxRecDepth 100000 in
theorem takes0_9 (most : Int) (w : World) : Calls Try.prog 29 #[.pointer none, .agg #[.int .i64 9, .int .i64 most]] w fun e w' => e = .returned (gotV 0 []) ∧ Below w.heap.size w w' := by
  unfold gotV
  have hb : ∀ W, (callFunc 68 #[.float .f64 0]).run Try.prog W = .ok (.value (.int .u64 0)) W := fun W => bits_any 0 W
  have hn := nan0
  unfold nan at hn
  go_enter Try.func29, Try.ntmps29
  go_wp2_with fail
  refine (float_none _).mono ?_
  rintro e w1 ⟨rfl, hb_w1⟩
  obtain ⟨hc_w1, hf_w1⟩ := bcell hb_w1
  have hz_w1 := hb_w1.size
  try simp at hz_w1
  have hB_w1 : Below w.heap.size w w1 := Below.trans (by go_grown) (hb_w1.mono (by go_size))
  have vR : Var w1 (w.heap.size + 1) 72 #[.int .u64 0, .string ⟨#[]⟩] := (Var.new' _ _ _ (by simp)).keep hb_w1
  have r0 : w1.cell? ⟨w.heap.size + 1, 0, none⟩ = some (.int .u64 0) := vR.cell 0
  have r1 : w1.cell? ⟨w.heap.size + 1, 1, none⟩ = some (.string ⟨#[]⟩) := vR.cell 1
  have f0 := vR.free 0
  have f1 := vR.free 1
  have hz := vR.lt
  go_wp2_with fail
  refine bodyPost_ret (by simp [results, Try.results29, go_sem, *]; try rfl) rfl ?_
  exact ⟨rfl, by go_grown⟩

set_option maxRecDepth 100000 in
theorem takes0_10 (most : Int) (w : World) : Calls Try.prog 29 #[.pointer none, .agg #[.int .i64 10, .int .i64 most]] w fun e w' => e = .returned (gotV 0 []) ∧ Below w.heap.size w w' := by
  unfold gotV
  go_enter Try.func29, Try.ntmps29
  go_wp2_with fail
  refine (ttext_none most _).mono ?_
  rintro e w1 ⟨rfl, hb_w1⟩
  obtain ⟨hc_w1, hf_w1⟩ := bcell hb_w1
  have hz_w1 := hb_w1.size
  try simp at hz_w1
  have hB_w1 : Below w.heap.size w w1 := Below.trans (by go_grown) (hb_w1.mono (by go_size))
  have vR : Var w1 (w.heap.size + 1) 72 #[.int .u64 0, .string ⟨#[]⟩] := (Var.new' _ _ _ (by simp)).keep hb_w1
  have r0 : w1.cell? ⟨w.heap.size + 1, 0, none⟩ = some (.int .u64 0) := vR.cell 0
  have r1 : w1.cell? ⟨w.heap.size + 1, 1, none⟩ = some (.string ⟨#[]⟩) := vR.cell 1
  have f0 := vR.free 0
  have f1 := vR.free 1
  have hz := vR.lt
  go_wp2_with fail
  refine bodyPost_ret (by simp [results, Try.results29, go_sem, *]; try rfl) rfl ?_
  exact ⟨rfl, by go_grown⟩

set_option maxRecDepth 100000 in
theorem takes0_11 (most : Int) (w : World) : Calls Try.prog 29 #[.pointer none, .agg #[.int .i64 11, .int .i64 most]] w fun e w' => e = .returned (gotV 0 []) ∧ Below w.heap.size w w' := by
  unfold gotV
  go_enter Try.func29, Try.ntmps29
  go_wp2_with fail
  refine (count_none most _).mono ?_
  rintro e w1 ⟨rfl, hb_w1⟩
  obtain ⟨hc_w1, hf_w1⟩ := bcell hb_w1
  have hz_w1 := hb_w1.size
  try simp at hz_w1
  have hB_w1 : Below w.heap.size w w1 := Below.trans (by go_grown) (hb_w1.mono (by go_size))
  have vR : Var w1 (w.heap.size + 1) 72 #[.int .u64 0, .string ⟨#[]⟩] := (Var.new' _ _ _ (by simp)).keep hb_w1
  have r0 : w1.cell? ⟨w.heap.size + 1, 0, none⟩ = some (.int .u64 0) := vR.cell 0
  have r1 : w1.cell? ⟨w.heap.size + 1, 1, none⟩ = some (.string ⟨#[]⟩) := vR.cell 1
  have f0 := vR.free 0
  have f1 := vR.free 1
  have hz := vR.lt
  go_wp2_with fail
  refine bodyPost_ret (by simp [results, Try.results29, go_sem, *]; try rfl) rfl ?_
  exact ⟨rfl, by go_grown⟩

set_option maxRecDepth 100000 in
theorem takes0_12 (most : Int) (w : World) : Calls Try.prog 29 #[.pointer none, .agg #[.int .i64 12, .int .i64 most]] w fun e w' => e = .returned (gotV 0 []) ∧ Below w.heap.size w w' := by
  unfold gotV
  go_enter Try.func29, Try.ntmps29
  go_wp2_with fail
  refine (take_small_none _).mono ?_
  rintro e w1 ⟨rfl, hb_w1⟩
  obtain ⟨hc_w1, hf_w1⟩ := bcell hb_w1
  have hz_w1 := hb_w1.size
  try simp at hz_w1
  have hB_w1 : Below w.heap.size w w1 := Below.trans (by go_grown) (hb_w1.mono (by go_size))
  have vR : Var w1 (w.heap.size + 1) 72 #[.int .u64 0, .string ⟨#[]⟩] := (Var.new' _ _ _ (by simp)).keep hb_w1
  have r0 : w1.cell? ⟨w.heap.size + 1, 0, none⟩ = some (.int .u64 0) := vR.cell 0
  have r1 : w1.cell? ⟨w.heap.size + 1, 1, none⟩ = some (.string ⟨#[]⟩) := vR.cell 1
  have f0 := vR.free 0
  have f1 := vR.free 1
  have hz := vR.lt
  go_wp2_with fail
  refine bodyPost_ret (by simp [results, Try.results29, go_sem, *]; try rfl) rfl ?_
  exact ⟨rfl, by go_grown⟩

theorem takes0_all (k most : Int) (w : World) : Calls Try.prog 29 #[.pointer none, .agg #[.int .i64 k, .int .i64 most]] w fun e w' => e = .returned (gotV 0 []) ∧ Below w.heap.size w w' := by
  rcases Decidable.em (1 ≤ k ∧ k ≤ 12) with hk | hk
  · have hc : k = 1 ∨ k = 2 ∨ k = 3 ∨ k = 4 ∨ k = 5 ∨ k = 6 ∨ k = 7 ∨ k = 8 ∨ k = 9 ∨ k = 10 ∨ k = 11 ∨ k = 12 := by omega
    rcases hc with rfl | rfl | rfl | rfl | rfl | rfl | rfl | rfl | rfl | rfl | rfl | rfl
    · exact takes0_1 most w
    · exact takes0_2 most w
    · exact takes0_3 most w
    · exact takes0_4 most w
    · exact takes0_5 most w
    · exact takes0_6 most w
    · exact takes0_7 most w
    · exact takes0_8 most w
    · exact takes0_9 most w
    · exact takes0_10 most w
    · exact takes0_11 most w
    · exact takes0_12 most w
  · exact takes_other _ k most (by omega) w

theorem taken_all (R : Nat) (s : Ist) (k most : Int) (w : World) (h : RInAt w R s) :
    Calls Try.prog 30 #[.pointer (some ⟨R, 0, none⟩), .agg #[.int .i64 k, .int .i64 most]] w fun e w' => RTook R w (takeOf k most s).2 e (gotV (takeOf k most s).1.1 (takeOf k most s).1.2) w' := by
  rcases Decidable.em (1 ≤ k ∧ k ≤ 12) with hk | hk
  · have hc : k = 1 ∨ k = 2 ∨ k = 3 ∨ k = 4 ∨ k = 5 ∨ k = 6 ∨ k = 7 ∨ k = 8 ∨ k = 9 ∨ k = 10 ∨ k = 11 ∨ k = 12 := by omega
    rcases hc with rfl | rfl | rfl | rfl | rfl | rfl | rfl | rfl | rfl | rfl | rfl | rfl
    · exact taken_1 R s most w h
    · exact taken_2 R s most w h
    · exact taken_3 R s most w h
    · exact taken_4 R s most w h
    · exact taken_5 R s most w h
    · exact taken_6 R s most w h
    · have e : takeOf 7 most s = (((s.fixed 8).1, []), (s.fixed 8).2) := by
        show ((sx .i64 (s.fixed 8).1, []), (s.fixed 8).2) = _
        rw [sx_i64 (by have := s.fixed_lt 8; omega)]
      rw [e]
      exact taken_7 R s most w h
    · exact taken_8 R s most w h
    · have H := taken_9 R s most w h
      show Calls _ _ _ w fun e w' => RTook R w s.float.2 e (gotV (if nan s.float.1 then (0, noneT) else (s.float.1, [])).1 (if nan s.float.1 then (0, noneT) else (s.float.1, [])).2) w'
      cases hn : nan s.float.1
      · rw [hn] at H; exact H
      · rw [hn] at H; exact H
    · exact taken_10 R s most w h
    · exact taken_11 R s most w h
    · exact taken_12 R s most w h
  · have e1 : takeOf k most s = ((0, []), s) := by unfold takeOf; simp only [show ¬ k = 1 by omega, show ¬ k = 2 by omega, show ¬ k = 3 by omega, show ¬ k = 4 by omega, show ¬ k = 5 by omega, show ¬ k = 6 by omega, show ¬ k = 7 by omega, show ¬ k = 8 by omega, show ¬ k = 9 by omega, show ¬ k = 10 by omega, show ¬ k = 11 by omega, show ¬ k = 12 by omega, false_or, if_false]
    rw [e1]
    exact (taken_other _ k most (by omega) w).mono fun e w' ⟨he, hb⟩ => ⟨he, h.keep hb, Upd.of_below hb⟩

end Go.Proofs.Ytiejgandjlldjaa
