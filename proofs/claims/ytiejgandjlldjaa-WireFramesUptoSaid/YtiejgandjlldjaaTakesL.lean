/-
  The law's takes, at each kind (printed by gen_takesL.py).
-/
import Derived.Test.YtiejgandjlldjaaTakeT
import Derived.Deep.WholeRow
import Derived.Deep.MidRow
import Derived.Laws.Tables
import Derived.Test.YtiejgandjlldjaaSums
namespace Go.Proofs.Ytiejgandjlldjaa
open Go.RowKit

/-- What a take answers. -/
def gotV (n : Nat) (s : List UInt8) : Value := .agg #[.int .u64 (n : Int), .string ⟨s.toArray⟩]
def noneT : List UInt8 := [110, 111, 110, 101]
def sx (k : IntKind) (v : Nat) : Nat := (IntKind.u64.wrap (k.wrap (v : Int))).toNat
theorem sx_eq (k : IntKind) (v : Nat) : IntKind.u64.wrap (k.wrap (v : Int)) = ((sx k v : Nat) : Int) := by
  unfold sx
  rw [IntKind.wrap_u64]
  omega

theorem Var.upd {w w' : World} {g O : Nat} {T : TypeId} {cs : Array Value} (h : Var w g T cs) (hu : Upd O w w') (hne : g ≠ O) : Var w' g T cs := (hu.block g h.lt (fun e => by injection e with e; exact hne e)).trans h
theorem Upd.new {O R : Nat} {w w' : World} (h : Upd O w w') (hR : w.heap.size ≤ R) (o : Nat) (u : Value) : Upd O w (w'.setCell ⟨R, o, none⟩ u) :=
  ⟨h.os, h.tape, h.output, by simpa [World.setCell] using h.size, fun k hk hO => (Below.heap_setCell w' ⟨R, o, none⟩ u k (by show k ≠ R; omega)).trans (h.block k hk hO)⟩
theorem InAt.away {w : World} {I R : Nat} {s : Ist} {T : TypeId} {cs : Array Value} (h : InAt w I s) (hR : Var w R T cs) (hne : R ≠ I) (hno : ∀ (o : Nat) (b : UInt8), cs[o]? ≠ some (B8 b)) (o : Nat) (u : Value) : InAt (w.setCell ⟨R, o, none⟩ u) I s := by
  obtain ⟨A, c, hv, hs, hat⟩ := h
  refine ⟨A, c, hv.far (p := ⟨R, o, none⟩) (fun e => hne e.symm) u, bs_upd hs (Upd.set _) (fun o b => ?_), hat⟩
  rw [hR.cell o]
  exact hno o b
/-- No cell of a Got is a byte. -/
theorem got_no {n : Int} {s : ByteArray} (o : Nat) (b : UInt8) : (#[.int .u64 n, .string s] : Array Value)[o]? ≠ some (B8 b) := by
  match o with
  | 0 => simp [B8]
  | 1 => simp [B8]
  | o + 2 => simp

set_option maxRecDepth 100000 in
theorem takes_1 (I : Nat) (s : Ist) (most : Int) (w : World) (h : InAt w I s) : Calls Try.prog 29 #[.pointer (some ⟨I, 0, none⟩), .agg #[.int .i64 1, .int .i64 most]] w fun e w' => Took I w ((s.fixed 1).2) e (gotV (sx .i8 (s.fixed 1).1) []) w' := by
  have HT := Lib.hid (fun W h => take_i8_any I s W h)
  have HI := Lib.hid h
  obtain ⟨v, hv⟩ : ∃ z, (s.fixed 1).1 = z := ⟨_, rfl⟩
  obtain ⟨s', hs'⟩ : ∃ z, (s.fixed 1).2 = z := ⟨_, rfl⟩
  have hlt := s.fixed_lt 1
  rw [hs', hv] at HT
  rw [hv] at hlt
  rw [hs', hv]
  clear h hv hs'
  unfold gotV
  have hsx := sx_eq .i8 v
  clear hlt
  go_enter Try.func29, Try.ntmps29
  go_wp2_with fail
  refine (HT.out _ (HI.out.keep (by go_grown))).mono ?_
  rintro e w2 ⟨rfl, hI2, hU2⟩
  have vR : Var w2 (w.heap.size + 1) 72 #[.int .u64 0, .string ⟨#[]⟩] := Var.upd (Var.new' _ _ _ (by simp)) hU2 (by have := HI.out.lt; omega)
  have r0 : w2.cell? ⟨w.heap.size + 1, 0, none⟩ = some (.int .u64 0) := vR.cell 0
  have r1 : w2.cell? ⟨w.heap.size + 1, 1, none⟩ = some (.string ⟨#[]⟩) := vR.cell 1
  have f0 := vR.free 0
  have f1 := vR.free 1
  have hIR : w.heap.size + 1 ≠ I := by have := HI.out.lt; omega
  go_wp2_with fail
  refine bodyPost_ret (by simp [results, Try.results29, go_sem, *]; try rfl) rfl ?_
  exact ⟨rfl, (hI2.away vR hIR got_no _ _).away (vR.store 0 _) hIR got_no _ _, ((Upd.new ((Upd.of_below (by go_grown)).trans hU2) (by omega) _ _)).new (by omega) _ _⟩

set_option maxRecDepth 100000 in
theorem takes_2 (I : Nat) (s : Ist) (most : Int) (w : World) (h : InAt w I s) : Calls Try.prog 29 #[.pointer (some ⟨I, 0, none⟩), .agg #[.int .i64 2, .int .i64 most]] w fun e w' => Took I w ((s.fixed 1).2) e (gotV (s.fixed 1).1 []) w' := by
  have HT := Lib.hid (fun W h => take_u8_any I s W h)
  have HI := Lib.hid h
  obtain ⟨v, hv⟩ : ∃ z, (s.fixed 1).1 = z := ⟨_, rfl⟩
  obtain ⟨s', hs'⟩ : ∃ z, (s.fixed 1).2 = z := ⟨_, rfl⟩
  have hlt := s.fixed_lt 1
  rw [hs', hv] at HT
  rw [hv] at hlt
  rw [hs', hv]
  clear h hv hs'
  unfold gotV
  have hv' : (v : Int) < 256 := by omega
  clear hlt
  go_enter Try.func29, Try.ntmps29
  go_wp2_with fail
  refine (HT.out _ (HI.out.keep (by go_grown))).mono ?_
  rintro e w2 ⟨rfl, hI2, hU2⟩
  have vR : Var w2 (w.heap.size + 1) 72 #[.int .u64 0, .string ⟨#[]⟩] := Var.upd (Var.new' _ _ _ (by simp)) hU2 (by have := HI.out.lt; omega)
  have r0 : w2.cell? ⟨w.heap.size + 1, 0, none⟩ = some (.int .u64 0) := vR.cell 0
  have r1 : w2.cell? ⟨w.heap.size + 1, 1, none⟩ = some (.string ⟨#[]⟩) := vR.cell 1
  have f0 := vR.free 0
  have f1 := vR.free 1
  have hIR : w.heap.size + 1 ≠ I := by have := HI.out.lt; omega
  go_wp2_with fail
  refine bodyPost_ret (by simp [results, Try.results29, go_sem, *]; try rfl) rfl ?_
  exact ⟨rfl, (hI2.away vR hIR got_no _ _).away (vR.store 0 _) hIR got_no _ _, ((Upd.new ((Upd.of_below (by go_grown)).trans hU2) (by omega) _ _)).new (by omega) _ _⟩

set_option maxRecDepth 100000 in
theorem takes_3 (I : Nat) (s : Ist) (most : Int) (w : World) (h : InAt w I s) : Calls Try.prog 29 #[.pointer (some ⟨I, 0, none⟩), .agg #[.int .i64 3, .int .i64 most]] w fun e w' => Took I w ((s.fixed 2).2) e (gotV (sx .i16 (s.fixed 2).1) []) w' := by
  have HT := Lib.hid (fun W h => take_i16_any I s W h)
  have HI := Lib.hid h
  obtain ⟨v, hv⟩ : ∃ z, (s.fixed 2).1 = z := ⟨_, rfl⟩
  obtain ⟨s', hs'⟩ : ∃ z, (s.fixed 2).2 = z := ⟨_, rfl⟩
  have hlt := s.fixed_lt 2
  rw [hs', hv] at HT
  rw [hv] at hlt
  rw [hs', hv]
  clear h hv hs'
  unfold gotV
  have hsx := sx_eq .i16 v
  clear hlt
  go_enter Try.func29, Try.ntmps29
  go_wp2_with fail
  refine (HT.out _ (HI.out.keep (by go_grown))).mono ?_
  rintro e w2 ⟨rfl, hI2, hU2⟩
  have vR : Var w2 (w.heap.size + 1) 72 #[.int .u64 0, .string ⟨#[]⟩] := Var.upd (Var.new' _ _ _ (by simp)) hU2 (by have := HI.out.lt; omega)
  have r0 : w2.cell? ⟨w.heap.size + 1, 0, none⟩ = some (.int .u64 0) := vR.cell 0
  have r1 : w2.cell? ⟨w.heap.size + 1, 1, none⟩ = some (.string ⟨#[]⟩) := vR.cell 1
  have f0 := vR.free 0
  have f1 := vR.free 1
  have hIR : w.heap.size + 1 ≠ I := by have := HI.out.lt; omega
  go_wp2_with fail
  refine bodyPost_ret (by simp [results, Try.results29, go_sem, *]; try rfl) rfl ?_
  exact ⟨rfl, (hI2.away vR hIR got_no _ _).away (vR.store 0 _) hIR got_no _ _, ((Upd.new ((Upd.of_below (by go_grown)).trans hU2) (by omega) _ _)).new (by omega) _ _⟩

set_option maxRecDepth 100000 in
theorem takes_4 (I : Nat) (s : Ist) (most : Int) (w : World) (h : InAt w I s) : Calls Try.prog 29 #[.pointer (some ⟨I, 0, none⟩), .agg #[.int .i64 4, .int .i64 most]] w fun e w' => Took I w ((s.fixed 2).2) e (gotV (s.fixed 2).1 []) w' := by
  have HT := Lib.hid (fun W h => take_u16_any I s W h)
  have HI := Lib.hid h
  obtain ⟨v, hv⟩ : ∃ z, (s.fixed 2).1 = z := ⟨_, rfl⟩
  obtain ⟨s', hs'⟩ : ∃ z, (s.fixed 2).2 = z := ⟨_, rfl⟩
  have hlt := s.fixed_lt 2
  rw [hs', hv] at HT
  rw [hv] at hlt
  rw [hs', hv]
  clear h hv hs'
  unfold gotV
  have hv' : (v : Int) < 65536 := by omega
  clear hlt
  go_enter Try.func29, Try.ntmps29
  go_wp2_with fail
  refine (HT.out _ (HI.out.keep (by go_grown))).mono ?_
  rintro e w2 ⟨rfl, hI2, hU2⟩
  have vR : Var w2 (w.heap.size + 1) 72 #[.int .u64 0, .string ⟨#[]⟩] := Var.upd (Var.new' _ _ _ (by simp)) hU2 (by have := HI.out.lt; omega)
  have r0 : w2.cell? ⟨w.heap.size + 1, 0, none⟩ = some (.int .u64 0) := vR.cell 0
  have r1 : w2.cell? ⟨w.heap.size + 1, 1, none⟩ = some (.string ⟨#[]⟩) := vR.cell 1
  have f0 := vR.free 0
  have f1 := vR.free 1
  have hIR : w.heap.size + 1 ≠ I := by have := HI.out.lt; omega
  go_wp2_with fail
  refine bodyPost_ret (by simp [results, Try.results29, go_sem, *]; try rfl) rfl ?_
  exact ⟨rfl, (hI2.away vR hIR got_no _ _).away (vR.store 0 _) hIR got_no _ _, ((Upd.new ((Upd.of_below (by go_grown)).trans hU2) (by omega) _ _)).new (by omega) _ _⟩

set_option maxRecDepth 100000 in
theorem takes_5 (I : Nat) (s : Ist) (most : Int) (w : World) (h : InAt w I s) : Calls Try.prog 29 #[.pointer (some ⟨I, 0, none⟩), .agg #[.int .i64 5, .int .i64 most]] w fun e w' => Took I w ((s.fixed 4).2) e (gotV (sx .i32 (s.fixed 4).1) []) w' := by
  have HT := Lib.hid (fun W h => take_i32_any I s W h)
  have HI := Lib.hid h
  obtain ⟨v, hv⟩ : ∃ z, (s.fixed 4).1 = z := ⟨_, rfl⟩
  obtain ⟨s', hs'⟩ : ∃ z, (s.fixed 4).2 = z := ⟨_, rfl⟩
  have hlt := s.fixed_lt 4
  rw [hs', hv] at HT
  rw [hv] at hlt
  rw [hs', hv]
  clear h hv hs'
  unfold gotV
  have hsx := sx_eq .i32 v
  clear hlt
  go_enter Try.func29, Try.ntmps29
  go_wp2_with fail
  refine (HT.out _ (HI.out.keep (by go_grown))).mono ?_
  rintro e w2 ⟨rfl, hI2, hU2⟩
  have vR : Var w2 (w.heap.size + 1) 72 #[.int .u64 0, .string ⟨#[]⟩] := Var.upd (Var.new' _ _ _ (by simp)) hU2 (by have := HI.out.lt; omega)
  have r0 : w2.cell? ⟨w.heap.size + 1, 0, none⟩ = some (.int .u64 0) := vR.cell 0
  have r1 : w2.cell? ⟨w.heap.size + 1, 1, none⟩ = some (.string ⟨#[]⟩) := vR.cell 1
  have f0 := vR.free 0
  have f1 := vR.free 1
  have hIR : w.heap.size + 1 ≠ I := by have := HI.out.lt; omega
  go_wp2_with fail
  refine bodyPost_ret (by simp [results, Try.results29, go_sem, *]; try rfl) rfl ?_
  exact ⟨rfl, (hI2.away vR hIR got_no _ _).away (vR.store 0 _) hIR got_no _ _, ((Upd.new ((Upd.of_below (by go_grown)).trans hU2) (by omega) _ _)).new (by omega) _ _⟩

set_option maxRecDepth 100000 in
theorem takes_6 (I : Nat) (s : Ist) (most : Int) (w : World) (h : InAt w I s) : Calls Try.prog 29 #[.pointer (some ⟨I, 0, none⟩), .agg #[.int .i64 6, .int .i64 most]] w fun e w' => Took I w ((s.fixed 4).2) e (gotV (s.fixed 4).1 []) w' := by
  have HT := Lib.hid (fun W h => take_u32_any I s W h)
  have HI := Lib.hid h
  obtain ⟨v, hv⟩ : ∃ z, (s.fixed 4).1 = z := ⟨_, rfl⟩
  obtain ⟨s', hs'⟩ : ∃ z, (s.fixed 4).2 = z := ⟨_, rfl⟩
  have hlt := s.fixed_lt 4
  rw [hs', hv] at HT
  rw [hv] at hlt
  rw [hs', hv]
  clear h hv hs'
  unfold gotV
  have hv' : (v : Int) < 4294967296 := by omega
  clear hlt
  go_enter Try.func29, Try.ntmps29
  go_wp2_with fail
  refine (HT.out _ (HI.out.keep (by go_grown))).mono ?_
  rintro e w2 ⟨rfl, hI2, hU2⟩
  have vR : Var w2 (w.heap.size + 1) 72 #[.int .u64 0, .string ⟨#[]⟩] := Var.upd (Var.new' _ _ _ (by simp)) hU2 (by have := HI.out.lt; omega)
  have r0 : w2.cell? ⟨w.heap.size + 1, 0, none⟩ = some (.int .u64 0) := vR.cell 0
  have r1 : w2.cell? ⟨w.heap.size + 1, 1, none⟩ = some (.string ⟨#[]⟩) := vR.cell 1
  have f0 := vR.free 0
  have f1 := vR.free 1
  have hIR : w.heap.size + 1 ≠ I := by have := HI.out.lt; omega
  go_wp2_with fail
  refine bodyPost_ret (by simp [results, Try.results29, go_sem, *]; try rfl) rfl ?_
  exact ⟨rfl, (hI2.away vR hIR got_no _ _).away (vR.store 0 _) hIR got_no _ _, ((Upd.new ((Upd.of_below (by go_grown)).trans hU2) (by omega) _ _)).new (by omega) _ _⟩

set_option maxRecDepth 100000 in
theorem takes_7 (I : Nat) (s : Ist) (most : Int) (w : World) (h : InAt w I s) : Calls Try.prog 29 #[.pointer (some ⟨I, 0, none⟩), .agg #[.int .i64 7, .int .i64 most]] w fun e w' => Took I w ((s.fixed 8).2) e (gotV (sx .i64 (s.fixed 8).1) []) w' := by
  have HT := Lib.hid (fun W h => take_i64_any I s W h)
  have HI := Lib.hid h
  obtain ⟨v, hv⟩ : ∃ z, (s.fixed 8).1 = z := ⟨_, rfl⟩
  obtain ⟨s', hs'⟩ : ∃ z, (s.fixed 8).2 = z := ⟨_, rfl⟩
  have hlt := s.fixed_lt 8
  rw [hs', hv] at HT
  rw [hv] at hlt
  rw [hs', hv]
  clear h hv hs'
  unfold gotV
  have hsx := sx_eq .i64 v
  clear hlt
  go_enter Try.func29, Try.ntmps29
  go_wp2_with fail
  refine (HT.out _ (HI.out.keep (by go_grown))).mono ?_
  rintro e w2 ⟨rfl, hI2, hU2⟩
  have vR : Var w2 (w.heap.size + 1) 72 #[.int .u64 0, .string ⟨#[]⟩] := Var.upd (Var.new' _ _ _ (by simp)) hU2 (by have := HI.out.lt; omega)
  have r0 : w2.cell? ⟨w.heap.size + 1, 0, none⟩ = some (.int .u64 0) := vR.cell 0
  have r1 : w2.cell? ⟨w.heap.size + 1, 1, none⟩ = some (.string ⟨#[]⟩) := vR.cell 1
  have f0 := vR.free 0
  have f1 := vR.free 1
  have hIR : w.heap.size + 1 ≠ I := by have := HI.out.lt; omega
  go_wp2_with fail
  refine bodyPost_ret (by simp [results, Try.results29, go_sem, *]; try rfl) rfl ?_
  exact ⟨rfl, (hI2.away vR hIR got_no _ _).away (vR.store 0 _) hIR got_no _ _, ((Upd.new ((Upd.of_below (by go_grown)).trans hU2) (by omega) _ _)).new (by omega) _ _⟩

set_option maxRecDepth 100000 in
theorem takes_8 (I : Nat) (s : Ist) (most : Int) (w : World) (h : InAt w I s) : Calls Try.prog 29 #[.pointer (some ⟨I, 0, none⟩), .agg #[.int .i64 8, .int .i64 most]] w fun e w' => Took I w ((s.fixed 8).2) e (gotV (s.fixed 8).1 []) w' := by
  have HT := Lib.hid (fun W h => take_u64_any I s W h)
  have HI := Lib.hid h
  obtain ⟨v, hv⟩ : ∃ z, (s.fixed 8).1 = z := ⟨_, rfl⟩
  obtain ⟨s', hs'⟩ : ∃ z, (s.fixed 8).2 = z := ⟨_, rfl⟩
  have hlt := s.fixed_lt 8
  rw [hs', hv] at HT
  rw [hv] at hlt
  rw [hs', hv]
  clear h hv hs'
  unfold gotV
  have hv' : (v : Int) < 18446744073709551616 := by omega
  clear hlt
  go_enter Try.func29, Try.ntmps29
  go_wp2_with fail
  refine (HT.out _ (HI.out.keep (by go_grown))).mono ?_
  rintro e w2 ⟨rfl, hI2, hU2⟩
  have vR : Var w2 (w.heap.size + 1) 72 #[.int .u64 0, .string ⟨#[]⟩] := Var.upd (Var.new' _ _ _ (by simp)) hU2 (by have := HI.out.lt; omega)
  have r0 : w2.cell? ⟨w.heap.size + 1, 0, none⟩ = some (.int .u64 0) := vR.cell 0
  have r1 : w2.cell? ⟨w.heap.size + 1, 1, none⟩ = some (.string ⟨#[]⟩) := vR.cell 1
  have f0 := vR.free 0
  have f1 := vR.free 1
  have hIR : w.heap.size + 1 ≠ I := by have := HI.out.lt; omega
  go_wp2_with fail
  refine bodyPost_ret (by simp [results, Try.results29, go_sem, *]; try rfl) rfl ?_
  exact ⟨rfl, (hI2.away vR hIR got_no _ _).away (vR.store 0 _) hIR got_no _ _, ((Upd.new ((Upd.of_below (by go_grown)).trans hU2) (by omega) _ _)).new (by omega) _ _⟩

set_option maxRecDepth 100000 in
theorem takes_12 (I : Nat) (s : Ist) (most : Int) (w : World) (h : InAt w I s) : Calls Try.prog 29 #[.pointer (some ⟨I, 0, none⟩), .agg #[.int .i64 12, .int .i64 most]] w fun e w' => Took I w ((s.fixed 1).2) e (gotV (s.fixed 1).1 []) w' := by
  have HT := Lib.hid (fun W h => take_small_any I s W h)
  have HI := Lib.hid h
  obtain ⟨v, hv⟩ : ∃ z, (s.fixed 1).1 = z := ⟨_, rfl⟩
  obtain ⟨s', hs'⟩ : ∃ z, (s.fixed 1).2 = z := ⟨_, rfl⟩
  have hlt := s.fixed_lt 1
  rw [hs', hv] at HT
  rw [hv] at hlt
  rw [hs', hv]
  clear h hv hs'
  unfold gotV
  have hv' : (v : Int) < 256 := by omega
  clear hlt
  go_enter Try.func29, Try.ntmps29
  go_wp2_with fail
  refine (HT.out _ (HI.out.keep (by go_grown))).mono ?_
  rintro e w2 ⟨rfl, hI2, hU2⟩
  have vR : Var w2 (w.heap.size + 1) 72 #[.int .u64 0, .string ⟨#[]⟩] := Var.upd (Var.new' _ _ _ (by simp)) hU2 (by have := HI.out.lt; omega)
  have r0 : w2.cell? ⟨w.heap.size + 1, 0, none⟩ = some (.int .u64 0) := vR.cell 0
  have r1 : w2.cell? ⟨w.heap.size + 1, 1, none⟩ = some (.string ⟨#[]⟩) := vR.cell 1
  have f0 := vR.free 0
  have f1 := vR.free 1
  have hIR : w.heap.size + 1 ≠ I := by have := HI.out.lt; omega
  go_wp2_with fail
  refine bodyPost_ret (by simp [results, Try.results29, go_sem, *]; try rfl) rfl ?_
  exact ⟨rfl, (hI2.away vR hIR got_no _ _).away (vR.store 0 _) hIR got_no _ _, ((Upd.new ((Upd.of_below (by go_grown)).trans hU2) (by omega) _ _)).new (by omega) _ _⟩

set_option maxRecDepth 100000 in
theorem takes_9 (I : Nat) (s : Ist) (most : Int) (w : World) (h : InAt w I s) : Calls Try.prog 29 #[.pointer (some ⟨I, 0, none⟩), .agg #[.int .i64 9, .int .i64 most]] w fun e w' => Took I w (s.float.2) e (if nan s.float.1 then gotV 0 noneT else gotV s.float.1 []) w' := by
  have HT := Lib.hid (fun W h => float_any I s W h)
  have HI := Lib.hid h
  obtain ⟨v, hv⟩ : ∃ z, s.float.1 = z := ⟨_, rfl⟩
  obtain ⟨s', hs'⟩ : ∃ z, s.float.2 = z := ⟨_, rfl⟩
  rw [hs', hv] at HT
  rw [hs', hv]
  have hb := bits_any v
  clear h hv hs'
  cases hn : nan v
  · rw [if_neg Bool.false_ne_true]
    unfold nan at hn
    unfold gotV
    go_enter Try.func29, Try.ntmps29
    go_wp2_with fail
    refine (HT.out _ (HI.out.keep (by go_grown))).mono ?_
    rintro e w2 ⟨rfl, hI2, hU2⟩
    have vR : Var w2 (w.heap.size + 1) 72 #[.int .u64 0, .string ⟨#[]⟩] := Var.upd (Var.new' _ _ _ (by simp)) hU2 (by have := HI.out.lt; omega)
    have r0 : w2.cell? ⟨w.heap.size + 1, 0, none⟩ = some (.int .u64 0) := vR.cell 0
    have r1 : w2.cell? ⟨w.heap.size + 1, 1, none⟩ = some (.string ⟨#[]⟩) := vR.cell 1
    have f0 := vR.free 0
    have f1 := vR.free 1
    have hIR : w.heap.size + 1 ≠ I := by have := HI.out.lt; omega
    go_wp2_with fail
    refine bodyPost_ret (by simp [results, Try.results29, go_sem, *]; try rfl) rfl ?_
    exact ⟨rfl, (hI2.away vR hIR got_no _ _).away (vR.store 0 _) hIR got_no _ _, ((Upd.new ((Upd.of_below (by go_grown)).trans hU2) (by omega) _ _)).new (by omega) _ _⟩
  · rw [if_pos rfl]
    unfold nan at hn
    unfold gotV noneT
    go_enter Try.func29, Try.ntmps29
    go_wp2_with fail
    refine (HT.out _ (HI.out.keep (by go_grown))).mono ?_
    rintro e w2 ⟨rfl, hI2, hU2⟩
    have vR : Var w2 (w.heap.size + 1) 72 #[.int .u64 0, .string ⟨#[]⟩] := Var.upd (Var.new' _ _ _ (by simp)) hU2 (by have := HI.out.lt; omega)
    have r0 : w2.cell? ⟨w.heap.size + 1, 0, none⟩ = some (.int .u64 0) := vR.cell 0
    have r1 : w2.cell? ⟨w.heap.size + 1, 1, none⟩ = some (.string ⟨#[]⟩) := vR.cell 1
    have f0 := vR.free 0
    have f1 := vR.free 1
    have hIR : w.heap.size + 1 ≠ I := by have := HI.out.lt; omega
    go_wp2_with fail
    refine bodyPost_ret (by simp [results, Try.results29, go_sem, *]; try rfl) rfl ?_
    exact ⟨rfl, (hI2.away vR hIR got_no _ _).away (vR.store 0 _) hIR got_no _ _, ((Upd.new ((Upd.of_below (by go_grown)).trans hU2) (by omega) _ _)).new (by omega) _ _⟩

set_option maxRecDepth 100000 in
theorem takes_10 (I : Nat) (s : Ist) (most : Int) (w : World) (h : InAt w I s) : Calls Try.prog 29 #[.pointer (some ⟨I, 0, none⟩), .agg #[.int .i64 10, .int .i64 most]] w fun e w' => Took I w ((s.text most).2) e (gotV 0 (s.text most).1) w' := by
  have HT := Lib.hid (fun W h => ttext_any I s most W h)
  have HI := Lib.hid h
  obtain ⟨v, hv⟩ : ∃ z, (s.text most).1 = z := ⟨_, rfl⟩
  obtain ⟨s', hs'⟩ : ∃ z, (s.text most).2 = z := ⟨_, rfl⟩
  rw [hs', hv] at HT
  rw [hs', hv]
  clear h hv hs'
  unfold gotV
  go_enter Try.func29, Try.ntmps29
  go_wp2_with fail
  refine (HT.out _ (HI.out.keep (by go_grown))).mono ?_
  rintro e w2 ⟨rfl, hI2, hU2⟩
  have vR : Var w2 (w.heap.size + 1) 72 #[.int .u64 0, .string ⟨#[]⟩] := Var.upd (Var.new' _ _ _ (by simp)) hU2 (by have := HI.out.lt; omega)
  have r0 : w2.cell? ⟨w.heap.size + 1, 0, none⟩ = some (.int .u64 0) := vR.cell 0
  have r1 : w2.cell? ⟨w.heap.size + 1, 1, none⟩ = some (.string ⟨#[]⟩) := vR.cell 1
  have f0 := vR.free 0
  have f1 := vR.free 1
  have hIR : w.heap.size + 1 ≠ I := by have := HI.out.lt; omega
  go_wp2_with fail
  refine bodyPost_ret (by simp [results, Try.results29, go_sem, *]; try rfl) rfl ?_
  exact ⟨rfl, (hI2.away vR hIR got_no _ _).away (vR.store 0 _) hIR got_no _ _, ((Upd.new ((Upd.of_below (by go_grown)).trans hU2) (by omega) _ _)).new (by omega) _ _⟩

set_option maxRecDepth 100000 in
theorem takes_11 (I : Nat) (s : Ist) (most : Int) (w : World) (h : InAt w I s) : Calls Try.prog 29 #[.pointer (some ⟨I, 0, none⟩), .agg #[.int .i64 11, .int .i64 most]] w fun e w' => Took I w ((s.count most).2) e (gotV (s.count most).1 []) w' := by
  have HT := Lib.hid (fun W h => count_any I s most W h)
  have HI := Lib.hid h
  have hlt : (s.count most).1 < 65536 := by
    unfold Ist.count
    split
    · simp
    · exact s.fixed_lt 2
  obtain ⟨v, hv⟩ : ∃ z, (s.count most).1 = z := ⟨_, rfl⟩
  obtain ⟨s', hs'⟩ : ∃ z, (s.count most).2 = z := ⟨_, rfl⟩
  rw [hs', hv] at HT
  rw [hv] at hlt
  rw [hs', hv]
  have hv' : (v : Int) < 65536 := by omega
  clear h hv hs' hlt
  unfold gotV
  go_enter Try.func29, Try.ntmps29
  go_wp2_with fail
  refine (HT.out _ (HI.out.keep (by go_grown))).mono ?_
  rintro e w2 ⟨rfl, hI2, hU2⟩
  have vR : Var w2 (w.heap.size + 1) 72 #[.int .u64 0, .string ⟨#[]⟩] := Var.upd (Var.new' _ _ _ (by simp)) hU2 (by have := HI.out.lt; omega)
  have r0 : w2.cell? ⟨w.heap.size + 1, 0, none⟩ = some (.int .u64 0) := vR.cell 0
  have r1 : w2.cell? ⟨w.heap.size + 1, 1, none⟩ = some (.string ⟨#[]⟩) := vR.cell 1
  have f0 := vR.free 0
  have f1 := vR.free 1
  have hIR : w.heap.size + 1 ≠ I := by have := HI.out.lt; omega
  go_wp2_with fail
  refine bodyPost_ret (by simp [results, Try.results29, go_sem, *]; try rfl) rfl ?_
  exact ⟨rfl, (hI2.away vR hIR got_no _ _).away (vR.store 0 _) hIR got_no _ _, ((Upd.new ((Upd.of_below (by go_grown)).trans hU2) (by omega) _ _)).new (by omega) _ _⟩

set_option maxRecDepth 100000 in
theorem takes_other (a : Option Addr) (k most : Int) (hk : k < 1 ∨ 12 < k) (w : World) : Calls Try.prog 29 #[.pointer a, .agg #[.int .i64 k, .int .i64 most]] w fun e w' => e = .returned (gotV 0 []) ∧ Below w.heap.size w w' := by
  have n1 : ¬ k = 1 := by omega
  have b1 : (k == 1) = false := by simp [n1]
  have n2 : ¬ k = 2 := by omega
  have b2 : (k == 2) = false := by simp [n2]
  have n3 : ¬ k = 3 := by omega
  have b3 : (k == 3) = false := by simp [n3]
  have n4 : ¬ k = 4 := by omega
  have b4 : (k == 4) = false := by simp [n4]
  have n5 : ¬ k = 5 := by omega
  have b5 : (k == 5) = false := by simp [n5]
  have n6 : ¬ k = 6 := by omega
  have b6 : (k == 6) = false := by simp [n6]
  have n7 : ¬ k = 7 := by omega
  have b7 : (k == 7) = false := by simp [n7]
  have n8 : ¬ k = 8 := by omega
  have b8 : (k == 8) = false := by simp [n8]
  have n9 : ¬ k = 9 := by omega
  have b9 : (k == 9) = false := by simp [n9]
  have n10 : ¬ k = 10 := by omega
  have b10 : (k == 10) = false := by simp [n10]
  have n11 : ¬ k = 11 := by omega
  have b11 : (k == 11) = false := by simp [n11]
  have n12 : ¬ k = 12 := by omega
  have b12 : (k == 12) = false := by simp [n12]
  clear hk
  unfold gotV
  go_enter Try.func29, Try.ntmps29
  go_wp2_with fail
  refine bodyPost_ret (by simp [results, Try.results29, go_sem, *]; try rfl) rfl ?_
  exact ⟨rfl, by go_grown⟩

end Go.Proofs.Ytiejgandjlldjaa
