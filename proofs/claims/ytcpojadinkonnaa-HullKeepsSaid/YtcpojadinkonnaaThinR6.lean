/-
  The document's Thin.
-/
import Derived.Test.YtcpojadinkonnaaThinR5
import Derived.Test.YtcpojadinkonnaaTurnE
namespace Go.Proofs.Ytcpojadinkonnaa
open Go.RowKit

theorem eltB : Elt Try.prog 45 4 (.bool false) 1 1 := ⟨Try.underlying45, by kernel_rfl, rfl, by omega⟩
theorem made_bools (n : Nat) : madeCells (Value.bool false).cells n = (List.replicate n (Value.bool false)).toArray := by
  apply Array.ext
  · simp [madeCells]
  · intro i h1 h2
    simp [madeCells, Value.cells, Nat.mod_one]
/-- 'make([]bool, n)'. -/
theorem make_bools (n : Nat) (hn : n ≤ 200000000000000) (w : World) :
    (Instr.makeSlice 45 (.int .i64 (n : Int)) (.int .i64 (n : Int))).run Try.prog w = .ok (.slice (some ⟨w.heap.size, 0, none⟩) n n) (w.alloc (.cells (List.replicate n (Value.bool false)).toArray 4)) := by
  obtain ⟨i, hi, hz, hsz, hby⟩ := info_parts eltB.info
  have h := run_make (P := Try.prog) w 45 4 i (.bool false) Try.underlying45 hi hz .i64 .i64 (n : Int) (n : Int) (by omega) (by omega) (by rw [hby]; omega) (by omega)
  rw [h, hsz, Nat.mul_one, Int.toNat_natCast, made_bools]
theorem kept_new (w : World) (n : Nat) : KeptAt (w.alloc (.cells (Array.replicate n (Value.bool false)) 4)) w.heap.size n (fun _ => false) := by
  have h := Var.new w 4 (Array.replicate n (Value.bool false))
  unfold KeptAt
  refine Eq.trans h ?_
  congr 2
  apply Array.ext_getElem?
  intro i
  by_cases hi : i < n
  · simp [hi]
  · simp [hi]

set_option maxHeartbeats 4000000 in
set_option maxRecDepth 100000 in
theorem thin_zero (A : Option Addr) (c cg : Nat) (t : Int) (B : Option Addr) (w : World) :
    Calls Try.prog 36 #[.slice A 0 c, .int .i64 0, .int .i64 (-1), .int .i64 t, .slice B 0 cg] w fun e w' => (∃ v, e = .returned v) ∧ Below w.heap.size w w' := by
  go_enter Try.func36, Try.ntmps36
  go_wp2_with fail
  go_loopw [10, 13] (fun a k wr => a = .int .i64 (-1) ∧ k = .int .i64 1 ∧ Below w.heap.size w wr) (fun _ _ _ => 0)
  case atStart => exact ⟨rfl, rfl, by go_grown⟩
  case round =>
    obtain ⟨rfl, rfl, hB⟩ := hrel
    have hzw := hB.size
    go_wp2_with fail
    have hq_wr := @wd_cell wr
    refine wp_region_wd (by kernel_rfl) (by kernel_rfl) ?_
    repeat (go_big_quiet_step (fail))
    refine wpQuiet_nil ?_
    rintro w7 ⟨⟨wx, hb_w7⟩, hwx⟩
    obtain rfl : w7 = wx := hwx
    clear hq_wr
    have hz_w7 := hb_w7.size
    obtain ⟨hc_w7, hf_w7⟩ := bcell hb_w7
    have H7 := Lib.hid hb_w7
    have hz := hB.size
    go_wp2_with fail
    refine bodyPost_ret (results_none rfl _ _ _) rfl ?_
    exact ⟨⟨_, rfl⟩, hB.trans (H7.out.mono hz)⟩

theorem inB_iff (p : Pt) : inB p.1 p.2 = true ↔ IL p := by
  unfold inB IL
  simp
/-- What Thin tells. -/
def BadTol (t : Int) : Prop := t < 0 ∨ 3037000498 < t
open Classical in
noncomputable def tcode (ps : List Pt) (t : Int) : Int := if 4096 < ps.length then 4 else if BadTol t then 2 else if IsL ps then 0 else 190
noncomputable def tlist (ps : List Pt) (t : Int) : List Pt := if tcode ps t = 0 then thinF ps t else []
theorem tlist_bad {ps : List Pt} {t c : Int} (h : tcode ps t = c) (hc : c ≠ 0) : tlist ps t = [] := by unfold tlist; rw [if_neg (by omega)]
theorem tlist_ok {ps : List Pt} {t : Int} (h : tcode ps t = 0) : tlist ps t = thinF ps t := by unfold tlist; rw [if_pos h]
theorem tcode_long {ps : List Pt} {t : Int} (h : 4096 < ps.length) : tcode ps t = 4 := by unfold tcode; rw [if_pos h]
theorem tcode_tol {ps : List Pt} {t : Int} (h : ¬ 4096 < ps.length) (ht : BadTol t) : tcode ps t = 2 := by unfold tcode; rw [if_neg h, if_pos ht]
theorem tcode_out {ps : List Pt} {t : Int} (h : ¬ 4096 < ps.length) (ht : ¬ BadTol t) (hp : ¬ IsL ps) : tcode ps t = 190 := by unfold tcode; rw [if_neg h, if_neg ht, if_neg hp]
theorem tcode_ok {ps : List Pt} {t : Int} (h : ¬ 4096 < ps.length) (ht : ¬ BadTol t) (hp : IsL ps) : tcode ps t = 0 := by unfold tcode; rw [if_neg h, if_neg ht, if_pos hp]
theorem gp_mem {ps : List Pt} {k : Nat} (h : k < ps.length) : gp ps k ∈ ps := by
  unfold gp
  rw [List.getElem?_eq_getElem h]
  exact List.getElem_mem h
theorem isL_all {ps : List Pt} (h : ∀ k, k < ps.length → IL (gp ps k)) : IsL ps := fun p hp => by
  obtain ⟨k, hk, rfl⟩ := List.getElem_of_mem hp
  have := h k hk
  unfold gp at this
  rwa [List.getElem?_eq_getElem hk] at this
theorem own_none (w : World) : w.ownsRow w.heap.size 32 2 (.slice none 0 0) 0 (flat []) := World.ownsRow_nil _ _ _ _

end Go.Proofs.Ytcpojadinkonnaa
