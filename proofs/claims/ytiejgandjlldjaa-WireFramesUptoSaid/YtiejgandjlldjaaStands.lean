/-
  The law's stands; a slice made and copied into; blocks that hold no bytes.
-/
import Derived.Test.YtiejgandjlldjaaTaken
import Derived.Laws.CopyRow
import Derived.Laws.MakeOwn
import Derived.Deep.WholeRow
namespace Go.Proofs.Ytiejgandjlldjaa
open Go.RowKit

/-- No cell of block X is a byte. -/
def NoB (w : World) (X : Nat) : Prop := ∀ o b, w.cell? ⟨X, o, none⟩ ≠ some (B8 b)
theorem InAt.noB {w : World} {I : Nat} {s : Ist} (h : InAt w I s) : NoB w I := by obtain ⟨A, c, hv, _⟩ := h; exact in_no hv
theorem RInAt.noB {w : World} {I : Nat} {s : Ist} (h : RInAt w I s) : NoB w I := by obtain ⟨A, c, hv, _⟩ := h; exact rin_no hv
theorem InAt.upd {w w' : World} {X I : Nat} {s : Ist} (h : InAt w I s) (hn : NoB w X) (hu : Upd X w w') (hne : I ≠ X) : InAt w' I s := by
  obtain ⟨A, c, hv, hs, hat⟩ := h
  exact ⟨A, c, hv.upd hu hne, bs_upd hs hu hn, hat⟩
theorem RInAt.upd {w w' : World} {X I : Nat} {s : Ist} (h : RInAt w I s) (hn : NoB w X) (hu : Upd X w w') (hne : I ≠ X) : RInAt w' I s := by
  obtain ⟨A, c, hv, hs, hat⟩ := h
  exact ⟨A, c, hv.upd hu hne, bs_upd hs hu hn, hat⟩

set_option maxRecDepth 100000 in
theorem stands_any (I R : Nat) (s : Ist) (w : World) (hI : InAt w I s) (hR : RInAt w R s) :
    Calls Try.prog 28 #[.pointer (some ⟨I, 0, none⟩), .pointer (some ⟨R, 0, none⟩)] w fun e w' => e = .returned (.bool true) ∧ Below w.heap.size w w' := by
  have HF := Lib.hid (fault_any I s w hI)
  have HA : Hid (∀ W, Below w.heap.size w W → Calls Try.prog 32 #[.pointer (some ⟨I, 0, none⟩)] W fun e w' => e = .returned (.int .i64 (s.at_ : Int)) ∧ Below W.heap.size W w') := Lib.hid (fun W h => at_any I s W (hI.keep h))
  have HE : Hid (∀ W, Below w.heap.size w W → Calls Try.prog 33 #[.pointer (some ⟨I, 0, none⟩)] W fun e w' => e = .returned (.int .i64 (endOf s : Int)) ∧ Below W.heap.size W w') := Lib.hid (fun W h => end_any I s W (hI.keep h))
  have HR : Hid (∀ W, Below w.heap.size w W → Calls Try.prog 59 #[.pointer (some ⟨R, 0, none⟩)] W fun e w' => e = .returned (.int .i64 (endOf s : Int)) ∧ Below W.heap.size W w') := Lib.hid (fun W h => rend_any R s W (hR.keep h))
  have c1 := hR.c1
  have c2 := hR.c2
  have c3 := hR.c3
  have hlt := hR.lt
  obtain ⟨a, ha⟩ : ∃ z, s.at_ = z := ⟨_, rfl⟩
  obtain ⟨b, hb⟩ : ∃ z, s.code = z := ⟨_, rfl⟩
  obtain ⟨c, hc⟩ : ∃ z, faultOf s = z := ⟨_, rfl⟩
  obtain ⟨d, hd⟩ : ∃ z, endOf s = z := ⟨_, rfl⟩
  rw [ha] at c1 HA
  rw [hb] at c2 HF
  rw [hc] at c3 HF
  rw [hd] at HE HR
  clear ha hb hc hd hI hR
  go_enter Try.func28, Try.ntmps28
  go_wp2_with fail
  refine (HF.out).mono ?_
  rintro e w1 ⟨rfl, hb_w1⟩
  obtain ⟨hc_w1, hf_w1⟩ := bcell hb_w1
  have hz_w1 := hb_w1.size
  try simp at hz_w1
  have hB_w1 : Below w.heap.size w w1 := Below.trans (by go_grown) (hb_w1.mono (by go_size))
  have hs_w1_0 : R < w1.heap.size := by omega
  have c11 := (hc_w1 R 1 hlt).trans c1
  have c21 := (hc_w1 R 2 hlt).trans c2
  have c31 := (hc_w1 R 3 hlt).trans c3
  go_wp2_with fail
  have hq_w1 := @wd_cell w1
  refine wp_region_wd (by kernel_rfl) (by kernel_rfl) ?_
  repeat (go_big_quiet_step ((first | (go_at_call 32; with_reducible exact quiet_wd (HA.out _ (hb_w1.trans ((Wd.h _).mono hb_w1.size)))))))
  refine wpQuiet_nil ?_
  rintro w2 ⟨⟨wx, hb_w2⟩, hwx⟩
  obtain rfl : w2 = wx := hwx
  clear hq_w1
  have hz_w2 := hb_w2.size
  obtain ⟨hc_w2, hf_w2⟩ := bcell hb_w2
  have hB_w2 : Below w.heap.size w w2 := Below.trans (by go_grown) (hb_w2.mono (by go_size))
  have hs_w2_0 : R < w2.heap.size := Nat.lt_of_lt_of_le (by assumption) hb_w2.size
  go_wp2_with fail
  have hb12 := hb_w1.trans (hb_w2.mono hb_w1.size)
  refine (HE.out _ hb12).mono ?_
  rintro e w3 ⟨rfl, hb_w3⟩
  obtain ⟨hc_w3, hf_w3⟩ := bcell hb_w3
  have hz_w3 := hb_w3.size
  try simp at hz_w3
  have hb13 := hb12.trans (hb_w3.mono hb12.size)
  go_wp2_with fail
  refine (HR.out _ hb13).mono ?_
  rintro e w4 ⟨rfl, hb_w4⟩
  obtain ⟨hc_w4, hf_w4⟩ := bcell hb_w4
  have hz_w4 := hb_w4.size
  try simp at hz_w4
  go_wp2_with fail
  go_ret
  exact ⟨rfl, hb13.trans (hb_w4.mono hb13.size)⟩

theorem made_bytes (n : Nat) : madeCells (Value.int .u8 0).cells n = (List.replicate n (B8 0)).toArray := by
  apply Array.ext
  · simp [madeCells]
  · intro i h1 h2
    simp [madeCells, Value.cells, B8, Nat.mod_one]
/-- 'make([]byte, n)'. -/
theorem make_bytes (n : Nat) (hn : n ≤ 200000000000000) (w : World) :
    (Instr.makeSlice 23 (.int .i64 (n : Int)) (.int .i64 (n : Int))).run Try.prog w = .ok (.slice (some ⟨w.heap.size, 0, none⟩) n n) (w.alloc (.cells (List.replicate n (B8 0)).toArray 5)) := by
  obtain ⟨i, hi, hz, hsz, hby⟩ := info_parts elt8.info
  have h := run_make (P := Try.prog) w 23 5 i (.int .u8 0) Try.underlying23 hi hz .i64 .i64 (n : Int) (n : Int) (by omega) (by omega) (by rw [hby]; omega) (by omega)
  rw [h, hsz, Nat.mul_one, Int.toNat_natCast, made_bytes]
set_option maxRecDepth 100000 in
/-- 'copy(in, b)' into a row that was just made. -/
theorem copy_bytes (ty : TypeId) (L C : Nat) (B : Option Addr) (m d : Nat) (k : List UInt8) (w : World) (hb : Bs w B m d k) (hd : B = none → d = 0) (hL : m ≤ L) :
    (Builtin.copy_ #[23, 23] ty #[.slice (some ⟨w.heap.size, 0, none⟩) L C, .slice B m d]).run Try.prog (w.alloc (.cells (List.replicate L (B8 0)).toArray 5)) =
      .ok (.int .i64 (m : Int)) (w.alloc (.cells (k.map B8 ++ List.replicate (L - m) (B8 0)).toArray 5)) := by
  obtain ⟨i, hi, hz, hsz, hby⟩ := info_parts elt8.info
  have hl := hb.len
  cases B with
  | none =>
    obtain rfl := hd rfl
    have h0 : m = 0 := by
      rcases hb.at_ with h | ⟨g, o, e, _⟩
      · exact h
      · cases e
    subst h0
    have hk : k = [] := List.eq_nil_of_length_eq_zero hl
    subst hk
    exact run_copy_nil (P := Try.prog) _ 23 23 ty 5 _ L C Try.underlying23 (by rw [hi]; rfl)
  | some a =>
    have h := run_copy_row (P := Try.prog) (w.alloc (.cells (List.replicate L (B8 0)).toArray 5)) 23 23 ty 5 w.heap.size 0 L C a m d (List.replicate L (B8 0)).toArray 5 (k.map B8)
      Try.underlying23 (by rw [hi]; simp [hsz]) (Var.new w _ _) (by rw [List.length_map, hl]; exact (Nat.min_eq_left hL).symm) (fun j v hj => ?_) (by simp [hl]; omega) (fun u hu => by obtain ⟨b, _, rfl⟩ := List.mem_map.1 hu; rfl)
    · rw [h, World.setRow_alloc_new]
      simp [goInt, hl]
    · have hlt : j < k.length := by
        rcases Nat.lt_or_ge j k.length with h0 | h0
        · exact h0
        · rw [List.getElem?_eq_none (by simpa using h0)] at hj; cases hj
      obtain ⟨b, hkj, rfl⟩ := map_get hj
      rcases hb.at_ with h0 | ⟨g, o, e, hg, hc⟩
      · omega
      · injection e with e
        subst e
        have ha : ((⟨g, o, none⟩ : Addr).add j) = ⟨g, o + j, none⟩ := by
          unfold Addr.add
          by_cases hj0 : j = 0 <;> simp [hj0]
        rw [ha, World.cell?_of_block (a := ⟨g, o + j, none⟩) (Below.heap_alloc w _ g hg)]
        exact hc j b hkj

end Go.Proofs.Ytiejgandjlldjaa
