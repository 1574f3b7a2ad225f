/-
  Package wire: In: Read, right, fail, some, At, Fault, End.
-/
import Derived.Test.YtiejgandjlldjaaOut
import Derived.Test.YtiejgandjlldjaaTail
namespace Go.Proofs.Ytiejgandjlldjaa
open Go.RowKit

/-- Bytes that are taken off: the bytes, how many were taken, the fault. -/
structure Ist where
  l : List UInt8
  at_ : Nat
  code : Nat
def InAt (w : World) (I : Nat) (s : Ist) : Prop := ∃ A c, Var w I 69 #[.slice A s.l.length c, .int .i64 (s.at_ : Int), .int .i64 (s.code : Int)] ∧ Bs w A s.l.length c s.l ∧ s.at_ ≤ s.l.length
theorem in_no {w : World} {I : Nat} {A : Option Addr} {n c : Nat} {x y : Int} (h : Var w I 69 #[.slice A n c, .int .i64 x, .int .i64 y]) : ∀ o b, w.cell? ⟨I, o, none⟩ ≠ some (B8 b) := fun o b e => by
  rw [h.cell o] at e
  match o, e with
  | 0, e => simp [B8] at e
  | 1, e => simp [B8] at e
  | 2, e => simp [B8] at e
  | o + 3, e => simp at e
theorem InAt.lt {w : World} {I : Nat} {s : Ist} (h : InAt w I s) : I < w.heap.size := by obtain ⟨A, c, hv, _⟩ := h; exact hv.lt
theorem InAt.keep {w w' : World} {I : Nat} {s : Ist} (h : InAt w I s) (hb : Below w.heap.size w w') : InAt w' I s := by obtain ⟨A, c, hv, hs, h1⟩ := h; exact ⟨A, c, hv.keep hb, hs.below hb, h1⟩

/-- A part of a slice. -/
theorem Bs.sub {w : World} {A : Option Addr} {n c : Nat} {l : List UInt8} (h : Bs w A n c l) {lo hi : Nat} (h1 : lo ≤ hi) (h2 : hi ≤ n) : Bs w (if c = lo then A else A.map (·.add (lo * 1))) (hi - lo) (c - lo) ((l.take hi).drop lo) := by
  have hl := h.len
  have hc := h.cap
  have hb := h.big
  refine ⟨by rw [List.length_drop, List.length_take]; omega, by omega, by omega, ?_⟩
  rcases h.at_ with h0 | ⟨g, o, rfl, hg, hat⟩
  · exact .inl (by omega)
  · by_cases hcl : c = lo
    · exact .inl (by omega)
    · rw [if_neg hcl]
      refine .inr ⟨g, o + lo, ?_, hg, fun j b hj => ?_⟩
      · unfold Addr.add
        by_cases h0 : lo = 0
        · subst h0; simp
        · simp [h0]
      · rw [List.getElem?_drop] at hj
        rw [Nat.add_assoc]
        by_cases hlt : lo + j < hi
        · rw [List.getElem?_take_of_lt hlt] at hj
          exact hat _ _ hj
        · rw [List.getElem?_eq_none (by rw [List.length_take]; omega)] at hj
          cases hj

theorem right_none (w : World) :
    Calls Try.prog 92 #[.pointer none] w fun e w' => e = .returned (.bool false) ∧ Below w.heap.size w w' := by
  go_enter Try.func92, Try.ntmps92
  go_wp2
  go_ret
  exact ⟨rfl, by go_grown⟩
theorem right_any (I : Nat) (s : Ist) (w : World) (h : InAt w I s) :
    Calls Try.prog 92 #[.pointer (some ⟨I, 0, none⟩)] w fun e w' => e = .returned (.bool (s.code == 0)) ∧ Below w.heap.size w w' := by
  obtain ⟨A, c, hv, hs, hat⟩ := h
  have c2 : w.cell? ⟨I, 2, none⟩ = some (.int .i64 (s.code : Int)) := hv.cell 2
  obtain ⟨code, hcode⟩ : ∃ z, s.code = z := ⟨_, rfl⟩
  rw [hcode] at c2 ⊢
  clear hcode hv hs hat
  cases h0 : code == 0
  · have h1 : ((code : Int) == 0) = false := by simp at h0 ⊢; omega
    have h2 : decide ((code : Int) = 0) = false := by simp at h0 ⊢; omega
    go_enter Try.func92, Try.ntmps92
    go_wp2
    go_ret
    exact ⟨rfl, by go_grown⟩
  · obtain rfl : code = 0 := by simpa using h0
    go_enter Try.func92, Try.ntmps92
    go_wp2
    go_ret
    exact ⟨rfl, by go_grown⟩

set_option maxRecDepth 100000 in
theorem fail_any (I : Nat) (s : Ist) (at_ code : Nat) (w : World) (h : InAt w I s) (hat : at_ ≤ s.l.length) :
    Calls Try.prog 90 #[.pointer (some ⟨I, 0, none⟩), .int .i64 (at_ : Int), .int .i64 (code : Int)] w fun e w' => Void e ∧ InAt w' I ⟨s.l, at_, code⟩ ∧ Upd I w w' := by
  obtain ⟨A, c, hv, hs, hat'⟩ := h
  have c1 : w.cell? ⟨I, 1, none⟩ = some (.int .i64 (s.at_ : Int)) := hv.cell 1
  have c2 : w.cell? ⟨I, 2, none⟩ = some (.int .i64 (s.code : Int)) := hv.cell 2
  have f1 := hv.free 1
  have f2 := hv.free 2
  go_enter Try.func90, Try.ntmps90
  go_wp2
  go_end0
  have hv1 := hv.store 1 (.int .i64 (at_ : Int))
  exact ⟨⟨_, rfl⟩, ⟨A, c, hv1.store 2 (.int .i64 (code : Int)), bs_upd (bs_upd hs (Upd.set _) (in_no hv)) (Upd.set _) (in_no hv1), hat⟩, (Upd.set _).trans (Upd.set _)⟩

theorem at_none (w : World) : Calls Try.prog 32 #[.pointer none] w fun e w' => e = .returned (.int .i64 0) ∧ Below w.heap.size w w' := by
  go_enter Try.func32, Try.ntmps32
  go_wp2
  go_ret
  exact ⟨rfl, by go_grown⟩
theorem at_any (I : Nat) (s : Ist) (w : World) (h : InAt w I s) : Calls Try.prog 32 #[.pointer (some ⟨I, 0, none⟩)] w fun e w' => e = .returned (.int .i64 (s.at_ : Int)) ∧ Below w.heap.size w w' := by
  obtain ⟨A, c, hv, hs, hat'⟩ := h
  have c1 : w.cell? ⟨I, 1, none⟩ = some (.int .i64 (s.at_ : Int)) := hv.cell 1
  go_enter Try.func32, Try.ntmps32
  go_wp2
  go_ret
  exact ⟨rfl, by go_grown⟩

set_option maxRecDepth 100000 in
theorem read_any (A : Option Addr) (n c : Nat) (l : List UInt8) (w : World) (hs : Bs w A n c l) (hlen : n ≤ 225000000000000) :
    Calls Try.prog 27 #[.slice A n c] w fun e w' => ∃ I, e = .returned (.pointer (some ⟨I, 0, none⟩)) ∧ w.heap.size ≤ I ∧ InAt w' I ⟨l, 0, 0⟩ ∧ Below w.heap.size w w' := by
  have H := Lib.hid (clone_any A n c l w hs hlen)
  have hl := hs.len
  subst hl
  clear hlen hs
  go_enter Try.func27, Try.ntmps27
  go_wp2_with fail
  refine (H.out).mono ?_
  rintro e w1 ⟨A', c', rfl, ⟨hb1, hown⟩, hb_w1⟩
  obtain ⟨hc_w1, hf_w1⟩ := bcell hb_w1
  have hz_w1 := hb_w1.size
  try simp at hz_w1
  have hB_w1 : Below w.heap.size w w1 := Below.trans (by go_grown) (hb_w1.mono (by go_size))
  go_wp2_with fail
  go_ret
  exact ⟨w1.heap.size, rfl, hb_w1.size, ⟨A', c', Var.new _ _ _, hb1.below (by go_grown), Nat.zero_le _⟩, by go_grown⟩

theorem fault_none (w : World) : Calls Try.prog 31 #[.pointer none] w fun e w' => e = .returned (.tuple #[.int .i64 0, .int .i64 1]) ∧ Below w.heap.size w w' := by
  go_enter Try.func31, Try.ntmps31
  go_wp2
  go_ret2
  exact ⟨rfl, by go_grown⟩
def faultOf (s : Ist) : Nat := if s.code = 0 then 0 else s.at_
theorem fault_any (I : Nat) (s : Ist) (w : World) (h : InAt w I s) : Calls Try.prog 31 #[.pointer (some ⟨I, 0, none⟩)] w fun e w' => e = .returned (.tuple #[.int .i64 (faultOf s : Int), .int .i64 (s.code : Int)]) ∧ Below w.heap.size w w' := by
  obtain ⟨A, c, hv, hs, hat⟩ := h
  have c1 : w.cell? ⟨I, 1, none⟩ = some (.int .i64 (s.at_ : Int)) := hv.cell 1
  have c2 : w.cell? ⟨I, 2, none⟩ = some (.int .i64 (s.code : Int)) := hv.cell 2
  unfold faultOf
  have hlt := hv.lt
  obtain ⟨code, hcode⟩ : ∃ z, s.code = z := ⟨_, rfl⟩
  obtain ⟨at_, hat'⟩ : ∃ z, s.at_ = z := ⟨_, rfl⟩
  rw [hcode] at c2 ⊢
  rw [hat'] at c1 ⊢
  clear hcode hv hs hat hat'
  rcases Nat.eq_zero_or_pos code with h0 | h0
  · subst h0
    go_enter Try.func31, Try.ntmps31
    go_wp2
    go_ret2
    exact ⟨rfl, by go_grown⟩
  · have h1 : ((code : Int) == 0) = false := by simp; omega
    have h2 : ¬ (code : Int) = 0 := by omega
    have h3 : ¬ code = 0 := by omega
    rw [if_neg h3]
    go_enter Try.func31, Try.ntmps31
    go_wp2_with fail
    have hq_w := @wd_cell w
    refine wp_region_wd (by kernel_rfl) (by kernel_rfl) ?_
    repeat (go_big_quiet_step (fail))
    refine wpQuiet_nil ?_
    rintro w4 ⟨⟨wx, hb_w4⟩, hwx⟩
    obtain rfl : w4 = wx := hwx
    clear hq_w
    have hz_w4 := hb_w4.size
    obtain ⟨hc_w4, hf_w4⟩ := bcell hb_w4
    have hB_w4 : Below w.heap.size w w4 := Below.trans (by go_grown) (hb_w4.mono (by go_size))
    have hs_w4_0 : I < w4.heap.size := Nat.lt_of_lt_of_le (by assumption) hb_w4.size
    go_wp2_with fail
    go_ret2
    exact ⟨rfl, by go_grown⟩

def endOf (s : Ist) : Nat := if s.code = 0 ∧ s.at_ < s.l.length then 32 else s.code
set_option maxRecDepth 100000 in
theorem end_none (w : World) : Calls Try.prog 33 #[.pointer none] w fun e w' => e = .returned (.int .i64 1) ∧ Below w.heap.size w w' := by
  have H := Lib.hid (fault_none w)
  go_enter Try.func33, Try.ntmps33
  go_wp2_with fail
  refine (H.out).mono ?_
  rintro e w1 ⟨rfl, hb_w1⟩
  obtain ⟨hc_w1, hf_w1⟩ := bcell hb_w1
  have hz_w1 := hb_w1.size
  try simp at hz_w1
  have hB_w1 : Below w.heap.size w w1 := Below.trans (by go_grown) (hb_w1.mono (by go_size))
  go_wp2_with fail
  have hq_w1 := @wd_cell w1
  refine wp_region_wd (by kernel_rfl) (by kernel_rfl) ?_
  repeat (go_big_quiet_step (fail))
  refine wpQuiet_nil ?_
  rintro w4 ⟨⟨wx, hb_w4⟩, hwx⟩
  obtain rfl : w4 = wx := hwx
  clear hq_w1
  have hz_w4 := hb_w4.size
  obtain ⟨hc_w4, hf_w4⟩ := bcell hb_w4
  have hB_w4 : Below w.heap.size w w4 := Below.trans (by go_grown) (hb_w4.mono (by go_size))
  go_wp2_with fail
  go_ret
  exact ⟨rfl, by go_grown⟩
set_option maxRecDepth 100000 in
theorem end_any (I : Nat) (s : Ist) (w : World) (h : InAt w I s) : Calls Try.prog 33 #[.pointer (some ⟨I, 0, none⟩)] w fun e w' => e = .returned (.int .i64 (endOf s : Int)) ∧ Below w.heap.size w w' := by
  have H := Lib.hid (fault_any I s w h)
  obtain ⟨A, c, hv, hs, hat⟩ := h
  have c0 : w.cell? ⟨I, 0, none⟩ = some (.slice A s.l.length c) := hv.cell 0
  have c1 : w.cell? ⟨I, 1, none⟩ = some (.int .i64 (s.at_ : Int)) := hv.cell 1
  have hlt := hv.lt
  unfold endOf
  obtain ⟨code, hcode⟩ : ∃ z, s.code = z := ⟨_, rfl⟩
  obtain ⟨at_, hat'⟩ : ∃ z, s.at_ = z := ⟨_, rfl⟩
  obtain ⟨n, hn⟩ : ∃ z, s.l.length = z := ⟨_, rfl⟩
  obtain ⟨f, hf⟩ : ∃ z, faultOf s = z := ⟨_, rfl⟩
  rw [hat'] at c1 hat
  rw [hn] at c0 hat
  rw [hcode, hat', hn]
  rw [hf, hcode] at H
  clear hcode hv hs hat' hf hn
  rcases Nat.eq_zero_or_pos code with h0 | h0
  · subst h0
    rcases Nat.lt_or_ge at_ n with hl | hl
    · rw [if_pos ⟨rfl, hl⟩]
      have hd : decide ((at_ : Int) < (n : Int)) = true := by simp; omega
      have hd2 : decide (at_ < n) = true := by simp; omega
      go_enter Try.func33, Try.ntmps33
      go_wp2_with fail
      refine (H.out).mono ?_
      rintro e w1 ⟨rfl, hb_w1⟩
      obtain ⟨hc_w1, hf_w1⟩ := bcell hb_w1
      have hz_w1 := hb_w1.size
      try simp at hz_w1
      have hB_w1 : Below w.heap.size w w1 := Below.trans (by go_grown) (hb_w1.mono (by go_size))
      have hs_w1_0 : I < w1.heap.size := by omega
      have c01 := (hc_w1 I 0 hlt).trans c0
      have c11 := (hc_w1 I 1 hlt).trans c1
      go_wp2_with fail
      have hq_w1 := @wd_cell w1
      refine wp_region_wd (by kernel_rfl) (by kernel_rfl) ?_
      repeat (go_big_quiet_step (fail))
      refine wpQuiet_nil ?_
      rintro w4 ⟨⟨wx, hb_w4⟩, hwx⟩
      obtain rfl : w4 = wx := hwx
      clear hq_w1
      have hz_w4 := hb_w4.size
      obtain ⟨hc_w4, hf_w4⟩ := bcell hb_w4
      have hB_w4 : Below w.heap.size w w4 := Below.trans (by go_grown) (hb_w4.mono (by go_size))
      have hs_w4_0 : I < w4.heap.size := Nat.lt_of_lt_of_le (by assumption) hb_w4.size
      go_wp2_with fail
      go_ret
      exact ⟨rfl, by go_grown⟩
    · rw [if_neg (by omega)]
      have hd : decide ((at_ : Int) < (n : Int)) = false := by simp; omega
      have hd2 : decide (at_ < n) = false := by simp; omega
      go_enter Try.func33, Try.ntmps33
      go_wp2_with fail
      refine (H.out).mono ?_
      rintro e w1 ⟨rfl, hb_w1⟩
      obtain ⟨hc_w1, hf_w1⟩ := bcell hb_w1
      have hz_w1 := hb_w1.size
      try simp at hz_w1
      have hB_w1 : Below w.heap.size w w1 := Below.trans (by go_grown) (hb_w1.mono (by go_size))
      have hs_w1_0 : I < w1.heap.size := by omega
      have c01 := (hc_w1 I 0 hlt).trans c0
      have c11 := (hc_w1 I 1 hlt).trans c1
      go_wp2_with fail
      have hq_w1 := @wd_cell w1
      refine wp_region_wd (by kernel_rfl) (by kernel_rfl) ?_
      repeat (go_big_quiet_step (fail))
      refine wpQuiet_nil ?_
      rintro w4 ⟨⟨wx, hb_w4⟩, hwx⟩
      obtain rfl : w4 = wx := hwx
      clear hq_w1
      have hz_w4 := hb_w4.size
      obtain ⟨hc_w4, hf_w4⟩ := bcell hb_w4
      have hB_w4 : Below w.heap.size w w4 := Below.trans (by go_grown) (hb_w4.mono (by go_size))
      have hs_w4_0 : I < w4.heap.size := Nat.lt_of_lt_of_le (by assumption) hb_w4.size
      go_wp2_with fail
      go_ret
      exact ⟨rfl, by go_grown⟩
  · rw [if_neg (by omega)]
    have h1 : ((code : Int) == 0) = false := by simp; omega
    have h2 : ¬ (code : Int) = 0 := by omega
    go_enter Try.func33, Try.ntmps33
    go_wp2_with fail
    refine (H.out).mono ?_
    rintro e w1 ⟨rfl, hb_w1⟩
    obtain ⟨hc_w1, hf_w1⟩ := bcell hb_w1
    have hz_w1 := hb_w1.size
    try simp at hz_w1
    have hB_w1 : Below w.heap.size w w1 := Below.trans (by go_grown) (hb_w1.mono (by go_size))
    have hs_w1_0 : I < w1.heap.size := by omega
    go_wp2_with fail
    have hq_w1 := @wd_cell w1
    refine wp_region_wd (by kernel_rfl) (by kernel_rfl) ?_
    repeat (go_big_quiet_step (fail))
    refine wpQuiet_nil ?_
    rintro w4 ⟨⟨wx, hb_w4⟩, hwx⟩
    obtain rfl : w4 = wx := hwx
    clear hq_w1
    have hz_w4 := hb_w4.size
    obtain ⟨hc_w4, hf_w4⟩ := bcell hb_w4
    have hB_w4 : Below w.heap.size w w4 := Below.trans (by go_grown) (hb_w4.mono (by go_size))
    have hs_w4_0 : I < w4.heap.size := Nat.lt_of_lt_of_le (by assumption) hb_w4.size
    go_wp2_with fail
    go_ret
    exact ⟨rfl, by go_grown⟩

end Go.Proofs.Ytiejgandjlldjaa
