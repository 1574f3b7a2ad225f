/-
  Package wire: length, whole.
-/
import Derived.Test.YtiejgandjlldjaaCrc
import Derived.Test.YtiejgandjlldjaaIn
namespace Go.Proofs.Ytiejgandjlldjaa
open Go.RowKit

theorem or_disj {v b k : Nat} (hv : v < 2 ^ k) : v ||| b * 2 ^ k = v + b * 2 ^ k := by
  rw [Nat.or_comm, Nat.mul_comm, ← Nat.two_pow_add_eq_or_of_lt hv, Nat.add_comm]
theorem i64_or_nat (a b : Nat) (ha : a < 2 ^ 62) (hb : b < 2 ^ 62) : bits .or .i64 (a : Int) (b : Int) = ((a ||| b : Nat) : Int) := by
  show IntKind.i64.wrap ((BitVec.ofInt 64 (a : Int) ||| BitVec.ofInt 64 (b : Int)).toNat : Nat) = _
  have h := Nat.or_lt_two_pow ha hb
  have ha' : (BitVec.ofInt 64 (a : Int)).toNat = a := by rw [BitVec.toNat_ofInt]; omega
  have hb' : (BitVec.ofInt 64 (b : Int)).toNat = b := by rw [BitVec.toNat_ofInt]; omega
  rw [BitVec.toNat_or, ha', hb', IntKind.wrap_i64]
  omega
def at8 (l : List UInt8) (i : Nat) : Nat := (l.getD i 0).toNat
theorem at8_lt (l : List UInt8) (i : Nat) : at8 l i < 256 := UInt8.toNat_lt _
theorem Bs.get {w : World} {A : Option Addr} {n c : Nat} {l : List UInt8} (h : Bs w A n c l) {i : Nat} (hi : i < n) : ∃ g o, A = some ⟨g, o, none⟩ ∧ g < w.heap.size ∧ w.cell? ⟨g, o + i, none⟩ = some (.int .u8 (at8 l i : Int)) := by
  obtain ⟨g, o, e, hg, hc⟩ := h.pos (by omega)
  refine ⟨g, o, e, hg, ?_⟩
  have hl := h.len
  have := hc i (l.getD i 0) (by rw [List.getD_eq_getElem?_getD, List.getElem?_eq_getElem (by omega)]; rfl)
  exact this
/-- What a head says. -/
def headOf (l : List UInt8) : Nat × Bool := if l.length < 8 ∨ ¬ at8 l 0 = 80 ∨ ¬ at8 l 1 = 100 then (0, false) else (at8 l 2 + at8 l 3 * 256, decide (at8 l 2 + at8 l 3 * 256 ≤ 8184))

set_option maxRecDepth 100000 in
theorem length_any (A : Option Addr) (n c : Nat) (l : List UInt8) (w : World) (hs : Bs w A n c l) :
    Calls Try.prog 41 #[.slice A n c] w fun e w' => e = .returned (.tuple #[.int .i64 ((headOf l).1 : Int), .bool (headOf l).2]) ∧ Below w.heap.size w w' := by
  have hn := hs.len
  have hbig := hs.big
  have hcap := hs.cap
  unfold maxLen at hbig
  unfold headOf
  rcases Nat.lt_or_ge l.length 8 with h8 | h8
  · rw [if_pos (.inl h8)]
    subst hn
    go_enter Try.func41, Try.ntmps41
    go_wp2_with fail
    go_ret2
    exact ⟨rfl, by go_grown⟩
  · obtain ⟨g, o, rfl, hg, c0⟩ := hs.get (i := 0) (by omega)
    obtain ⟨_, _, e1, _, c1⟩ := hs.get (i := 1) (by omega)
    obtain ⟨_, _, e2, _, c2⟩ := hs.get (i := 2) (by omega)
    obtain ⟨_, _, e3, _, c3⟩ := hs.get (i := 3) (by omega)
    cases e1
    cases e2
    cases e3
    have l0 := at8_lt l 0
    have l1 := at8_lt l 1
    have l2 := at8_lt l 2
    have l3 := at8_lt l 3
    obtain ⟨b0, hb0⟩ : ∃ z, at8 l 0 = z := ⟨_, rfl⟩
    obtain ⟨b1, hb1⟩ : ∃ z, at8 l 1 = z := ⟨_, rfl⟩
    obtain ⟨b2, hb2⟩ : ∃ z, at8 l 2 = z := ⟨_, rfl⟩
    obtain ⟨b3, hb3⟩ : ∃ z, at8 l 3 = z := ⟨_, rfl⟩
    rw [hb0] at c0 l0
    rw [hb1] at c1 l1
    rw [hb2] at c2 l2
    rw [hb3] at c3 l3
    rw [hb0, hb1, hb2, hb3]
    subst hn
    have h8' : ¬ (l.length : Int) < 8 := by omega
    have h8'' : ¬ l.length < 8 := by omega
    clear hb0 hb1 hb2 hb3
    rw [Nat.add_zero] at c0
    rcases Decidable.em (b0 = 80) with h0 | h0
    · rcases Decidable.em (b1 = 100) with h1 | h1
      · subst h0 h1
        rw [if_neg (by omega)]
        have hor : bits .or .i64 (b2 : Int) ((b3 : Int) * 256) = ((b2 + b3 * 256 : Nat) : Int) := by
          have h := i64_or_nat b2 (b3 * 256) (by omega) (by omega)
          rw [show (256 : Nat) = 2 ^ 8 from rfl, or_disj (k := 8) (by omega)] at h
          exact h
        obtain ⟨m, hm⟩ : ∃ m, b2 + b3 * 256 = m := ⟨_, rfl⟩
        rw [hm] at hor ⊢
        have hm2 : m ≤ 65535 := by omega
        have k0 : w.cell? ⟨g, o, none⟩ = some (.int .u8 80) := c0
        have k1 : w.cell? ⟨g, o + 1, none⟩ = some (.int .u8 100) := c1
        clear hm c0 c1
        go_enter Try.func41, Try.ntmps41
        go_wp2_with fail
        have hq_w := @wd_cell w
        refine wp_region_wd (by kernel_rfl) (by kernel_rfl) ?_
        repeat (go_big_quiet_step (fail))
        refine wpQuiet_nil ?_
        rintro w4 ⟨⟨wx, hb_w4⟩, hwx⟩
        obtain rfl : w4 = wx := hwx
        clear hq_w
        have hz_w4 := hb_w4.size
        obtain ⟨hc_w4, hf_w4⟩ := bcell hb_w4
        have hB_w4 : Below w.heap.size w w4 := Below.trans (by go_grown) (hb_w4.mono (by go_size))
        have hs_w4_0 : g < w4.heap.size := Nat.lt_of_lt_of_le (by assumption) hb_w4.size
        go_wp2_with fail
        go_ret2
        exact ⟨by congr 3; simp; try omega, by go_grown⟩
      · rw [if_pos (.inr (.inr h1))]
        subst h0
        have k0 : w.cell? ⟨g, o, none⟩ = some (.int .u8 80) := c0
        have h1' : ((b1 : Int) != 100) = true := by simp; omega
        have h1'' : ¬ (b1 : Int) = 100 := by omega
        clear c0
        go_enter Try.func41, Try.ntmps41
        go_wp2_with fail
        go_ret2
        exact ⟨rfl, by go_grown⟩
    · rw [if_pos (.inr (.inl h0))]
      have h1' : ((b0 : Int) != 80) = true := by simp; omega
      have h1'' : ¬ (b0 : Int) = 80 := by omega
      go_enter Try.func41, Try.ntmps41
      go_wp2_with fail
      go_ret2
      exact ⟨rfl, by go_grown⟩

theorem ret_b {a b : Bool} (h : a = b) : Ending.returned (.bool a) = .returned (.bool b) := by rw [h]
def sumOf (l : List UInt8) : Nat := at8 l 4 + at8 l 5 * 256 + at8 l 6 * 65536 + at8 l 7 * 16777216
def wholeOf (l : List UInt8) : Bool := crcN (l.take 4 ++ l.drop 8) == sumOf l
theorem bs_head {w : World} {A : Option Addr} {n c : Nat} {l : List UInt8} (h : Bs w A n c l) {k : Nat} (hk : k ≤ n) : Bs w A k c (l.take k) := by
  have hl := h.len
  have hc := h.cap
  refine ⟨by rw [List.length_take]; omega, by omega, h.big, ?_⟩
  rcases h.at_ with h0 | ⟨g, o, e, hg, hat⟩
  · exact .inl (by omega)
  · refine .inr ⟨g, o, e, hg, fun j b hj => ?_⟩
    by_cases hlt : j < k
    · rw [List.getElem?_take_of_lt hlt] at hj
      exact hat _ _ hj
    · rw [List.getElem?_eq_none (by rw [List.length_take]; omega)] at hj
      cases hj
theorem bs_tail {w : World} {g o n c : Nat} {l : List UInt8} (h : Bs w (some ⟨g, o, none⟩) n c l) {k : Nat} (hk : k ≤ n) : Bs w (some ⟨g, o + k, none⟩) (n - k) (c - k) (l.drop k) := by
  have hl := h.len
  have hc := h.cap
  have hb := h.big
  refine ⟨by rw [List.length_drop]; omega, by omega, by omega, ?_⟩
  rcases h.at_ with h0 | ⟨g', o', e, hg, hat⟩
  · exact .inl (by omega)
  · injection e with e
    injection e with e1 e2
    subst e1 e2
    refine .inr ⟨g, o + k, rfl, hg, fun j b hj => ?_⟩
    rw [List.getElem?_drop] at hj
    rw [Nat.add_assoc]
    exact hat _ _ hj

set_option maxRecDepth 100000 in
set_option maxHeartbeats 800000 in
theorem whole_any (T : Nat) (A : Option Addr) (n c : Nat) (l : List UInt8) (w : World) (hT : TabAt w T) (hs : Bs w A n c l) (h8 : 8 ≤ n) :
    Calls Try.prog 42 #[.pointer (some ⟨T, 0, none⟩), .slice A n c] w fun e w' => e = .returned (.bool (wholeOf l)) ∧ Below w.heap.size w w' := by
  have hbig := hs.big
  have hcap := hs.cap
  unfold maxLen at hbig
  obtain ⟨g, o, rfl, hg, c4⟩ := hs.get (i := 4) (by omega)
  obtain ⟨_, _, e1, _, c5⟩ := hs.get (i := 5) (by omega)
  obtain ⟨_, _, e2, _, c6⟩ := hs.get (i := 6) (by omega)
  obtain ⟨_, _, e3, _, c7⟩ := hs.get (i := 7) (by omega)
  cases e1
  cases e2
  cases e3
  have l4 := at8_lt l 4
  have l5 := at8_lt l 5
  have l6 := at8_lt l 6
  have l7 := at8_lt l 7
  unfold wholeOf sumOf
  obtain ⟨b4, hb4⟩ : ∃ z, at8 l 4 = z := ⟨_, rfl⟩
  obtain ⟨b5, hb5⟩ : ∃ z, at8 l 5 = z := ⟨_, rfl⟩
  obtain ⟨b6, hb6⟩ : ∃ z, at8 l 6 = z := ⟨_, rfl⟩
  obtain ⟨b7, hb7⟩ : ∃ z, at8 l 7 = z := ⟨_, rfl⟩
  rw [hb4] at c4 l4
  rw [hb5] at c5 l5
  rw [hb6] at c6 l6
  rw [hb7] at c7 l7
  rw [hb4, hb5, hb6, hb7]
  clear hb4 hb5 hb6 hb7
  have o1 : bits .or .u32 (b4 : Int) ((b5 : Int) * 256) = ((b4 + b5 * 256 : Nat) : Int) := by
    have h := u32_or_nat b4 (b5 * 256) (by omega) (by omega)
    rw [show (256 : Nat) = 2 ^ 8 from rfl, or_disj (k := 8) (by omega)] at h
    exact h
  obtain ⟨m1, hm1⟩ : ∃ z, b4 + b5 * 256 = z := ⟨_, rfl⟩
  rw [hm1] at o1 ⊢
  have o2 : bits .or .u32 (m1 : Int) ((b6 : Int) * 65536) = ((m1 + b6 * 65536 : Nat) : Int) := by
    have h := u32_or_nat m1 (b6 * 65536) (by omega) (by omega)
    rw [show (65536 : Nat) = 2 ^ 16 from rfl, or_disj (k := 16) (by omega)] at h
    exact h
  obtain ⟨m2, hm2⟩ : ∃ z, m1 + b6 * 65536 = z := ⟨_, rfl⟩
  rw [hm2] at o2 ⊢
  have o3 : bits .or .u32 (m2 : Int) ((b7 : Int) * 16777216) = ((m2 + b7 * 16777216 : Nat) : Int) := by
    have h := u32_or_nat m2 (b7 * 16777216) (by omega) (by omega)
    rw [show (16777216 : Nat) = 2 ^ 24 from rfl, or_disj (k := 24) (by omega)] at h
    exact h
  obtain ⟨m3, hm3⟩ : ∃ z, m2 + b7 * 16777216 = z := ⟨_, rfl⟩
  rw [hm3] at o3 ⊢
  have hm3b : m3 < 4294967296 := by omega
  have w4' : (b4 : Int) % 4294967296 = (b4 : Int) := by omega
  have w5' : (b5 : Int) % 4294967296 = (b5 : Int) := by omega
  have w6' : (b6 : Int) % 4294967296 = (b6 : Int) := by omega
  have w7' : (b7 : Int) % 4294967296 = (b7 : Int) := by omega
  have p5' : (b5 : Int) * 256 % 4294967296 = (b5 : Int) * 256 := by omega
  have p6' : (b6 : Int) * 65536 % 4294967296 = (b6 : Int) * 65536 := by omega
  have p7' : (b7 : Int) * 16777216 % 4294967296 = (b7 : Int) * 16777216 := by omega
  clear hm1 hm2 hm3 l4 l5 l6 l7
  have hlt : crcN (l.take 4 ++ l.drop 8) < 4294967296 := by unfold crcN; omega
  have hsh := bs_head hs (k := 4) (by omega)
  have hst := bs_tail hs (k := 8) (by omega)
  have hC : ∀ B W, (B = some ⟨g, o + 8, none⟩ ∨ n = 8) → Below w.heap.size w W → Calls Try.prog 39 #[.pointer (some ⟨T, 0, none⟩), .slice (some ⟨g, o, none⟩) 4 c, .slice B (n - 8) (c - 8)] W fun e w' => e = .returned (.int .u32 (crcN (l.take 4 ++ l.drop 8) : Int)) ∧ Below W.heap.size W w' := fun B W hB hb => by
    refine crc_any T _ _ _ _ _ _ _ _ W (hT.keep hb) (hsh.below hb) ?_
    rcases hB with rfl | h0
    · exact hst.below hb
    · have hl := hs.len
      have hl0 : l.drop 8 = [] := List.drop_of_length_le (by omega)
      rw [hl0]
      exact ⟨by simp; omega, by omega, by unfold maxLen; omega, .inl (by omega)⟩
  obtain ⟨x, hx⟩ : ∃ z, crcN (l.take 4 ++ l.drop 8) = z := ⟨_, rfl⟩
  rw [hx] at hC hlt ⊢
  have hq : ((x : Int) == (m3 : Int)) = (x == m3) := by
    rw [Bool.eq_iff_iff]
    simp
    omega
  have HQ := Lib.hid hq
  have HC := Lib.hid hC
  have hn4 : (4 : Int) ≤ (c : Int) := by omega
  have hn8 : (8 : Int) ≤ (n : Int) := by omega
  have c4' : w.cell? ⟨g, o + 4, none⟩ = some (.int .u8 (b4 : Int)) := c4
  clear hx hq hC hsh hst c4
  rcases Decidable.em (c = 8) with hc8 | hc8
  · obtain rfl : n = 8 := by omega
    subst hc8
    have HC2 := Lib.hid (fun W hb => HC.out (some ⟨g, o, none⟩) W (.inr rfl) hb)
    simp only [Nat.sub_self] at HC2
    clear HC
    go_enter Try.func42, Try.ntmps42
    go_wp2_with fail
    have hq_w := @wd_cell w
    refine wp_region_wd (by kernel_rfl) (by kernel_rfl) ?_
    repeat (go_big_quiet_step (fail))
    refine wpQuiet_nil ?_
    rintro w4 ⟨⟨wx, hb_w4⟩, hwx⟩
    obtain rfl : w4 = wx := hwx
    clear hq_w
    have hz_w4 := hb_w4.size
    obtain ⟨hc_w4, hf_w4⟩ := bcell hb_w4
    have hB_w4 : Below w.heap.size w w4 := Below.trans (by go_grown) (hb_w4.mono (by go_size))
    have hs_w4_0 : g < w4.heap.size := Nat.lt_of_lt_of_le (by assumption) hb_w4.size
    go_wp2_with fail
    have HC3 := Lib.hid (fun W hb => HC2.out W (hb_w4.trans (Below.mono hb hb_w4.size)))
    have hq_w4 := @wd_cell w4
    refine wp_region_wd (by kernel_rfl) (by kernel_rfl) ?_
    repeat (go_big_quiet_step ((first | (go_at_call 39; with_reducible exact quiet_wd (HC3.out _ (Wd.h _))))))
    refine wpQuiet_nil ?_
    rintro w5 ⟨⟨wx, hb_w5⟩, hwx⟩
    obtain rfl : w5 = wx := hwx
    clear hq_w4
    have hz_w5 := hb_w5.size
    obtain ⟨hc_w5, hf_w5⟩ := bcell hb_w5
    have hB_w5 : Below w.heap.size w w5 := Below.trans (by go_grown) (hb_w5.mono (by go_size))
    go_wp2_with fail
    go_ret
    exact ⟨ret_b (by first | exact HQ.out | (have h := HQ.out; simpa using h)), hb_w4.trans (hb_w5.mono hb_w4.size)⟩
  · have HC2 := Lib.hid (fun W hb => HC.out (some ⟨g, o + 8, none⟩) W (.inl rfl) hb)
    clear HC
    go_enter Try.func42, Try.ntmps42
    go_wp2_with fail
    have hq_w := @wd_cell w
    refine wp_region_wd (by kernel_rfl) (by kernel_rfl) ?_
    repeat (go_big_quiet_step (fail))
    refine wpQuiet_nil ?_
    rintro w4 ⟨⟨wx, hb_w4⟩, hwx⟩
    obtain rfl : w4 = wx := hwx
    clear hq_w
    have hz_w4 := hb_w4.size
    obtain ⟨hc_w4, hf_w4⟩ := bcell hb_w4
    have hB_w4 : Below w.heap.size w w4 := Below.trans (by go_grown) (hb_w4.mono (by go_size))
    have hs_w4_0 : g < w4.heap.size := Nat.lt_of_lt_of_le (by assumption) hb_w4.size
    go_wp2_with fail
    have HC3 := Lib.hid (fun W hb => HC2.out W (hb_w4.trans (Below.mono hb hb_w4.size)))
    have hq_w4 := @wd_cell w4
    refine wp_region_wd (by kernel_rfl) (by kernel_rfl) ?_
    repeat (go_big_quiet_step ((first | (go_at_call 39; with_reducible exact quiet_wd (HC3.out _ (Wd.h _))))))
    refine wpQuiet_nil ?_
    rintro w5 ⟨⟨wx, hb_w5⟩, hwx⟩
    obtain rfl : w5 = wx := hwx
    clear hq_w4
    have hz_w5 := hb_w5.size
    obtain ⟨hc_w5, hf_w5⟩ := bcell hb_w5
    have hB_w5 : Below w.heap.size w w5 := Below.trans (by go_grown) (hb_w5.mono (by go_size))
    go_wp2_with fail
    go_ret
    exact ⟨ret_b (by first | exact HQ.out | (have h := HQ.out; simpa using h)), hb_w4.trans (hb_w5.mono hb_w4.size)⟩

end Go.Proofs.Ytiejgandjlldjaa
