/-
  Package seg: NearSeg (from Meet's contract).
-/
import Derived.Test.YtpjgghakeaajbaaSegG
import Derived.Test.YtpjgghakeaajbaaSegF
namespace Go.Proofs.Ytpjgghakeaajbaa
open Go.RowKit

set_option maxRecDepth 100000 in
set_option maxHeartbeats 800000 in
theorem nearSeg_out (a b c d : Pt) (r : Int) (hl : r < 0 ∨ (inP a && inP b && inP c && inP d) = false) (w : World) :
    Calls Try.prog 12 #[.agg #[.int .i32 a.1, .int .i32 a.2], .agg #[.int .i32 b.1, .int .i32 b.2], .agg #[.int .i32 c.1, .int .i32 c.2], .agg #[.int .i32 d.1, .int .i32 d.2], .int .i64 r] w fun e w' => e = .returned (.bool (nearSeg a b c d r)) ∧ Below w.heap.size w w' := by
  have HL := Lib.hid (fun g W h => lattice4 g a b c d W h)
  unfold nearSeg
  rcases Int.lt_or_le r 0 with h0 | h0
  · rw [if_pos h0]
    clear HL hl
    go_enter Try.func12, Try.ntmps12
    go_wp2_with fail
    refine bodyPost_ret (by simp [results, Try.results12, go_sem, *]; try rfl) rfl ?_
    exact ⟨rfl, by go_grown⟩
  · have h0' : ¬ r < 0 := by omega
    have hi : (inP a && inP b && inP c && inP d) = false := by
      rcases hl with h | h
      · exact absurd h h0'
      · exact h
    rw [if_neg h0', hi, if_neg Bool.false_ne_true]
    rw [hi] at HL
    clear hi hl h0
    go_enter Try.func12, Try.ntmps12
    go_wp2_with fail
    refine (HL.out _ _ (Var.new' _ _ _ (by simp))).mono ?_
    rintro e w1 ⟨rfl, hb_w1⟩
    obtain ⟨hc_w1, hf_w1⟩ := bcell hb_w1
    have hz_w1 := hb_w1.size
    try simp at hz_w1
    have hB_w1 : Below w.heap.size w w1 := Below.trans (by go_grown) (hb_w1.mono (by go_size))
    have hs_w1_0 : w.heap.size < w1.heap.size := by omega
    have hs_w1_1 : w.heap.size + 1 < w1.heap.size := by omega
    have hs_w1_2 : w.heap.size + 1 + 1 < w1.heap.size := by omega
    go_wp2_with fail
    refine bodyPost_ret (by simp [results, Try.results12, go_sem, *]; try rfl) rfl ?_
    exact ⟨rfl, by go_grown⟩

theorem ix_0 (a b c d : Pt) (W : World) : (Instr.index 69 (.agg #[.int .i32 a.1, .int .i32 a.2, .int .i32 c.1, .int .i32 c.2, .int .i32 d.1, .int .i32 d.2, .int .i32 b.1, .int .i32 b.2, .int .i32 c.1, .int .i32 c.2, .int .i32 d.1, .int .i32 d.2, .int .i32 c.1, .int .i32 c.2, .int .i32 a.1, .int .i32 a.2, .int .i32 b.1, .int .i32 b.2, .int .i32 d.1, .int .i32 d.2, .int .i32 a.1, .int .i32 a.2, .int .i32 b.1, .int .i32 b.2]) (.int .i64 0)).run Try.prog W = .ok (.agg #[.int .i32 a.1, .int .i32 a.2, .int .i32 c.1, .int .i32 c.2, .int .i32 d.1, .int .i32 d.2]) W := by kernel_rfl
theorem ix_1 (a b c d : Pt) (W : World) : (Instr.index 69 (.agg #[.int .i32 a.1, .int .i32 a.2, .int .i32 c.1, .int .i32 c.2, .int .i32 d.1, .int .i32 d.2, .int .i32 b.1, .int .i32 b.2, .int .i32 c.1, .int .i32 c.2, .int .i32 d.1, .int .i32 d.2, .int .i32 c.1, .int .i32 c.2, .int .i32 a.1, .int .i32 a.2, .int .i32 b.1, .int .i32 b.2, .int .i32 d.1, .int .i32 d.2, .int .i32 a.1, .int .i32 a.2, .int .i32 b.1, .int .i32 b.2]) (.int .i64 1)).run Try.prog W = .ok (.agg #[.int .i32 b.1, .int .i32 b.2, .int .i32 c.1, .int .i32 c.2, .int .i32 d.1, .int .i32 d.2]) W := by kernel_rfl
theorem ix_2 (a b c d : Pt) (W : World) : (Instr.index 69 (.agg #[.int .i32 a.1, .int .i32 a.2, .int .i32 c.1, .int .i32 c.2, .int .i32 d.1, .int .i32 d.2, .int .i32 b.1, .int .i32 b.2, .int .i32 c.1, .int .i32 c.2, .int .i32 d.1, .int .i32 d.2, .int .i32 c.1, .int .i32 c.2, .int .i32 a.1, .int .i32 a.2, .int .i32 b.1, .int .i32 b.2, .int .i32 d.1, .int .i32 d.2, .int .i32 a.1, .int .i32 a.2, .int .i32 b.1, .int .i32 b.2]) (.int .i64 2)).run Try.prog W = .ok (.agg #[.int .i32 c.1, .int .i32 c.2, .int .i32 a.1, .int .i32 a.2, .int .i32 b.1, .int .i32 b.2]) W := by kernel_rfl
theorem ix_3 (a b c d : Pt) (W : World) : (Instr.index 69 (.agg #[.int .i32 a.1, .int .i32 a.2, .int .i32 c.1, .int .i32 c.2, .int .i32 d.1, .int .i32 d.2, .int .i32 b.1, .int .i32 b.2, .int .i32 c.1, .int .i32 c.2, .int .i32 d.1, .int .i32 d.2, .int .i32 c.1, .int .i32 c.2, .int .i32 a.1, .int .i32 a.2, .int .i32 b.1, .int .i32 b.2, .int .i32 d.1, .int .i32 d.2, .int .i32 a.1, .int .i32 a.2, .int .i32 b.1, .int .i32 b.2]) (.int .i64 3)).run Try.prog W = .ok (.agg #[.int .i32 d.1, .int .i32 d.2, .int .i32 a.1, .int .i32 a.2, .int .i32 b.1, .int .i32 b.2]) W := by kernel_rfl

theorem no_step {k : Nat} {f : Nat → Bool} (h : ∀ j, j < k → f j = false) (hk : f k = false) : ∀ j, j < k + 1 → f j = false := fun j hj => by
  rcases Nat.lt_or_ge j k with h1 | h1
  · exact h j h1
  · rw [show j = k by omega]; exact hk

def nrs (a b c d : Pt) (r : Int) : Nat → Bool
  | 0 => near a c d r
  | 1 => near b c d r
  | 2 => near c a b r
  | _ => near d a b r

set_option maxRecDepth 100000 in
set_option maxHeartbeats 4000000 in
theorem nearSeg_in (H : MeetSays) (a b c d : Pt) (r : Int) (hr : I64 r) (h0 : 0 ≤ r) (hl : (inP a && inP b && inP c && inP d) = true) (w : World) :
    Calls Try.prog 12 #[.agg #[.int .i32 a.1, .int .i32 a.2], .agg #[.int .i32 b.1, .int .i32 b.2], .agg #[.int .i32 c.1, .int .i32 c.2], .agg #[.int .i32 d.1, .int .i32 d.2], .int .i64 r] w fun e w' => e = .returned (.bool (nearSeg a b c d r)) ∧ Below w.heap.size w w' := by
  have HL := Lib.hid (fun g W h => lattice4 g a b c d W h)
  have HN := Lib.hid (fun p x y W => near_any p x y r hr W)
  have HT := Lib.hid (fun W => touch_of H a b c d W)
  unfold nearSeg
  rw [if_neg (by omega), hl, if_pos rfl]
  rw [hl] at HL
  have h0' : ¬ r < 0 := by omega
  obtain ⟨q, hq⟩ : ∃ q, (near a c d r || near b c d r || near c a b r || near d a b r || touches a b c d) = q := ⟨_, rfl⟩
  rw [hq]
  have HQ := Lib.hid hq
  clear hq hl h0 H
  go_enter Try.func12, Try.ntmps12
  go_wp2_with fail
  refine (HL.out _ _ (Var.new' _ _ _ (by simp))).mono ?_
  rintro e w1 ⟨rfl, hb_w1⟩
  obtain ⟨hc_w1, hf_w1⟩ := bcell hb_w1
  have hz_w1 := hb_w1.size
  try simp at hz_w1
  have hB_w1 : Below w.heap.size w w1 := Below.trans (by go_grown) (hb_w1.mono (by go_size))
  have hs_w1_0 : w.heap.size < w1.heap.size := by omega
  have hs_w1_1 : w.heap.size + 1 < w1.heap.size := by omega
  have hs_w1_2 : w.heap.size + 1 + 1 < w1.heap.size := by omega
  have hs_w1_3 : w.heap.size + 1 + 1 + 1 < w1.heap.size := by omega
  go_wp2_with fail
  have vA : Var w1 w.heap.size 23 #[.int .i32 a.1, .int .i32 a.2] := (((((Var.new _ _ _).alloc _).alloc _).alloc _).alloc _).keep hb_w1
  have vB : Var w1 (w.heap.size + 1) 23 #[.int .i32 b.1, .int .i32 b.2] := ((((Var.new' _ _ _ (by simp)).alloc _).alloc _).alloc _).keep hb_w1
  have vC : Var w1 (w.heap.size + 1 + 1) 23 #[.int .i32 c.1, .int .i32 c.2] := (((Var.new' _ _ _ (by simp)).alloc _).alloc _).keep hb_w1
  have vD : Var w1 (w.heap.size + 1 + 1 + 1) 23 #[.int .i32 d.1, .int .i32 d.2] := ((Var.new' _ _ _ (by simp)).alloc _).keep hb_w1
  clear hc_w1 hf_w1 HL
  go_loopw [41] (fun i wr => ∃ k : Nat, i = .int .i64 (k : Int) ∧ k ≤ 4 ∧ (∀ j, j < k → nrs a b c d r j = false) ∧ Below w1.heap.size w1 wr) (fun i _ => 4 - (intOf i).toNat)
  case atStart => exact ⟨0, rfl, Nat.zero_le _, fun j hj => absurd hj (Nat.not_lt_zero _), Below.refl _ _⟩
  case round =>
    obtain ⟨k, rfl, hk, hall, hb_wr⟩ := hrel
    have hB_wr : Below w.heap.size w wr := hB_w1.trans (hb_wr.mono hB_w1.size)
    have hs_wr : w1.heap.size ≤ wr.heap.size := hb_wr.size
    rcases (show k = 0 ∨ k = 1 ∨ k = 2 ∨ k = 3 ∨ k = 4 by omega) with rfl | rfl | rfl | rfl | rfl
    · have HN1 := Lib.hid (fun W => HN.out a c d W)
      obtain ⟨n, hn⟩ : ∃ n, near a c d r = n := ⟨_, rfl⟩
      rw [hn] at HN1
      have hx := ix_0 a b c d wr
      cases n
      · have HA := Lib.hid (no_step hall (show nrs a b c d r 0 = false from hn))
        clear hall hn
        go_wp2_with fail
        refine (HN1.out _).mono ?_
        rintro e w2 ⟨rfl, hb_w2⟩
        obtain ⟨hc_w2, hf_w2⟩ := bcell hb_w2
        have hz_w2 := hb_w2.size
        try simp at hz_w2
        have hB_w2 : Below w.heap.size w w2 := Below.trans (by go_grown) (hb_w2.mono (by go_size))
        have hB2 : Below w1.heap.size w1 w2 := Below.trans (by go_grown) (hb_w2.mono (by go_size))
        go_wp2_with fail
        go_roundw
        case rel => exact ⟨1, by simp, by omega, HA.out, hB2⟩
        case measure => simp [intOf]
      · obtain rfl : true = q := by rw [← HQ.out, hn]; simp
        clear HQ hall hn
        go_wp2_with fail
        refine (HN1.out _).mono ?_
        rintro e w2 ⟨rfl, hb_w2⟩
        obtain ⟨hc_w2, hf_w2⟩ := bcell hb_w2
        have hz_w2 := hb_w2.size
        try simp at hz_w2
        have hB_w2 : Below w.heap.size w w2 := Below.trans (by go_grown) (hb_w2.mono (by go_size))
        go_wp2_with fail
        refine bodyPost_ret (by simp [results, Try.results12, go_sem, *]; try rfl) rfl ?_
        exact ⟨rfl, by go_grown⟩
    · have HN1 := Lib.hid (fun W => HN.out b c d W)
      obtain ⟨n, hn⟩ : ∃ n, near b c d r = n := ⟨_, rfl⟩
      rw [hn] at HN1
      have hx := ix_1 a b c d wr
      cases n
      · have HA := Lib.hid (no_step hall (show nrs a b c d r 1 = false from hn))
        clear hall hn
        go_wp2_with fail
        refine (HN1.out _).mono ?_
        rintro e w2 ⟨rfl, hb_w2⟩
        obtain ⟨hc_w2, hf_w2⟩ := bcell hb_w2
        have hz_w2 := hb_w2.size
        try simp at hz_w2
        have hB_w2 : Below w.heap.size w w2 := Below.trans (by go_grown) (hb_w2.mono (by go_size))
        have hB2 : Below w1.heap.size w1 w2 := Below.trans (by go_grown) (hb_w2.mono (by go_size))
        go_wp2_with fail
        go_roundw
        case rel => exact ⟨2, by simp, by omega, HA.out, hB2⟩
        case measure => simp [intOf]
      · obtain rfl : true = q := by rw [← HQ.out, hn]; simp
        clear HQ hall hn
        go_wp2_with fail
        refine (HN1.out _).mono ?_
        rintro e w2 ⟨rfl, hb_w2⟩
        obtain ⟨hc_w2, hf_w2⟩ := bcell hb_w2
        have hz_w2 := hb_w2.size
        try simp at hz_w2
        have hB_w2 : Below w.heap.size w w2 := Below.trans (by go_grown) (hb_w2.mono (by go_size))
        go_wp2_with fail
        refine bodyPost_ret (by simp [results, Try.results12, go_sem, *]; try rfl) rfl ?_
        exact ⟨rfl, by go_grown⟩
    · have HN1 := Lib.hid (fun W => HN.out c a b W)
      obtain ⟨n, hn⟩ : ∃ n, near c a b r = n := ⟨_, rfl⟩
      rw [hn] at HN1
      have hx := ix_2 a b c d wr
      cases n
      · have HA := Lib.hid (no_step hall (show nrs a b c d r 2 = false from hn))
        clear hall hn
        go_wp2_with fail
        refine (HN1.out _).mono ?_
        rintro e w2 ⟨rfl, hb_w2⟩
        obtain ⟨hc_w2, hf_w2⟩ := bcell hb_w2
        have hz_w2 := hb_w2.size
        try simp at hz_w2
        have hB_w2 : Below w.heap.size w w2 := Below.trans (by go_grown) (hb_w2.mono (by go_size))
        have hB2 : Below w1.heap.size w1 w2 := Below.trans (by go_grown) (hb_w2.mono (by go_size))
        go_wp2_with fail
        go_roundw
        case rel => exact ⟨3, by simp, by omega, HA.out, hB2⟩
        case measure => simp [intOf]
      · obtain rfl : true = q := by rw [← HQ.out, hn]; simp
        clear HQ hall hn
        go_wp2_with fail
        refine (HN1.out _).mono ?_
        rintro e w2 ⟨rfl, hb_w2⟩
        obtain ⟨hc_w2, hf_w2⟩ := bcell hb_w2
        have hz_w2 := hb_w2.size
        try simp at hz_w2
        have hB_w2 : Below w.heap.size w w2 := Below.trans (by go_grown) (hb_w2.mono (by go_size))
        go_wp2_with fail
        refine bodyPost_ret (by simp [results, Try.results12, go_sem, *]; try rfl) rfl ?_
        exact ⟨rfl, by go_grown⟩
    · have HN1 := Lib.hid (fun W => HN.out d a b W)
      obtain ⟨n, hn⟩ : ∃ n, near d a b r = n := ⟨_, rfl⟩
      rw [hn] at HN1
      have hx := ix_3 a b c d wr
      cases n
      · have HA := Lib.hid (no_step hall (show nrs a b c d r 3 = false from hn))
        clear hall hn
        go_wp2_with fail
        refine (HN1.out _).mono ?_
        rintro e w2 ⟨rfl, hb_w2⟩
        obtain ⟨hc_w2, hf_w2⟩ := bcell hb_w2
        have hz_w2 := hb_w2.size
        try simp at hz_w2
        have hB_w2 : Below w.heap.size w w2 := Below.trans (by go_grown) (hb_w2.mono (by go_size))
        have hB2 : Below w1.heap.size w1 w2 := Below.trans (by go_grown) (hb_w2.mono (by go_size))
        go_wp2_with fail
        go_roundw
        case rel => exact ⟨4, by simp, by omega, HA.out, hB2⟩
        case measure => simp [intOf]
      · obtain rfl : true = q := by rw [← HQ.out, hn]; simp
        clear HQ hall hn
        go_wp2_with fail
        refine (HN1.out _).mono ?_
        rintro e w2 ⟨rfl, hb_w2⟩
        obtain ⟨hc_w2, hf_w2⟩ := bcell hb_w2
        have hz_w2 := hb_w2.size
        try simp at hz_w2
        have hB_w2 : Below w.heap.size w w2 := Below.trans (by go_grown) (hb_w2.mono (by go_size))
        go_wp2_with fail
        refine bodyPost_ret (by simp [results, Try.results12, go_sem, *]; try rfl) rfl ?_
        exact ⟨rfl, by go_grown⟩
    · obtain rfl : touches a b c d = q := by
        rw [← HQ.out, show near a c d r = false from hall 0 (by omega), show near b c d r = false from hall 1 (by omega), show near c a b r = false from hall 2 (by omega), show near d a b r = false from hall 3 (by omega)]
        rfl
      clear HQ hall
      have vA2 := vA.keep hb_wr
      have vB2 := vB.keep hb_wr
      have vC2 := vC.keep hb_wr
      have vD2 := vD.keep hb_wr
      have ca0 : wr.cell? ⟨w.heap.size, 0, none⟩ = some (.int .i32 a.1) := vA2.cell 0
      have ca1 : wr.cell? ⟨w.heap.size, 1, none⟩ = some (.int .i32 a.2) := vA2.cell 1
      have cb0 : wr.cell? ⟨w.heap.size + 1, 0, none⟩ = some (.int .i32 b.1) := vB2.cell 0
      have cb1 : wr.cell? ⟨w.heap.size + 1, 1, none⟩ = some (.int .i32 b.2) := vB2.cell 1
      have cc0 : wr.cell? ⟨w.heap.size + 1 + 1, 0, none⟩ = some (.int .i32 c.1) := vC2.cell 0
      have cc1 : wr.cell? ⟨w.heap.size + 1 + 1, 1, none⟩ = some (.int .i32 c.2) := vC2.cell 1
      have cd0 : wr.cell? ⟨w.heap.size + 1 + 1 + 1, 0, none⟩ = some (.int .i32 d.1) := vD2.cell 0
      have cd1 : wr.cell? ⟨w.heap.size + 1 + 1 + 1, 1, none⟩ = some (.int .i32 d.2) := vD2.cell 1
      go_wp2_with fail
      refine (HT.out _).mono ?_
      rintro e w2 ⟨rfl, hb_w2⟩
      obtain ⟨hc_w2, hf_w2⟩ := bcell hb_w2
      have hz_w2 := hb_w2.size
      try simp at hz_w2
      have hB_w2 : Below w.heap.size w w2 := Below.trans (by go_grown) (hb_w2.mono (by go_size))
      go_wp2_with fail
      refine bodyPost_ret (by simp [results, Try.results12, go_sem, *]; try rfl) rfl ?_
      exact ⟨rfl, by go_grown⟩

theorem nearSeg_of (H : MeetSays) (a b c d : Pt) (r : Int) (hr : I64 r) (w : World) :
    Calls Try.prog 12 #[.agg #[.int .i32 a.1, .int .i32 a.2], .agg #[.int .i32 b.1, .int .i32 b.2], .agg #[.int .i32 c.1, .int .i32 c.2], .agg #[.int .i32 d.1, .int .i32 d.2], .int .i64 r] w fun e w' => e = .returned (.bool (nearSeg a b c d r)) ∧ Below w.heap.size w w' := by
  rcases Decidable.em (r < 0 ∨ (inP a && inP b && inP c && inP d) = false) with h | h
  · exact nearSeg_out a b c d r h w
  · refine nearSeg_in H a b c d r hr (by omega) ?_ w
    cases hb : inP a && inP b && inP c && inP d
    · exact absurd (Or.inr hb) h
    · rfl

end Go.Proofs.Ytpjgghakeaajbaa
