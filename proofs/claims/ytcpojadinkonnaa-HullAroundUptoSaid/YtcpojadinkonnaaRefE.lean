/-
  Contracts of the reference's functions: word, Power.
-/
import Derived.Test.YtcpojadinkonnaaRefD
namespace Go.Proofs.Ytcpojadinkonnaa
open Go.RowKit

theorem drop_step_le (ds : List Nat) (i : Nat) : val (ds.drop (i + 1)) * 65536 + dig ds i = val (ds.drop i) := by rw [dig_drop ds i]; omega
theorem drop_le (ds : List Nat) (i : Nat) : val (ds.drop i) ≤ val ds := by
  induction i with
  | zero => simp
  | succ i ih => have := drop_step_le ds i; omega

set_option maxHeartbeats 800000 in
theorem word_ref {w0 : World} {A : Option Addr} {n c : Nat} {ds : List Nat} (h : RawAt w0 A n c ds) (hn : n ≤ 4) (hm : val ds ≤ 18446744073709551615) (s : Bool) (w : World) (hw : Below w0.heap.size w0 w) :
    Calls Try.prog 108 #[.agg #[.bool s, .slice A n c]] w fun e w' => e = .returned (.int .u64 (val ds : Int)) ∧ Below w.heap.size w w' := by
  have r1 := h.below hw
  have HM := Lib.hid hm
  have HL := Lib.hid h.len
  clear h hw hm
  go_enter Try.func108, Try.ntmps108
  go_wp2_with fail
  refine wp_gen (fun W hW => ?_)
  have v0 : Var W w.heap.size 64 #[.bool s, .slice A n c] := by rw [hW]; exact Var.new _ _ _
  have hBW : Below w.heap.size w W := by rw [hW]; go_grown
  clear hW
  go_loopw [3, 4] (fun v t wr => ∃ (j q : Nat) (z : Int), v = .int .u64 (q : Int) ∧ t = .int .i64 z ∧ z = (j : Int) - 1 ∧ j ≤ 4 ∧ q = val (ds.drop j) ∧ Below W.heap.size W wr)
    (fun _ t _ => (intOf t + 1).toNat)
  case atStart => exact ⟨4, 0, 3, rfl, rfl, rfl, by omega, by rw [drop_out (by rw [HL.out]; exact hn)], Below.refl _ _⟩
  case round =>
    obtain ⟨j, q, z, rfl, rfl, hz, hj, hq, hbel⟩ := hrel
    have HQ := Lib.hid hq
    clear hq
    have v0' := v0.keep hbel
    have a0 : wr.cell? ⟨w.heap.size, 0, none⟩ = some (.bool s) := v0'.cell 0
    have a1 : wr.cell? ⟨w.heap.size, 1, none⟩ = some (.slice A n c) := v0'.cell 1
    have z0 := v0'.lt
    have hBr : Below w.heap.size w wr := hBW.trans (hbel.mono (Nat.le_of_lt v0.lt))
    rcases Nat.eq_zero_or_pos j with hj0 | hj0
    · subst hj0
      obtain rfl : z = -1 := by omega
      clear hz
      go_wp2_with fail
      go_ret
      refine ⟨ret_int ?_, by go_grown⟩
      have := HQ.out
      simp only [List.drop_zero] at this
      omega
    · obtain ⟨i, rfl⟩ : ∃ i, j = i + 1 := ⟨j - 1, by omega⟩
      obtain rfl : z = (i : Int) := by omega
      clear hz hj0
      have hb : (q : Int) * 65536 + (dig ds i : Nat) ≤ 18446744073709551615 := by
        have h1 := drop_step_le ds i
        have h2 := drop_le ds i
        have h3 := HM.out
        have h4 := HQ.out
        rw [← h4] at h1
        omega
      go_wp2_with fail
      refine (digit_any (r1.below hBr) s i _ (Below.refl _ _)).mono ?_
      rintro e w1 ⟨rfl, hb_w1⟩
      obtain ⟨hc_w1, hf_w1⟩ := bcell hb_w1
      have hz_w1 := hb_w1.size
      try simp at hz_w1
      have hB_w1 : Below w.heap.size w w1 := Below.trans (by go_grown) (hb_w1.mono (by go_size))
      have hs_w1_0 : w.heap.size < w1.heap.size := by omega
      go_wp2_with fail
      go_roundw
      case rel =>
        have h1 := drop_step_le ds i
        have h4 := HQ.out
        rw [← h4] at h1
        exact ⟨i, q * 65536 + dig ds i, _, congrArg (Value.int .u64) (by omega), rfl, rfl, by omega, h1, hbel.trans (hb_w1.mono hbel.size)⟩
      case measure => simp [intOf]

theorem two_small (k : Nat) : Small (k + 1) (2 ^ k) := by
  unfold Small
  have h1 : 2 ^ k ≤ 65536 ^ k := Nat.pow_le_pow_left (by omega) k
  have h2 : 65536 ^ k < 65536 ^ (k + 1) := Nat.pow_lt_pow_right (by omega) (by omega)
  omega

set_option maxHeartbeats 1600000 in
theorem power_ref (n : Nat) (hn : n ≤ 1000) (w : World) :
    Calls Try.prog 107 #[.int .i64 (n : Int)] w fun e w' => ∃ v, e = .returned v ∧ NumAt w' v (2 ^ n) ∧ Below w.heap.size w w' := by
  have hu := fun W => unsigned_ref 1 (by omega) W
  have HU := Lib.hid hu
  clear hu
  go_enter Try.func107, Try.ntmps107
  go_wp2_with fail
  refine (open_mag (HU.out _)).mono ?_
  rintro e w1 ⟨b1, A1, n1, c1, e1, rfl, hs1, hr1, ht1, hv1, hb_w1⟩
  obtain ⟨hc_w1, hf_w1⟩ := bcell hb_w1
  have hz_w1 := hb_w1.size
  try simp at hz_w1
  have hB_w1 : Below w.heap.size w w1 := Below.trans (by go_grown) (hb_w1.mono (by go_size))
  have hs_w1_w_0 : w.heap.size < w1.heap.size := by omega
  go_wp2_with fail
  refine wp_gen (fun W hW => ?_)
  have vR : Var W w.heap.size 64 #[.bool false, .slice none 0 0] := by rw [hW]; exact ((Var.new _ _ _).keep hb_w1).alloc _
  have vX : Var W w1.heap.size 64 #[.bool b1, .slice A1 n1 c1] := by rw [hW]; exact Var.new _ _ _
  have hr0 : RawAt W A1 n1 c1 e1 := by rw [hW]; exact hr1.below (by go_grown)
  have hBW : Below w.heap.size w W := by rw [hW]; go_grown
  clear hW
  go_loopw [4] (fun t wr => ∃ (k : Nat) (b : Bool) (A : Option Addr) (m c : Nat) (ds : List Nat), t = .int .i64 (k : Int) ∧ k ≤ n ∧ Hid (b = false) ∧ Var wr w1.heap.size 64 #[.bool b, .slice A m c] ∧ RawAt wr A m c ds ∧ Tight ds ∧ Hid (val ds = 2 ^ k) ∧ Below w1.heap.size W wr)
    (fun t _ => n - (intOf t).toNat)
  case atStart => exact ⟨0, b1, A1, n1, c1, e1, rfl, by omega, hs1, vX, hr0, ht1, hv1, Below.refl _ _⟩
  case round =>
    obtain ⟨k, b, A, m, c, ds, rfl, hk, hb, hVX, hr, ht, hv, hbel⟩ := hrel
    have hm := num_len hr ht hv.out (two_small k)
    have x0 : wr.cell? ⟨w1.heap.size, 0, none⟩ = some (.bool b) := hVX.cell 0
    have x1 : wr.cell? ⟨w1.heap.size, 1, none⟩ = some (.slice A m c) := hVX.cell 1
    have f0 := hVX.free 0
    have f1 := hVX.free 1
    have vR' := vR.below hbel (by omega)
    have r0 : wr.cell? ⟨w.heap.size, 0, none⟩ = some (.bool false) := vR'.cell 0
    have r1 : wr.cell? ⟨w.heap.size, 1, none⟩ = some (.slice none 0 0) := vR'.cell 1
    have g0 := vR'.free 0
    have g1 := vR'.free 1
    have z0 := vR'.lt
    have z1 := hVX.lt
    have hBr : Below w.heap.size w wr := hBW.trans (hbel.mono (by omega))
    rcases Nat.lt_or_ge k n with hlt | hge
    · go_wp2_with fail
      refine (open_mag (size_any hr hr _ _ (by omega) (by omega) _ (Below.refl _ _))).mono ?_
      rintro e w2 ⟨b2, A2, m2, c2, e2, rfl, hs2, hr2, ht2, hv2, hb_w2⟩
      obtain ⟨hc_w2, hf_w2⟩ := bcell hb_w2
      have hz_w2 := hb_w2.size
      try simp at hz_w2
      have hB_w2 : Below w.heap.size w w2 := Below.trans (by go_grown) (hb_w2.mono (by go_size))
      have hs_w2_0 : w.heap.size < w2.heap.size := by omega
      have hs_w2_1 : w1.heap.size < w2.heap.size := by omega
      have hVX2 := hVX.keep hb_w2
      go_wp2_with fail
      go_roundw
      case rel =>
        exact ⟨k + 1, b2, A2, m2, c2, e2, congrArg (Value.int .i64) (by omega), by omega, hs2, (hVX2.store 0 _).store 1 _, hr2.over hVX2 _ _, ht2, Lib.hid (by rw [hv2.out, hv.out, Nat.pow_succ]; omega),
          ((hbel.trans (hb_w2.mono (Nat.le_of_lt z1))).setCell (by simp) _).setCell (by simp) _⟩
      case measure => simp [intOf]; omega
    · obtain rfl : k = n := by omega
      go_wp2_with fail
      refine bodyPost_ret (by simp [results, Try.results107, go_sem, *]; try rfl) rfl ?_
      refine ⟨_, rfl, num_mk (hr.over vR' _ _) ht ?_ ?_, by go_grown⟩
      · have h2 : (0 : Int) < 2 ^ k := Int.pow_pos (by omega)
        rw [hb.out]; symm; simp; omega
      · rw [hv.out, Int.natAbs_pow]; rfl
end Go.Proofs.Ytcpojadinkonnaa
