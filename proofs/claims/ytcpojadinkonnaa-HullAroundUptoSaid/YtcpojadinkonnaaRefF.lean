/-
  Contracts of the reference's functions: power (small), Of.
-/
import Derived.Test.YtcpojadinkonnaaRefE
import Derived.Deep.RegionWith
namespace Go.Proofs.Ytcpojadinkonnaa
open Go.RowKit

theorem undrew {W w' : World} (h : Below W.drew.heap.size W.drew w') : Below W.heap.size W w' := ⟨h.os, h.tape, h.output, h.size, h.block⟩
theorem RawAt.away1 {w : World} {A : Option Addr} {n c : Nat} {ds : List Nat} (h : RawAt w A n c ds) {R : Nat} {cs : Array Value} (hV : Var w R 64 cs) (o : Nat) (x : Value) :
    RawAt (w.setCell ⟨R, o, none⟩ x) A n c ds := ⟨h.len, h.cap, h.big, h.sl.away (o' := o) hV (by decide) x, h.digs⟩
theorem small_word {m : Nat} (h : m ≤ 18446744073709551615) : Small 4 m := by
  unfold Small
  have : (65536 : Nat) ^ 4 = 18446744073709551616 := by decide +kernel
  omega

theorem smallpow_ref (n : Nat) (hn : n ≤ 60) (w : World) :
    Calls Try.prog 119 #[.int .i64 (n : Int)] w fun e w' => e = .returned (.int .u64 ((2 ^ n : Nat) : Int)) ∧ w = w' := by
  go_enter Try.func119, Try.ntmps119
  go_wp2_with fail
  go_loop [3, 4] (fun p t => ∃ (k q : Nat), p = .int .u64 (q : Int) ∧ t = .int .i64 (k : Int) ∧ k ≤ n ∧ Hid (q = 2 ^ k)) (fun _ t => n - (intOf t).toNat)
  case atStart => exact ⟨0, 1, rfl, rfl, by omega, Lib.hid rfl⟩
  case round =>
    obtain ⟨k, q, rfl, rfl, hk, hq⟩ := hrel
    rcases Nat.lt_or_ge k n with hlt | hge
    · have hb : (q : Int) * 2 ≤ 18446744073709551615 := by
        have h1 : 2 ^ k ≤ 2 ^ 60 := Nat.pow_le_pow_right (by omega) (by omega)
        have h2 : (2 : Nat) ^ 60 = 1152921504606846976 := by decide +kernel
        have h3 := hq.out
        omega
      go_wp2_with fail
      go_round
      case rel => exact ⟨k + 1, q * 2, congrArg (Value.int .u64) (by omega), congrArg (Value.int .i64) (by omega), by omega, Lib.hid (by rw [hq.out, Nat.pow_succ])⟩
      case measure => simp [intOf]; omega
    · have hkn : Hid (k = n) := by have : k = n := by omega
                                   exact Lib.hid this
      go_wp2_with fail
      go_ret
      exact ⟨ret_int (by rw [hq.out, hkn.out]; simp), rfl⟩

set_option maxHeartbeats 1600000 in
set_option maxRecDepth 100000 in
theorem of_ref (v : Int) (hv : -9223372036854775808 ≤ v ∧ v ≤ 9223372036854775807) (w : World) :
    Calls Try.prog 53 #[.int .i64 v] w fun e w' => ∃ u, e = .returned u ∧ NumAt w' u v ∧ Below w.heap.size w w' := by
  rcases Int.lt_or_le v 0 with hneg | hpos
  · obtain ⟨m, hm⟩ : ∃ m : Nat, (m : Int) = -(v + 1) := ⟨(-(v + 1)).toNat, by omega⟩
    have HU := Lib.hid (fun W => unsigned_ref m (by omega) W)
    have HU1 := Lib.hid (fun W => unsigned_ref 1 (by omega) W)
    have e1 : IntKind.u64.wrap (-(v + 1)) = (m : Int) := by rw [IntKind.wrap_u64]; omega
    have hm64 : m ≤ 18446744073709551615 := by omega
    have HM := Lib.hid hm
    clear hm
    go_enter Try.func53, Try.ntmps53
    go_wp2_with fail
    refine (open_mag (HU.out _)).mono ?_
    rintro e w1 ⟨b1, A1, n1, c1, k1, rfl, hs1, hr1, ht1, hv1, hb_w1⟩
    obtain ⟨hc_w1, hf_w1⟩ := bcell hb_w1
    have hz_w1 := hb_w1.size
    try simp at hz_w1
    have hB_w1 : Below w.heap.size w w1 := Below.trans (by go_grown) (hb_w1.mono (by go_size))
    have hs_w1_0 : w.heap.size < w1.heap.size := by omega
    have l1 := num_len hr1 ht1 hv1.out (small_word (by omega))
    go_wp2_with fail
    refine wp_gen (fun W hW => ?_)
    have vR : Var W w.heap.size 64 #[.bool false, .slice none 0 0] := by rw [hW]; exact ((Var.new _ _ _).keep hb_w1).alloc _
    have vX : Var W w1.heap.size 64 #[.bool b1, .slice A1 n1 c1] := by rw [hW]; exact Var.new _ _ _
    have hr0 : RawAt W A1 n1 c1 k1 := by rw [hW]; exact hr1.below (by go_grown)
    have hB_W : Below w.heap.size w W := by rw [hW]; go_grown
    clear hW
    have x0 : W.cell? ⟨w1.heap.size, 0, none⟩ = some (.bool b1) := vX.cell 0
    have x1 : W.cell? ⟨w1.heap.size, 1, none⟩ = some (.slice A1 n1 c1) := vX.cell 1
    have f0 := vX.free 0
    have f1 := vX.free 1
    have r0 : W.cell? ⟨w.heap.size, 0, none⟩ = some (.bool false) := vR.cell 0
    have r1 : W.cell? ⟨w.heap.size, 1, none⟩ = some (.slice none 0 0) := vR.cell 1
    have g0 := vR.free 0
    have g1 := vR.free 1
    have z0 := vR.lt
    have z1 := vX.lt
    go_region_with (first | (go_at_call 76; refine (open_mag (HU1.out _)).mono ?_; rintro e wk ⟨b2, A2, n2, c2, k2, rfl, hs2, hr2, ht2, hv2, hb_wk⟩; (first | replace hb_wk := undrew hb_wk | skip); obtain ⟨hc_wk, hf_wk⟩ := bcell hb_wk; have hz_wk := hb_wk.size; (try simp at hz_wk); have hB_wk : Below w.heap.size w wk := Below.trans (by go_grown) (hb_wk.mono (by go_size)); have hs_wk_0 : w.heap.size < wk.heap.size := (by omega); have hs_wk_1 : w1.heap.size < wk.heap.size := (by omega); have vk2 := vX.keep hb_wk; have vr2 := vR.keep hb_wk) | (go_at_call 77; refine (open_mag (size_any (hr0.below hb_wk) hr2 _ _ (by omega) (Nat.le_trans (num_len hr2 ht2 hv2.out (small_word (by omega))) (by omega)) _ (Below.refl _ _))).mono ?_; rintro e wk ⟨b3, A3, n3, c3, k3, rfl, hs3, hr3, ht3, hv3, hb_wk⟩; (first | replace hb_wk := undrew hb_wk | skip); obtain ⟨hc_wk, hf_wk⟩ := bcell hb_wk; have hz_wk := hb_wk.size; (try simp at hz_wk); have hB_wk : Below w.heap.size w wk := Below.trans (by go_grown) (hb_wk.mono (by go_size)); have hs_wk_0 : w.heap.size < wk.heap.size := (by omega); have hs_wk_1 : w1.heap.size < wk.heap.size := (by omega); have vk3 := vk2.keep hb_wk; have vr3 := vr2.keep hb_wk; have q0 : wk.cell? ⟨w1.heap.size, 0, none⟩ = some (.bool b1) := vk3.cell 0; have q1 : wk.cell? ⟨w1.heap.size, 1, none⟩ = some (.slice A1 n1 c1) := vk3.cell 1; have q2 := vk3.free 0; have q3 := vk3.free 1; have t0 : wk.cell? ⟨w.heap.size, 0, none⟩ = some (.bool false) := vr3.cell 0; have t1 : wk.cell? ⟨w.heap.size, 1, none⟩ = some (.slice none 0 0) := vr3.cell 1; have t2 := vr3.free 0; have t3 := vr3.free 1))
    all_goals
      go_wp2_with fail
      refine bodyPost_ret (by simp [results, Try.results53, go_sem, *]; try rfl) rfl ?_
      have q1' := ((hr3.away1 vk3 0 (.bool b3)).away1 (vk3.store 0 (.bool b3)) 1 (.slice A3 n3 c3)).away1 ((vk3.store 0 (.bool b3)).store 1 (.slice A3 n3 c3)) 0 (.bool true)
      have q2' := ((vr3.far (p := ⟨w1.heap.size, 0, none⟩) (by simp; omega) (.bool b3)).far (p := ⟨w1.heap.size, 1, none⟩) (by simp; omega) (.slice A3 n3 c3)).far (p := ⟨w1.heap.size, 0, none⟩) (by simp; omega) (.bool true)
      refine ⟨_, rfl, num_mk (q1'.over q2' _ _) ht3 (by simp [hneg]) ?_, by go_grown⟩
      have p1 := hv1.out
      have p2 := hv2.out
      have p3 := hv3.out
      have p4 := HM.out
      omega
  · obtain ⟨m, rfl⟩ := Int.eq_ofNat_of_zero_le hpos
    have HU := Lib.hid (fun W => unsigned_ref m (by omega) W)
    go_enter Try.func53, Try.ntmps53
    go_wp2_with fail
    refine (open_mag (HU.out _)).mono ?_
    rintro e w1 ⟨b1, A1, n1, c1, k1, rfl, hs1, hr1, ht1, hv1, hb_w1⟩
    obtain ⟨hc_w1, hf_w1⟩ := bcell hb_w1
    have hz_w1 := hb_w1.size
    try simp at hz_w1
    have hB_w1 : Below w.heap.size w w1 := Below.trans (by go_grown) (hb_w1.mono (by go_size))
    have hs_w1_0 : w.heap.size < w1.heap.size := by omega
    have vR : Var w1 w.heap.size 64 #[.bool false, .slice none 0 0] := (Var.new _ _ _).keep hb_w1
    go_wp2_with fail
    refine bodyPost_ret (by simp [results, Try.results53, go_sem, *]; try rfl) rfl ?_
    exact ⟨_, rfl, num_mk (hr1.over vR _ _) ht1 (by rw [hs1.out]; simp) (by rw [hv1.out]; omega), by go_grown⟩
end Go.Proofs.Ytcpojadinkonnaa
