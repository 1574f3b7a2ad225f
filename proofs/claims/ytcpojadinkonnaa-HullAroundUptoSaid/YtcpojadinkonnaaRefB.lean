/-
  Contracts of the reference's functions on sizes: less, cmpSize.
-/
import Derived.Test.YtcpojadinkonnaaRef
namespace Go.Proofs.Ytcpojadinkonnaa
open Go.RowKit

theorem ret_int {k : IntKind} {a b : Int} (h : a = b) : Ending.returned (.int k a) = .returned (.int k b) := by rw [h]
theorem less_end {v a b P x : Nat} (h : v + P * 0 + b = a + P * x) (hv : v < P) (hb : b ≤ a) : v = a - b := by
  rcases Nat.eq_zero_or_pos x with h0 | h0
  · subst h0; simp at h; omega
  · have := Nat.le_mul_of_pos_right P h0
    omega

set_option maxHeartbeats 1600000 in
set_option maxRecDepth 100000 in
theorem less_any {w0 : World} {A1 A2 : Option Addr} {n1 c1 n2 c2 : Nat} {d1 d2 : List Nat} (h1 : RawAt w0 A1 n1 c1 d1) (h2 : RawAt w0 A2 n2 c2 d2) (s1 s2 : Bool) (hn1 : n1 ≤ 100000) (hle : val d2 ≤ val d1) (w : World) (hw : Below w0.heap.size w0 w) :
    Calls Try.prog 105 #[.agg #[.bool s1, .slice A1 n1 c1], .agg #[.bool s2, .slice A2 n2 c2]] w fun e w' => ∃ v, e = .returned v ∧ MagAt w' v false (val d1 - val d2) ∧ Below w.heap.size w w' := by
  have r1 := h1.below hw
  have r2 := h2.below hw
  have l1 := h1.len
  have l2 := h2.len
  have g1 := h1.digs
  have g2 := h2.digs
  clear h1 h2 hw
  have HLE := Lib.hid hle
  clear hle
  have HL := Lib.hid (And.intro l1 l2)
  clear l1 l2
  go_enter Try.func105, Try.ntmps105
  go_wp2_with fail
  refine wp_gen (fun W hW => ?_)
  have v0 : Var W w.heap.size 64 #[.bool s1, .slice A1 n1 c1] := by rw [hW]; exact (((Var.new _ _ _).alloc _).alloc _).alloc _
  have v1 : Var W (w.heap.size + 1) 64 #[.bool s2, .slice A2 n2 c2] := by rw [hW]; exact ((Var.new' _ _ _ (by simp)).alloc _).alloc _
  have vR : Var W (w.heap.size + 1 + 1) 64 #[.bool false, .slice none 0 0] := by rw [hW]; exact (Var.new' _ _ _ (by simp)).alloc _
  have vX : Var W (w.heap.size + 1 + 1 + 1) 64 #[.bool false, .slice none 0 0] := by rw [hW]; exact Var.new' _ _ _ (by simp)
  have hBW : Below w.heap.size w W := by rw [hW]; go_grown
  clear hW
  go_loopw [6, 7] (fun cy t wr => ∃ (ca k c : Nat) (A : Option Addr) (ds : List Nat), cy = .int .u64 (ca : Int) ∧ t = .int .i64 (k : Int) ∧ Built W wr (w.heap.size + 1 + 1 + 1) A k c ds ∧
      (ca ≤ 1 ∧ k ≤ n1) ∧ val ds + 65536 ^ k * val (d1.drop k) + val d2 = val d1 + 65536 ^ k * (ca + val (d2.drop k)))
    (fun _ t _ => n1 - (intOf t).toNat)
  case atStart => exact ⟨0, 0, 0, none, [], rfl, rfl, Built.start vX, by omega, by simp [val]⟩
  case round =>
    obtain ⟨ca, k, c, A, ds, rfl, rfl, hbu, ⟨hca, hk⟩, hv⟩ := hrel
    have HV := Lib.hid hv
    clear hv
    have x0 : wr.cell? ⟨w.heap.size + 1 + 1 + 1, 0, none⟩ = some (.bool false) := hbu.var.cell 0
    have x1 : wr.cell? ⟨w.heap.size + 1 + 1 + 1, 1, none⟩ = some (.slice A k c) := hbu.var.cell 1
    have f1 := hbu.var.free 1
    have vR' := vR.below hbu.bel (by omega)
    have v0' := v0.below hbu.bel (by omega)
    have v1' := v1.below hbu.bel (by omega)
    have a0 : wr.cell? ⟨w.heap.size, 0, none⟩ = some (.bool s1) := v0'.cell 0
    have a1 : wr.cell? ⟨w.heap.size, 1, none⟩ = some (.slice A1 n1 c1) := v0'.cell 1
    have b0 : wr.cell? ⟨w.heap.size + 1, 0, none⟩ = some (.bool s2) := v1'.cell 0
    have b1 : wr.cell? ⟨w.heap.size + 1, 1, none⟩ = some (.slice A2 n2 c2) := v1'.cell 1
    have q0 : wr.cell? ⟨w.heap.size + 1 + 1, 0, none⟩ = some (.bool false) := vR'.cell 0
    have q1 : wr.cell? ⟨w.heap.size + 1 + 1, 1, none⟩ = some (.slice none 0 0) := vR'.cell 1
    have e0 := vR'.free 0
    have e1 := vR'.free 1
    have z3 := hbu.var.lt
    have z2 := vR'.lt
    have z1 := v1'.lt
    have z0 := v0'.lt
    have hBr : Below w.heap.size w wr := hBW.trans (hbu.bel.mono (by omega))
    rcases Nat.lt_or_ge k n1 with hl | hl
    · have t1 := dig_lt g1 k
      have t2 := dig_lt g2 k
      rcases Nat.lt_or_ge 1 0 with hno | hno
      · omega
      · skip
        go_wp2_with fail
        have hq_wr := @wd_cell wr
        refine wp_region_wd (by kernel_rfl) (by kernel_rfl) ?_
        repeat (go_big_quiet_step ((first | (go_at_call_of 95 (Value.agg #[.bool s1, .slice A1 n1 c1]); with_reducible exact quiet_wd (digit_any (r1.below hBr) s1 k _ (Wd.h _))) | (go_at_call_of 95 (Value.agg #[.bool s2, .slice A2 n2 c2]); with_reducible exact quiet_wd (digit_any (r2.below hBr) s2 k _ (Wd.h _))))))
        refine wpQuiet_nil ?_
        rintro w8 ⟨⟨wx, hb_w8⟩, hwx⟩
        obtain rfl : w8 = wx := hwx
        clear hq_wr
        have hz_w8 := hb_w8.size
        obtain ⟨hc_w8, hf_w8⟩ := bcell hb_w8
        have hB_w8 : Below w.heap.size w w8 := Below.trans (by go_grown) (hb_w8.mono (by go_size))
        have hb8 := hbu.keep hb_w8
        have y3 := hb8.var.lt
        go_wp2_with (at_builtin; refine wpList_push rfl (.tmp 27) (.tmp 30) 62 rfl elt (w.heap.size + 1 + 1 + 1 + 1) A k c (ds.map U) rfl hb8.own [_] rfl rfl (one_cell rfl) (le_maxLen (by omega)) (by omega) (by omega) ?_; intro A' c' w' hown' hg; obtain ⟨m0, m1, mf, mz⟩ := hb8.mid hg; have mz' : w.heap.size + 1 + 1 + 1 < w'.heap.size := by omega)
        go_roundw
        case rel =>
          have hs : (dig d1 k + 65536 - dig d2 k - ca) + dig d2 k + ca = dig d1 k + 65536 := by omega
          have e1 : (((dig d1 k : Nat) : Int) + 65536 - (dig d2 k : Nat) - (ca : Nat)) % 65536 = (((dig d1 k + 65536 - dig d2 k - ca) % 65536 : Nat) : Int) := by omega
          rw [e1] at hown'
          have hv := HV.out
          refine ⟨1 - (dig d1 k + 65536 - dig d2 k - ca) / 65536, k + 1, c', A', ds ++ [(dig d1 k + 65536 - dig d2 k - ca) % 65536], congrArg (Value.int .u64) (by omega), congrArg (Value.int .i64) (by omega), hb8.more (by omega) hown' hg, by omega, ?_⟩
          rw [val_snoc, hbu.len, Nat.pow_succ]
          rw [dig_drop d1 k, dig_drop d2 k] at hv
          have st := less_step (P := 65536 ^ k) (A := val (d1.drop (k + 1))) (B := val (d2.drop (k + 1))) hs t1
          omega
        case measure => simp [intOf]; omega
    · skip
      have hfin : val ds = val d1 - val d2 := by
        have := HV.out
        rw [drop_out (ds := d1) (by rw [HL.out.1]; exact hl)] at this
        have hlt := val_lt hbu.digs
        rw [hbu.len] at hlt
        exact less_end this hlt HLE.out
      have HF := Lib.hid hfin
      clear hfin
      go_wp2_with fail
      refine (trimmed_any hbu.raw false _ (Below.refl _ _)).mono ?_
      rintro e w9 ⟨v, rfl, ⟨A', n', c', ds', rfl, hraw, ht, hval⟩, hb_w9⟩
      obtain ⟨hc_w9, hf_w9⟩ := bcell hb_w9
      have hz_w9 := hb_w9.size
      try simp at hz_w9
      have hB_w9 : Below w.heap.size w w9 := Below.trans (by go_grown) (hb_w9.mono (by go_size))
      have hs_w9_0 : w.heap.size < w9.heap.size := by omega
      have hs_w9_1 : w.heap.size + 1 < w9.heap.size := by omega
      have hs_w9_2 : w.heap.size + 1 + 1 < w9.heap.size := by omega
      have vR9 := vR'.keep hb_w9
      go_wp2_with fail
      refine bodyPost_ret (by simp [results, Try.results105, go_sem, *]; try rfl) rfl ?_
      refine ⟨_, rfl, ⟨A', n', c', ds', rfl, hraw.over vR9 _ _, ht, hval.trans HF.out⟩, by go_grown⟩


set_option maxHeartbeats 1600000 in
theorem cmpSize_any {w0 : World} {A1 A2 : Option Addr} {n1 c1 n2 c2 : Nat} {d1 d2 : List Nat} (h1 : RawAt w0 A1 n1 c1 d1) (h2 : RawAt w0 A2 n2 c2 d2) (s1 s2 : Bool) (hn1 : n1 ≤ 100000) (hn2 : n2 ≤ 100000) (w : World) (hw : Below w0.heap.size w0 w) :
    Calls Try.prog 79 #[.agg #[.bool s1, .slice A1 n1 c1], .agg #[.bool s2, .slice A2 n2 c2]] w fun e w' => e = .returned (.int .i64 (cmpI (val d1) (val d2))) ∧ Below w.heap.size w w' := by
  have r1 := h1.below hw
  have r2 := h2.below hw
  have l1 := h1.len
  have l2 := h2.len
  have g1 := h1.digs
  have g2 := h2.digs
  clear h1 h2 hw
  have HL := Lib.hid (And.intro l1 l2)
  clear l1 l2
  by_cases hmx : n1 < n2
  all_goals
    go_enter Try.func79, Try.ntmps79
    go_wp2_with fail
    refine wp_gen (fun W hW => ?_)
    have v0 : Var W w.heap.size 64 #[.bool s1, .slice A1 n1 c1] := by rw [hW]; exact (Var.new _ _ _).alloc _
    have v1 : Var W (w.heap.size + 1) 64 #[.bool s2, .slice A2 n2 c2] := by rw [hW]; exact Var.new' _ _ _ (by simp)
    have hBW : Below w.heap.size w W := by rw [hW]; go_grown
    clear hW
    go_loopw [6] (fun t wr => ∃ (j : Nat) (z : Int), t = .int .i64 z ∧ z = (j : Int) - 1 ∧ j ≤ n1 + n2 ∧ val (d1.drop j) = val (d2.drop j) ∧ Below W.heap.size W wr)
      (fun t _ => (intOf t + 1).toNat)
    case atStart =>
      first
        | exact ⟨n2, _, rfl, rfl, by omega, by rw [drop_out (by rw [HL.out.1]; omega), drop_out (by rw [HL.out.2]; omega)], Below.refl _ _⟩
        | exact ⟨n1, _, rfl, rfl, by omega, by rw [drop_out (by rw [HL.out.1]; omega), drop_out (by rw [HL.out.2]; omega)], Below.refl _ _⟩
    case round =>
      obtain ⟨j, z, rfl, hz, hj, hv, hbel⟩ := hrel
      have HV := Lib.hid hv
      clear hv
      have v0' := v0.keep hbel
      have v1' := v1.keep hbel
      have a0 : wr.cell? ⟨w.heap.size, 0, none⟩ = some (.bool s1) := v0'.cell 0
      have a1 : wr.cell? ⟨w.heap.size, 1, none⟩ = some (.slice A1 n1 c1) := v0'.cell 1
      have b0 : wr.cell? ⟨w.heap.size + 1, 0, none⟩ = some (.bool s2) := v1'.cell 0
      have b1 : wr.cell? ⟨w.heap.size + 1, 1, none⟩ = some (.slice A2 n2 c2) := v1'.cell 1
      have z1 := v1'.lt
      have z0 := v0'.lt
      have hBr : Below w.heap.size w wr := hBW.trans (hbel.mono (Nat.le_trans (Nat.le_of_lt v0.lt) (Nat.le_refl _)))
      rcases Nat.eq_zero_or_pos j with hj0 | hj0
      · subst hj0
        obtain rfl : z = -1 := by omega
        clear hz
        have HC := Lib.hid (show cmpI (val d1) (val d2) = 0 from by
          have h := HV.out
          simp only [List.drop_zero] at h
          rw [h]; exact cmp_self _)
        go_wp2_with fail
        go_ret
        exact ⟨ret_int HC.out.symm, by go_grown⟩
      · obtain ⟨i, rfl⟩ : ∃ i, j = i + 1 := ⟨j - 1, by omega⟩
        obtain rfl : z = (i : Int) := by omega
        clear hz hj0
        rcases Nat.lt_trichotomy (dig d1 i) (dig d2 i) with hd | hd | hd
        · have HC := Lib.hid (show cmpI (val d1) (val d2) = -1 from by
            have h := val_lt_of_drop g1 i (val_drop_lt i hd HV.out)
            unfold cmpI; rw [if_pos (by omega)])
          go_wp2_with fail
          have hq_wr := @wd_cell wr
          refine wp_region_wd (by kernel_rfl) (by kernel_rfl) ?_
          repeat (go_big_quiet_step ((first | (go_at_call_of 95 (Value.agg #[.bool s1, .slice A1 n1 c1]); with_reducible exact quiet_wd (digit_any (r1.below hBr) s1 i _ (Wd.h _))) | (go_at_call_of 95 (Value.agg #[.bool s2, .slice A2 n2 c2]); with_reducible exact quiet_wd (digit_any (r2.below hBr) s2 i _ (Wd.h _))))))
          refine wpQuiet_nil ?_
          rintro w8 ⟨⟨wx, hb_w8⟩, hwx⟩
          obtain rfl : w8 = wx := hwx
          clear hq_wr
          have hz_w8 := hb_w8.size
          obtain ⟨hc_w8, hf_w8⟩ := bcell hb_w8
          have hB_w8 : Below w.heap.size w w8 := Below.trans (by go_grown) (hb_w8.mono (by go_size))
          have hs_w8_0 : w.heap.size < w8.heap.size := Nat.lt_of_lt_of_le (by assumption) hb_w8.size
          have hs_w8_1 : w.heap.size + 1 < w8.heap.size := Nat.lt_of_lt_of_le (by assumption) hb_w8.size
          go_wp2_with fail
          go_ret
          exact ⟨ret_int HC.out.symm, by go_grown⟩
        · have hd' : ¬ dig d1 i < dig d2 i := by omega
          have hd'' : ¬ dig d2 i < dig d1 i := by omega
          have HD := Lib.hid hd
          clear hd
          go_wp2_with fail
          have hq_wr := @wd_cell wr
          refine wp_region_wd (by kernel_rfl) (by kernel_rfl) ?_
          repeat (go_big_quiet_step ((first | (go_at_call_of 95 (Value.agg #[.bool s1, .slice A1 n1 c1]); with_reducible exact quiet_wd (digit_any (r1.below hBr) s1 i _ (Wd.h _))) | (go_at_call_of 95 (Value.agg #[.bool s2, .slice A2 n2 c2]); with_reducible exact quiet_wd (digit_any (r2.below hBr) s2 i _ (Wd.h _))))))
          refine wpQuiet_nil ?_
          rintro w8 ⟨⟨wx, hb_w8⟩, hwx⟩
          obtain rfl : w8 = wx := hwx
          clear hq_wr
          have hz_w8 := hb_w8.size
          obtain ⟨hc_w8, hf_w8⟩ := bcell hb_w8
          have hB_w8 : Below w.heap.size w w8 := Below.trans (by go_grown) (hb_w8.mono (by go_size))
          have hs_w8_0 : w.heap.size < w8.heap.size := Nat.lt_of_lt_of_le (by assumption) hb_w8.size
          have hs_w8_1 : w.heap.size + 1 < w8.heap.size := Nat.lt_of_lt_of_le (by assumption) hb_w8.size
          go_wp2_with fail
          have hq_w8 := @wd_cell w8
          refine wp_region_wd (by kernel_rfl) (by kernel_rfl) ?_
          repeat (go_big_quiet_step ((first | (go_at_call_of 95 (Value.agg #[.bool s1, .slice A1 n1 c1]); with_reducible exact quiet_wd (digit_any (r1.below hB_w8) s1 i _ (Wd.h _))) | (go_at_call_of 95 (Value.agg #[.bool s2, .slice A2 n2 c2]); with_reducible exact quiet_wd (digit_any (r2.below hB_w8) s2 i _ (Wd.h _))))))
          refine wpQuiet_nil ?_
          rintro w9 ⟨⟨wx, hb_w9⟩, hwx⟩
          obtain rfl : w9 = wx := hwx
          clear hq_w8
          have hz_w9 := hb_w9.size
          obtain ⟨hc_w9, hf_w9⟩ := bcell hb_w9
          have hB_w9 : Below w.heap.size w w9 := Below.trans (by go_grown) (hb_w9.mono (by go_size))
          have hs_w9_0 : w.heap.size < w9.heap.size := Nat.lt_of_lt_of_le (by assumption) hb_w9.size
          have hs_w9_1 : w.heap.size + 1 < w9.heap.size := Nat.lt_of_lt_of_le (by assumption) hb_w9.size
          go_wp2_with fail
          go_roundw
          case rel => exact ⟨i, _, rfl, rfl, by omega, val_eq_of_drop i HD.out HV.out, (hbel.trans (hb_w8.mono hbel.size)).trans (hb_w9.mono (Nat.le_trans hbel.size hb_w8.size))⟩
          case measure => simp [intOf]
        · have HC := Lib.hid (show cmpI (val d1) (val d2) = 1 from by
            have h := val_lt_of_drop g2 i (val_drop_lt i hd HV.out.symm)
            unfold cmpI; rw [if_neg (by omega), if_neg (by omega)])
          have hd' : ¬ dig d1 i < dig d2 i := by omega
          go_wp2_with fail
          have hq_wr := @wd_cell wr
          refine wp_region_wd (by kernel_rfl) (by kernel_rfl) ?_
          repeat (go_big_quiet_step ((first | (go_at_call_of 95 (Value.agg #[.bool s1, .slice A1 n1 c1]); with_reducible exact quiet_wd (digit_any (r1.below hBr) s1 i _ (Wd.h _))) | (go_at_call_of 95 (Value.agg #[.bool s2, .slice A2 n2 c2]); with_reducible exact quiet_wd (digit_any (r2.below hBr) s2 i _ (Wd.h _))))))
          refine wpQuiet_nil ?_
          rintro w8 ⟨⟨wx, hb_w8⟩, hwx⟩
          obtain rfl : w8 = wx := hwx
          clear hq_wr
          have hz_w8 := hb_w8.size
          obtain ⟨hc_w8, hf_w8⟩ := bcell hb_w8
          have hB_w8 : Below w.heap.size w w8 := Below.trans (by go_grown) (hb_w8.mono (by go_size))
          have hs_w8_0 : w.heap.size < w8.heap.size := Nat.lt_of_lt_of_le (by assumption) hb_w8.size
          have hs_w8_1 : w.heap.size + 1 < w8.heap.size := Nat.lt_of_lt_of_le (by assumption) hb_w8.size
          go_wp2_with fail
          have hq_w8 := @wd_cell w8
          refine wp_region_wd (by kernel_rfl) (by kernel_rfl) ?_
          repeat (go_big_quiet_step ((first | (go_at_call_of 95 (Value.agg #[.bool s1, .slice A1 n1 c1]); with_reducible exact quiet_wd (digit_any (r1.below hB_w8) s1 i _ (Wd.h _))) | (go_at_call_of 95 (Value.agg #[.bool s2, .slice A2 n2 c2]); with_reducible exact quiet_wd (digit_any (r2.below hB_w8) s2 i _ (Wd.h _))))))
          refine wpQuiet_nil ?_
          rintro w9 ⟨⟨wx, hb_w9⟩, hwx⟩
          obtain rfl : w9 = wx := hwx
          clear hq_w8
          have hz_w9 := hb_w9.size
          obtain ⟨hc_w9, hf_w9⟩ := bcell hb_w9
          have hB_w9 : Below w.heap.size w w9 := Below.trans (by go_grown) (hb_w9.mono (by go_size))
          have hs_w9_0 : w.heap.size < w9.heap.size := Nat.lt_of_lt_of_le (by assumption) hb_w9.size
          have hs_w9_1 : w.heap.size + 1 < w9.heap.size := Nat.lt_of_lt_of_le (by assumption) hb_w9.size
          go_wp2_with fail
          go_ret
          exact ⟨ret_int HC.out.symm, by go_grown⟩

end Go.Proofs.Ytcpojadinkonnaa
