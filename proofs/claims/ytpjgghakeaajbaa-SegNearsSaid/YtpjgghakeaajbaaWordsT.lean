/-
  The document's whole numbers: times.
-/
import Derived.Test.YtpjgghakeaajbaaWordsD
namespace Go.Proofs.Ytpjgghakeaajbaa
open Go.RowKit

theorem prod_bd {a b : Nat} (ha : a < 4294967296) (hb : b < 4294967296) : a * b ≤ 18446744065119617025 := Nat.mul_le_mul (Nat.le_of_lt_succ ha) (Nat.le_of_lt_succ hb)
theorem u64_wraps {f d y ca p : Nat} (hf : f < 4294967296) (hd : d < 4294967296) (hy : y < 4294967296) (hc : ca < 4294967296) (hp : f * d = p) (hpb : p ≤ 18446744065119617025) :
    IntKind.u64.wrap (f : Int) = (f : Int) ∧ IntKind.u64.wrap (d : Int) = (d : Int) ∧ IntKind.u64.wrap (y : Int) = (y : Int) ∧ IntKind.u64.wrap ((f : Int) * (d : Int)) = (p : Int) ∧ IntKind.u64.wrap ((p : Int) + (y : Int)) = (p : Int) + (y : Int) ∧ IntKind.u64.wrap ((p : Int) + (y : Int) + (ca : Int)) = (p : Int) + (y : Int) + (ca : Int) := by
  rw [show (f : Int) * (d : Int) = (p : Int) by rw [← hp, Int.natCast_mul]]
  simp only [IntKind.wrap_u64]
  exact ⟨by omega, by omega, by omega, by omega, by omega, by omega⟩

theorem times_rel {W w8 : World} {D L i j n2 p ca G : Nat} {ys d1 d2 : List Nat} (hp : dig d1 i * dig d2 j = p) (hpb : p ≤ 18446744065119617025) (hy : dig ys (i + j) < 4294967296) (hca : ca < 4294967296) (hj : j < n2) (hij : i + j < L) (hV : Var w8 D 91 (ys.map U).toArray) (hd : Digs ys) (hl : ys.length = L)
    (hv : val ys + 4294967296 ^ (i + j) * (ca + dig d1 i * val (d2.drop j)) = G) (hz : ∀ q, i + n2 ≤ q → ys.getD q 0 = 0) (hbel : Below D W w8) :
    ∃ (ca' j' : Nat) (ys' : List Nat), j' ≤ n2 ∧ Value.int .u64 (((p : Int) + (dig ys (i + j) : Int) + (ca : Int)) / 4294967296) = .int .u64 (ca' : Int) ∧ Value.int .i64 ((j : Int) + 1) = .int .i64 (j' : Int) ∧ Below D W (w8.setCell ⟨D, i + j, none⟩ (.int .u32 (((p : Int) + (dig ys (i + j) : Int) + (ca : Int)) % 4294967296))) ∧
      Var (w8.setCell ⟨D, i + j, none⟩ (.int .u32 (((p : Int) + (dig ys (i + j) : Int) + (ca : Int)) % 4294967296))) D 91 (ys'.map U).toArray ∧ Digs ys' ∧ ys'.length = L ∧ ca' < 4294967296 ∧ val ys' + 4294967296 ^ (i + j') * (ca' + dig d1 i * val (d2.drop j')) = G ∧ (∀ q, i + n2 ≤ q → ys'.getD q 0 = 0) := by
  obtain ⟨y, hy'⟩ : ∃ y, dig ys (i + j) = y := ⟨_, rfl⟩
  rw [hy'] at hy ⊢
  obtain ⟨s, hs⟩ : ∃ s, y + p + ca = s := ⟨_, rfl⟩
  have e : ((p : Int) + (y : Int) + (ca : Int)) = (s : Int) := by omega
  have e2 : ((s : Int) % 4294967296) = ((s % 4294967296 : Nat) : Int) := by omega
  rw [e]
  refine ⟨s / 4294967296, j + 1, ys.set (i + j) (s % 4294967296), hj, congrArg (Value.int .u64) (by omega), congrArg (Value.int .i64) (by omega), hbel.setCell (p := ⟨D, i + j, none⟩) (Nat.le_refl _) _, ?_, hd.set (by omega), by rw [List.length_set]; exact hl, by omega, ?_, fun q hq => by rw [getD_set_ne _ _ _ _ (by omega)]; exact hz q hq⟩
  · rw [e2, ← set_map]
    exact hV.store (i + j) _
  · have h0 := val_set ys (i + j) (s % 4294967296) (by omega)
    rw [show ys.getD (i + j) 0 = y from hy'] at h0
    rw [dig_drop d2 j] at hv
    rw [← Nat.add_assoc, Nat.pow_succ]
    exact mul_step (by rw [hp]; exact hs.symm) h0 hv
theorem times_next {W ws : World} {D L i n2 ca : Nat} {ys d1 d2 : List Nat} (_hi : i < d1.length) (hn : d2.length ≤ n2) (hij : i + n2 < L) (hca : ca < 4294967296) (hV : Var ws D 91 (ys.map U).toArray) (hd : Digs ys) (hl : ys.length = L)
    (hv : val ys + 4294967296 ^ (i + n2) * (ca + dig d1 i * val (d2.drop n2)) = val (d1.take i) * val d2 + 4294967296 ^ i * (dig d1 i * val d2)) (hz : ∀ q, i + n2 ≤ q → ys.getD q 0 = 0) (hbel : Below D W ws) :
    Below D W (ws.setCell ⟨D, i + n2, none⟩ (.int .u32 (ca : Int))) ∧ Var (ws.setCell ⟨D, i + n2, none⟩ (.int .u32 (ca : Int))) D 91 ((ys.set (i + n2) ca).map U).toArray ∧ Digs (ys.set (i + n2) ca) ∧ (ys.set (i + n2) ca).length = L ∧ val (ys.set (i + n2) ca) = val (d1.take (i + 1)) * val d2 ∧ (∀ q, i + 1 + n2 ≤ q → (ys.set (i + n2) ca).getD q 0 = 0) := by
  refine ⟨hbel.setCell (p := ⟨D, i + n2, none⟩) (Nat.le_refl _) _, ?_, hd.set hca, by rw [List.length_set]; exact hl, ?_, fun q hq => by rw [getD_set_ne _ _ _ _ (by omega)]; exact hz q (by omega)⟩
  · rw [← set_map]
    exact hV.store (i + n2) _
  · have h0 := val_set ys (i + n2) ca (by omega)
    rw [hz (i + n2) (Nat.le_refl _), Nat.mul_zero, Nat.add_zero] at h0
    rw [drop_out hn, Nat.mul_zero, Nat.add_zero] at hv
    rw [h0, hv, val_take_succ, Nat.add_mul, Nat.mul_assoc]

set_option maxHeartbeats 1600000 in
set_option maxRecDepth 100000 in
theorem times_w {w0 : World} {A1 A2 : Option Addr} {n1 c1 n2 c2 : Nat} {d1 d2 : List Nat} (h1 : RawAt w0 A1 n1 c1 d1) (h2 : RawAt w0 A2 n2 c2 d2) (s1 s2 : Bool) (hn1 : n1 ≤ 40000) (hn2 : n2 ≤ 40000) (w : World) (hw : Below w0.heap.size w0 w) :
    Calls Try.prog 46 #[.agg #[.bool s1, .slice A1 n1 c1], .agg #[.bool s2, .slice A2 n2 c2]] w fun e w' => ∃ v, e = .returned v ∧ MagAt w' v ((!s1 == s2) && decide (¬ val d1 * val d2 = 0)) (val d1 * val d2) ∧ Below w.heap.size w w' := by
  have r1 := h1.below hw
  have r2 := h2.below hw
  have l1 := h1.len
  have l2 := h2.len
  have g1 := h1.digs
  have g2 := h2.digs
  clear h1 h2 hw
  have HL := Lib.hid (And.intro l1 l2)
  clear l1 l2
  obtain ⟨L, hL⟩ : ∃ L, n1 + n2 = L := ⟨_, rfl⟩
  have hmk := fun W => run_make_row' (P := Try.prog) 49 91 (.int .u32 0) 4 Try.underlying49 (by kernel_rfl) rfl .i64 .i64 L (by omega) (by omega) W
  rw [show ((L : Nat) : Int) = (n1 : Int) + (n2 : Int) by omega, noughts] at hmk
  have HLL := Lib.hid hL
  clear hL
  go_enter Try.func46, Try.ntmps46
  go_wp2_with fail
  refine wp_gen (fun W hW => ?_)
  have v0 : Var W w.heap.size 51 #[.bool s1, .slice A1 n1 c1] := by rw [hW]; exact (((Var.new _ _ _).alloc _).alloc _).alloc _
  have v1 : Var W (w.heap.size + 1) 51 #[.bool s2, .slice A2 n2 c2] := by rw [hW]; exact ((Var.new' _ _ _ (by simp)).alloc _).alloc _
  have vR : Var W (w.heap.size + 1 + 1) 51 #[.bool false, .slice none 0 0] := by rw [hW]; exact (Var.new' _ _ _ (by simp)).alloc _
  have vD : Var W (w.heap.size + 1 + 1 + 1) 91 ((List.replicate L 0).map U).toArray := by
    rw [hW, show (((List.replicate L 0).map U).toArray : Array Value) = Array.replicate L (U 0) by simp]
    exact Var.new' _ _ _ (by simp)
  have hBW : Below w.heap.size w W := by rw [hW]; go_grown
  clear hW hmk
  obtain ⟨X, hX⟩ : ∃ X, w.heap.size = X := ⟨_, rfl⟩
  have HX0 := Lib.hid hX
  rw [hX] at v0 v1 vR vD hBW ⊢
  obtain ⟨Y, hY⟩ : ∃ Y, X + 1 = Y := ⟨_, rfl⟩
  rw [hY] at v1 vR vD ⊢
  obtain ⟨R, hR⟩ : ∃ R, Y + 1 = R := ⟨_, rfl⟩
  rw [hR] at vR vD ⊢
  obtain ⟨D, hD⟩ : ∃ D, R + 1 = D := ⟨_, rfl⟩
  rw [hD] at vD ⊢
  have hXD : X < D := by omega
  have hYD : Y < D := by omega
  have hRD : R < D := by omega
  have hXR : X < R := by omega
  have hXY : X ≤ D := by omega
  clear hX hY hR hD
  have hLI : (L : Int) = (n1 : Int) + (n2 : Int) := by have := HLL.out; omega
  rw [← hLI]
  go_loopw [6] (fun t wr => ∃ (i : Nat) (xs : List Nat), i ≤ n1 ∧ t = .int .i64 (i : Int) ∧ Below D W wr ∧ Var wr D 91 (xs.map U).toArray ∧
      Digs xs ∧ xs.length = L ∧ val xs = val (d1.take i) * val d2 ∧ (∀ q, i + n2 ≤ q → xs.getD q 0 = 0))
    (fun t _ => n1 - (intOf t).toNat)
  case atStart => exact ⟨0, List.replicate L 0, by omega, rfl, Below.refl _ _, vD, digs_replicate _, List.length_replicate, by simp [val_replicate, val], fun q _ => rep_zero _ _⟩
  case round =>
    obtain ⟨i, xs, hi, rfl, hbel, vD', hdx, hlx, hvx, hzx⟩ := hrel
    have HX := Lib.hid (And.intro hdx (And.intro hlx (And.intro hvx hzx)))
    clear hdx hlx hvx hzx
    have v0' := v0.below hbel hXD
    have v1' := v1.below hbel hYD
    have vR' := vR.below hbel hRD
    have a0 : wr.cell? ⟨X, 0, none⟩ = some (.bool s1) := v0'.cell 0
    have a1 : wr.cell? ⟨X, 1, none⟩ = some (.slice A1 n1 c1) := v0'.cell 1
    have b0 : wr.cell? ⟨Y, 0, none⟩ = some (.bool s2) := v1'.cell 0
    have b1 : wr.cell? ⟨Y, 1, none⟩ = some (.slice A2 n2 c2) := v1'.cell 1
    have q0 : wr.cell? ⟨R, 0, none⟩ = some (.bool false) := vR'.cell 0
    have q1 : wr.cell? ⟨R, 1, none⟩ = some (.slice none 0 0) := vR'.cell 1
    have e0 := vR'.free 0
    have e1 := vR'.free 1
    have z3 := vD'.lt
    have z2 := vR'.lt
    have hBr : Below w.heap.size w wr := by rw [HX0.out]; exact hBW.trans (hbel.mono hXY)
    rcases Nat.lt_or_ge i n1 with hlt | hge
    · go_wp2_with fail
      obtain ⟨wo, rfl⟩ : ∃ z, z = wr := ⟨_, rfl⟩
      go_loopw [7, 8] (fun cy t ws => ∃ (ca j : Nat) (ys : List Nat), j ≤ n2 ∧ cy = .int .u64 (ca : Int) ∧ t = .int .i64 (j : Int) ∧ Below D W ws ∧ Var ws D 91 (ys.map U).toArray ∧
          Digs ys ∧ ys.length = L ∧ ca < 4294967296 ∧ val ys + 4294967296 ^ (i + j) * (ca + dig d1 i * val (d2.drop j)) = val (d1.take i) * val d2 + 4294967296 ^ i * (dig d1 i * val d2) ∧ (∀ q, i + n2 ≤ q → ys.getD q 0 = 0))
        (fun _ t _ => n2 - (intOf t).toNat)
      case atStart => exact ⟨0, 0, xs, by omega, rfl, rfl, hbel, vD', HX.out.1, HX.out.2.1, by omega, by rw [HX.out.2.2.1]; simp, HX.out.2.2.2⟩
      case round =>
        obtain ⟨ca, j, ys, hj, rfl, rfl, hbel2, vD2, hdy, hly, hca, hvy, hzy⟩ := hrel
        have HY := Lib.hid (And.intro hdy (And.intro hly (And.intro hvy hzy)))
        clear hdy hly hvy hzy a0 a1 b0 b1 q0 q1 e0 e1 z3 z2
        have v0' := v0.below hbel2 hXD
        have v1' := v1.below hbel2 hYD
        have vR' := vR.below hbel2 hRD
        have hBs : Below w.heap.size w wr := by rw [HX0.out]; exact hBW.trans (hbel2.mono hXY)
        have a1 : wr.cell? ⟨X, 1, none⟩ = some (.slice A1 n1 c1) := v0'.cell 1
        have b1 : wr.cell? ⟨Y, 1, none⟩ = some (.slice A2 n2 c2) := v1'.cell 1
        have y3 := vD2.lt
        have y1 := v1'.lt
        have y0 := v0'.lt
        rcases Nat.lt_or_ge j n2 with hl | hl
        · have hij : i + j < L := by have := HLL.out; omega
          obtain ⟨b, o, rfl, hb, ha⟩ := (r1.below hBs).at_ hlt
          obtain ⟨b', o', rfl, hb', ha'⟩ := (r2.below hBs).at_ hl
          have k1 : wr.cell? ⟨b, o + i, none⟩ = some (.int .u32 (dig d1 i : Int)) := ha
          have k2 : wr.cell? ⟨b', o' + j, none⟩ = some (.int .u32 (dig d2 j : Int)) := ha'
          have hd : wr.cell? ⟨D, i + j, none⟩ = some (.int .u32 (dig ys (i + j) : Int)) := (vD2.cell (i + j)).trans (get_map HY.out.2.1 hij)
          clear ha ha'
          have t1 := dig_lt g1 i
          have t2 := dig_lt g2 j
          have t3 := dig_lt HY.out.1 (i + j)
          have hpb := prod_bd t1 t2
          obtain ⟨p, hp⟩ : ∃ p, dig d1 i * dig d2 j = p := ⟨_, rfl⟩
          rw [hp] at hpb
          obtain ⟨m1, m2, m3, m4, m5, m6⟩ := u64_wraps t1 t2 t3 hca hp hpb
          have HPP := Lib.hid hp
          have fD := vD2.free (i + j)
          clear hp
          go_wp2_with fail
          have hq_wr := @wd_cell wr
          refine wp_region_wd (by kernel_rfl) (by kernel_rfl) ?_
          repeat (go_big_quiet_step (fail))
          refine wpQuiet_nil ?_
          rintro w8 ⟨⟨wx, hb_w8⟩, hwx⟩
          obtain rfl : w8 = wx := hwx
          clear hq_wr
          have hz_w8 := hb_w8.size
          obtain ⟨hc_w8, hf_w8⟩ := bcell hb_w8
          have hs_w8_0 : X < w8.heap.size := Nat.lt_of_lt_of_le (by assumption) hb_w8.size
          have hs_w8_1 : Y < w8.heap.size := Nat.lt_of_lt_of_le (by assumption) hb_w8.size
          have hs_w8_2 : D < w8.heap.size := Nat.lt_of_lt_of_le (by assumption) hb_w8.size
          have hs_w8_3 : b < w8.heap.size := Nat.lt_of_lt_of_le (by assumption) hb_w8.size
          have hs_w8_4 : b' < w8.heap.size := Nat.lt_of_lt_of_le (by assumption) hb_w8.size
          clear m1 m2 m3 m4 m5 m6
          go_wp2_with fail
          go_roundw
          case measure => simp [intOf]; omega
          case rel => exact times_rel HPP.out hpb t3 hca hl hij (vD2.keep hb_w8) HY.out.1 HY.out.2.1 HY.out.2.2.1 HY.out.2.2.2 (hbel2.trans (hb_w8.mono (Nat.le_of_lt y3)))
        · obtain rfl : j = n2 := by omega
          have hij : i + j < L := by have := HLL.out; omega
          have hd : wr.cell? ⟨D, i + j, none⟩ = some (.int .u32 ((ys.getD (i + j) 0 : Nat) : Int)) := (vD2.cell (i + j)).trans (get_map HY.out.2.1 hij)
          have fD := vD2.free (i + j)
          have HF := Lib.hid (times_next (W := W) (by rw [HL.out.1]; exact hlt) (Nat.le_of_eq HL.out.2) hij hca vD2 HY.out.1 HY.out.2.1 HY.out.2.2.1 HY.out.2.2.2 hbel2)
          clear vD2
          go_wp2_with fail
          go_roundw
          case measure => simp [intOf]; omega
          case rel => exact ⟨i + 1, ys.set (i + j) ca, hlt, rfl, HF.out⟩
    · obtain rfl : i = n1 := by omega
      have hfin : val xs = val d1 * val d2 := by
        have := HX.out.2.2.1
        rw [List.take_of_length_le (Nat.le_of_eq HL.out.1)] at this
        exact this
      have hraw : RawAt wr (some ⟨D, 0, none⟩) L L xs := raw_of_var vD' HX.out.2.1 (by have := HLL.out; omega) HX.out.1
      have HF := Lib.hid (And.intro hfin (And.intro hraw hBr))
      clear hfin hraw hBr vD'
      go_wp2_with fail
      refine (made_w HF.out.2.1 (!s1 == s2) _ (Below.refl _ _)).mono ?_
      rintro e w9 ⟨v, rfl, ⟨A', n', c', ds', rfl, hr9, ht, hval⟩, hb9⟩
      have vR9 := vR'.keep hb9
      have r0 := vR9.cell 0
      have r1' := vR9.cell 1
      have f0 := vR9.free 0
      have f1 := vR9.free 1
      have HR := Lib.hid (And.intro hr9 (And.intro ht (And.intro hval (And.intro vR9 (HF.out.2.2.trans (hb9.mono HF.out.2.2.size))))))
      clear hr9 ht hval hb9 vR9
      go_wp2_with fail
      refine bodyPost_ret (by simp [results, Try.results46, go_sem, *]; try rfl) rfl ?_
      obtain ⟨hr9, ht, hval, vR9, hb9⟩ := HR.out
      rw [HF.out.1] at hval ⊢
      exact ⟨_, rfl, ⟨A', n', c', ds', by simp, hr9.over vR9 _ _, ht, hval⟩, (hb9.setCell (p := ⟨R, 0, none⟩) (by have := HX0.out; show w.heap.size ≤ R; omega) _).setCell (p := ⟨R, 1, none⟩) (by have := HX0.out; show w.heap.size ≤ R; omega) _⟩

end Go.Proofs.Ytpjgghakeaajbaa
