/-
  Contract of the reference's Mul: the product of two sizes, of two whole numbers.
-/
import Derived.Test.YtcpojadinkonnaaRefF
import Derived.Test.YtcpojadinkonnaaNatMore
import Derived.Deep.OwnRows
namespace Go.Proofs.Ytcpojadinkonnaa
open Go.RowKit

theorem prod_small {a b : Nat} (ha : a < 65536) (hb : b < 65536) : (a : Int) * (b : Int) ≤ 4294836225 ∧ 0 ≤ (a : Int) * (b : Int) := by
  have h := Nat.mul_le_mul (Nat.le_of_lt_succ ha) (Nat.le_of_lt_succ hb)
  rw [← Int.natCast_mul]
  omega
theorem mul_cell {y f d ca : Nat} (hy : y < 65536) (hf : f < 65536) (hd : d < 65536) (hc : ca < 65536) :
    (IntKind.u64.wrap (IntKind.u64.wrap ((y : Int) + IntKind.u64.wrap ((f : Int) * (d : Int))) + (ca : Int))).tdiv 65536 = (((y + f * d + ca) / 65536 : Nat) : Int) ∧
    (IntKind.u64.wrap (IntKind.u64.wrap ((y : Int) + IntKind.u64.wrap ((f : Int) * (d : Int))) + (ca : Int))).tmod 65536 = (((y + f * d + ca) % 65536 : Nat) : Int) := by
  have h := Nat.mul_le_mul (Nat.le_of_lt_succ hf) (Nat.le_of_lt_succ hd)
  rw [← Int.natCast_mul]
  generalize f * d = p at *
  have e : IntKind.u64.wrap (IntKind.u64.wrap ((y : Int) + IntKind.u64.wrap (p : Int)) + (ca : Int)) = ((y + p + ca : Nat) : Int) := by
    simp only [IntKind.wrap_u64]; omega
  rw [e]
  exact ⟨by rw [Int.tdiv_eq_ediv_of_nonneg (by omega)]; omega, by rw [Int.tmod_eq_emod_of_nonneg (by omega)]; omega⟩
theorem take_dig {ds : List Nat} {i : Nat} (h : i < ds.length) : ds.take (i + 1) = ds.take i ++ [dig ds i] := by
  rw [List.take_add_one, List.getElem?_eq_getElem h]
  unfold dig
  rw [List.getD_eq_getElem?_getD, List.getElem?_eq_getElem h]; rfl
theorem raw_of_var {w : World} {g L : Nat} {ds : List Nat} (h : Var w g 49 (ds.map U).toArray) (hl : ds.length = L) (hL : L ≤ 9223372036854775807) (hd : Digs ds) : RawAt w (some ⟨g, 0, none⟩) L L ds :=
  ⟨hl, Nat.le_refl _, hL, fun j u hu => ⟨g, 0, _, rfl, h.lt, h, by rw [Nat.zero_add, h.cell j]; simpa using hu⟩, hd⟩
theorem noughts (n : Nat) : madeCells #[.int .u64 0] n = (((List.replicate n 0).map U).toArray : Array Value) := by
  have h := toList_madeCells_one (.int .u64 0) n
  rw [List.map_replicate]
  exact Array.toList_inj.1 (by rw [h]; rfl)

set_option maxHeartbeats 800000 in
set_option maxRecDepth 100000 in
theorem mul_ref {w0 : World} {A1 A2 : Option Addr} {n1 c1 n2 c2 : Nat} {d1 d2 : List Nat} (h1 : RawAt w0 A1 n1 c1 d1) (h2 : RawAt w0 A2 n2 c2 d2) (s1 s2 : Bool) (hn1 : n1 ≤ 40000) (hn2 : n2 ≤ 40000) (w : World) (hw : Below w0.heap.size w0 w) :
    Calls Try.prog 82 #[.agg #[.bool s1, .slice A1 n1 c1], .agg #[.bool s2, .slice A2 n2 c2]] w fun e w' => ∃ v, e = .returned v ∧ MagAt w' v ((!s1 == s2) && decide (¬ val d1 * val d2 = 0)) (val d1 * val d2) ∧ Below w.heap.size w w' := by
  have r1 := h1.below hw
  have r2 := h2.below hw
  have l1 := h1.len
  have l2 := h2.len
  have g1 := h1.digs
  have g2 := h2.digs
  clear h1 h2 hw
  have HL := Lib.hid (And.intro l1 l2)
  clear l1 l2
  obtain ⟨L, hL⟩ : ∃ L, n1 + n2 + 1 = L := ⟨_, rfl⟩
  have hmk := fun W => run_make_row' (P := Try.prog) 62 49 (.int .u64 0) 8 Try.underlying62 (by kernel_rfl) rfl .i64 .i64 L (by omega) (by omega) W
  rw [show ((L : Nat) : Int) = (n1 : Int) + (n2 : Int) + 1 by omega, noughts] at hmk
  have HLL := Lib.hid hL
  clear hL
  go_enter Try.func82, Try.ntmps82
  go_wp2_with fail
  refine wp_gen (fun W hW => ?_)
  have v0 : Var W w.heap.size 64 #[.bool s1, .slice A1 n1 c1] := by rw [hW]; exact ((((Var.new _ _ _).alloc _).alloc _).alloc _).alloc _
  have v1 : Var W (w.heap.size + 1) 64 #[.bool s2, .slice A2 n2 c2] := by rw [hW]; exact (((Var.new' _ _ _ (by simp)).alloc _).alloc _).alloc _
  have vR : Var W (w.heap.size + 1 + 1) 64 #[.bool false, .slice none 0 0] := by rw [hW]; exact ((Var.new' _ _ _ (by simp)).alloc _).alloc _
  have vD : Var W (w.heap.size + 1 + 1 + 1) 49 ((List.replicate L 0).map U).toArray := by
    rw [hW, show (((List.replicate L 0).map U).toArray : Array Value) = Array.replicate L (U 0) by simp]
    exact (Var.new' _ _ _ (by simp)).alloc _
  have vX : Var W (w.heap.size + 1 + 1 + 1 + 1) 64 #[.bool false, .slice (some ⟨w.heap.size + 1 + 1 + 1, 0, none⟩) L L] := by
    rw [hW]
    exact Var.new' _ _ _ (by simp)
  have hBW : Below w.heap.size w W := by rw [hW]; go_grown
  clear hW hmk
  go_loopw [6] (fun t wr => ∃ (i : Nat) (xs : List Nat), i ≤ n1 ∧ t = .int .i64 (i : Int) ∧ Below (w.heap.size + 1 + 1 + 1) W wr ∧ Var wr (w.heap.size + 1 + 1 + 1) 49 (xs.map U).toArray ∧ Var wr (w.heap.size + 1 + 1 + 1 + 1) 64 #[.bool false, .slice (some ⟨w.heap.size + 1 + 1 + 1, 0, none⟩) L L] ∧
      Digs xs ∧ xs.length = L ∧ val xs = val (d1.take i) * val d2 ∧ (∀ q, i + n2 ≤ q → xs.getD q 0 = 0))
    (fun t _ => n1 - (intOf t).toNat)
  case atStart => exact ⟨0, List.replicate L 0, by omega, rfl, Below.refl _ _, vD, vX, digs_replicate _, List.length_replicate, by simp [val_replicate, val], fun q _ => by rw [List.getD_eq_getElem?_getD, List.getElem?_replicate]; split <;> rfl⟩
  case round =>
    obtain ⟨i, xs, hi, rfl, hbel, vD', vX', hdx, hlx, hvx, hzx⟩ := hrel
    have HX := Lib.hid (And.intro hdx (And.intro hlx (And.intro hvx hzx)))
    clear hdx hlx hvx hzx
    have v0' := v0.below hbel (by omega)
    have v1' := v1.below hbel (by omega)
    have vR' := vR.below hbel (by omega)
    have a0 : wr.cell? ⟨w.heap.size, 0, none⟩ = some (.bool s1) := v0'.cell 0
    have a1 : wr.cell? ⟨w.heap.size, 1, none⟩ = some (.slice A1 n1 c1) := v0'.cell 1
    have b0 : wr.cell? ⟨w.heap.size + 1, 0, none⟩ = some (.bool s2) := v1'.cell 0
    have b1 : wr.cell? ⟨w.heap.size + 1, 1, none⟩ = some (.slice A2 n2 c2) := v1'.cell 1
    have q0 : wr.cell? ⟨w.heap.size + 1 + 1, 0, none⟩ = some (.bool false) := vR'.cell 0
    have q1 : wr.cell? ⟨w.heap.size + 1 + 1, 1, none⟩ = some (.slice none 0 0) := vR'.cell 1
    have x0 : wr.cell? ⟨w.heap.size + 1 + 1 + 1 + 1, 0, none⟩ = some (.bool false) := vX'.cell 0
    have x1 : wr.cell? ⟨w.heap.size + 1 + 1 + 1 + 1, 1, none⟩ = some (.slice (some ⟨w.heap.size + 1 + 1 + 1, 0, none⟩) L L) := vX'.cell 1
    have e0 := vR'.free 0
    have e1 := vR'.free 1
    have f0 := vX'.free 0
    have f1 := vX'.free 1
    have z4 := vX'.lt
    have z3 := vD'.lt
    have z2 := vR'.lt
    have z1 := v1'.lt
    have z0 := v0'.lt
    have hBr : Below w.heap.size w wr := hBW.trans (hbel.mono (by omega))
    rcases Nat.lt_or_ge i n1 with hlt | hge
    · go_wp2_with fail
      go_loopw [7, 8] (fun cy t ws => ∃ (ca j : Nat) (ys : List Nat), j ≤ n2 + 1 ∧ cy = .int .u64 (ca : Int) ∧ t = .int .i64 (j : Int) ∧ Below (w.heap.size + 1 + 1 + 1) W ws ∧ Var ws (w.heap.size + 1 + 1 + 1) 49 (ys.map U).toArray ∧ Var ws (w.heap.size + 1 + 1 + 1 + 1) 64 #[.bool false, .slice (some ⟨w.heap.size + 1 + 1 + 1, 0, none⟩) L L] ∧
          Digs ys ∧ ys.length = L ∧ (ca < 65536 ∧ (j = n2 + 1 → ca = 0)) ∧ val ys + 65536 ^ (i + j) * (ca + dig d1 i * val (d2.drop j)) = val (d1.take i) * val d2 + 65536 ^ i * (dig d1 i * val d2) ∧ (∀ q, i + n2 ≤ q → i + j ≤ q → ys.getD q 0 = 0))
        (fun _ t _ => n2 + 1 - (intOf t).toNat)
      case atStart => exact ⟨0, 0, xs, by omega, rfl, rfl, hbel, vD', vX', HX.out.1, HX.out.2.1, ⟨by omega, fun _ => rfl⟩, by rw [HX.out.2.2.1]; simp, fun q h _ => HX.out.2.2.2 q h⟩
      case round =>
        obtain ⟨ca, j, ys, hj, rfl, rfl, hbel2, vD2, vX2, hdy, hly, ⟨hca, hcj⟩, hvy, hzy⟩ := hrel
        have HY := Lib.hid (And.intro hdy (And.intro hly (And.intro hvy hzy)))
        clear hdy hly hvy hzy a0 a1 b0 b1 q0 q1 x0 x1 e0 e1 f0 f1
        have v0' := v0.below hbel2 (by omega)
        have v1' := v1.below hbel2 (by omega)
        have vR' := vR.below hbel2 (by omega)
        have hBs : Below w.heap.size w wr := hBW.trans (hbel2.mono (by omega))
        have a0 : wr.cell? ⟨w.heap.size, 0, none⟩ = some (.bool s1) := v0'.cell 0
        have b0 : wr.cell? ⟨w.heap.size + 1, 0, none⟩ = some (.bool s2) := v1'.cell 0
        have b1 : wr.cell? ⟨w.heap.size + 1, 1, none⟩ = some (.slice A2 n2 c2) := v1'.cell 1
        have x0 : wr.cell? ⟨w.heap.size + 1 + 1 + 1 + 1, 0, none⟩ = some (.bool false) := vX2.cell 0
        have x1 : wr.cell? ⟨w.heap.size + 1 + 1 + 1 + 1, 1, none⟩ = some (.slice (some ⟨w.heap.size + 1 + 1 + 1, 0, none⟩) L L) := vX2.cell 1
        have y4 := vX2.lt
        have y3 := vD2.lt
        have y2 := vR'.lt
        have y1 := v1'.lt
        have y0 := v0'.lt
        by_cases hgo : j < n2 ∨ 0 < ca
        · have hj2 : j ≤ n2 := by omega
          have hways : j < n2 ∨ (n2 ≤ j ∧ 0 < ca) := by omega
          clear hgo
          have hij : i + j < L := by have := HLL.out; omega
          obtain ⟨b, o, rfl, hb, ha⟩ := (r1.below hBs).at_ hlt
          have a1 : wr.cell? ⟨w.heap.size, 1, none⟩ = some (.slice (some ⟨b, o, none⟩) n1 c1) := v0'.cell 1
          have hd : wr.cell? ⟨w.heap.size + 1 + 1 + 1, i + j, none⟩ = some (.int .u64 ((ys.getD (i + j) 0 : Nat) : Int)) := by
            rw [vD2.cell (i + j)]
            have hly := HY.out.2.1
            simp [hly, hij, U]
          have t1 := g1.getD i
          have t2 := dig_lt g2 j
          have t3 := HY.out.1.getD (i + j)
          have hpd := prod_small t1 t2
          have fD := vD2.free (i + j)
          rcases hways with hl | ⟨hl, hl'⟩
          all_goals
            go_wp2_with fail
            have hq_wr := @wd_cell wr
            refine wp_region_wd (by kernel_rfl) (by kernel_rfl) ?_
            repeat (go_big_quiet_step ((first | (go_at_call 95; with_reducible exact quiet_wd (digit_any (r2.below hBs) s2 j _ (Wd.h _))))))
            refine wpQuiet_nil ?_
            rintro w8 ⟨⟨wx, hb_w8⟩, hwx⟩
            obtain rfl : w8 = wx := hwx
            clear hq_wr
            have hz_w8 := hb_w8.size
            obtain ⟨hc_w8, hf_w8⟩ := bcell hb_w8
            have hB_w8 : Below w.heap.size w w8 := Below.trans (by go_grown) (hb_w8.mono (by go_size))
            go_wp2_with fail
            go_roundw
            case measure => simp [intOf]; omega
            case rel =>
              have hY := HY.out
              have hq : d1.getD i 0 * dig d2 j ≤ 4294836225 := Nat.mul_le_mul (Nat.le_of_lt_succ t1) (Nat.le_of_lt_succ t2)
              have hm := mul_cell t3 t1 t2 hca
              rw [List.getD_eq_getElem?_getD, List.getD_eq_getElem?_getD] at hm
              rw [hm.1, hm.2, ← List.getD_eq_getElem?_getD, ← List.getD_eq_getElem?_getD]
              have hb8 : Below (w.heap.size + 1 + 1 + 1) W w8 := hbel2.trans (hb_w8.mono (by omega))
              have hs : ys.getD (i + j) 0 + d1.getD i 0 * dig d2 j + ca ≤ 4294967295 := by omega
              refine ⟨(ys.getD (i + j) 0 + d1.getD i 0 * dig d2 j + ca) / 65536, j + 1, ys.set (i + j) ((ys.getD (i + j) 0 + d1.getD i 0 * dig d2 j + ca) % 65536), by omega, congrArg (Value.int .u64) (by rw [IntKind.wrap_u64]; omega), congrArg (Value.int .i64) (by omega), hb8.setCell (p := ⟨w.heap.size + 1 + 1 + 1, i + j, none⟩) (Nat.le_refl _) _, ?_, (vX2.keep hb_w8).far (p := ⟨w.heap.size + 1 + 1 + 1, i + j, none⟩) (by simp) _, hY.1.set (by omega), by rw [List.length_set]; exact hY.2.1, ⟨by omega, fun h => ?_⟩, ?_, fun q h1 h2 => ?_⟩
              · have hst := (vD2.keep hb_w8).store (i + j) (U ((ys.getD (i + j) 0 + d1.getD i 0 * dig d2 j + ca) % 65536))
                rw [show (ys.map U).toArray.setIfInBounds (i + j) (U ((ys.getD (i + j) 0 + d1.getD i 0 * dig d2 j + ca) % 65536)) = ((ys.set (i + j) ((ys.getD (i + j) 0 + d1.getD i 0 * dig d2 j + ca) % 65536)).map U).toArray by simp [List.map_set]] at hst
                exact hst
              · have h0 : dig d2 j = 0 := dig_out (by rw [HL.out.2]; omega)
                have h1 : ys.getD (i + j) 0 = 0 := hY.2.2.2 (i + j) (by omega) (Nat.le_refl _)
                rw [h0, h1, Nat.mul_zero]
                omega
              · have h3 := hY.2.2.1
                rw [dig_drop d2 j] at h3
                rw [← Nat.add_assoc, Nat.pow_succ]
                exact mul_step rfl (val_set ys (i + j) _ (by rw [hY.2.1]; exact hij)) h3
              · rw [getD_set_ne _ _ _ _ (by omega)]
                exact hY.2.2.2 q h1 (by omega)
        · have hj2 : n2 ≤ j := by omega
          have hc0 : ca = 0 := by omega
          subst hc0
          clear hgo
          have hfin : val ys = val (d1.take (i + 1)) * val d2 := by
            have := HY.out.2.2.1
            rw [drop_out (by rw [HL.out.2]; exact hj2)] at this
            rw [take_dig (by rw [HL.out.1]; exact hlt), val_snoc, List.length_take, HL.out.1, Nat.min_eq_left hi, Nat.add_mul, Nat.mul_assoc, ← this]
            simp
          have HF := Lib.hid hfin
          clear hfin
          go_wp2_with fail
          go_roundw
          case measure => simp [intOf]; omega
          case rel =>
            exact ⟨i + 1, ys, by omega, congrArg (Value.int .i64) (by omega), hbel2, vD2, vX2, HY.out.1, HY.out.2.1, HF.out, fun q hq => HY.out.2.2.2 q (by omega) (by omega)⟩
    · have hin : n1 ≤ i := by omega
      have hfin : val xs = val d1 * val d2 := by
        have := HX.out.2.2.1
        rw [List.take_of_length_le (by rw [HL.out.1]; exact hin)] at this
        exact this
      have hraw : RawAt wr (some ⟨w.heap.size + 1 + 1 + 1, 0, none⟩) L L xs := raw_of_var vD' HX.out.2.1 (by have := HLL.out; omega) HX.out.1
      have HF := Lib.hid hfin
      clear hfin
      go_wp2_with fail
      have hraw2 := hraw.away1 vX' 0 (.bool (!s1 == s2))
      refine (trimmed_any hraw2 (!s1 == s2) _ (Below.refl _ _)).mono ?_
      rintro e w9 ⟨v, rfl, ⟨A', n', c', ds', rfl, hr9, ht, hval⟩, hb_w9⟩
      obtain ⟨hc_w9, hf_w9⟩ := bcell hb_w9
      have hz_w9 := hb_w9.size
      try simp at hz_w9
      have hB_w9 : Below w.heap.size w w9 := Below.trans (by go_grown) (hb_w9.mono (by go_size))
      have hs_w9_0 : w.heap.size < w9.heap.size := by omega
      have hs_w9_1 : w.heap.size + 1 < w9.heap.size := by omega
      have hs_w9_2 : w.heap.size + 1 + 1 < w9.heap.size := by omega
      have vR9 := (vR'.far (p := ⟨w.heap.size + 1 + 1 + 1 + 1, 0, none⟩) (by simp) (.bool (!s1 == s2))).keep hb_w9
      go_wp2_with fail
      refine bodyPost_ret (by simp [results, Try.results82, go_sem, *]; try rfl) rfl ?_
      rw [HF.out] at hval ⊢
      exact ⟨_, rfl, ⟨A', n', c', ds', by simp, hr9.over vR9 _ _, ht, hval⟩, by go_grown⟩

theorem mul_num {w0 : World} {v v' : Value} {x y : Int} {k : Nat} (h : NumAt w0 v x) (h' : NumAt w0 v' y) (hk : Small k x.natAbs) (hk' : Small k y.natAbs) (hk9 : k ≤ 40000) (w : World) (hw : Below w0.heap.size w0 w) :
    Calls Try.prog 82 #[v, v'] w fun e w' => ∃ u, e = .returned u ∧ NumAt w' u (x * y) ∧ Below w.heap.size w w' := by
  obtain ⟨b, A, n, c, ds, rfl, hs, hr, ht, hv⟩ := num_open (h.below hw)
  obtain ⟨b', A', n', c', ds', rfl, hs', hr', ht', hv'⟩ := num_open (h'.below hw)
  have l1 := num_len hr ht hv.out hk
  have l2 := num_len hr' ht' hv'.out hk'
  refine (mul_ref hr hr' b b' (by omega) (by omega) w (Below.refl _ _)).mono ?_
  rintro e w' ⟨u, he, hm, hb⟩
  refine ⟨u, he, ?_, hb⟩
  unfold NumAt
  have e1 : (x * y).natAbs = val ds * val ds' := by rw [Int.natAbs_mul, hv.out, hv'.out]
  have e2 : decide (x * y < 0) = ((!b == b') && decide (¬ val ds * val ds' = 0)) := by
    rw [hs.out, hs'.out, ← e1, Bool.eq_iff_iff]
    simp only [decide_eq_true_eq, Bool.and_eq_true, Bool.not_eq_eq_eq_not, Bool.not_true]
    rcases Int.lt_trichotomy x 0 with hx | hx | hx
    · rcases Int.lt_trichotomy y 0 with hy | hy | hy
      · have := Int.mul_pos_of_neg_of_neg hx hy
        simp [hx, hy]; omega
      · subst hy; simp
      · have := Int.mul_neg_of_neg_of_pos hx hy
        simp [hx]; omega
    · subst hx; simp
    · rcases Int.lt_trichotomy y 0 with hy | hy | hy
      · have := Int.mul_neg_of_pos_of_neg hx hy
        simp [hy]; omega
      · subst hy; simp
      · have := Int.mul_pos hx hy
        simp; omega
  rw [e1, e2]
  exact hm

end Go.Proofs.Ytcpojadinkonnaa
