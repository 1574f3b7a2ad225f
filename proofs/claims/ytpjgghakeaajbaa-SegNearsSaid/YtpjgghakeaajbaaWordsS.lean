/-
  The document's rows of words: the sum of two; the difference.
-/
import Derived.Test.YtpjgghakeaajbaaWords
namespace Go.Proofs.Ytpjgghakeaajbaa
open Go.RowKit

theorem sum_cell {a b ca : Nat} (ha : a < 4294967296) (hb : b < 4294967296) (hc : ca < 4294967296) : a + b + ca ≤ 12884901885 ∧ (a + b + ca) / 4294967296 < 4294967296 := by omega
theorem set_map (os : List Nat) (i d : Nat) : (os.map U).toArray.setIfInBounds i (U d) = ((os.set i d).map U).toArray := by simp [List.map_set]
theorem get_map {os : List Nat} {i L : Nat} (hl : os.length = L) (hi : i < L) : (os.map U).toArray[i]? = some (.int .u32 ((os.getD i 0 : Nat) : Int)) := by
  simp [hl, hi, U]
theorem sum_done {os d1 d2 : List Nat} {L ca i : Nat} (hiL : ¬ i < L) (h1 : d1.length + 1 ≤ L) (h2 : d2.length + 1 ≤ L) (g1 : Digs d1) (g2 : Digs d2) (hi : i ≤ L)
    (hv : val os + 4294967296 ^ i * ca = val (d1.take i) + val (d2.take i)) : val os = val d1 + val d2 := by
  obtain rfl : i = L := by omega
  rw [List.take_of_length_le (by omega), List.take_of_length_le (by omega)] at hv
  have h3 := val_lt g1
  have h4 := val_lt g2
  have h5 : 4294967296 ^ d1.length ≤ 4294967296 ^ (i - 1) := Nat.pow_le_pow_right (by omega) (by omega)
  have h6 : 4294967296 ^ d2.length ≤ 4294967296 ^ (i - 1) := Nat.pow_le_pow_right (by omega) (by omega)
  refine sum_end hv ?_
  rw [show i = (i - 1) + 1 by omega, Nat.pow_succ]
  generalize 4294967296 ^ (i - 1) = P at *
  omega

theorem sum_rel {W wr : World} {G L i ca s : Nat} {E : Int} {os d1 d2 : List Nat} (hE : E = (s : Int)) (hs : s = dig d1 i + dig d2 i + ca) (hb : s ≤ 12884901885) (hi : i < L) (hV : Var wr G 91 (os.map U).toArray) (hl : os.length = L) (hd : Digs os)
    (hv : Hid (val os + 4294967296 ^ i * ca = val (d1.take i) + val (d2.take i))) (hz : Hid (∀ q, i ≤ q → os.getD q 0 = 0)) (hbel : Below G W wr) :
    ∃ (ca' i' : Nat) (os' : List Nat), i' ≤ L ∧ Value.int .u64 (E / 4294967296) = .int .u64 (ca' : Int) ∧ Value.int .i64 ((i : Int) + 1) = .int .i64 (i' : Int) ∧ ca' < 4294967296 ∧ Var (wr.setCell ⟨G, i, none⟩ (.int .u32 (E % 4294967296))) G 91 (os'.map U).toArray ∧ os'.length = L ∧ Digs os' ∧
      Hid (val os' + 4294967296 ^ i' * ca' = val (d1.take i') + val (d2.take i')) ∧ Hid (∀ q, i' ≤ q → os'.getD q 0 = 0) ∧ Below G W (wr.setCell ⟨G, i, none⟩ (.int .u32 (E % 4294967296))) := by
  subst hE
  have e : ((s : Int) % 4294967296) = ((s % 4294967296 : Nat) : Int) := by omega
  refine ⟨s / 4294967296, i + 1, os.set i (s % 4294967296), hi, congrArg (Value.int .u64) (by omega), congrArg (Value.int .i64) (by omega), by omega, ?_, by rw [List.length_set]; exact hl, hd.set (by omega), ?_, ?_, hbel.setCell (p := ⟨G, i, none⟩) (Nat.le_refl _) _⟩
  · rw [e, ← set_map]
    exact hV.store i _
  · refine Lib.hid ?_
    rw [val_take_succ, val_take_succ, Nat.pow_succ]
    have h0 := val_set os i (s % 4294967296) (by omega)
    rw [hz.out i (Nat.le_refl _)] at h0
    exact sum_step hs h0 hv.out
  · exact Lib.hid (fun q hq => by rw [getD_set_ne _ _ _ _ (by omega)]; exact hz.out q (by omega))

set_option maxHeartbeats 1600000 in
set_option maxRecDepth 100000 in
theorem sum_w {w0 : World} {A1 A2 : Option Addr} {n1 c1 n2 c2 : Nat} {d1 d2 : List Nat} (h1 : RawAt w0 A1 n1 c1 d1) (h2 : RawAt w0 A2 n2 c2 d2) (hn1 : n1 ≤ 100000) (hn2 : n2 ≤ 100000) (w : World) (hw : Below w0.heap.size w0 w) :
    Calls Try.prog 59 #[.slice A1 n1 c1, .slice A2 n2 c2] w fun e w' => ∃ A n c ds, e = .returned (.slice A n c) ∧ RawAt w' A n c ds ∧ Hid (val ds = val d1 + val d2) ∧ Below w.heap.size w w' := by
  have r1 := h1.below hw
  have r2 := h2.below hw
  have HL := Lib.hid (And.intro h1.len (And.intro h2.len (And.intro h1.digs h2.digs)))
  clear h1 h2 hw
  by_cases hmx : n1 < n2
  all_goals
    obtain ⟨L, hL⟩ : ∃ L, (if n1 < n2 then n2 else n1) + 1 = L := ⟨_, rfl⟩
    first | rw [if_pos hmx] at hL | rw [if_neg hmx] at hL
    have hmk := fun W => run_make_row' (P := Try.prog) 49 91 (.int .u32 0) 4 Try.underlying49 (by kernel_rfl) rfl .i64 .i64 L (by omega) (by omega) W
    rw [noughts] at hmk
    have hL1 : n1 + 1 ≤ L := by omega
    have hL2 : n2 + 1 ≤ L := by omega
    have hLb : L ≤ 100001 := by omega
    have hLI : (L : Int) = (if n1 < n2 then (n2 : Int) else (n1 : Int)) + 1 := by split <;> omega
    first | rw [if_pos hmx] at hLI | rw [if_neg hmx] at hLI
    rw [hLI] at hmk
    go_enter Try.func59, Try.ntmps59
    go_wp2_with fail
    rw [← hLI]
    refine wp_gen (fun W hW => ?_)
    have vG : Var W w.heap.size 91 ((List.replicate L 0).map U).toArray := by
      rw [hW, show (((List.replicate L 0).map U).toArray : Array Value) = Array.replicate L (U 0) by simp]
      exact Var.new _ _ _
    have hBW : Below w.heap.size w W := by rw [hW]; go_grown
    clear hW hmk hL hLI hmx
    obtain ⟨G, hG⟩ : ∃ G, w.heap.size = G := ⟨_, rfl⟩
    have HG := Lib.hid hG
    rw [hG] at vG hBW ⊢
    clear hG
    have hwG : w.heap.size ≤ G := Nat.le_of_eq HG.out
    go_loopw [7, 8] (fun cy t wr => ∃ (ca i : Nat) (os : List Nat), i ≤ L ∧ cy = .int .u64 (ca : Int) ∧ t = .int .i64 (i : Int) ∧ ca < 4294967296 ∧ Var wr G 91 (os.map U).toArray ∧ os.length = L ∧ Digs os ∧ Hid (val os + 4294967296 ^ i * ca = val (d1.take i) + val (d2.take i)) ∧ Hid (∀ q, i ≤ q → os.getD q 0 = 0) ∧ Below G W wr) (fun _ t _ => L - (intOf t).toNat)
    case atStart => exact ⟨0, 0, List.replicate L 0, by omega, rfl, rfl, by omega, vG, List.length_replicate, digs_replicate _, Lib.hid (by simp [val_replicate, val]), Lib.hid (fun q _ => rep_zero _ _), Below.refl _ _⟩
    case round =>
      obtain ⟨ca, i, os, hi, rfl, rfl, hca, vG', hlo, hdo, hv, hz, hbel⟩ := hrel
      have hBr : Below w.heap.size w wr := by rw [HG.out]; exact hBW.trans hbel
      by_cases hlt : i < L
      · have zG := vG'.lt
        have fG := vG'.free i
        have cG : wr.cell? ⟨G, i, none⟩ = some (.int .u32 ((os.getD i 0 : Nat) : Int)) := (vG'.cell i).trans (get_map hlo hlt)
        have HA := Lib.hid (And.intro vG' (And.intro hlo (And.intro hdo (And.intro hbel hBr))))
        have ga := dig_lt HL.out.2.2.1 i
        have gb := dig_lt HL.out.2.2.2 i
        clear vG' hlo hdo hbel
        rcases Nat.lt_or_ge i n1 with p1 | p1
        all_goals rcases Nat.lt_or_ge i n2 with p2 | p2
        · obtain ⟨b, o, rfl, hb, hc⟩ := (r1.below hBr).at_ p1
          obtain ⟨b', o', rfl, hb', hc'⟩ := (r2.below hBr).at_ p2
          have k1 : wr.cell? ⟨b, o + i, none⟩ = some (.int .u32 (dig d1 i : Int)) := hc
          have k2 : wr.cell? ⟨b', o' + i, none⟩ = some (.int .u32 (dig d2 i : Int)) := hc'
          clear hc hc'
          go_wp2_with fail
          go_roundw
          case measure => simp [intOf]; omega
          case rel => exact sum_rel (s := dig d1 i + dig d2 i + ca) (by omega) rfl (by omega) hlt HA.out.1 HA.out.2.1 HA.out.2.2.1 hv hz HA.out.2.2.2.1
        · obtain ⟨b, o, rfl, hb, hc⟩ := (r1.below hBr).at_ p1
          have k1 : wr.cell? ⟨b, o + i, none⟩ = some (.int .u32 (dig d1 i : Int)) := hc
          have e2 : dig d2 i = 0 := dig_out (by rw [HL.out.2.1]; exact p2)
          have HE := Lib.hid e2
          clear hc e2
          go_wp2_with fail
          go_roundw
          case measure => simp [intOf]; omega
          case rel => exact sum_rel (s := dig d1 i + dig d2 i + ca) (by rw [HE.out]; omega) rfl (by omega) hlt HA.out.1 HA.out.2.1 HA.out.2.2.1 hv hz HA.out.2.2.2.1
        · obtain ⟨b', o', rfl, hb', hc'⟩ := (r2.below hBr).at_ p2
          have k2 : wr.cell? ⟨b', o' + i, none⟩ = some (.int .u32 (dig d2 i : Int)) := hc'
          have e1 : dig d1 i = 0 := dig_out (by rw [HL.out.1]; exact p1)
          have HE := Lib.hid e1
          clear hc' e1
          go_wp2_with fail
          go_roundw
          case measure => simp [intOf]; omega
          case rel => exact sum_rel (s := dig d1 i + dig d2 i + ca) (by rw [HE.out]; omega) rfl (by omega) hlt HA.out.1 HA.out.2.1 HA.out.2.2.1 hv hz HA.out.2.2.2.1
        · have e1 : dig d1 i = 0 := dig_out (by rw [HL.out.1]; exact p1)
          have e2 : dig d2 i = 0 := dig_out (by rw [HL.out.2.1]; exact p2)
          have HE := Lib.hid (And.intro e1 e2)
          clear e1 e2
          go_wp2_with fail
          go_roundw
          case measure => simp [intOf]; omega
          case rel => exact sum_rel (s := dig d1 i + dig d2 i + ca) (by rw [HE.out.1, HE.out.2]; omega) rfl (by omega) hlt HA.out.1 HA.out.2.1 HA.out.2.2.1 hv hz HA.out.2.2.2.1
      · have hfin := sum_done hlt (by rw [HL.out.1]; exact hL1) (by rw [HL.out.2.1]; exact hL2) HL.out.2.2.1 HL.out.2.2.2 hi hv.out
        have hraw := raw_of_var vG' hlo (by omega) hdo
        have HF := Lib.hid (And.intro hfin (And.intro hraw hBr))
        clear hfin hraw vG' hlo hdo hv hz hbel hBr hca
        go_wp2_with fail
        go_ret
        exact ⟨_, _, _, _, rfl, HF.out.2.1, Lib.hid HF.out.1, HF.out.2.2⟩

end Go.Proofs.Ytpjgghakeaajbaa
