/-
  The document's rows of words: the difference of two.
-/
import Derived.Test.YtpjgghakeaajbaaWordsS
namespace Go.Proofs.Ytpjgghakeaajbaa
open Go.RowKit

theorem less_rel {W wr : World} {G L i bo s : Nat} {E : Int} {os d1 d2 : List Nat} (hE : E = (s : Int)) (hs : s + dig d2 i + bo = dig d1 i + 4294967296) (hb : s / 4294967296 ≤ 1) (hi : i < L) (hV : Var wr G 91 (os.map U).toArray) (hl : os.length = L) (hd : Digs os)
    (hv : Hid (val os + val (d2.take i) = val (d1.take i) + 4294967296 ^ i * bo)) (hz : Hid (∀ q, i ≤ q → os.getD q 0 = 0)) (hbel : Below G W wr) :
    ∃ (bo' i' : Nat) (os' : List Nat), i' ≤ L ∧ Value.int .u64 (1 - E / 4294967296) = .int .u64 (bo' : Int) ∧ Value.int .i64 ((i : Int) + 1) = .int .i64 (i' : Int) ∧ bo' ≤ 1 ∧ Var (wr.setCell ⟨G, i, none⟩ (.int .u32 (E % 4294967296))) G 91 (os'.map U).toArray ∧ os'.length = L ∧ Digs os' ∧
      Hid (val os' + val (d2.take i') = val (d1.take i') + 4294967296 ^ i' * bo') ∧ Hid (∀ q, i' ≤ q → os'.getD q 0 = 0) ∧ Below G W (wr.setCell ⟨G, i, none⟩ (.int .u32 (E % 4294967296))) := by
  subst hE
  have e : ((s : Int) % 4294967296) = ((s % 4294967296 : Nat) : Int) := by omega
  refine ⟨1 - s / 4294967296, i + 1, os.set i (s % 4294967296), hi, congrArg (Value.int .u64) (by omega), congrArg (Value.int .i64) (by omega), by omega, ?_, by rw [List.length_set]; exact hl, hd.set (by omega), ?_, ?_, hbel.setCell (p := ⟨G, i, none⟩) (Nat.le_refl _) _⟩
  · rw [e, ← set_map]
    exact hV.store i _
  · refine Lib.hid ?_
    rw [val_take_succ, val_take_succ, Nat.pow_succ]
    have h0 := val_set os i (s % 4294967296) (by omega)
    rw [hz.out i (Nat.le_refl _)] at h0
    exact less_step' hs hb h0 hv.out
  · exact Lib.hid (fun q hq => by rw [getD_set_ne _ _ _ _ (by omega)]; exact hz.out q (by omega))

set_option maxHeartbeats 1600000 in
set_option maxRecDepth 100000 in
theorem less_w {w0 : World} {A1 A2 : Option Addr} {n1 c1 n2 c2 : Nat} {d1 d2 : List Nat} (h1 : RawAt w0 A1 n1 c1 d1) (h2 : RawAt w0 A2 n2 c2 d2) (t2 : Tight d2) (hn1 : n1 ≤ 100000) (hle : val d2 ≤ val d1) (w : World) (hw : Below w0.heap.size w0 w) :
    Calls Try.prog 61 #[.slice A1 n1 c1, .slice A2 n2 c2] w fun e w' => ∃ A n c ds, e = .returned (.slice A n c) ∧ RawAt w' A n c ds ∧ Hid (val ds = val d1 - val d2) ∧ Below w.heap.size w w' := by
  have r1 := h1.below hw
  have r2 := h2.below hw
  have hn21 : n2 ≤ n1 := by
    have e1 := h1.len
    have e2 := h2.len
    have h3 := val_lt h1.digs
    have h4 := length_le_of_val t2 (n := d1.length) (by omega)
    omega
  have HL := Lib.hid (And.intro h1.len (And.intro h2.len (And.intro h1.digs (And.intro h2.digs hle))))
  clear h1 h2 hw t2 hle
  have hmk := fun W => run_make_row' (P := Try.prog) 49 91 (.int .u32 0) 4 Try.underlying49 (by kernel_rfl) rfl .i64 .i64 n1 (by omega) (by omega) W
  rw [noughts] at hmk
  go_enter Try.func61, Try.ntmps61
  go_wp2_with fail
  refine wp_gen (fun W hW => ?_)
  have vG : Var W w.heap.size 91 ((List.replicate n1 0).map U).toArray := by
    rw [hW, show (((List.replicate n1 0).map U).toArray : Array Value) = Array.replicate n1 (U 0) by simp]
    exact Var.new _ _ _
  have hBW : Below w.heap.size w W := by rw [hW]; go_grown
  clear hW hmk
  obtain ⟨G, hG⟩ : ∃ G, w.heap.size = G := ⟨_, rfl⟩
  have HG := Lib.hid hG
  rw [hG] at vG hBW ⊢
  clear hG
  have hwG : w.heap.size ≤ G := Nat.le_of_eq HG.out
  go_loopw [6, 7] (fun cy t wr => ∃ (bo i : Nat) (os : List Nat), i ≤ n1 ∧ cy = .int .u64 (bo : Int) ∧ t = .int .i64 (i : Int) ∧ bo ≤ 1 ∧ Var wr G 91 (os.map U).toArray ∧ os.length = n1 ∧ Digs os ∧ Hid (val os + val (d2.take i) = val (d1.take i) + 4294967296 ^ i * bo) ∧ Hid (∀ q, i ≤ q → os.getD q 0 = 0) ∧ Below G W wr) (fun _ t _ => n1 - (intOf t).toNat)
  case atStart => exact ⟨0, 0, List.replicate n1 0, by omega, rfl, rfl, by omega, vG, List.length_replicate, digs_replicate _, Lib.hid (by simp [val_replicate, val]), Lib.hid (fun q _ => rep_zero _ _), Below.refl _ _⟩
  case round =>
    obtain ⟨bo, i, os, hi, rfl, rfl, hbo, vG', hlo, hdo, hv, hz, hbel⟩ := hrel
    have hBr : Below w.heap.size w wr := by rw [HG.out]; exact hBW.trans hbel
    by_cases hlt : i < n1
    · have zG := vG'.lt
      have fG := vG'.free i
      have cG : wr.cell? ⟨G, i, none⟩ = some (.int .u32 ((os.getD i 0 : Nat) : Int)) := (vG'.cell i).trans (get_map hlo hlt)
      have HA := Lib.hid (And.intro vG' (And.intro hlo (And.intro hdo (And.intro hbel hBr))))
      have ga := dig_lt HL.out.2.2.1 i
      have gb := dig_lt HL.out.2.2.2.1 i
      clear vG' hlo hdo hbel
      obtain ⟨b, o, rfl, hb, hc⟩ := (r1.below hBr).at_ hlt
      have k1 : wr.cell? ⟨b, o + i, none⟩ = some (.int .u32 (dig d1 i : Int)) := hc
      clear hc
      rcases Nat.lt_or_ge i n2 with p2 | p2
      · obtain ⟨b', o', rfl, hb', hc'⟩ := (r2.below hBr).at_ p2
        have k2 : wr.cell? ⟨b', o' + i, none⟩ = some (.int .u32 (dig d2 i : Int)) := hc'
        clear hc'
        go_wp2_with fail
        go_roundw
        case measure => simp [intOf]; omega
        case rel => exact less_rel (s := 4294967296 + dig d1 i - bo - dig d2 i) (by omega) (by omega) (by omega) hlt HA.out.1 HA.out.2.1 HA.out.2.2.1 hv hz HA.out.2.2.2.1
      · have e2 : dig d2 i = 0 := dig_out (by rw [HL.out.2.1]; exact p2)
        have HE := Lib.hid e2
        clear e2
        go_wp2_with fail
        go_roundw
        case measure => simp [intOf]; omega
        case rel => exact less_rel (s := 4294967296 + dig d1 i - bo - dig d2 i) (by rw [HE.out]; omega) (by omega) (by omega) hlt HA.out.1 HA.out.2.1 HA.out.2.2.1 hv hz HA.out.2.2.2.1
    · obtain rfl : i = n1 := by omega
      have hfin : val os = val d1 - val d2 := by
        have hv' := hv.out
        rw [List.take_of_length_le (Nat.le_of_eq HL.out.1), List.take_of_length_le (by rw [HL.out.2.1]; exact hn21)] at hv'
        have := val_lt hdo
        rw [hlo] at this
        exact less_end hv' this HL.out.2.2.2.2
      have hraw := raw_of_var vG' hlo (by omega) hdo
      have HF := Lib.hid (And.intro hfin (And.intro hraw hBr))
      clear hfin hraw vG' hlo hdo hv hz hbel hBr hbo
      go_wp2_with fail
      go_ret
      exact ⟨_, _, _, _, rfl, HF.out.2.1, Lib.hid HF.out.1, HF.out.2.2⟩

end Go.Proofs.Ytpjgghakeaajbaa
