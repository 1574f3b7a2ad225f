/-
  The law WireBack, walked.
-/
import Derived.Test.YtiejgandjlldjaaGiven
import Derived.Test.YtiejgandjlldjaaOpenAdds
import Derived.Test.YtiejgandjlldjaaWorks
namespace Go.Proofs.Ytiejgandjlldjaa
open Go.RowKit

def layAll (l : List (Int × Nat × ByteArray)) : List UInt8 := l.flatMap fun a => layB a.1 a.2.1 a.2.2
theorem layAll_length (l : List (Int × Nat × ByteArray)) : (layAll l).length ≤ l.length * 65537 := by
  induction l with
  | nil => simp [layAll]
  | cons a l ih =>
    have h : (layAll (a :: l)) = layB a.1 a.2.1 a.2.2 ++ layAll l := by simp [layAll]
    have := layB_length a.1 a.2.1 a.2.2
    rw [h, List.length_append, List.length_cons]
    omega
theorem layAll_take {l : List (Int × Nat × ByteArray)} {k : Nat} {a : Int × Nat × ByteArray} (h : l[k]? = some a) : layAll (l.take (k + 1)) = layAll (l.take k) ++ layB a.1 a.2.1 a.2.2 := by
  have hk : k < l.length := by
    rcases Nat.lt_or_ge k l.length with h1 | h1
    · exact h1
    · rw [List.getElem?_eq_none h1] at h; cases h
  rw [List.getElem?_eq_getElem hk] at h
  injection h with h
  rw [List.take_succ_eq_append_getElem hk, h]
  simp [layAll]
theorem layAll_split {l : List (Int × Nat × ByteArray)} {k : Nat} {a : Int × Nat × ByteArray} (h : l[k]? = some a) : layAll l = layAll (l.take k) ++ layB a.1 a.2.1 a.2.2 ++ layAll (l.drop (k + 1)) := by
  rw [← layAll_take h]
  unfold layAll
  rw [← List.flatMap_append, List.take_append_drop]

theorem OutAt.in_upd {w w' : World} {O I : Nat} {l : List UInt8} {s : Ist} (h : OutAt w O l) (hI : InAt w I s) (hu : Upd I w w') (hne : I ≠ O) : OutAt w' O l := by
  obtain ⟨A, n, c, hv, hs⟩ := h
  obtain ⟨A', c', hv', _⟩ := hI
  exact ⟨A, n, c, hv.upd hu (fun e => hne e.symm), bs_upd hs hu (in_no hv')⟩

set_option maxRecDepth 100000 in
set_option maxHeartbeats 1600000 in
theorem back_some (A : Option Addr) (b off c : Nat) (l : List (Int × Nat × ByteArray)) (w : World) (hA : 0 < l.length → A = some ⟨b, off, none⟩ ∧ b < w.heap.size) (hl : l.length ≤ 1048576)
    (hc : ∀ (j : Nat) k (n : Nat) s, l[j]? = some (k, n, s) → n < 18446744073709551616 ∧ w.cell? ⟨b, off + j * 3, none⟩ = some (.int .i64 k) ∧ w.cell? ⟨b, off + (j * 3 + 1), none⟩ = some (.int .u64 (n : Int)) ∧ w.cell? ⟨b, off + (j * 3 + 2), none⟩ = some (.string s)) :
    Calls Try.prog 10 #[.slice A l.length c] w fun e w' => e = .returned (.bool true) ∧ Below w.heap.size w w' := by
  have HC := Lib.hid hc
  have HP := Lib.hid hA
  clear hc hA
  go_enter Try.func10, Try.ntmps10
  go_wp2_with fail
  go_loopw [4] (fun t wr => ∃ k : Nat, k ≤ l.length ∧ t = .int .i64 (k : Int) ∧ OutAt wr w.heap.size (layAll (l.take k)) ∧ Below w.heap.size w wr) (fun t _ => l.length - (intOf t).toNat)
  case atStart => exact ⟨0, by omega, rfl, ⟨none, 0, 0, Var.new _ _ _, Bs.nil _⟩, by go_grown⟩
  case round =>
    obtain ⟨k, hk, rfl, hO, hB⟩ := hrel
    rcases Nat.lt_or_ge k l.length with hlt | hge
    · obtain ⟨rfl, hb⟩ := HP.out (by omega)
      have hk' : (k : Int) < (l.length : Int) := by omega
      obtain ⟨⟨ki, n, s⟩, hj⟩ : ∃ a, l[k]? = some a := ⟨_, List.getElem?_eq_getElem hlt⟩
      obtain ⟨hn, c0, c1, c2⟩ := HC.out k ki n s hj
      rw [← (bcell hB).1 b _ hb] at c0 c1 c2
      rw [← Nat.add_assoc] at c1 c2
      have hT := layAll_take hj
      have hlen : (layAll (l.take k)).length ≤ 224999999934463 := by
        have := layAll_length (l.take k)
        rw [List.length_take] at this
        omega
      have HL := Lib.hid (fun W h => lays_all w.heap.size (layAll (l.take k)) ki n hn s W h hlen)
      have HT := Lib.hid hT
      have HO := Lib.hid hO
      clear hT hj hlen hO hn
      go_wp2_with fail
      refine (HL.out _ HO.out).mono ?_
      rintro e w1 ⟨⟨_, rfl⟩, hO1, hU1⟩
      go_wp2_with fail
      go_roundw
      case rel => exact ⟨k + 1, by omega, by go_num, by rw [HT.out]; exact hO1, hU1.below hB (Nat.le_refl _) hB.size⟩
      case measure => simp [intOf]; omega
    · obtain rfl : k = l.length := by omega
      rw [List.take_length] at hO
      have hlen : (layAll l).length ≤ 224999999934463 := by
        have := layAll_length l
        omega
      have HL := Lib.hid hlen
      have HO := Lib.hid hO
      clear hlen hO
      go_wp2_with fail
      refine (bytes_any w.heap.size (layAll l) wr HO.out (by have := HL.out; omega)).mono ?_
      rintro e w2 ⟨A', c', rfl, hfr, hb2⟩
      have HF := Lib.hid hfr.1
      clear hfr
      go_wp2_with fail
      refine (read_any A' _ c' (layAll l) w2 HF.out (by have := HL.out; omega)).mono ?_
      rintro e w3 ⟨I, rfl, hI, hIn, hb3⟩
      have hO3 := (HO.out.keep hb2).keep hb3
      have hB3 : Below w.heap.size w w3 := hB.trans (hb2.mono hB.size) |>.trans (hb3.mono (Nat.le_trans hB.size hb2.size))
      clear HF
      go_wp2_with fail
      go_loopw [6] (fun t wr => ∃ k : Nat, k ≤ l.length ∧ t = .int .i64 (k : Int) ∧ InAt wr I ⟨layAll l, (layAll (l.take k)).length, 0⟩ ∧ OutAt wr w.heap.size (layAll l) ∧ Below w.heap.size w wr) (fun t _ => l.length - (intOf t).toNat)
      case atStart => exact ⟨0, by omega, rfl, hIn, hO3, hB3⟩
      case round =>
        obtain ⟨k, hk, rfl, hI4, hO4, hB4⟩ := hrel
        rcases Nat.lt_or_ge k l.length with hlt | hge
        · obtain ⟨rfl, hb⟩ := HP.out (by omega)
          have hk' : (k : Int) < (l.length : Int) := by omega
          obtain ⟨⟨ki, n, s⟩, hj⟩ : ∃ a, l[k]? = some a := ⟨_, List.getElem?_eq_getElem hlt⟩
          obtain ⟨hn, c0, c1, c2⟩ := HC.out k ki n s hj
          have c0w := c0
          have c1w := c1
          have c2w := c2
          rw [← (bcell hB4).1 b _ hb] at c0
          have hT := layAll_take hj
          have hS := layAll_split hj
          have hback := back_one (layAll (l.take k)) (layAll (l.drop (k + 1))) ki n s hn
          rw [← hS] at hback
          have htake := takes_all I ⟨layAll l, (layAll (l.take k)).length, 0⟩ ki 65535 wr hI4
          rw [hback] at htake
          have HG := Lib.hid (fun W => given_all ki n hn s W)
          obtain ⟨gn, hgn⟩ : ∃ z, (givenOf ki n s).1 = z := ⟨_, rfl⟩
          obtain ⟨gs, hgs⟩ : ∃ z, (givenOf ki n s).2 = z := ⟨_, rfl⟩
          rw [hgn, hgs] at HG
          have htake' : Calls Try.prog 29 #[.pointer (some ⟨I, 0, none⟩), .agg #[.int .i64 ki, .int .i64 65535]] wr fun e w' => Took I wr ⟨layAll l, (layAll (l.take (k + 1))).length, 0⟩ e (gotV gn gs) w' := by
            rw [hT, List.length_append, ← hgn, ← hgs]
            exact htake
          have HT := Lib.hid htake'
          have HX := Lib.hid (And.intro hI4 (And.intro hO4 hB4))
          have H1 := Lib.hid (And.intro c0w (And.intro c1w c2w))
          unfold gotV at HT HG
          clear htake htake' hback hT hS hgn hgs hn hj hI4 hO4 hB4 c1 c2 c0w c1w c2w
          go_wp2_with fail
          refine HT.out.mono ?_
          rintro e w5 ⟨rfl, hI5, hU5⟩
          have hne : I ≠ w.heap.size := by
            have := hB.size
            have := HO.out.lt
            have := hb2.size
            omega
          have hO5 := HX.out.2.1.in_upd HX.out.1 hU5 hne
          have hB5 : Below w.heap.size w w5 := hU5.below HX.out.2.2 (by have := hB.size; have := hb2.size; omega) HX.out.2.2.size
          go_wp2_with fail
          obtain ⟨w6, hw6⟩ : ∃ z, w5.alloc (.cells #[.int .u64 (gn : Int), .string ⟨gs.toArray⟩] 72) = z := ⟨_, rfl⟩
          have hV6 : Var w6 w5.heap.size 72 #[.int .u64 (gn : Int), .string ⟨gs.toArray⟩] := by rw [← hw6]; exact Var.new _ _ _
          have hb6 : Below w5.heap.size w5 w6 := by rw [← hw6]; go_grown
          have hB6 : Below w.heap.size w w6 := hB5.trans (hb6.mono hB5.size)
          have e0 : w6.cell? ⟨b, off + k * 3, none⟩ = some (.int .i64 ki) := ((bcell hB6).1 b _ hb).trans H1.out.1
          have e1 : w6.cell? ⟨b, off + k * 3 + 1, none⟩ = some (.int .u64 (n : Int)) := ((bcell hB6).1 b _ hb).trans H1.out.2.1
          have e2 : w6.cell? ⟨b, off + k * 3 + 2, none⟩ = some (.string s) := ((bcell hB6).1 b _ hb).trans H1.out.2.2
          have g0 : w6.cell? ⟨w5.heap.size, 0, none⟩ = some (.int .u64 (gn : Int)) := hV6.cell 0
          have g1 : w6.cell? ⟨w5.heap.size, 1, none⟩ = some (.string ⟨gs.toArray⟩) := hV6.cell 1
          have hz6 := hB6.size
          have hzb : b < w6.heap.size := by have := hB6.size; omega
          have hz5 : w5.heap.size < w6.heap.size := hV6.lt
          rw [hw6]
          have HY := Lib.hid (And.intro (hI5.keep hb6) (hO5.keep hb6))
          clear hw6 hV6 hb6 hI5 hO5 hU5 hB5 hIn hO3 hb2 hb3 hI hB3 hB c0
          have hq_w6 := @wd_cell w6
          refine wp_region_wd (by kernel_rfl) (by kernel_rfl) ?_
          repeat (go_big_quiet_step ((first | (go_at_call 34; with_reducible exact quiet_wd (HG.out _)))))
          refine wpQuiet_nil ?_
          rintro w7 ⟨⟨wx, hb_w7⟩, hwx⟩
          obtain rfl : w7 = wx := hwx
          clear hq_w6
          have hz_w7 := hb_w7.size
          obtain ⟨hc_w7, hf_w7⟩ := bcell hb_w7
          have hB_w7 : Below w.heap.size w w7 := Below.trans (by go_grown) (hb_w7.mono (by go_size))
          go_wp2_with fail
          go_roundw
          case rel => exact ⟨k + 1, by omega, by go_num, HY.out.1.keep hb_w7, HY.out.2.keep hb_w7, hB6.trans (hb_w7.mono hB6.size)⟩
          case measure => simp [intOf]; omega
        · have hk' : ¬ (k : Int) < (l.length : Int) := by omega
          have hkl : k = l.length := by omega
          rw [hkl, List.take_length] at hI4
          clear hkl
          have hf := fault_any I _ wr hI4
          have hf0 : faultOf ⟨layAll l, (layAll l).length, 0⟩ = 0 := by simp [faultOf]
          rw [hf0] at hf
          have HF := Lib.hid hf
          have HX := Lib.hid (And.intro hI4 (And.intro hO4 hB4))
          clear hf hf0 hI4 hO4 hB4
          go_wp2_with fail
          refine HF.out.mono ?_
          rintro e w8 ⟨rfl, hb8⟩
          have hB8 : Below w.heap.size w w8 := HX.out.2.2.trans (hb8.mono HX.out.2.2.size)
          have hE0 : endOf ⟨layAll l, (layAll l).length, 0⟩ = 0 := by simp [endOf]
          have HE := Lib.hid (fun W h => end_any I ⟨layAll l, (layAll l).length, 0⟩ W h)
          rw [hE0] at HE
          have HA := Lib.hid (fun W h => at_any I ⟨layAll l, (layAll l).length, 0⟩ W h)
          have HL := Lib.hid (fun W h => len_any w.heap.size (layAll l) W h)
          have hI8 := Lib.hid (HX.out.1.keep hb8)
          have hO8 := Lib.hid (HX.out.2.1.keep hb8)
          clear hE0 hIn hO3 hb2 hb3 hI hB3 hB hb8 HF HC
          go_wp2_with fail
          refine (HE.out w8 hI8.out).mono ?_
          rintro e w9 ⟨rfl, hb9⟩
          go_wp2_with fail
          refine (HA.out w9 (hI8.out.keep hb9)).mono ?_
          rintro e w10 ⟨rfl, hb10⟩
          go_wp2_with fail
          have hb10' := hb9.trans (hb10.mono hb9.size)
          refine (HL.out w10 (hO8.out.keep hb10')).mono ?_
          rintro e w11 ⟨rfl, hb11⟩
          have hb11' := hb10'.trans (hb11.mono hb10'.size)
          go_wp2_with fail
          refine (works_any w11).mono ?_
          rintro e w12 ⟨rfl, hb12⟩
          have hb12' := hb11'.trans (hb12.mono hb11'.size)
          go_wp2_with fail
          refine bodyPost_ret (by simp [results, Try.results10, go_sem, *]; try rfl) rfl ?_
          exact ⟨rfl, hB8.trans (hb12'.mono hB8.size)⟩

theorem back_adds (v : Value) (l : List (Int × Nat × ByteArray)) (w : World) (h : AddsAt w v l) (hl : l.length ≤ 1048576) :
    Calls Try.prog 10 #[v] w fun e w' => e = .returned (.bool true) ∧ Below w.heap.size w w' := by
  rcases h with ⟨rfl, A, c, rfl⟩ | ⟨b, off, c, rfl, hb, hc⟩
  · exact back_some A 0 0 c [] w (fun h => absurd h (by simp)) (by simp) (fun j k n s h => by simp at h)
  · exact back_some _ b off c l w (fun _ => ⟨rfl, hb⟩) hl hc

end Go.Proofs.Ytiejgandjlldjaa
