/-
  The law WireAgain, walked.
-/
import Derived.Test.YtiejgandjlldjaaAgainM
import Derived.Test.YtiejgandjlldjaaOpenWants
import Derived.Test.YtiejgandjlldjaaWorks
import Derived.Test.YtiejgandjlldjaaBackW
namespace Go.Proofs.Ytiejgandjlldjaa
open Go.RowKit

theorem InAt.out_upd {w w' : World} {O I : Nat} {l : List UInt8} {s : Ist} (h : InAt w I s) (hO : OutAt w O l) (hu : Upd O w w') (hne : I ≠ O) : InAt w' I s := by
  obtain ⟨A, c, hv, hs, hat⟩ := h
  obtain ⟨A', n, c', hv', _⟩ := hO
  exact ⟨A, c, hv.upd hu hne, bs_upd hs hu (out_no hv'), hat⟩
theorem InAt.fits {w : World} {I : Nat} {s : Ist} (h : InAt w I s) : s.at_ ≤ s.l.length := by obtain ⟨A, c, hv, hs, hat⟩ := h; exact hat
theorem takeOf_nine (most : Int) (s : Ist) : (takeOf 9 most s).1.2 = noneT ∨ (takeOf 9 most s).1.2 = [] := by
  show (if nan s.float.1 then (0, noneT) else (s.float.1, [])).2 = noneT ∨ (if nan s.float.1 then (0, noneT) else (s.float.1, [])).2 = []
  split
  · exact .inl rfl
  · exact .inr rfl
theorem takeOf_lt (k most : Int) (s : Ist) : (takeOf k most s).1.1 < 18446744073709551616 := by
  have hf : ∀ n, n ≤ 8 → (s.fixed n).1 < 18446744073709551616 := fun n hn => by
    have h := s.fixed_lt n
    have : (2 : Nat) ^ (8 * n) ≤ 2 ^ 64 := Nat.pow_le_pow_right (by omega) (by omega)
    omega
  have hs : ∀ (K : IntKind) v, sx K v < 18446744073709551616 := fun K v => by
    have := sx_eq K v
    have h2 := IntKind.wrap_u64 (K.wrap (v : Int))
    omega
  have hfl : s.float.1 < 18446744073709551616 := by
    unfold Ist.float
    split
    · simp
    · exact hf 8 (by omega)
  unfold takeOf
  split
  · exact hs _ _
  split
  · exact hf 1 (by omega)
  split
  · exact hs _ _
  split
  · exact hf 2 (by omega)
  split
  · exact hs _ _
  split
  · exact hf 4 (by omega)
  split
  · exact hs _ _
  split
  · exact hf 8 (by omega)
  split
  · show (if nan s.float.1 then (0, noneT) else (s.float.1, [])).1 < _
    split
    · simp
    · exact hfl
  split
  · simp
  split
  · show (s.count most).1 < _
    unfold Ist.count
    split
    · simp
    · exact hf 2 (by omega)
  · simp
theorem undrew_at {B : Nat} {w w' : World} (h : Below B w.drew w') : Below B w w' := (Below.refl B w).drew.trans h

set_option maxRecDepth 100000 in
set_option maxHeartbeats 1600000 in
theorem again_some (A B : Option Addr) (n c b off c2 : Nat) (l : List UInt8) (ls : List (Int × Int)) (w : World) (hs : Bs w A n c l) (hn : n ≤ 140737488351232) (hls : ls.length * 16 ≤ 140737488351232)
    (hB : 0 < ls.length → B = some ⟨b, off, none⟩ ∧ b < w.heap.size)
    (hc : ∀ (j : Nat) k m, ls[j]? = some (k, m) → w.cell? ⟨b, off + j * 2, none⟩ = some (.int .i64 k) ∧ w.cell? ⟨b, off + (j * 2 + 1), none⟩ = some (.int .i64 m)) :
    Calls Try.prog 9 #[.slice A n c, .slice B ls.length c2] w fun e w' => e = .returned (.bool true) ∧ Below w.heap.size w w' := by
  have HC := Lib.hid hc
  have HP := Lib.hid hB
  have HS := Lib.hid hs
  have HN := Lib.hid (And.intro hn hls)
  clear hc hB hs hn hls
  go_enter Try.func9, Try.ntmps9
  go_wp2_with fail
  refine (read_any A n c l w HS.out (by have := HN.out.1; omega)).mono ?_
  rintro e w1 ⟨I, rfl, hI1, hIn, hb1⟩
  go_wp2_with fail
  refine wp_gen (fun W hW => ?_)
  have vO : Var W w1.heap.size 35 #[.slice none 0 0] := by rw [hW]; exact Var.new _ _ _
  have hb2 : Below w1.heap.size w1 W := by rw [hW]; go_grown
  clear hW
  have hI2 := hIn.keep hb2
  have hB2 : Below w.heap.size w W := hb1.trans (hb2.mono hb1.size)
  have hIO : I ≠ w1.heap.size := by have := hIn.lt; omega
  have hw1 := hb1.size
  clear hIn hb1 hb2
  go_loopw [7] (fun t wr => ∃ k s out, k ≤ ls.length ∧ t = .int .i64 (k : Int) ∧ AInv l k s out ∧ InAt wr I s ∧ OutAt wr w1.heap.size out ∧ Below w.heap.size w wr) (fun t _ => ls.length - (intOf t).toNat)
  case atStart => exact ⟨0, ⟨l, 0, 0⟩, [], by omega, rfl, ⟨rfl, Nat.zero_le _, fun _ => rfl, Nat.zero_le _⟩, hI2, ⟨none, 0, 0, vO, Bs.nil _⟩, hB2⟩
  case round =>
    obtain ⟨k, s, out, hk, rfl, hA, hI, hO, hBr⟩ := hrel
    clear vO hI2 hB2
    rcases Nat.lt_or_ge k ls.length with hlt | hge
    · obtain ⟨rfl, hb⟩ := HP.out (by omega)
      have hk' : (k : Int) < (ls.length : Int) := by omega
      obtain ⟨⟨ki, m⟩, hj⟩ : ∃ a, ls[k]? = some a := ⟨_, List.getElem?_eq_getElem hlt⟩
      obtain ⟨c0, c1⟩ := HC.out k ki m hj
      rw [← Nat.add_assoc] at c1
      have c0r := ((bcell hBr).1 b _ hb).trans c0
      have c1r := ((bcell hBr).1 b _ hb).trans c1
      have htake := takes_all I s ki m wr hI
      have hg9 := takeOf_nine m s
      have HO := Lib.hid hO
      have HBr := Lib.hid hBr
      have HI := Lib.hid hI
      obtain ⟨gn, hgn⟩ : ∃ z, (takeOf ki m s).1.1 = z := ⟨_, rfl⟩
      obtain ⟨gs, hgs⟩ : ∃ z, (takeOf ki m s).1.2 = z := ⟨_, rfl⟩
      obtain ⟨s2, hs2⟩ : ∃ z, (takeOf ki m s).2 = z := ⟨_, rfl⟩
      rw [hgn, hgs, hs2] at htake
      have HT := Lib.hid htake
      have HZ := Lib.hid (And.intro hA (And.intro hgn (And.intro hgs (And.intro hs2 hg9))))
      unfold gotV at HT
      have hzb := hBr.size
      have H1 := Lib.hid (And.intro c0 c1)
      clear htake hgn hgs hs2 hA hg9 hj hI hO c0 c1
      go_wp2_with fail
      refine HT.out.mono ?_
      rintro e w5 ⟨rfl, hI5, hU5⟩
      have hO5 := HO.out.in_upd HI.out hU5 hIO
      have hB5 : Below w.heap.size w w5 := hU5.below HBr.out hI1 HBr.out.size
      have hO1 := HO.out.lt
      have hz5 := hU5.size
      go_wp2_with fail
      obtain ⟨w6, hw6⟩ : ∃ z, w5.alloc (.cells #[.int .u64 (gn : Int), .string ⟨gs.toArray⟩] 72) = z := ⟨_, rfl⟩
      have hV6 : Var w6 w5.heap.size 72 #[.int .u64 (gn : Int), .string ⟨gs.toArray⟩] := by rw [← hw6]; exact Var.new _ _ _
      have hb6 : Below w5.heap.size w5 w6 := by rw [← hw6]; go_grown
      have hB6 : Below w.heap.size w w6 := hB5.trans (hb6.mono hB5.size)
      have e0 : w6.cell? ⟨b, off + k * 2, none⟩ = some (.int .i64 ki) := ((bcell hB6).1 b _ hb).trans H1.out.1
      have e1 : w6.cell? ⟨b, off + k * 2 + 1, none⟩ = some (.int .i64 m) := ((bcell hB6).1 b _ hb).trans H1.out.2
      have g0 : w6.cell? ⟨w5.heap.size, 0, none⟩ = some (.int .u64 (gn : Int)) := hV6.cell 0
      have g1 : w6.cell? ⟨w5.heap.size, 1, none⟩ = some (.string ⟨gs.toArray⟩) := hV6.cell 1
      have hzb6 : b < w6.heap.size := by have := hB6.size; omega
      have hz56 : w5.heap.size < w6.heap.size := hV6.lt
      rw [hw6]
      have hO6 := hO5.keep hb6
      have hI6 := hI5.keep hb6
      clear hw6 hb6 hI5 hO5 hU5 hB5 HO HI HBr
      have hO7 := hO6
      have hI7 := hI6
      have hB7 := hB6
      have hls := HN.out.2
      have hlen : out.length ≤ 224999999934463 := by
        have h1 := HZ.out.1.2.2.2
        have h2 := HS.out.len
        have h3 := HN.out
        omega
      have HL : Hid (∀ (n' : Nat) (_ : n' < 18446744073709551616) (W : World) (_ : Below w6.heap.size w6 W), Calls Try.prog 15 #[.pointer (some ⟨w1.heap.size, 0, none⟩), .agg #[.int .i64 ki, .int .u64 (n' : Int), .string ⟨gs.toArray⟩]] W fun e w' =>
          Void e ∧ OutAt w' w1.heap.size (out ++ layB ki n' ⟨gs.toArray⟩) ∧ InAt w' I s2 ∧ Below w.heap.size w w') := Lib.hid (fun n' hn' W hb =>
        (lays_all w1.heap.size out ki n' hn' ⟨gs.toArray⟩ W (hO7.keep hb) hlen).mono
          (fun e w' ⟨he, ho, hu⟩ => ⟨he, ho, (hI7.keep hb).out_upd (hO7.keep hb) hu hIO, hu.below (hB7.trans (hb.mono hB7.size)) hw1 (Nat.le_trans hB7.size hb.size)⟩))
      have hgn64 : gn < 18446744073709551616 := by rw [← HZ.out.2.1]; exact takeOf_lt ki m s
      have hGN : Hid (gn < 18446744073709551616) := Lib.hid hgn64
      have hways : ¬ ki = 9 ∨ (ki = 9 ∧ gs = noneT) ∨ (ki = 9 ∧ gs = []) := by
        rcases Decidable.em (ki = 9) with h9 | h9
        · obtain ⟨_, h2, h3, h4, h5⟩ := HZ.out
          subst h9
          rw [h3] at h5
          rcases h5 with h5 | h5
          · exact .inr (.inl ⟨rfl, h5⟩)
          · exact .inr (.inr ⟨rfl, h5⟩)
        · exact .inl h9
      have hend : ∀ w9, OutAt w9 w1.heap.size (out ++ layB ki (againN ki (gn, gs)) ⟨gs.toArray⟩) → InAt w9 I s2 → AInv l (k + 1) s2 (out ++ layB ki (againN ki (gn, gs)) ⟨gs.toArray⟩) := fun w9 ho hi => by
        obtain ⟨h1, h2, h3, h4, h5⟩ := HZ.out
        have hst := ainv_step h1 ki m (by rw [h4]; exact hi.fits)
        have hp : (takeOf ki m s).1 = (gn, gs) := by rw [← h2, ← h3]
        rw [hp, h4] at hst
        exact hst
      have HE := Lib.hid hend
      have hO1 : w1.heap.size < w6.heap.size := hO7.lt
      clear hend hlen hO6 hI6 hO7 hI7 hgn64 c0r c1r hV6 HT H1
      rcases hways with h9 | ⟨h9, hgs⟩ | ⟨h9, hgs⟩
      · have h9' : (ki == 9) = false := by simp [h9]
        have ha : againN ki (gn, gs) = gn := againN_not h9 _
        rw [ha] at HE
        clear ha
        go_region
        go_wp2_with fail
        refine (HL.out gn hGN.out _ (by go_grown)).mono ?_
        rintro e w9 ⟨⟨_, rfl⟩, hO9, hI9, hB9⟩
        have hA9 := HE.out w9 hO9 hI9
        clear HE HL HZ
        go_wp2_with fail
        go_roundw
        case rel => exact ⟨k + 1, s2, _, by omega, by go_num, hA9, hI9, hO9, hB9⟩
        case measure => simp [intOf]; omega
      · subst h9 hgs
        unfold noneT at HE HL g1
        go_region
        go_wp2_with fail
        refine (HL.out 9221120237041090561 (by omega) _ (by go_grown)).mono ?_
        rintro e w9 ⟨⟨_, rfl⟩, hO9, hI9, hB9⟩
        have hA9 := HE.out w9 hO9 hI9
        clear HE HL HZ
        go_wp2_with fail
        go_roundw
        case rel => exact ⟨k + 1, s2, _, by omega, by go_num, hA9, hI9, hO9, hB9⟩
        case measure => simp [intOf]; omega
      · subst h9 hgs
        go_region
        go_wp2_with fail
        refine (HL.out gn hGN.out _ (by go_grown)).mono ?_
        rintro e w9 ⟨⟨_, rfl⟩, hO9, hI9, hB9⟩
        have hA9 := HE.out w9 hO9 hI9
        clear HE HL HZ
        go_wp2_with fail
        go_roundw
        case rel => exact ⟨k + 1, s2, _, by omega, by go_num, hA9, hI9, hO9, hB9⟩
        case measure => simp [intOf]; omega
    · have hk' : ¬ (k : Int) < (ls.length : Int) := by omega
      have hlen : out.length ≤ 225000000000000 := by
        have h1 := hA.2.2.2
        have h2 := HS.out.len
        have h3 := HN.out
        omega
      have HE : Hid (∀ W, Below wr.heap.size wr W → Calls Try.prog 33 #[.pointer (some ⟨I, 0, none⟩)] W fun e w' => e = .returned (.int .i64 (endOf s : Int)) ∧ Below W.heap.size W w') := Lib.hid (fun W h => end_any I s W (hI.keep h))
      have HB : Hid (∀ W, Below wr.heap.size wr W → Calls Try.prog 18 #[.pointer (some ⟨w1.heap.size, 0, none⟩)] W fun e w' => ∃ A' c', e = .returned (.slice A' out.length c') ∧ Fresh W w' A' out.length c' out ∧ Below W.heap.size W w') := Lib.hid (fun W h => bytes_any w1.heap.size out W (hO.keep h) hlen)
      have hsr := HS.out.below hBr
      obtain ⟨z, hz⟩ : ∃ z, endOf s = z := ⟨_, rfl⟩
      have HX := Lib.hid (And.intro hA (And.intro hz (And.intro hBr hsr)))
      have hIz := hI.lt
      have hOz := hO.lt
      rw [hz] at HE
      clear hI hO hA hz hBr hsr hlen HC
      rcases Nat.eq_zero_or_pos z with h0 | h0
      · subst h0
        have hout : out = l := ainv_end HX.out.1 HX.out.2.1
        subst hout
        have hln := HS.out.len
        subst hln
        go_wp2_with fail
        go_region_with (first
          | (go_at_call 33; refine (HE.out _ ((Below.refl _ _).drew)).mono ?_; rintro e wE ⟨rfl, hb_wE⟩; replace hb_wE := undrew_at (B := wr.heap.size) (w := wr) hb_wE; have hcE := bs_str (HX.out.2.2.2.below hb_wE))
          | (go_at_call 18; refine (HB.out _ hb_wE).mono ?_; rintro e wB ⟨A', c', rfl, hfr, hb_wB⟩; have hc1 := bs_str hfr.1; have hc2 := bs_str ((HX.out.2.2.2.below hb_wE).below hb_wB))
          | (go_at_call 12; refine (works_any _).mono ?_; rintro e wW ⟨rfl, hb_wW⟩))
        all_goals
          go_wp2_with fail
          refine bodyPost_ret (by simp [results, Try.results9, go_sem, *]; try rfl) rfl ?_
          exact ⟨rfl, HX.out.2.2.1.trans ((hb_wE.trans ((hb_wB.trans (hb_wW.mono hb_wB.size)).mono hb_wE.size)).mono HX.out.2.2.1.size)⟩
      · have hz1 : ((z : Int) != 0) = true := by simp; omega
        have hz2 : ¬ (z : Int) = 0 := by omega
        have hBr := HX.out.2.2.1
        go_wp2_with fail
        have hq_wr := @wd_cell wr
        refine wp_region_wd (by kernel_rfl) (by kernel_rfl) ?_
        repeat (go_big_quiet_step ((first | (go_at_call 33; with_reducible exact quiet_wd (HE.out _ (Wd.h _))) | (go_at_call 12; with_reducible exact quiet_wd (works_any _)))))
        refine wpQuiet_nil ?_
        rintro w8 ⟨⟨wx, hb_w8⟩, hwx⟩
        obtain rfl : w8 = wx := hwx
        clear hq_wr
        have hz_w8 := hb_w8.size
        obtain ⟨hc_w8, hf_w8⟩ := bcell hb_w8
        have hB_w8 : Below w.heap.size w w8 := Below.trans (by go_grown) (hb_w8.mono (by go_size))
        have hs_w8_0 : I < w8.heap.size := Nat.lt_of_lt_of_le (by assumption) hb_w8.size
        have hs_w8_1 : w1.heap.size < w8.heap.size := Nat.lt_of_lt_of_le (by assumption) hb_w8.size
        go_wp2_with fail
        refine bodyPost_ret (by simp [results, Try.results9, go_sem, *]; try rfl) rfl ?_
        exact ⟨rfl, HX.out.2.2.1.trans (hb_w8.mono HX.out.2.2.1.size)⟩

theorem again_core (A : Option Addr) (n c : Nat) (l : List UInt8) (v : Value) (ls : List (Int × Int)) (w : World) (hs : Bs w A n c l) (h : WantsAt w v ls) (hn : n ≤ 140737488351232) (hls : ls.length * 16 ≤ 140737488351232) :
    Calls Try.prog 9 #[.slice A n c, v] w fun e w' => e = .returned (.bool true) ∧ Below w.heap.size w w' := by
  rcases h with ⟨rfl, B, c2, rfl⟩ | ⟨b, off, c2, rfl, hb, hc⟩
  · exact again_some A B n c 0 0 c2 l [] w hs hn hls (fun h => absurd h (by simp)) (fun j k m h => by simp at h)
  · exact again_some A _ n c b off c2 l ls w hs hn hls (fun _ => ⟨rfl, hb⟩) hc

end Go.Proofs.Ytiejgandjlldjaa
