/-
  Contract of the reference's Text.
-/
import Derived.Test.YtedodoaeecbalaaTextM
import Derived.Test.YtedodoaeecbalaaCut
import Derived.Test.YtedodoaeecbalaaPair
import Derived.Test.YtedodoaeecbalaaNat
import Derived.Laws.Concat
namespace Go.Proofs.Ytedodoaeecbalaa
open Go.RowKit

theorem ten_small : Small 1 10 := by unfold Small; decide
theorem dig_small {m : Nat} (h : m < 10) : Small 1 m := by unfold Small; omega

theorem revd_len : ∀ (m n : Nat), n < 10 ^ (m + 1) → (revd n).length ≤ m + 1
  | 0, n, h => by rw [revd_low (by omega)]; simp
  | m + 1, n, h => by
    rcases Nat.lt_or_ge n 10 with h1 | h1
    · rw [revd_low h1]; simp
    · rw [revd_more (by omega)]
      have := revd_len m (n / 10) (by rw [Nat.div_lt_iff_lt_mul (by omega), ← Nat.pow_succ]; exact h)
      simp only [List.length_cons]
      omega
theorem revd_small {n : Nat} (h : Small 9 n) : (revd n).length ≤ 50 := by
  refine Nat.le_trans (revd_len 49 n (Nat.lt_of_lt_of_le h ?_)) (by omega)
  decide +kernel
theorem nought_len {w : World} {A : Option Addr} {n c : Nat} {ds : List Nat} (h : RawAt w A n c ds) (ht : Tight ds) : n = 0 ↔ val ds = 0 := by
  rw [val_eq_zero ht, ← h.len, List.length_eq_zero_iff]
theorem join_dig (d : UInt8) (l : List UInt8) (hl : l.length ≤ 100) (W : World) : (Op.stringOp .add ⟨#[d]⟩ ⟨l.toArray⟩).run Try.prog W = .ok (.string ⟨(d :: l).toArray⟩) W := by
  rw [run_string_add_sum W _ _ (by simp [ByteArray.size]; omega)]
  congr 2

theorem ret_str {l T : List UInt8} (h : l = T) : Ending.returned (.string ⟨l.toArray⟩) = .returned (.string ⟨T.toArray⟩) := by rw [h]

/-- 'string([]byte{d})' of a digit. -/
theorem conv_dig {d : Nat} (hd : d < 10) {W : World} :
    (convert 96 9 (.slice (some ⟨W.heap.size, 0, none⟩) 1 1)).run Try.prog (W.alloc (.cells #[.int .u8 (48 + (d : Int))] 5)) = .ok (.string ⟨[dg d].toArray⟩) (W.alloc (.cells #[.int .u8 (48 + (d : Int))] 5)) := by
  refine run_convert_bytes_back _ 96 9 5 ⟨W.heap.size, 0, none⟩ 1 [dg d] Try.underlying96 Try.underlying5 Try.underlying9 (fun j hj => ?_)
  have hj0 : j = 0 := by simpa using hj
  subst hj0
  have hc := (Var.new W 5 #[.int .u8 (48 + (d : Int))]).cell 0
  have e : (((dg d).toNat : Nat) : Int) = 48 + (d : Int) := by rw [dg_nat hd]; omega
  have ha : ((⟨W.heap.size, 0, none⟩ : Addr).add 0) = ⟨W.heap.size, 0, none⟩ := by simp [Addr.add]
  rw [ha, hc]
  show some (Value.int .u8 (48 + (d : Int))) = some (.int .u8 (((dg d).toNat : Nat) : Int))
  rw [e]

set_option maxHeartbeats 4000000 in
set_option maxRecDepth 100000 in
theorem text_ref {w0 : World} {v : Value} {x : Int} (hx : NumAt w0 v x) (hs9 : Small 9 x.natAbs) (w : World) (hw : Below w0.heap.size w0 w) :
    Calls Try.prog 43 #[v] w fun e w' => e = .returned (.string ⟨(txt x).toArray⟩) ∧ Below w.heap.size w w' := by
  obtain ⟨b, A, n, c, ds, rfl, hs, hr, ht, hv⟩ := num_open (hx.below hw)
  obtain ⟨T, hT⟩ : ∃ z, txt x = z := ⟨_, rfl⟩
  rw [hT]
  unfold txt at hT
  obtain ⟨N0, hN0⟩ : ∃ z, x.natAbs = z := ⟨_, rfl⟩
  rw [hN0] at hT hs9 hv
  have HT := Lib.hid (And.intro hT hs.out)
  have HS9 := Lib.hid hs9
  have HLEN := Lib.hid (revd_small hs9)
  have HU := Lib.hid (fun W => unsigned_ref 10 (by omega) W)
  clear hx hw hT hs hN0 hs9
  go_enter Try.func43, Try.ntmps43
  go_wp2_with fail
  refine wp_gen (fun W hW => ?_)
  have va : Var W w.heap.size 35 #[.bool b, .slice A n c] := by rw [hW]; exact (Var.new _ _ _).alloc _
  have vX : Var W (w.heap.size + 1) 35 #[.bool false, .slice A n c] := by rw [hW]; exact Var.new' _ _ _ (by simp)
  have rX : RawAt W A n c ds := by rw [hW]; exact raw_alloc (raw_alloc hr _) _
  have hB_W : Below w.heap.size w W := by rw [hW]; go_grown
  clear hW
  go_loopg [3] N0 (fun g t wr => ∃ (A' : Option Addr) (n' c' : Nat) (ds' : List Nat) (l : List UInt8), t = .string ⟨l.toArray⟩ ∧ Var wr (w.heap.size + 1) 35 #[.bool false, .slice A' n' c'] ∧ RawAt wr A' n' c' ds' ∧ Tight ds' ∧ Var wr w.heap.size 35 #[.bool b, .slice A n c] ∧ Hid ((revd N0).reverse = (revd (val ds')).reverse ++ l ∧ val ds' ≤ N0 ∧ val ds' ≤ g) ∧ Below w.heap.size w wr)
  case atStart => exact ⟨A, n, c, ds, [], rfl, vX, rX, ht, va, Lib.hid ⟨by rw [hv.out]; simp, by rw [hv.out]; exact Nat.le_refl _, by rw [hv.out]; exact Nat.le_refl _⟩, hB_W⟩
  case round =>
    obtain ⟨A', n', c', ds', l, rfl, hV, hR, hTi, hA, HL, hB⟩ := hrel
    have hln : n' ≤ 9 := num_len hR hTi rfl (HS9.out.le HL.out.2.1)
    have x0 : wr.cell? ⟨w.heap.size + 1, 0, none⟩ = some (.bool false) := hV.cell 0
    have x1 : wr.cell? ⟨w.heap.size + 1, 1, none⟩ = some (.slice A' n' c') := hV.cell 1
    have zx := hV.lt
    have za := hA.lt
    clear va vX rX hB_W
    go_wp2_with fail
    refine wp_cutR (fun a' w' => ∃ (g5 g6 : Nat) (y10 y11 y12 y13 y14 y15 : Value) (Aq : Option Addr) (nq cq : Nat) (dq : List Nat) (Al : Option Addr) (nl cl : Nat) (dl : List Nat), a' = { tmps := #[.agg #[.bool b, .slice A n c], .pointer (some ⟨w.heap.size, 0, none⟩), .string { data := #[] }, .string ⟨l.toArray⟩, .pointer (some ⟨w.heap.size + 1, 0, none⟩), .pointer (some ⟨g5, 0, none⟩), .pointer (some ⟨g6, 0, none⟩), .pointer (some ⟨w.heap.size, 1, none⟩), .slice A n c, .agg #[.bool false, .slice A n c], y10, y11, y12, y13, y14, y15, u16, u17, u18, u19, u20, u21, u22, u23, u24, u25, u26, u27, u28, undef, undef, undef, undef, undef], defers := [] } ∧ Var w' g5 35 #[.bool false, .slice Aq nq cq] ∧ RawAt w' Aq nq cq dq ∧ Tight dq ∧ Hid (val dq = val ds' / 10) ∧ Var w' g6 35 #[.bool false, .slice Al nl cl] ∧ RawAt w' Al nl cl dl ∧ Hid (val dl = val ds' % 10) ∧ nl ≤ 1 ∧ Below wr.heap.size wr w' ∧ wr.heap.size ≤ g5 ∧ wr.heap.size ≤ g6) ?_ ?_
    · go_region_held3 (fun w' => Below wr.heap.size wr w' ∧ (∀ b o, b < wr.heap.size → w'.cell? ⟨b, o, none⟩ = wr.cell? ⟨b, o, none⟩))
        (first | assumption | (repeat' (first | assumption | (with_reducible exact held_refl _) | (with_reducible refine held_drew ?_) | (with_reducible refine held_alloc _ ?_) | (with_reducible refine held_set _ (by omega) ?_))))
        (first
          | (go_at_call 37; refine (open_mag (HU.out _)).mono ?_; rintro e wp4 ⟨b2, A2, n2, c2, k2, rfl, hs2, hr2, ht2, hv2, hb_wp4⟩; have hS_wp4 := held_step hb_wp4 (W0 := wr) (by first | assumption | (repeat' (first | assumption | (with_reducible exact held_refl _) | (with_reducible refine held_drew ?_) | (with_reducible refine held_alloc _ ?_)))); have hG_wp4 := hS_wp4.1; obtain ⟨hc_wp4, hf_wp4⟩ := bcell hb_wp4; have hz_wp4 := hb_wp4.size; (try simp at hz_wp4); (try have hsp1 : wr.heap.size < wp4.heap.size := (by omega)); (try have hsp2 : wr.heap.size + 1 < wp4.heap.size := (by omega)); have l2 : n2 ≤ 1 := num_len hr2 ht2 hv2.out ten_small)
          | (go_at_call 68; refine (open_div (div_ref (hR.below (by go_grown)) (hr2.below (by go_grown)) false b2 (by omega) (by omega) (by rw [hv2.out]; omega) _ (Below.refl _ _))).mono ?_; rintro e wd4 ⟨A3, n3, c3, d3, A4, n4, c4, d4, rfl, ⟨hr3, ht3, hv3⟩, ⟨hr4, ht4, hv4⟩, hb_wd4⟩; have hS_wd4 := held_step hb_wd4 (W0 := wr) (by first | assumption | (repeat' (first | assumption | (with_reducible exact held_refl _) | (with_reducible refine held_drew ?_) | (with_reducible refine held_alloc _ ?_)))); have hG_wd4 := hS_wd4.1; obtain ⟨hc_wd4, hf_wd4⟩ := bcell hb_wd4; have hz_wd4 := hb_wd4.size; (try simp at hz_wd4); (try have hsd1 : wr.heap.size < wd4.heap.size := (by omega)); (try have hsd2 : wr.heap.size + 1 < wd4.heap.size := (by omega)); (try have hsd3 : wp4.heap.size < wd4.heap.size := (by omega)); (try have hsd4 : wp4.heap.size + 1 < wd4.heap.size := (by omega))))
      all_goals
        have E3 := Lib.hid (show val d3 = val ds' / 10 by rw [hv3.out, hv2.out])
        have E4 := Lib.hid (show val d4 = val ds' % 10 by rw [hv4.out, hv2.out])
        have l4 : n4 ≤ 1 := num_len hr4 ht4 E4.out (dig_small (Nat.mod_lt _ (by omega)))
        refine ⟨rfl, _, _, _, _, _, _, _, _, A3, n3, c3, d3, A4, n4, c4, d4, rfl, ?_, ?_, ht3, E3, ?_, ?_, E4, l4, (show Below wr.heap.size wr _ ∧ (∀ b o, b < wr.heap.size → World.cell? _ ⟨b, o, none⟩ = wr.cell? ⟨b, o, none⟩) by (repeat' (first | assumption | (with_reducible exact held_refl _) | (with_reducible refine held_drew ?_) | (with_reducible refine held_alloc _ ?_) | (with_reducible refine held_set _ (by omega) ?_)))).1, by first | omega | (simp; done) | (simp; omega), by first | omega | (simp; done) | (simp; omega)⟩
      all_goals repeat' (first
        | (with_reducible exact hr3)
        | (with_reducible exact hr4)
        | (with_reducible exact Var.new' _ _ _ (by first | rfl | (simp; done) | (simp; omega)))
        | (with_reducible refine var_twoN ?_)
        | (with_reducible refine var_farN (by omega) ?_)
        | (with_reducible refine Var.drew ?_)
        | (with_reducible refine Var.alloc ?_ _)
        | (with_reducible refine Var.keep ?_ hb_wd4)
        | (with_reducible refine Var.keep ?_ hb_wp4)
        | (with_reducible refine raw_farN ?_ ?_)
        | (with_reducible refine raw_alloc ?_ _)
        | (with_reducible refine raw_drew ?_))
    · rintro a' W5 ⟨g5, g6, y10, y11, y12, y13, y14, y15, Aq, nq, cq, dq, Al, nl, cl, dl, rfl, vQ, rQ, tQ, eQ, vL, rL, eL, lL, hB5, zg5, zg6⟩
      have hV5 := hV.keep hB5
      have hA5 := hA.keep hB5
      have q0 : W5.cell? ⟨g5, 0, none⟩ = some (.bool false) := vQ.cell 0
      have q1 : W5.cell? ⟨g5, 1, none⟩ = some (.slice Aq nq cq) := vQ.cell 1
      have l0 : W5.cell? ⟨g6, 0, none⟩ = some (.bool false) := vL.cell 0
      have l1 : W5.cell? ⟨g6, 1, none⟩ = some (.slice Al nl cl) := vL.cell 1
      have zQ := vQ.lt
      have zL := vL.lt
      have hd : val dl < 10 := by rw [eL.out]; exact Nat.mod_lt _ (by omega)
      have WD := Lib.hid (fun W (h : Below W5.heap.size W5 W) => word_ref rL (by omega) (by omega) false W h)
      obtain ⟨d, hdd⟩ : ∃ z, val dl = z := ⟨_, rfl⟩
      rw [hdd] at hd WD eL
      have hd1 : (d : Int) ≤ 9 := by omega
      have hBw5 : Below w.heap.size w W5 := hB.trans (hB5.mono hB.size)
      have hll : l.length ≤ 50 := by
        have h1 := congrArg List.length HL.out.1
        simp only [List.length_append, List.length_reverse] at h1
        have := HLEN.out
        omega
      have AD := fun W : World => join_dig (dg d) l (by omega) W
      have CV := fun W : World => conv_dig (W := W) hd
      clear x0 x1 zx za hV hA hdd
      go_wp2_with fail
      refine (WD.out _ (Below.refl _ _)).mono ?_
      rintro e w6 ⟨rfl, hb_w6⟩
      have vQ6 := vQ.keep hb_w6
      have hV6 := hV5.keep hb_w6
      have hA6 := hA5.keep hb_w6
      have rQ6 := rQ.below hb_w6
      have q0' : w6.cell? ⟨g5, 0, none⟩ = some (.bool false) := vQ6.cell 0
      have q1' : w6.cell? ⟨g5, 1, none⟩ = some (.slice Aq nq cq) := vQ6.cell 1
      have x0' : w6.cell? ⟨w.heap.size + 1, 0, none⟩ = some (.bool false) := hV6.cell 0
      have x1' : w6.cell? ⟨w.heap.size + 1, 1, none⟩ = some (.slice A' n' c') := hV6.cell 1
      have f0' := hV6.free 0
      have f1' := hV6.free 1
      have a0' : w6.cell? ⟨w.heap.size, 0, none⟩ = some (.bool b) := hA6.cell 0
      have zq6 := vQ6.lt
      have zx6 := hV6.lt
      have za6 := hA6.lt
      have hB6 : Below w.heap.size w w6 := hBw5.trans (hb_w6.mono hBw5.size)
      have HQ := Lib.hid eQ.out
      clear q0 q1 l0 l1 zQ zL hV5 hA5 hb_w6 hB5
      rcases Nat.lt_or_ge (val ds') 10 with hlow | hmore
      · obtain rfl : nq = 0 := (nought_len rQ6 tQ).2 (by rw [eQ.out]; omega)
        have hfin := Lib.hid (show (revd N0).reverse = dg d :: l by rw [HL.out.1, revd_low hlow, show d = val ds' by have := eL.out; omega]; rfl)
        clear hlow
        cases b
        · have hres := Lib.hid (show (dg d :: l) = T by rw [← HT.out.1, if_neg (of_decide_eq_false HT.out.2.symm), hfin.out]; rfl)
          go_wp2_with fail
          go_ret
          exact ⟨ret_str hres.out, by go_grown⟩
        · have hres := Lib.hid (show (45 :: dg d :: l) = T by rw [← HT.out.1, if_pos (of_decide_eq_true HT.out.2.symm), hfin.out]; rfl)
          have AD2 := fun W : World => join_dig 45 (dg d :: l) (by simp; omega) W
          go_wp2_with fail
          go_ret
          exact ⟨ret_str hres.out, by go_grown⟩
      · have hnq : ¬ nq = 0 := fun h => by have := (nought_len rQ6 tQ).1 h; rw [eQ.out] at this; omega
        have hnq' : ((nq : Int) == 0) = false := by simp; omega
        have hnq2 : ¬ (nq : Int) = 0 := by omega
        have hmore' := Lib.hid hmore
        clear hmore
        go_wp2_with fail
        go_roundg (val dq)
        case measure => have h1 := eQ.out; have h2 := hmore'.out; have h3 := HL.out.2.2; omega
        case rel =>
          refine ⟨Aq, nq, cq, dq, dg d :: l, rfl, (var_two hV6 _ _).alloc _, raw_alloc (rQ6.over hV6 _ _) _, tQ, (var_far2 hA6 (by omega) _ _).alloc _, Lib.hid ⟨?_, ?_, Nat.le_refl _⟩, by go_grown⟩
          · rw [HL.out.1, revd_more (by have := hmore'.out; omega), eQ.out, show d = val ds' % 10 from eL.out, List.reverse_cons, List.append_assoc]
            rfl
          · have h1 := eQ.out; have h3 := HL.out.2.1; omega

end Go.Proofs.Ytedodoaeecbalaa
