/-
  The document's Stands, Open.
-/
import Derived.Test.YtiejgandjlldjaaRefFrm
namespace Go.Proofs.Ytiejgandjlldjaa
open Go.RowKit

theorem at8_drop (l : List UInt8) (k i : Nat) : at8 (l.drop k) i = at8 l (k + i) := by
  unfold at8
  rw [List.getD_eq_getElem?_getD, List.getD_eq_getElem?_getD, List.getElem?_drop]
theorem at8_eq {l k : List UInt8} {i : Nat} (hl : i < l.length) (hk : i < k.length) (h : at8 l i = at8 k i) : l[i] = k[i] := by
  unfold at8 at h
  rw [List.getD_eq_getElem?_getD, List.getD_eq_getElem?_getD, List.getElem?_eq_getElem hl, List.getElem?_eq_getElem hk] at h
  exact UInt8.toNat_inj.1 h
def StandsSays (w : World) (t : List UInt8) (e : Ending) (w' : World) : Prop :=
  (standsB t = none ∧ e = .returned (.tuple #[.slice none 0 0, .bool false]) ∧ Below w.heap.size w w') ∨
  ∃ body A' c', standsB t = some body ∧ e = .returned (.tuple #[.slice A' body.length c', .bool true]) ∧ Br w' w.heap.size A' body.length c' body ∧ Below w.heap.size w w'
theorem stands_no {t : List UInt8} (h : (headOf t).2 = false ∨ t.length < 8 + (headOf t).1) : standsB t = none := by
  unfold standsB
  rw [if_neg]
  rintro ⟨h1, h2, _⟩
  rcases h with h | h
  · rw [h] at h1; cases h1
  · omega
theorem head_no {t : List UInt8} (h : t.length < 8 ∨ ¬ at8 t 0 = 80 ∨ ¬ at8 t 1 = 100) : (headOf t).2 = false := by unfold headOf; rw [if_pos h]
theorem head_is {t : List UInt8} (h : ¬ (t.length < 8 ∨ ¬ at8 t 0 = 80 ∨ ¬ at8 t 1 = 100)) : headOf t = (at8 t 2 + at8 t 3 * 256, decide (at8 t 2 + at8 t 3 * 256 ≤ 8184)) := by unfold headOf; rw [if_neg h]
theorem stands_cmp {t : List UInt8} (h1 : (headOf t).2 = true) (h2 : 8 + (headOf t).1 ≤ t.length) :
    standsB t = if (frameB ((t.take (8 + (headOf t).1)).drop 8)).take 8 = t.take 8 then some ((t.take (8 + (headOf t).1)).drop 8) else none := by
  unfold standsB
  by_cases hw : wholeOf (t.take (8 + (headOf t).1)) = true
  · rw [if_pos ⟨h1, h2, hw⟩, if_pos ((stands_iff h1 h2).1 hw)]
  · rw [if_neg (fun h => hw h.2.2), if_neg (fun h => hw ((stands_iff h1 h2).2 h))]
/-- A part of a slice that is no nil one. -/
theorem Bs.part {w : World} {g o n c : Nat} {l : List UInt8} (h : Bs w (some ⟨g, o, none⟩) n c l) {lo m : Nat} (h2 : lo + m ≤ n) : Bs w (some ⟨g, o + lo, none⟩) m (c - lo) ((l.take (lo + m)).drop lo) := by
  have hb := bs_head h (k := lo + m) h2
  have ht := bs_tail hb (k := lo) (by omega)
  rwa [show lo + m - lo = m by omega] at ht

set_option maxRecDepth 100000 in
set_option maxHeartbeats 4000000 in
theorem stands_ref (A : Option Addr) (n c p : Nat) (l : List UInt8) (w : World) (hs : Bs w A n c l) (hp : p ≤ n) (hn : n ≤ 225000000000000) :
    Calls Try.prog 20 #[.slice A n c, .int .i64 (p : Int)] w (StandsSays w (l.drop p)) := by
  have hl := hs.len
  have hcap := hs.cap
  have hbig := hs.big
  unfold maxLen at hbig
  have htl : (l.drop p).length = n - p := by rw [List.length_drop, hl]
  have hn' : (n : Int) ≤ 225000000000000 := by omega
  rcases Nat.lt_or_ge (n - p) 8 with h8 | h8
  · have hno := stands_no (.inl (head_no (t := l.drop p) (.inl (by omega))))
    have h8' : (n : Int) - (p : Int) < 8 := by omega
    have HN := Lib.hid hno
    clear hno hs hl htl
    go_enter Try.func20, Try.ntmps20
    go_wp2_with fail
    go_ret2
    exact .inl ⟨HN.out, rfl, by go_grown⟩
  · have h8' : ¬ (n : Int) - (p : Int) < 8 := by omega
    obtain ⟨g, o, rfl, hg, c0⟩ := hs.get (i := p) (by omega)
    obtain ⟨_, _, e1, _, c1⟩ := hs.get (i := p + 1) (by omega)
    obtain ⟨_, _, e2, _, c2⟩ := hs.get (i := p + 2) (by omega)
    obtain ⟨_, _, e3, _, c3⟩ := hs.get (i := p + 3) (by omega)
    cases e1
    cases e2
    cases e3
    have l2 := at8_lt l (p + 2)
    have l3 := at8_lt l (p + 3)
    have a0 : at8 (l.drop p) 0 = at8 l p := at8_drop l p 0
    have a1 : at8 (l.drop p) 1 = at8 l (p + 1) := at8_drop l p 1
    have a2 : at8 (l.drop p) 2 = at8 l (p + 2) := at8_drop l p 2
    have a3 : at8 (l.drop p) 3 = at8 l (p + 3) := at8_drop l p 3
    obtain ⟨b0, hb0⟩ : ∃ z, at8 l p = z := ⟨_, rfl⟩
    obtain ⟨b1, hb1⟩ : ∃ z, at8 l (p + 1) = z := ⟨_, rfl⟩
    obtain ⟨b2, hb2⟩ : ∃ z, at8 l (p + 2) = z := ⟨_, rfl⟩
    obtain ⟨b3, hb3⟩ : ∃ z, at8 l (p + 3) = z := ⟨_, rfl⟩
    rw [hb0] at c0 a0
    rw [hb1] at c1 a1
    rw [hb2] at c2 a2 l2
    rw [hb3] at c3 a3 l3
    clear hb0 hb1 hb2 hb3
    rcases Decidable.em (b0 = 80) with h0 | h0
    · subst h0
      rcases Decidable.em (b1 = 100) with h1 | h1
      · subst h1
        have hhd := head_is (t := l.drop p) (by rw [a0, a1, htl]; omega)
        rw [a2, a3] at hhd
        obtain ⟨m, hm⟩ : ∃ z, b2 + b3 * 256 = z := ⟨_, rfl⟩
        rw [hm] at hhd
        have hmI : (b2 : Int) + 256 * (b3 : Int) = (m : Int) := by omega
        have hm65 : m ≤ 65535 := by omega
        rcases Nat.lt_or_ge 8184 m with hm8 | hm8
        · have hno := stands_no (t := l.drop p) (.inl (by rw [hhd]; simp; omega))
          have HN := Lib.hid hno
          have hm8' : (8184 : Int) < (m : Int) := by omega
          clear hno hhd hs hl htl a0 a1 a2 a3
          go_enter Try.func20, Try.ntmps20
          go_wp2_with fail
          have hq_w := @wd_cell w
          refine wp_region_wd (by kernel_rfl) (by kernel_rfl) ?_
          repeat (go_big_quiet_step (fail))
          refine wpQuiet_nil ?_
          rintro w1 ⟨⟨wx, hb_w1⟩, hwx⟩
          obtain rfl : w1 = wx := hwx
          clear hq_w
          have hz_w1 := hb_w1.size
          obtain ⟨hc_w1, hf_w1⟩ := bcell hb_w1
          have hB_w1 : Below w.heap.size w w1 := Below.trans (by go_grown) (hb_w1.mono (by go_size))
          have hs_w1_0 : g < w1.heap.size := Nat.lt_of_lt_of_le (by assumption) hb_w1.size
          go_wp2_with fail
          go_ret2
          exact .inl ⟨HN.out, rfl, hb_w1⟩
        · have hm8' : ¬ (8184 : Int) < (m : Int) := by omega
          rcases Nat.lt_or_ge (n - p) (8 + m) with hlen | hlen
          · have hno := stands_no (t := l.drop p) (.inr (by rw [hhd, htl]; exact hlen))
            have HN := Lib.hid hno
            have hlen' : (n : Int) - (p : Int) - 8 < (m : Int) := by omega
            clear hno hhd hs hl htl a0 a1 a2 a3
            go_enter Try.func20, Try.ntmps20
            go_wp2_with fail
            have hq_w := @wd_cell w
            refine wp_region_wd (by kernel_rfl) (by kernel_rfl) ?_
            repeat (go_big_quiet_step (fail))
            refine wpQuiet_nil ?_
            rintro w1 ⟨⟨wx, hb_w1⟩, hwx⟩
            obtain rfl : w1 = wx := hwx
            clear hq_w
            have hz_w1 := hb_w1.size
            obtain ⟨hc_w1, hf_w1⟩ := bcell hb_w1
            have hB_w1 : Below w.heap.size w w1 := Below.trans (by go_grown) (hb_w1.mono (by go_size))
            have hs_w1_0 : g < w1.heap.size := Nat.lt_of_lt_of_le (by assumption) hb_w1.size
            go_wp2_with fail
            go_ret2
            exact .inl ⟨HN.out, rfl, hb_w1⟩
          · have hlen' : ¬ (n : Int) - (p : Int) - 8 < (m : Int) := by omega
            have hcmp := stands_cmp (t := l.drop p) (by rw [hhd]; simp; omega) (by rw [hhd, htl]; exact hlen)
            rw [hhd] at hcmp
            simp only [] at hcmp
            obtain ⟨body, hbody⟩ : ∃ z, ((l.drop p).take (8 + m)).drop 8 = z := ⟨_, rfl⟩
            have hbl : body.length = m := by rw [← hbody, List.length_drop, List.length_take, htl]; omega
            have hpart := hs.part (lo := p + 8) (m := m) (by omega)
            have hbe : (l.take (p + 8 + m)).drop (p + 8) = body := by
              rw [← hbody, List.drop_take, List.drop_take, List.drop_drop, show p + 8 + m - (p + 8) = m by omega, show 8 + m - 8 = m by omega]
            rw [hbe] at hpart
            rw [hbody] at hcmp
            have hfl := frameB_length body
            have HS := Lib.hid (And.intro hs (And.intro hpart (And.intro hcmp (And.intro hbl (And.intro htl hl)))))
            have hsl : (p : Int) + 8 + (m : Int) ≤ (c : Int) := by omega
            have hsl2 : (p : Int) + 8 ≤ (p : Int) + 8 + (m : Int) := by omega
            clear hcmp hbody hbl hpart hbe hhd hs hl htl a0 a1 a2 a3 hfl
            rcases Decidable.em (c = p + 8) with hca | hca
            · subst hca
              obtain rfl : m = 0 := by omega
              obtain rfl : body = [] := List.eq_nil_of_length_eq_zero HS.out.2.2.2.1
              go_enter Try.func20, Try.ntmps20
              go_wp2_with fail
              have hq_w := @wd_cell w
              refine wp_region_wd (by kernel_rfl) (by kernel_rfl) ?_
              repeat (go_big_quiet_step (fail))
              refine wpQuiet_nil ?_
              rintro w1 ⟨⟨wx, hb_w1⟩, hwx⟩
              obtain rfl : w1 = wx := hwx
              clear hq_w
              have hz_w1 := hb_w1.size
              obtain ⟨hc_w1, hf_w1⟩ := bcell hb_w1
              have hB_w1 : Below w.heap.size w w1 := Below.trans (by go_grown) (hb_w1.mono (by go_size))
              have hs_w1_0 : g < w1.heap.size := Nat.lt_of_lt_of_le (by assumption) hb_w1.size
              go_wp2_with fail
              refine (joined_n 0 (some ⟨g, o, none⟩) none 0 0 0 0 [] [] w1 (Bs.empty _ _ (Nat.zero_le _)) (Bs.nil _) (by omega) rfl).mono ?_
              rintro e w2 ⟨A2, c2', rfl, hr2, hb2⟩
              rw [List.append_nil] at hr2
              have hW2 := hb_w1.trans (hb2.mono hb_w1.size)
              have H2 := Lib.hid (And.intro (hr2.from hb_w1.size) hW2)
              clear hr2 hb2 hW2
              go_wp2_with fail
              refine (frame_ref A2 0 c2' [] w2 H2.out.1.1 hm8).mono ?_
              rintro e w3 ⟨A3, c3', rfl, hr3, hb3⟩
              have hW3 := H2.out.2.trans (hb3.mono H2.out.2.size)
              have H3 := Lib.hid (And.intro hr3 (And.intro (H2.out.1.keep hb3) hW3))
              clear hr3 hb3 hW3
              go_wp2_with fail
              go_loopw [10] (fun t wr => ∃ k : Nat, k ≤ 8 ∧ t = .int .i64 (k : Int) ∧ (frameB []).take k = (l.drop p).take k ∧ Below w3.heap.size w3 wr) (fun t _ => 8 - (intOf t).toNat)
              case atStart => exact ⟨0, by omega, rfl, by simp, Below.refl _ _⟩
              case round =>
                obtain ⟨k, hk, rfl, heq, hB⟩ := hrel
                have HE := Lib.hid (And.intro heq hB)
                have hfl := frameB_length []
                have hbl := HS.out.2.2.2.1
                have htl := HS.out.2.2.2.2.1
                rcases Nat.lt_or_ge k 8 with hlt | hge
                · have hkI : (k : Int) < 8 := by omega
                  obtain ⟨gw, ow, rfl, hgw, cw⟩ := (H3.out.1.keep hB).1.get (i := k) (by omega)
                  obtain ⟨_, _, e4, _, cb⟩ := ((HS.out.1.below H3.out.2.2).below hB).get (i := p + k) (by omega)
                  cases e4
                  have hgr : g < wr.heap.size := by have := H3.out.2.2.size; have := hB.size; omega
                  have hd := at8_drop l p k
                  obtain ⟨x, hx⟩ : ∃ z, at8 (frameB []) k = z := ⟨_, rfl⟩
                  obtain ⟨y, hy⟩ : ∃ z, at8 l (p + k) = z := ⟨_, rfl⟩
                  rw [hx] at cw
                  rw [hy] at cb hd
                  have HX := Lib.hid (And.intro hx hd)
                  have hfk : (0 : Int) + 8 ≤ 8192 := by decide
                  clear hx hy hd heq hB hfl hbl htl
                  rcases Decidable.em (x = y) with hxy | hxy
                  · subst hxy
                    go_wp2_with fail
                    have hq_wr := @wd_cell wr
                    refine wp_region_wd (by kernel_rfl) (by kernel_rfl) ?_
                    repeat (go_big_quiet_step (fail))
                    refine wpQuiet_nil ?_
                    rintro w4 ⟨⟨wx, hb_w4⟩, hwx⟩
                    obtain rfl : w4 = wx := hwx
                    clear hq_wr
                    have hz_w4 := hb_w4.size
                    obtain ⟨hc_w4, hf_w4⟩ := bcell hb_w4
                    have hs_w4_0 : gw < w4.heap.size := Nat.lt_of_lt_of_le (by assumption) hb_w4.size
                    have hs_w4_1 : g < w4.heap.size := Nat.lt_of_lt_of_le (by assumption) hb_w4.size
                    go_wp2_with fail
                    go_roundw
                    case rel =>
                      refine ⟨k + 1, by omega, by go_num, ?_, HE.out.2.trans (hb_w4.mono HE.out.2.size)⟩
                      have hfl := frameB_length []
                      have htl := HS.out.2.2.2.2.1
                      rw [List.take_succ_eq_append_getElem (by omega), List.take_succ_eq_append_getElem (by omega), HE.out.1, at8_eq (by omega) (by omega) (HX.out.1.trans HX.out.2.symm)]
                    case measure => simp [intOf]; omega
                  · have hxy1 : ((x : Int) != (y : Int)) = true := by simp; omega
                    have hxy2 : ¬ (x : Int) = (y : Int) := by omega
                    go_wp2_with fail
                    have hq_wr := @wd_cell wr
                    refine wp_region_wd (by kernel_rfl) (by kernel_rfl) ?_
                    repeat (go_big_quiet_step (fail))
                    refine wpQuiet_nil ?_
                    rintro w4 ⟨⟨wx, hb_w4⟩, hwx⟩
                    obtain rfl : w4 = wx := hwx
                    clear hq_wr
                    have hz_w4 := hb_w4.size
                    obtain ⟨hc_w4, hf_w4⟩ := bcell hb_w4
                    have hs_w4_0 : gw < w4.heap.size := Nat.lt_of_lt_of_le (by assumption) hb_w4.size
                    have hs_w4_1 : g < w4.heap.size := Nat.lt_of_lt_of_le (by assumption) hb_w4.size
                    go_wp2_with fail
                    go_ret2
                    refine .inl ⟨?_, rfl, (H3.out.2.2.trans (HE.out.2.mono H3.out.2.2.size)).trans (hb_w4.mono (by have := H3.out.2.2.size; have := HE.out.2.size; omega))⟩
                    rw [HS.out.2.2.1, if_neg]
                    intro he
                    have h1 := at8_take (t := frameB []) (n := 8) (i := k) hlt
                    have h2 := at8_take (t := l.drop p) (n := 8) (i := k) hlt
                    rw [he, h2, HX.out.1, HX.out.2] at h1
                    exact hxy h1.symm
                · obtain rfl : k = 8 := by omega
                  go_wp2_with fail
                  go_ret2
                  refine .inr ⟨[], A2, c2', ?_, congrArg (fun z => Ending.returned (.tuple #[.slice A2 z c2', .bool true])) hbl.symm, ?_, H3.out.2.2.trans (HE.out.2.mono H3.out.2.2.size)⟩
                  · rw [HS.out.2.2.1, if_pos HE.out.1]
                  · rw [hbl]
                    exact H3.out.2.1.keep HE.out.2
            · have hca' : ¬ (c : Int) = (p : Int) + 8 := by omega
              go_enter Try.func20, Try.ntmps20
              go_wp2_with fail
              have hq_w := @wd_cell w
              refine wp_region_wd (by kernel_rfl) (by kernel_rfl) ?_
              repeat (go_big_quiet_step (fail))
              refine wpQuiet_nil ?_
              rintro w1 ⟨⟨wx, hb_w1⟩, hwx⟩
              obtain rfl : w1 = wx := hwx
              clear hq_w
              have hz_w1 := hb_w1.size
              obtain ⟨hc_w1, hf_w1⟩ := bcell hb_w1
              have hB_w1 : Below w.heap.size w w1 := Below.trans (by go_grown) (hb_w1.mono (by go_size))
              have hs_w1_0 : g < w1.heap.size := Nat.lt_of_lt_of_le (by assumption) hb_w1.size
              go_wp2_with fail
              refine (joined_n m (some ⟨g, o + (p + 8), none⟩) none m (c - (p + 8)) 0 0 body [] w1 (HS.out.2.1.below hb_w1) (Bs.nil _) (by omega) rfl).mono ?_
              rintro e w2 ⟨A2, c2', rfl, hr2, hb2⟩
              rw [List.append_nil] at hr2
              have hW2 := hb_w1.trans (hb2.mono hb_w1.size)
              have H2 := Lib.hid (And.intro (hr2.from hb_w1.size) hW2)
              clear hr2 hb2 hW2
              go_wp2_with fail
              refine (frame_ref A2 m c2' body w2 H2.out.1.1 hm8).mono ?_
              rintro e w3 ⟨A3, c3', rfl, hr3, hb3⟩
              have hW3 := H2.out.2.trans (hb3.mono H2.out.2.size)
              have H3 := Lib.hid (And.intro hr3 (And.intro (H2.out.1.keep hb3) hW3))
              clear hr3 hb3 hW3
              go_wp2_with fail
              go_loopw [10] (fun t wr => ∃ k : Nat, k ≤ 8 ∧ t = .int .i64 (k : Int) ∧ (frameB body).take k = (l.drop p).take k ∧ Below w3.heap.size w3 wr) (fun t _ => 8 - (intOf t).toNat)
              case atStart => exact ⟨0, by omega, rfl, by simp, Below.refl _ _⟩
              case round =>
                obtain ⟨k, hk, rfl, heq, hB⟩ := hrel
                have HE := Lib.hid (And.intro heq hB)
                have hfl := frameB_length body
                have hbl := HS.out.2.2.2.1
                have htl := HS.out.2.2.2.2.1
                rcases Nat.lt_or_ge k 8 with hlt | hge
                · have hkI : (k : Int) < 8 := by omega
                  obtain ⟨gw, ow, rfl, hgw, cw⟩ := (H3.out.1.keep hB).1.get (i := k) (by omega)
                  obtain ⟨_, _, e4, _, cb⟩ := ((HS.out.1.below H3.out.2.2).below hB).get (i := p + k) (by omega)
                  cases e4
                  have hgr : g < wr.heap.size := by have := H3.out.2.2.size; have := hB.size; omega
                  have hd := at8_drop l p k
                  obtain ⟨x, hx⟩ : ∃ z, at8 (frameB body) k = z := ⟨_, rfl⟩
                  obtain ⟨y, hy⟩ : ∃ z, at8 l (p + k) = z := ⟨_, rfl⟩
                  rw [hx] at cw
                  rw [hy] at cb hd
                  have HX := Lib.hid (And.intro hx hd)
                  have hfk : (m : Int) + 8 ≤ 8192 := by omega
                  clear hx hy hd heq hB hfl hbl htl
                  rcases Decidable.em (x = y) with hxy | hxy
                  · subst hxy
                    go_wp2_with fail
                    have hq_wr := @wd_cell wr
                    refine wp_region_wd (by kernel_rfl) (by kernel_rfl) ?_
                    repeat (go_big_quiet_step (fail))
                    refine wpQuiet_nil ?_
                    rintro w4 ⟨⟨wx, hb_w4⟩, hwx⟩
                    obtain rfl : w4 = wx := hwx
                    clear hq_wr
                    have hz_w4 := hb_w4.size
                    obtain ⟨hc_w4, hf_w4⟩ := bcell hb_w4
                    have hs_w4_0 : gw < w4.heap.size := Nat.lt_of_lt_of_le (by assumption) hb_w4.size
                    have hs_w4_1 : g < w4.heap.size := Nat.lt_of_lt_of_le (by assumption) hb_w4.size
                    go_wp2_with fail
                    go_roundw
                    case rel =>
                      refine ⟨k + 1, by omega, by go_num, ?_, HE.out.2.trans (hb_w4.mono HE.out.2.size)⟩
                      have hfl := frameB_length body
                      have htl := HS.out.2.2.2.2.1
                      rw [List.take_succ_eq_append_getElem (by omega), List.take_succ_eq_append_getElem (by omega), HE.out.1, at8_eq (by omega) (by omega) (HX.out.1.trans HX.out.2.symm)]
                    case measure => simp [intOf]; omega
                  · have hxy1 : ((x : Int) != (y : Int)) = true := by simp; omega
                    have hxy2 : ¬ (x : Int) = (y : Int) := by omega
                    go_wp2_with fail
                    have hq_wr := @wd_cell wr
                    refine wp_region_wd (by kernel_rfl) (by kernel_rfl) ?_
                    repeat (go_big_quiet_step (fail))
                    refine wpQuiet_nil ?_
                    rintro w4 ⟨⟨wx, hb_w4⟩, hwx⟩
                    obtain rfl : w4 = wx := hwx
                    clear hq_wr
                    have hz_w4 := hb_w4.size
                    obtain ⟨hc_w4, hf_w4⟩ := bcell hb_w4
                    have hs_w4_0 : gw < w4.heap.size := Nat.lt_of_lt_of_le (by assumption) hb_w4.size
                    have hs_w4_1 : g < w4.heap.size := Nat.lt_of_lt_of_le (by assumption) hb_w4.size
                    go_wp2_with fail
                    go_ret2
                    refine .inl ⟨?_, rfl, (H3.out.2.2.trans (HE.out.2.mono H3.out.2.2.size)).trans (hb_w4.mono (by have := H3.out.2.2.size; have := HE.out.2.size; omega))⟩
                    rw [HS.out.2.2.1, if_neg]
                    intro he
                    have h1 := at8_take (t := frameB body) (n := 8) (i := k) hlt
                    have h2 := at8_take (t := l.drop p) (n := 8) (i := k) hlt
                    rw [he, h2, HX.out.1, HX.out.2] at h1
                    exact hxy h1.symm
                · obtain rfl : k = 8 := by omega
                  go_wp2_with fail
                  go_ret2
                  refine .inr ⟨body, A2, c2', ?_, congrArg (fun z => Ending.returned (.tuple #[.slice A2 z c2', .bool true])) hbl.symm, ?_, H3.out.2.2.trans (HE.out.2.mono H3.out.2.2.size)⟩
                  · rw [HS.out.2.2.1, if_pos HE.out.1]
                  · rw [hbl]
                    exact H3.out.2.1.keep HE.out.2
      · have hno := stands_no (t := l.drop p) (.inl (head_no (.inr (.inr (by rw [a1]; exact h1)))))
        have HN := Lib.hid hno
        have h1b : ((b1 : Int) != 100) = true := by simp; omega
        have h1c : ¬ (b1 : Int) = 100 := by omega
        clear hno hs hl htl a0 a1 a2 a3
        go_enter Try.func20, Try.ntmps20
        go_wp2_with fail
        go_ret2
        exact .inl ⟨HN.out, rfl, by go_grown⟩
    · have hno := stands_no (t := l.drop p) (.inl (head_no (.inr (.inl (by rw [a0]; exact h0)))))
      have HN := Lib.hid hno
      have h1b : ((b0 : Int) != 80) = true := by simp; omega
      have h1c : ¬ (b0 : Int) = 80 := by omega
      clear hno hs hl htl a0 a1 a2 a3
      go_enter Try.func20, Try.ntmps20
      go_wp2_with fail
      go_ret2
      exact .inl ⟨HN.out, rfl, by go_grown⟩

end Go.Proofs.Ytiejgandjlldjaa
