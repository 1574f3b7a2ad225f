/-
  The program's Has; the document's Convex and Has.
-/
import Derived.Test.YtcpojadinkonnaaHasM
import Derived.Test.YtcpojadinkonnaaHullT
import Derived.Test.YtcpojadinkonnaaTurnB
namespace Go.Proofs.Ytcpojadinkonnaa
open Go.RowKit

theorem mod_intH {k m : Nat} : ((k : Int) + 1).tmod (m : Int) = (((k + 1) % m : Nat) : Int) := by
  have : ((k : Int) + 1) = ((k + 1 : Nat) : Int) := by omega
  rw [this]
  exact (Int.ofNat_tmod (k + 1) m).symm

set_option maxHeartbeats 1000000 in
set_option maxRecDepth 100000 in
theorem hhas_any (ps : List Pt) (hps : ∀ p ∈ ps, IPt p) (p : Pt) (hp : IPt p) (M : Nat) (A : Option Addr) (c n : Nat) (hn : ps.length = n) (hlen : n * 16 ≤ 140737488355328) (w : World) (hP : PtsAt M w (.slice A n c) ps) (hM : M ≤ w.heap.size) :
    Calls Try.prog 20 #[.slice A n c, .agg #[.int .i32 p.1, .int .i32 p.2]] w fun e w' => e = .returned (.bool (decide (ps = hullL ps) && hasF ps p)) ∧ Below w.heap.size w w' := by
  have HC := Lib.hid (fun W (h : Below w.heap.size w W) => convex_any ps hps M A c n hn hlen W (hP.below (h.mono hM)) (Nat.le_trans hM h.size))
  have HPs := Lib.hid (And.intro hP (And.intro hn (gp_i hps)))
  obtain ⟨d, hd⟩ : ∃ d : Bool, decide (ps = hullL ps) = d := ⟨_, rfl⟩
  rw [hd] at HC ⊢
  obtain ⟨t, ht⟩ : ∃ t : Bool, hasF ps p = t := ⟨_, rfl⟩
  rw [ht]
  have HT := Lib.hid ht
  obtain ⟨rr, hrr⟩ : ∃ r : Bool, (d && t) = r := ⟨_, rfl⟩
  rw [hrr]
  have HRr := Lib.hid hrr
  obtain ⟨p1, p2⟩ := p
  dsimp only at hp ⊢
  clear hP hps hd ht hn hrr
  go_enter Try.func20, Try.ntmps20
  go_wp2_with fail
  refine (HC.out _ (by go_grown)).mono ?_
  rintro e w1 ⟨rfl, hb1⟩
  have hb01 : Below w.heap.size w w1 := Below.trans (by go_grown) (hb1.mono (by simp))
  have vX : Var w1 w.heap.size 32 #[.int .i32 p1, .int .i32 p2] := (Var.new _ _ _).keep hb1
  have hz1 := hb01.size
  obtain ⟨X, hX⟩ : ∃ X, w.heap.size = X := ⟨_, rfl⟩
  have HX := Lib.hid hX
  rw [hX] at vX ⊢
  have HB1 := Lib.hid hb01
  clear hb1 hb01 HC hX
  cases d
  · obtain rfl : false = rr := by have := HRr.out; simpa using this
    clear HRr
    go_wp2_with fail
    go_ret
    exact ⟨rfl, HB1.out⟩
  · obtain rfl : t = rr := by have := HRr.out; simpa using this
    clear HRr
    have y0 := vX.cell 0
    have y1 := vX.cell 1
    have hXz := vX.lt
    rcases Nat.lt_or_ge n 3 with h3 | h3
    · rcases Nat.eq_zero_or_pos n with h0 | h0
      · subst h0
        obtain rfl : t = false := by rw [← HT.out]; exact if_pos HPs.out.2.1
        go_wp2_with fail
        go_ret
        exact ⟨rfl, HB1.out⟩
      · obtain ⟨g, off, rfl, hg, hc⟩ := pts_cells HPs.out.1 h0
        have hgw : g < w.heap.size := by omega
        have cc : ∀ j, j < n → w1.cell? ⟨g, off + j * 2, none⟩ = some (.int .i32 (gp ps j).1) ∧ w1.cell? ⟨g, off + j * 2 + 1, none⟩ = some (.int .i32 (gp ps j).2) := fun j hj => ⟨(HB1.out.cell (p := ⟨g, off + j * 2, none⟩) hgw).trans (hc j (by rw [HPs.out.2.1]; exact hj)).1, (HB1.out.cell (p := ⟨g, off + j * 2 + 1, none⟩) hgw).trans (hc j (by rw [HPs.out.2.1]; exact hj)).2⟩
        have hg1 : g < w1.heap.size := by omega
        obtain ⟨a0, a1⟩ := cc 0 (by omega)
        rw [Nat.zero_mul, Nat.add_zero] at a0 a1
        have hI0 := HPs.out.2.2 0
        have hI1 := HPs.out.2.2 (n - 1)
        obtain ⟨b0, b1⟩ := cc (n - 1) (by omega)
        have hO := fun W => on_any p1 p2 (gp ps 0).1 (gp ps 0).2 (gp ps (n - 1)).1 (gp ps (n - 1)).2 hp.1 hp.2 hI0.1 hI0.2 hI1.1 hI1.2 W
        have hres : onB p1 p2 (gp ps 0).1 (gp ps 0).2 (gp ps (n - 1)).1 (gp ps (n - 1)).2 = t := by
          rw [← HT.out]
          unfold hasF
          rw [if_neg (by rw [HPs.out.2.1]; omega), if_pos (by rw [HPs.out.2.1]; omega), HPs.out.2.1]
          rfl
        rw [hres] at hO
        have HO := Lib.hid hO
        clear hc cc hO hres hI0 hI1
        have hw12 : n = 1 ∨ n = 2 := by omega
        have hB : Below w.heap.size w w1 := HB1.out
        rcases hw12 with hn1 | hn1
        · subst hn1
          go_wp2_with fail
          have hq_w1 := @wd_cell w1
          refine wp_region_wd (by kernel_rfl) (by kernel_rfl) ?_
          repeat (go_big_quiet_step ((first | (go_at_call 46; with_reducible exact quiet_wd (HO.out _)))))
          refine wpQuiet_nil ?_
          rintro w5 ⟨⟨wx, hb_w5⟩, hwx⟩
          obtain rfl : w5 = wx := hwx
          clear hq_w1
          have hz_w5 := hb_w5.size
          obtain ⟨hc_w5, hf_w5⟩ := bcell hb_w5
          have hs_w5_0 : g < w5.heap.size := Nat.lt_of_lt_of_le (by assumption) hb_w5.size
          have hs_w5_1 : X < w5.heap.size := Nat.lt_of_lt_of_le (by assumption) hb_w5.size
          have HE := Lib.hid (HB1.out.trans (hb_w5.mono hz1))
          clear hb_w5 hc_w5 hf_w5
          go_wp2_with fail
          go_ret
          exact ⟨rfl, HE.out⟩
        · subst hn1
          go_wp2_with fail
          have hq_w1 := @wd_cell w1
          refine wp_region_wd (by kernel_rfl) (by kernel_rfl) ?_
          repeat (go_big_quiet_step ((first | (go_at_call 46; with_reducible exact quiet_wd (HO.out _)))))
          refine wpQuiet_nil ?_
          rintro w5 ⟨⟨wx, hb_w5⟩, hwx⟩
          obtain rfl : w5 = wx := hwx
          clear hq_w1
          have hz_w5 := hb_w5.size
          obtain ⟨hc_w5, hf_w5⟩ := bcell hb_w5
          have hs_w5_0 : g < w5.heap.size := Nat.lt_of_lt_of_le (by assumption) hb_w5.size
          have hs_w5_1 : X < w5.heap.size := Nat.lt_of_lt_of_le (by assumption) hb_w5.size
          have HE := Lib.hid (HB1.out.trans (hb_w5.mono hz1))
          clear hb_w5 hc_w5 hf_w5
          go_wp2_with fail
          go_ret
          exact ⟨rfl, HE.out⟩
    · obtain ⟨g, off, rfl, hg, hc⟩ := pts_cells HPs.out.1 (by omega)
      have hgw : g < w.heap.size := by omega
      have HCe := Lib.hid (fun W (hb : Below w.heap.size w W) j (hj : j < n) => (show W.cell? ⟨g, off + j * 2, none⟩ = some (.int .i32 (gp ps j).1) ∧ W.cell? ⟨g, off + j * 2 + 1, none⟩ = some (.int .i32 (gp ps j).2) from ⟨(hb.cell (p := ⟨g, off + j * 2, none⟩) hgw).trans (hc j (by rw [HPs.out.2.1]; exact hj)).1, (hb.cell (p := ⟨g, off + j * 2 + 1, none⟩) hgw).trans (hc j (by rw [HPs.out.2.1]; exact hj)).2⟩))
      have n0 : ((n : Int) == 0) = false := by simp; omega
      have n1 : ((n : Int) == 1) = false := by rw [beq_eq_false_iff_ne]; omega
      have n2 : ((n : Int) == 2) = false := by rw [beq_eq_false_iff_ne]; omega
      have hres : hasF ps (p1, p2) = leftAll ps (p1, p2) := by
        unfold hasF
        rw [if_neg (by rw [HPs.out.2.1]; omega), if_neg (by rw [HPs.out.2.1]; omega)]
      have HR := Lib.hid (hres.symm.trans HT.out)
      clear hc hres y0 y1 HT
      go_wp2_with fail
      go_loopw [30] (fun i wr => ∃ (k : Nat), k ≤ n ∧ i = .int .i64 (k : Int) ∧ (∀ j, j < k → ¬ tr (gp ps j) (gp ps ((j + 1) % n)) (p1, p2) < 0) ∧ Var wr X 32 #[.int .i32 p1, .int .i32 p2] ∧ Below w.heap.size w wr) (fun i _ => n - (intOf i).toNat)
      case atStart => exact ⟨0, by omega, rfl, fun j hj => by omega, vX, HB1.out⟩
      case round =>
        obtain ⟨k, hk, rfl, hall, hvX, hB⟩ := hrel
        clear vX
        have hz := hB.size
        rcases Nat.lt_or_ge k n with hlt | hge
        · have hkI : (k : Int) < (n : Int) := by omega
          have dk : decide ((k : Int) < 0) = false := decide_eq_false (by omega)
          obtain ⟨a0, a1⟩ := HCe.out wr hB k hlt
          have hI0 := HPs.out.2.2 k
          obtain ⟨⟨xa, ya⟩, ha⟩ : ∃ q, gp ps k = q := ⟨_, rfl⟩
          rw [ha] at a0 a1 hI0
          dsimp only at a0 a1
          obtain ⟨q, hq⟩ : ∃ q, (k + 1) % n = q := ⟨_, rfl⟩
          have hqn : q < n := by rw [← hq]; exact Nat.mod_lt _ (by omega)
          have hI1 := HPs.out.2.2 q
          obtain ⟨⟨xb, yb⟩, hbq⟩ : ∃ z, gp ps q = z := ⟨_, rfl⟩
          rw [hbq] at hI1
          have hT := fun W => turn_any xa ya xb yb p1 p2 hI0.1 hI0.2 hI1.1 hI1.2 hp.1 hp.2 W
          obtain ⟨T, hTe⟩ : ∃ T, trn xa ya xb yb p1 p2 = T := ⟨_, rfl⟩
          rw [hTe] at hT
          have HTu := Lib.hid hT
          have hTt : tr (gp ps k) (gp ps ((k + 1) % n)) (p1, p2) = T := by rw [hq, ha, hbq]; exact hTe
          have HA := Lib.hid (And.intro hall (And.intro hTt (And.intro hvX (And.intro hB (And.intro hbq hqn)))))
          have hmod : ((k : Int) + 1).tmod (n : Int) = (q : Int) := by rw [mod_intH, hq]
          have hqI : (q : Int) < (n : Int) := by omega
          have dq : decide ((q : Int) < 0) = false := decide_eq_false (by omega)
          have hz2 : ¬ (n : Int) = 0 := by omega
          have hwr : IntKind.i64.wrap ((k : Int) + 1) = (k : Int) + 1 := by simp only [IntKind.wrap, IntKind.signed, IntKind.bits]; simp; omega
          clear hall hT hTe hTt hq ha hbq hvX hB
          go_wp2_with fail
          refine wp_gen (fun W2 hW2 => ?_)
          have vY : Var W2 wr.heap.size 32 #[.int .i32 xa, .int .i32 ya] := by rw [hW2]; exact Var.new _ _ _
          have hb2 : Below wr.heap.size wr W2 := by rw [hW2]; go_grown
          have hvX2 := HA.out.2.2.1.keep hb2
          have hB2 := HA.out.2.2.2.1.trans (hb2.mono hz)
          obtain ⟨Y, hY⟩ : ∃ Y, wr.heap.size = Y := ⟨_, rfl⟩
          rw [hY] at vY ⊢
          obtain ⟨e0, e1⟩ := HCe.out W2 hB2 q HA.out.2.2.2.2.2
          rw [HA.out.2.2.2.2.1] at e0 e1
          dsimp only at e0 e1
          have y0 := hvX2.cell 0
          have y1 := hvX2.cell 1
          have hXz2 := hvX2.lt
          have v0 := vY.cell 0
          have v1 := vY.cell 1
          have hYz := vY.lt
          have hz2' := hB2.size
          have hgz2 : g < W2.heap.size := by omega
          have H2 := Lib.hid (And.intro hvX2 hB2)
          clear hW2 hb2 hY hvX2 vY a0 a1
          rcases Int.lt_or_le T 0 with hT0 | hT0
          · have dT : decide (T < 0) = true := decide_eq_true hT0
            obtain rfl : t = false := by
              rw [← HR.out, ← Bool.not_eq_true, leftAll_iff]
              intro h
              have h1 := h k (by rw [HPs.out.2.1]; exact hlt)
              rw [HPs.out.2.1, HA.out.2.1] at h1
              omega
            clear hB2
            have hq_W2 := @wd_cell W2
            refine wp_region_wd (by kernel_rfl) (by kernel_rfl) ?_
            repeat (go_big_quiet_step ((first | (go_at_call 47; with_reducible exact quiet_wd (HTu.out _)))))
            refine wpQuiet_nil ?_
            rintro w5 ⟨⟨wx, hb_w5⟩, hwx⟩
            obtain rfl : w5 = wx := hwx
            clear hq_W2
            have hz_w5 := hb_w5.size
            obtain ⟨hc_w5, hf_w5⟩ := bcell hb_w5
            have hs_w5_0 : g < w5.heap.size := Nat.lt_of_lt_of_le (by assumption) hb_w5.size
            have hs_w5_1 : X < w5.heap.size := Nat.lt_of_lt_of_le (by assumption) hb_w5.size
            have hs_w5_2 : Y < w5.heap.size := Nat.lt_of_lt_of_le (by assumption) hb_w5.size
            have HE := Lib.hid (H2.out.2.trans (hb_w5.mono hz2'))
            clear hb_w5 hc_w5 hf_w5
            go_wp2_with fail
            go_ret
            exact ⟨rfl, by first | exact HE.out | (rw [← HX.out]; exact HE.out)⟩
          · have dT : decide (T < 0) = false := decide_eq_false (by omega)
            clear hB2
            have hq_W2 := @wd_cell W2
            refine wp_region_wd (by kernel_rfl) (by kernel_rfl) ?_
            repeat (go_big_quiet_step ((first | (go_at_call 47; with_reducible exact quiet_wd (HTu.out _)))))
            refine wpQuiet_nil ?_
            rintro w5 ⟨⟨wx, hb_w5⟩, hwx⟩
            obtain rfl : w5 = wx := hwx
            clear hq_W2
            have hz_w5 := hb_w5.size
            obtain ⟨hc_w5, hf_w5⟩ := bcell hb_w5
            have hs_w5_0 : g < w5.heap.size := Nat.lt_of_lt_of_le (by assumption) hb_w5.size
            have hs_w5_1 : X < w5.heap.size := Nat.lt_of_lt_of_le (by assumption) hb_w5.size
            have hs_w5_2 : Y < w5.heap.size := Nat.lt_of_lt_of_le (by assumption) hb_w5.size
            have HE := Lib.hid (And.intro (H2.out.1.keep hb_w5) (H2.out.2.trans (hb_w5.mono hz2')))
            clear hb_w5 hc_w5 hf_w5
            go_wp2_with fail
            go_roundw
            case rel => exact ⟨k + 1, by omega, by simp, fun j hj => by
              rcases Nat.lt_or_ge j k with h | h
              · have := HA.out.1 j h; omega
              · rw [show j = k by omega, HA.out.2.1]; omega, HE.out⟩
            case measure => simp [intOf]; omega
        · have hkI : ¬ (k : Int) < (n : Int) := by omega
          obtain rfl : t = true := by
            rw [← HR.out, leftAll_iff]
            intro i hi
            rw [HPs.out.2.1] at hi ⊢
            exact hall i (by omega)
          clear hall
          go_wp2_with fail
          go_ret
          exact ⟨rfl, by first | exact hB | (rw [← HX.out]; exact hB)⟩

set_option maxHeartbeats 1000000 in
theorem convex_ref (ps : List Pt) (hps : ∀ p ∈ ps, IPt p) (M : Nat) (A : Option Addr) (c n : Nat) (hn : ps.length = n) (hlen : n * 16 ≤ 140737488351232) (w : World) (hP : PtsAt M w (.slice A n c) ps) (hM : M ≤ w.heap.size) :
    Calls Try.prog 48 #[.slice A n c] w fun e w' => e = .returned (.bool (decide (ps = hullL ps))) ∧ Below w.heap.size w w' := by
  have H0 := Lib.hid (hull_ref ps hps M A c n hn hlen w hP hM)
  have HP := Lib.hid hP
  obtain ⟨t, ht⟩ : ∃ t : Bool, decide (ps = hullL ps) = t := ⟨_, rfl⟩
  rw [ht]
  have HT := Lib.hid ht
  clear hP ht
  go_enter Try.func48, Try.ntmps48
  go_wp2_with fail
  refine H0.out.mono ?_
  rintro e w1 ⟨A1, c1, m, rfl, hm, hown, hb⟩
  have hz := hb.size
  have H1 := Lib.hid (And.intro hm (And.intro hown hb))
  clear hm hown hb
  go_wp2_with fail
  refine (same10r_is A A1 n m c c1 ps (hullL ps) w1.heap.size hn H1.out.1 (by omega) w1 (Nat.le_refl _) ((HP.out.below (H1.out.2.2.mono hM)).up (by omega)) (ptsAt_of_own H1.out.2.1 H1.out.1)).mono ?_
  rintro e w2 ⟨rfl, hb2⟩
  rw [HT.out]
  have H2 := Lib.hid (H1.out.2.2.trans (hb2.mono hz))
  clear hb2
  go_wp2_with fail
  go_ret
  exact ⟨rfl, H2.out⟩

set_option maxHeartbeats 1000000 in
set_option maxRecDepth 100000 in
theorem has_ref (ps : List Pt) (hps : ∀ p ∈ ps, IPt p) (p : Pt) (hp : IPt p) (M : Nat) (A : Option Addr) (c n : Nat) (hn : ps.length = n) (hlen : n ≤ 1000) (w : World) (hP : PtsAt M w (.slice A n c) ps) (hM : M ≤ w.heap.size) :
    Calls Try.prog 21 #[.slice A n c, .agg #[.int .i32 p.1, .int .i32 p.2]] w fun e w' => e = .returned (.bool (decide (ps = hullL ps) && hasF ps p)) ∧ Below w.heap.size w w' := by
  have HC := Lib.hid (fun W (h : Below w.heap.size w W) => convex_ref ps hps M A c n hn (by omega) W (hP.below (h.mono hM)) (Nat.le_trans hM h.size))
  have hI : ∀ q ∈ ps ++ [p], IPt q := fun q hq => by
    rcases mem_snoc.1 hq with h | h
    · exact hps q h
    · rw [h]; exact hp
  have hn1 : (ps ++ [p]).length = n + 1 := by rw [List.length_append, hn]; rfl
  have HH := Lib.hid (fun (A : Option Addr) (c : Nat) (W : World) (hP : PtsAt W.heap.size W (.slice A (n + 1) c) (ps ++ [p])) => hull_ref (ps ++ [p]) hI W.heap.size A c (n + 1) hn1 (by omega) W hP (Nat.le_refl _))
  have HPs := Lib.hid (And.intro hP hn)
  obtain ⟨d, hd⟩ : ∃ d : Bool, decide (ps = hullL ps) = d := ⟨_, rfl⟩
  rw [hd] at HC ⊢
  obtain ⟨t, ht⟩ : ∃ t : Bool, hasF ps p = t := ⟨_, rfl⟩
  rw [ht]
  obtain ⟨rr, hrr⟩ : ∃ r : Bool, (d && t) = r := ⟨_, rfl⟩
  rw [hrr]
  have HRr := Lib.hid hrr
  have hfin : d = true → 0 < n → decide (hullL (ps ++ [p]) = ps) = t := fun h1 h2 => by
    rw [h1] at hd
    have hc : hullL ps = ps := (of_decide_eq_true hd).symm
    rw [← ht]
    have := has_iff hc p (by omega)
    cases hh : hasF ps p
    · exact decide_eq_false fun e => by rw [this.1 e] at hh; cases hh
    · exact decide_eq_true (this.2 hh)
  have h0t : n = 0 → t = false := fun h => by
    rw [← ht]
    exact if_pos (by omega)
  have HF := Lib.hid (And.intro hfin h0t)
  obtain ⟨p1, p2⟩ := p
  dsimp only at hp ⊢
  clear hP hps hd ht hn hrr hI hn1 hfin h0t
  rcases Nat.eq_zero_or_pos n with h0 | h0
  · obtain rfl : rr = false := by rw [← HRr.out, HF.out.2 h0, Bool.and_false]
    subst h0
    go_enter Try.func21, Try.ntmps21
    go_wp2_with fail
    go_ret
    exact ⟨rfl, by go_grown⟩
  · have n0 : ((n : Int) == 0) = false := by simp; omega
    go_enter Try.func21, Try.ntmps21
    go_wp2_with fail
    refine (HC.out _ (by go_grown)).mono ?_
    rintro e w1 ⟨rfl, hb1⟩
    have hb01 : Below w.heap.size w w1 := Below.trans (by go_grown) (hb1.mono (by simp))
    have vX : Var w1 w.heap.size 32 #[.int .i32 p1, .int .i32 p2] := (Var.new _ _ _).keep hb1
    have hz1 := hb01.size
    obtain ⟨X, hX⟩ : ∃ X, w.heap.size = X := ⟨_, rfl⟩
    have hXw : X ≤ w.heap.size := by omega
    have HX := Lib.hid hX
    rw [hX] at vX ⊢
    have HB1 := Lib.hid (And.intro hb01 vX)
    clear hb1 hb01 HC hX
    cases d
    · obtain rfl : false = rr := by have := HRr.out; simpa using this
      go_wp2_with fail
      go_ret
      exact ⟨rfl, HB1.out.1⟩
    · obtain rfl : t = rr := by have := HRr.out; simpa using this
      have ht := HF.out.1 rfl h0
      have y0 := vX.cell 0
      have y1 := vX.cell 1
      have hXz := vX.lt
      have hA : (A = none ∧ n = 0) ∨ ∃ ad, A = some ad ∧ ∀ j u, (flat ps)[j]? = some u → w1.cell? (ad.add j) = some u := by
        obtain ⟨b, off, rfl, hb, hc⟩ := pts_cells HPs.out.1 h0
        have hbw : b < w.heap.size := by omega
        exact .inr ⟨_, rfl, flat_cells fun j hj => ⟨(HB1.out.1.cell (p := ⟨b, off + j * 2, none⟩) hbw).trans (hc j hj).1, (HB1.out.1.cell (p := ⟨b, off + j * 2 + 1, none⟩) hbw).trans (hc j hj).2⟩⟩
      have hL := HPs.out.2
      have HTt := Lib.hid ht
      clear ht
      have hn21 : n + 1 ≤ maxLen := le_maxLen (by omega)
      have hnb : (n + 1) * 8 ≤ 140737488355328 := by omega
      go_wp2_with (at_builtin; first | (refine wpList_lend rfl (.tmp 14) (.tmp 15) 23 rfl eltP A n c (flat ps) rfl rfl (by rw [flat_length, hL]) hA flat_one (le_maxLen (by omega)) (by omega) ?_; intro A2 c2 w2 hown2 hg2; have hb2 : Below w1.heap.size w1 w2 := (Below.refl _ w1).grown hg2 (Nat.le_refl _) (fun k e => by cases e); have hz2 := hb2.size; have y02 := (HB1.out.2.keep hb2).cell 0; have y12 := (HB1.out.2.keep hb2).cell 1; have hXz2 := (HB1.out.2.keep hb2).lt) | (refine wpList_push rfl (.tmp 17) (.tmp 19) 23 rfl eltP w1.heap.size A2 n c2 (flat ps) rfl hown2 [_, _] rfl rfl (two_cells rfl rfl) hn21 hnb hz2 ?_; intro A3 c3 w3 hown3 hg3))
      have hb13 := below_push hb2 hown2 (Nat.le_refl _) hz2 hg3
      have hown3' : w3.ownsRow w1.heap.size 32 2 (.slice A3 (n + 1) c3) (n + 1) (flat (ps ++ [(p1, p2)])) := by rw [flat_snoc]; exact hown3
      have H3 := Lib.hid (And.intro hown3' (And.intro hb13 (ptsAt_of_own hown3' (by rw [List.length_append, hL]; rfl))))
      have hz3 := hb13.size
      clear hown3' hown3 hg3 hown2 hg2 hb2 hb13 hz2 y02 y12 hXz2 hA
      refine (HH.out A3 c3 w3 H3.out.2.2).mono ?_
      rintro e w4 ⟨A4, c4, m4, rfl, hm4, hown4, hb4⟩
      have hz4 := hb4.size
      have HB4 := Lib.hid ((HB1.out.1.trans (H3.out.2.1.mono hz1)).trans (hb4.mono (by omega : w.heap.size ≤ w3.heap.size)))
      have H4 := Lib.hid (And.intro hm4 (And.intro hown4 hb4))
      clear hm4 hown4 hb4
      go_wp2_with fail
      refine (same10r_is A4 A m4 n c4 c (hullL (ps ++ [(p1, p2)])) ps w4.heap.size H4.out.1 hL (by have := hullL_len (ps ++ [(p1, p2)]); rw [H4.out.1, List.length_append, hL] at this; simp at this; omega) w4 (Nat.le_refl _) (ptsAt_of_own H4.out.2.1 H4.out.1) ((HPs.out.1.below (HB4.out.mono hM)).up (by have := HB4.out.size; omega))).mono ?_
      rintro e w5 ⟨rfl, hb5⟩
      rw [HTt.out]
      have HE := Lib.hid (HB4.out.trans (hb5.mono HB4.out.size))
      clear hb5
      go_wp2_with fail
      go_ret
      exact ⟨rfl, HE.out⟩

end Go.Proofs.Ytcpojadinkonnaa
