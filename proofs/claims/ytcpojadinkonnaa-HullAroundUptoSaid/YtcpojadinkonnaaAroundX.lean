/-
  The law HullAround's body, walked.
-/
import Derived.Test.YtcpojadinkonnaaTurned2
import Derived.Test.YtcpojadinkonnaaHasP
namespace Go.Proofs.Ytcpojadinkonnaa
open Go.RowKit

theorem mod_intH2 {k m : Nat} : ((k : Int) + 2).tmod (m : Int) = (((k + 2) % m : Nat) : Int) := by
  have : ((k : Int) + 2) = ((k + 2 : Nat) : Int) := by omega
  rw [this]
  exact (Int.ofNat_tmod (k + 2) m).symm

theorem lend_src {M n c : Nat} {A : Option Addr} {ps : List Pt} {W : World} (h : PtsAt M W (.slice A n c) ps) : (A = none ∧ n = 0) ∨ ∃ ad, A = some ad ∧ ∀ j u, (flat ps)[j]? = some u → W.cell? (ad.add j) = some u := by
  rcases h with ⟨⟨A0, c0, he⟩, rfl⟩ | ⟨b, off, cap, he, hb, hc⟩
  · injection he with hA hn _
    subst hA hn
    cases A with
    | none => exact .inl ⟨rfl, rfl⟩
    | some ad => exact .inr ⟨ad, rfl, fun j u hu => by simp [flat] at hu⟩
  · injection he with hA _ _
    subst hA
    exact .inr ⟨_, rfl, flat_cells hc⟩
def InAll (ps H al : List Pt) : Prop := (∀ x ∈ ps, x ∈ al) ∧ ∀ x ∈ al, IPt x ∧ hasF H x = true
theorem inAll_snoc {ps H al : List Pt} {q : Pt} (h : InAll ps H al) (hq : IPt q) (hh : hasF H q = true) : InAll ps H (al ++ [q]) :=
  ⟨fun x hx => mem_snoc.2 (.inl (h.1 x hx)), fun x hx => (mem_snoc.1 hx).elim (h.2 x) (fun e => by rw [e]; exact ⟨hq, hh⟩)⟩

set_option maxRecDepth 100000 in
set_option maxHeartbeats 4000000 in
theorem hullAround_core (w : World) (A : Option Addr) (n c : Nat) (ps : List Pt) (hps : ∀ p ∈ ps, IPt p) (B : Option Addr) (m d : Nat) (ws : List Pt) (hws : ∀ p ∈ ws, IPt p) (z : Int) (hz : -9223372036854775808 ≤ z ∧ z ≤ 9223372036854775807)
    (hn : ps.length = n) (hn8 : n ≤ 1048576) (hI : PtsAt w.heap.size w (.slice A n c) ps) (hm : ws.length = m) (hm8 : m ≤ 1048576) (hJ : PtsAt w.heap.size w (.slice B m d) ws) :
    Calls Try.prog 9 #[.slice A n c, .slice B m d, .int .i64 z] w fun e w' => e = .returned (.bool true) ∧ Below w.heap.size w w' := by
  have H0 := Lib.hid (hull_any ps hps w.heap.size A c n hn (by omega) w hI (Nat.le_refl _))
  have hHI : ∀ q ∈ hullL ps, IPt q := fun q hq => hps q (hullL_mem ps q hq)
  have hHl : (hullL ps).length ≤ n := by rw [← hn]; exact hullL_len ps
  have hag := hull_again ps
  have hpos := fun h => hullL_pos (ps := ps) h
  have hown := has_own ps
  have hall := fun all => hull_all ps all
  have hset := fun qs => hullL_set (ps := qs) (qs := ps)
  have hcmp := hullL_cmp ps
  have htrn := hullL_turn ps
  have hmem := hullL_mem ps
  obtain ⟨H, hH⟩ : ∃ H, hullL ps = H := ⟨_, rfl⟩
  rw [hH] at H0 hHI hHl hag hpos hown hall hset hcmp htrn hmem
  have HM := Lib.hid (And.intro hpos (And.intro hown (And.intro hall (And.intro hset (And.intro hcmp (And.intro htrn (And.intro hmem (And.intro hag hHI))))))))
  have HP := Lib.hid (And.intro hI (And.intro hJ (And.intro hn (And.intro hm (And.intro hps hws)))))
  clear hpos hown hall hset hcmp htrn hmem hag hHI hI hJ hn hm hps hws hH
  go_enter Try.func9, Try.ntmps9
  go_wp2_with fail
  refine H0.out.mono ?_
  rintro e w1 ⟨A1, c1, mh, rfl, hmh, hown1, hb1⟩
  have hz1 := hb1.size
  have hmn : mh ≤ n := by omega
  have KO := Lib.hid (fun W (hb : Below w1.heap.size w1 W) => own_keepH hown1 hb)
  have KP := Lib.hid (fun W (hb : Below w1.heap.size w1 W) => (show PtsAt W.heap.size W (.slice A1 mh c1) H from ptsAt_of_own (own_keepH hown1 hb) hmh))
  have KV := Lib.hid (fun W (hb : Below w1.heap.size w1 W) => (show PtsAt W.heap.size W (.slice A n c) ps from (HP.out.1.below (hb1.trans (hb.mono hz1))).up (Nat.le_trans hz1 hb.size)))
  have KW := Lib.hid (fun W (hb : Below w1.heap.size w1 W) => (show PtsAt W.heap.size W (.slice B m d) ws from (HP.out.2.1.below (hb1.trans (hb.mono hz1))).up (Nat.le_trans hz1 hb.size)))
  have KB := Lib.hid (fun W (hb : Below w1.heap.size w1 W) => (show Below w.heap.size w W from hb1.trans (hb.mono hz1)))
  have hconv : decide (H = hullL H) = true := decide_eq_true HM.out.2.2.2.2.2.2.2.1.symm
  have KH := Lib.hid (fun W (hb : Below w1.heap.size w1 W) (q : Pt) (hq : IPt q) => by
    have h := hhas_any H HM.out.2.2.2.2.2.2.2.2 q hq W.heap.size A1 c1 mh hmh (by omega) W (KP.out W hb) (Nat.le_refl _)
    rw [hconv, Bool.true_and] at h
    exact h)
  have hcase : (decide ((0 : Int) < (n : Int)) = false ∧ decide (0 < n) = false) ∨ (decide ((0 : Int) < (n : Int)) = true ∧ decide (0 < n) = true ∧ ((mh : Int) == 0) = false) := by
    rcases Nat.eq_zero_or_pos n with h | h
    · exact .inl ⟨decide_eq_false (by omega), decide_eq_false (by omega)⟩
    · refine .inr ⟨decide_eq_true (by omega), decide_eq_true h, ?_⟩
      have := HM.out.1 (by rw [HP.out.2.2.1]; exact h)
      simp
      omega
  have HM1 := Lib.hid (And.intro hmh hconv)
  clear hmh hown1 hb1 hconv H0
  go_wp2_with fail
  refine (hull_any H HM.out.2.2.2.2.2.2.2.2 w1.heap.size A1 c1 mh HM1.out.1 (by omega) w1 (KP.out w1 (Below.refl _ _)) (Nat.le_refl _)).mono ?_
  rintro e w2 ⟨A2, c2, m2, rfl, hm2, hown2, hb2⟩
  rw [HM.out.2.2.2.2.2.2.2.1] at hm2 hown2
  obtain rfl : m2 = mh := by rw [← hm2, HM1.out.1]
  have h12 := Lib.hid hb2
  have HO2 := Lib.hid hown2
  clear hm2 hown2 hb2
  go_wp2_with fail
  refine (same10_is A2 A1 m2 m2 c2 c1 H H w2.heap.size HM1.out.1 HM1.out.1 (by omega) w2 (Nat.le_refl _) (ptsAt_of_own HO2.out HM1.out.1) (KP.out w2 h12.out)).mono ?_
  rintro e w3 ⟨rfl, hb3⟩
  rw [show decide (H = H) = true from decide_eq_true rfl]
  have h13 := Lib.hid (h12.out.trans (hb3.mono h12.out.size))
  clear hb3
  go_wp2_with fail
  refine (turned_any ps z hz w3.heap.size A c n HP.out.2.2.1 (by omega) w3 (KV.out w3 h13.out) (Nat.le_refl _)).mono ?_
  rintro e w4 ⟨A4, c4, m4, qs, rfl, hm4, hm4n, hqm, hown4, hb4⟩
  have h14 := Lib.hid (h13.out.trans (hb4.mono h13.out.size))
  have HO4 := Lib.hid (And.intro hm4 (And.intro hqm hown4))
  clear hm4 hqm hown4 hb4
  go_wp2_with fail
  refine (hull_any qs (fun q hq => HP.out.2.2.2.2.1 q ((HO4.out.2.1 q).1 hq)) w4.heap.size A4 c4 m4 HO4.out.1 (by omega) w4 (ptsAt_of_own HO4.out.2.2 HO4.out.1) (Nat.le_refl _)).mono ?_
  rintro e w5 ⟨A5, c5, m5, rfl, hm5, hown5, hb5⟩
  rw [HM.out.2.2.2.1 qs HO4.out.2.1] at hm5 hown5
  obtain rfl : m5 = m2 := by rw [← hm5, HM1.out.1]
  have h15 := Lib.hid (h14.out.trans (hb5.mono h14.out.size))
  have HO5 := Lib.hid hown5
  clear hm5 hown5 hb5
  go_wp2_with fail
  refine (same10_is A5 A1 m5 m5 c5 c1 H H w5.heap.size HM1.out.1 HM1.out.1 (by omega) w5 (Nat.le_refl _) (ptsAt_of_own HO5.out HM1.out.1) (KP.out w5 h15.out)).mono ?_
  rintro e w6 ⟨rfl, hb6⟩
  rw [show decide (H = H) = true from decide_eq_true rfl]
  have h16 := Lib.hid (h15.out.trans (hb6.mono h15.out.size))
  clear hb6
  go_wp2_with fail
  refine (convex_any H HM.out.2.2.2.2.2.2.2.2 w6.heap.size A1 c1 m5 HM1.out.1 (by omega) w6 (KP.out w6 h16.out) (Nat.le_refl _)).mono ?_
  rintro e w7 ⟨rfl, hb7⟩
  rw [HM1.out.2]
  have h17 := Lib.hid (h16.out.trans (hb7.mono h16.out.size))
  clear hb7
  rcases hcase with ⟨e1, e2⟩ | ⟨e1, e2, e3⟩
  all_goals go_wp2_with fail
  all_goals
    try clear e3
    clear e1 e2
    go_loopw [8] (fun i wr => ∃ (k : Nat), k ≤ n ∧ i = .int .i64 (k : Int) ∧ Below w1.heap.size w1 wr) (fun i _ => n - (intOf i).toNat)
    case atStart => exact ⟨0, by omega, rfl, h17.out⟩
    case round =>
      obtain ⟨k, hk, rfl, hB⟩ := hrel
      have hzB := hB.size
      rcases Nat.lt_or_ge k n with hlt | hge
      · have hkI : (k : Int) < (n : Int) := by omega
        obtain ⟨b, off, rfl, hb, hc⟩ := pts_cells (KV.out wr hB) (by omega)
        obtain ⟨c0, c1⟩ := hc k (by rw [HP.out.2.2.1]; exact hlt)
        have hpm : gp ps k ∈ ps := gp_mem (by rw [HP.out.2.2.1]; exact hlt)
        have hpI := HP.out.2.2.2.2.1 _ hpm
        have hph := HM.out.2.1 _ hpm
        obtain ⟨⟨x, y⟩, hp⟩ : ∃ p, gp ps k = p := ⟨_, rfl⟩
        rw [hp] at c0 c1 hpI hph
        dsimp only at c0 c1
        have HB := Lib.hid (And.intro hB (And.intro hpI hph))
        clear hc hpm hpI hph hp hB
        go_wp2_with fail
        refine (KH.out wr HB.out.1 (x, y) HB.out.2.1).mono ?_
        rintro e w8 ⟨rfl, hb8⟩
        rw [HB.out.2.2]
        have h8 := Lib.hid (HB.out.1.trans (hb8.mono HB.out.1.size))
        clear hb8
        go_wp2_with fail
        go_roundw
        case rel => exact ⟨k + 1, by omega, by simp, h8.out⟩
        case measure => simp [intOf]; omega
      · have hkI : ¬ (k : Int) < (n : Int) := by omega
        have HB := Lib.hid hB
        clear hB
        go_wp2_with fail
        go_loopw [9] (fun i wr => ∃ (k : Nat), k ≤ m5 ∧ i = .int .i64 (k : Int) ∧ Below w1.heap.size w1 wr) (fun i _ => m5 - (intOf i).toNat)
        case atStart => exact ⟨0, by omega, rfl, HB.out⟩
        case round =>
          clear hkI hge hk HB hzB
          obtain ⟨k, hk, rfl, hB⟩ := hrel
          have hzB := hB.size
          rcases Nat.lt_or_ge k m5 with hlt | hge
          · have hkI : (k : Int) < (m5 : Int) := by omega
            have hlen := HM1.out.1
            obtain ⟨g, rfl, _, hgz, _, hcell⟩ := own_cells (KO.out wr hB) (by omega)
            obtain ⟨a0, a1⟩ := hcell 0 (by omega)
            obtain ⟨b0, b1⟩ := hcell k (by omega)
            rw [Nat.zero_mul] at a0 a1
            obtain ⟨q1, hq1⟩ : ∃ q, (k + 1) % m5 = q := ⟨_, rfl⟩
            obtain ⟨q2, hq2⟩ : ∃ q, (k + 2) % m5 = q := ⟨_, rfl⟩
            have hq1n : q1 < m5 := by rw [← hq1]; exact Nat.mod_lt _ (by omega)
            have hq2n : q2 < m5 := by rw [← hq2]; exact Nat.mod_lt _ (by omega)
            have hs := HM.out.2.2.2.2.1 k (by omega)
            have ht := fun h => HM.out.2.2.2.2.2.1 h k (by omega)
            rw [hlen, hq1, hq2] at ht
            have mk : gp H k ∈ ps := HM.out.2.2.2.2.2.2.1 _ (gp_mem (by omega))
            have I0 := HM.out.2.2.2.2.2.2.2.2 _ (gp_mem (x := H) (i := k) (by omega))
            have I1 := HM.out.2.2.2.2.2.2.2.2 _ (gp_mem (x := H) (i := q1) (by omega))
            have I2 := HM.out.2.2.2.2.2.2.2.2 _ (gp_mem (x := H) (i := q2) (by omega))
            obtain ⟨⟨x0, y0⟩, hp0⟩ : ∃ p, gp H 0 = p := ⟨_, rfl⟩
            obtain ⟨⟨x, y⟩, hp⟩ : ∃ p, gp H k = p := ⟨_, rfl⟩
            obtain ⟨⟨x1, y1⟩, hp1⟩ : ∃ p, gp H q1 = p := ⟨_, rfl⟩
            obtain ⟨⟨x2, y2⟩, hp2⟩ : ∃ p, gp H q2 = p := ⟨_, rfl⟩
            rw [hp0] at a0 a1 hs
            rw [hp] at b0 b1 hs ht mk I0
            rw [hp1] at ht I1
            rw [hp2] at ht I2
            dsimp only at a0 a1 b0 b1 hs
            obtain ⟨sg, hsg⟩ : ∃ z, ptCmp x0 y0 x y = z := ⟨_, rfl⟩
            obtain ⟨T, hT⟩ : ∃ z, trn x y x1 y1 x2 y2 = z := ⟨_, rfl⟩
            have hTp : 2 < m5 → 0 < T := fun h => by
              have := ht (by omega)
              unfold tr at this
              rw [hT] at this
              exact this
            rw [hsg] at hs
            have C1 := Lib.hid (fun (X0 : Wd wr) => by
              have h := lawhas_any ps (x, y) X0.w.heap.size A c n HP.out.2.2.1 (by omega) X0.w (KV.out X0.w (hB.trans (X0.h.mono hzB))) (Nat.le_refl _)
              rw [decide_eq_true mk] at h
              exact h)
            have C2 := Lib.hid (fun (X0 : World) => by
              have h := pcmp_ref x0 y0 x y X0
              rw [hsg] at h
              exact h)
            have C3 := Lib.hid (fun (X0 : World) => by
              have h := turn04 x y x1 y1 x2 y2 I0.1 I0.2 I1.1 I1.2 I2.1 I2.2 X0
              rw [hT] at h
              exact h)
            have dsg : decide ((0 : Int) < sg) = false := decide_eq_false (by omega)
            have dk : decide ((k : Int) < 0) = false := decide_eq_false (by omega)
            have h0I : (0 : Int) < (m5 : Int) := by omega
            have HB := Lib.hid (And.intro hB (And.intro hTp (And.intro hp (And.intro hp1 hp2))))
            have hm1 : ((k : Int) + 1).tmod (m5 : Int) = (q1 : Int) := by rw [mod_intH, hq1]
            have hm2 : ((k : Int) + 2).tmod (m5 : Int) = (q2 : Int) := by rw [mod_intH2, hq2]
            clear hcell hlen hs ht mk I0 I1 I2 hp0 hp hp1 hp2 hsg hT hTp hB hq1 hq2
            go_wp2_with fail
            have hq_wr := @wd_cell wr
            refine wp_region_wd (by kernel_rfl) (by kernel_rfl) ?_
            repeat (go_big_quiet_step ((first | (go_at_call 24; with_reducible exact quiet_wd (C1.out _)) | (go_at_call 26; with_reducible exact quiet_wd (C2.out _)))))
            refine wpQuiet_nil ?_
            rintro w8 ⟨⟨wx, hb_w8⟩, hwx⟩
            obtain rfl : w8 = wx := hwx
            clear hq_wr
            have hz_w8 := hb_w8.size
            obtain ⟨hc_w8, hf_w8⟩ := bcell hb_w8
            have hs_w8_0 : g < w8.heap.size := Nat.lt_of_lt_of_le (by assumption) hb_w8.size
            have h8 := Lib.hid (HB.out.1.trans (hb_w8.mono hzB))
            have hz8 := h8.out.size
            obtain ⟨_, e8, _, hg8, _, cell8⟩ := own_cells (KO.out w8 h8.out) (by omega)
            injection e8 with e8
            injection e8 with e8
            subst e8
            have hlen := HM1.out.1
            obtain ⟨d0, d1⟩ := cell8 k (by omega)
            obtain ⟨d2, d3⟩ := cell8 q1 (by omega)
            obtain ⟨d4, d5⟩ := cell8 q2 (by omega)
            rw [HB.out.2.2.1] at d0 d1
            rw [HB.out.2.2.2.1] at d2 d3
            rw [HB.out.2.2.2.2] at d4 d5
            dsimp only at d0 d1 d2 d3 d4 d5
            have hq1I : (q1 : Int) < (m5 : Int) := by omega
            have hq2I : (q2 : Int) < (m5 : Int) := by omega
            have dq1 : decide ((q1 : Int) < 0) = false := decide_eq_false (by omega)
            have dq2 : decide ((q2 : Int) < 0) = false := decide_eq_false (by omega)
            have hn0 : ¬ (m5 : Int) = 0 := by omega
            have hn0b : ((m5 : Int) == 0) = false := by simp; omega
            have hw1 : IntKind.i64.wrap ((k : Int) + 1) = (k : Int) + 1 := by simp only [IntKind.wrap, IntKind.signed, IntKind.bits]; simp; omega
            have hw2 : IntKind.i64.wrap ((k : Int) + 2) = (k : Int) + 2 := by simp only [IntKind.wrap, IntKind.signed, IntKind.bits]; simp; omega
            clear hb_w8 hc_w8 hf_w8 cell8 a0 a1 b0 b1 hlen
            rcases Nat.lt_or_ge 2 m5 with h2 | h2
            · have dT : decide (T ≤ 0) = false := decide_eq_false (by have := HB.out.2.1 h2; omega)
              have f1 : decide ((2 : Int) < (m5 : Int)) = true := decide_eq_true (by omega)
              have f2 : decide (2 < m5) = true := decide_eq_true h2
              go_wp2_with fail
              have hq_w8 := @wd_cell w8
              refine wp_region_wd (by kernel_rfl) (by kernel_rfl) ?_
              repeat (go_big_quiet_step ((first | (go_at_call 27; with_reducible exact quiet_wd (C3.out _)))))
              refine wpQuiet_nil ?_
              rintro w9 ⟨⟨wx, hb_w9⟩, hwx⟩
              obtain rfl : w9 = wx := hwx
              clear hq_w8
              have hz_w9 := hb_w9.size
              obtain ⟨hc_w9, hf_w9⟩ := bcell hb_w9
              have hs_w9_0 : g < w9.heap.size := Nat.lt_of_lt_of_le (by assumption) hb_w9.size
              have h9 := Lib.hid (h8.out.trans (hb_w9.mono hz8))
              clear hb_w9 hc_w9 hf_w9
              go_wp2_with fail
              go_roundw
              case rel => exact ⟨k + 1, by omega, by simp, h9.out⟩
              case measure => simp [intOf]; omega
            · have f1 : decide ((2 : Int) < (m5 : Int)) = false := decide_eq_false (by omega)
              have f2 : decide (2 < m5) = false := decide_eq_false (by omega)
              go_wp2_with fail
              have hq_w8 := @wd_cell w8
              refine wp_region_wd (by kernel_rfl) (by kernel_rfl) ?_
              repeat (go_big_quiet_step ((first | (go_at_call 27; with_reducible exact quiet_wd (C3.out _)))))
              refine wpQuiet_nil ?_
              rintro w9 ⟨⟨wx, hb_w9⟩, hwx⟩
              obtain rfl : w9 = wx := hwx
              clear hq_w8
              have hz_w9 := hb_w9.size
              obtain ⟨hc_w9, hf_w9⟩ := bcell hb_w9
              have hs_w9_0 : g < w9.heap.size := Nat.lt_of_lt_of_le (by assumption) hb_w9.size
              have h9 := Lib.hid (h8.out.trans (hb_w9.mono hz8))
              clear hb_w9 hc_w9 hf_w9
              go_wp2_with fail
              go_roundw
              case rel => exact ⟨k + 1, by omega, by simp, h9.out⟩
              case measure => simp [intOf]; omega
          · have hkI : ¬ (k : Int) < (m5 : Int) := by omega
            have hA := lend_src (KV.out wr hB)
            have HB := Lib.hid hB
            have hL := HP.out.2.2.1
            clear hB
            go_wp2_with (at_builtin; refine wpList_lend rfl (.tmp 107) (.tmp 108) 23 rfl eltP A n c (flat ps) rfl rfl (by rw [flat_length, hL]) hA flat_one (le_maxLen (by omega)) (by omega) ?_; intro A9 c9 w9 hown9 hg9)
            have h9 : Below w1.heap.size w1 w9 := HB.out.trans (((Below.refl _ wr).grown hg9 (Nat.le_refl _) (fun k e => by cases e)).mono hzB)
            have hown9' := own_baseS hown9 hzB
            clear hown9 hg9 hA hL hkI hge hk HB
            go_loopw [10, 11] (fun o i wr => ∃ (k lo co : Nat) (Ao : Option Addr) (al : List Pt), k ≤ m ∧ i = .int .i64 (k : Int) ∧ o = .slice Ao lo co ∧ al.length = lo ∧ lo ≤ n + k ∧ InAll ps H al ∧ wr.ownsRow w1.heap.size 32 2 (.slice Ao lo co) lo (flat al) ∧ Below w1.heap.size w1 wr) (fun _ i _ => m - (intOf i).toNat)
            case atStart => exact ⟨0, n, c9, A9, ps, by omega, rfl, rfl, HP.out.2.2.1, by omega, ⟨fun x hx => hx, fun x hx => ⟨HP.out.2.2.2.2.1 x hx, HM.out.2.1 x hx⟩⟩, hown9', h9⟩
            case round =>
              clear hzB hown9' h9
              obtain ⟨k, lo, co, Ao, al, hk, rfl, rfl, hal, hlo, hin, hown, hB⟩ := hrel
              have hzB := hB.size
              rcases Nat.lt_or_ge k m with hlt | hge
              · have hkI : (k : Int) < (m : Int) := by omega
                obtain ⟨b, off, rfl, hb, hc⟩ := pts_cells (KW.out wr hB) (by omega)
                obtain ⟨c0, c1⟩ := hc k (by rw [HP.out.2.2.2.1]; exact hlt)
                have hpI := HP.out.2.2.2.2.2 _ (gp_mem (x := ws) (i := k) (by rw [HP.out.2.2.2.1]; exact hlt))
                obtain ⟨⟨x, y⟩, hp⟩ : ∃ p, gp ws k = p := ⟨_, rfl⟩
                rw [hp] at c0 c1 hpI
                dsimp only at c0 c1
                obtain ⟨t, ht⟩ : ∃ t : Bool, hasF H (x, y) = t := ⟨_, rfl⟩
                have HB := Lib.hid (And.intro hB (And.intro hpI (And.intro ht (And.intro hal (And.intro hin hown)))))
                have hcc := hc k (by rw [HP.out.2.2.2.1]; exact hlt)
                rw [hp] at hcc
                have HCC := Lib.hid hcc
                have hbz : b < wr.heap.size := by omega
                clear hc hpI hp hB ht hal hin hown hcc
                go_wp2_with fail
                refine (KH.out wr HB.out.1 (x, y) HB.out.2.1).mono ?_
                rintro e w10 ⟨rfl, hb10⟩
                rw [HB.out.2.2.1]
                have h10 := Lib.hid (HB.out.1.trans (hb10.mono HB.out.1.size))
                have hown10 := own_keepH HB.out.2.2.2.2.2 hb10
                have d0 := (hb10.cell (p := ⟨b, off + k * 2, none⟩) hbz).trans HCC.out.1
                have d1 := (hb10.cell (p := ⟨b, off + k * 2 + 1, none⟩) hbz).trans HCC.out.2
                try dsimp only at d0 d1
                have hz10 := h10.out.size
                clear hb10 c0 c1
                cases t
                · go_wp2_with fail
                  go_roundw
                  case rel => exact ⟨k + 1, lo, co, Ao, al, by omega, by simp, rfl, HB.out.2.2.2.1, by omega, HB.out.2.2.2.2.1, hown10, h10.out⟩
                  case measure => simp [intOf]; omega
                · go_wp2_with (at_builtin; refine wpList_push rfl (.tmp 122) (.tmp 127) 23 rfl eltP w1.heap.size Ao lo co _ rfl hown10 [_, _] rfl rfl (two_cells rfl rfl) (le_maxLen (by omega)) (by omega) hz10 ?_; intro A' c' w' hown' hg')
                  have hB6 := below_push h10.out hown10 (Nat.le_refl _) hz10 hg'
                  go_roundw
                  case rel => exact ⟨k + 1, lo + 1, c', A', al ++ [(x, y)], by omega, by simp, rfl, by rw [List.length_append, HB.out.2.2.2.1]; rfl, by omega, inAll_snoc HB.out.2.2.2.2.1 HB.out.2.1 HB.out.2.2.1, by rw [flat_snoc]; exact hown', hB6⟩
                  case measure => simp [intOf]; omega
              · have hkI : ¬ (k : Int) < (m : Int) := by omega
                have HB := Lib.hid (And.intro hB (And.intro hal (And.intro hin hown)))
                clear hB hal hin hown
                go_wp2_with fail
                refine (hull_any al (fun q hq => (HB.out.2.2.1.2 q hq).1) wr.heap.size Ao co lo HB.out.2.1 (by omega) wr (ptsAt_of_own HB.out.2.2.2 HB.out.2.1) (Nat.le_refl _)).mono ?_
                rintro e w11 ⟨A11, c11, m11, rfl, hm11, hown11, hb11⟩
                rw [HM.out.2.2.1 al HB.out.2.2.1.1 (fun x hx => (HB.out.2.2.1.2 x hx).2)] at hm11 hown11
                have hmm : m11 = m5 := by rw [← hm11, HM1.out.1]
                subst hmm
                have h11 := Lib.hid (HB.out.1.trans (hb11.mono HB.out.1.size))
                have HO11 := Lib.hid hown11
                clear hm11 hown11 hb11
                go_wp2_with fail
                refine (same10_is A11 A1 m11 m11 c11 c1 H H w11.heap.size HM1.out.1 HM1.out.1 (by omega) w11 (Nat.le_refl _) (ptsAt_of_own HO11.out HM1.out.1) (KP.out w11 h11.out)).mono ?_
                rintro e w12 ⟨rfl, hb12⟩
                rw [show decide (H = H) = true from decide_eq_true rfl]
                have hE := Lib.hid (KB.out w12 (h11.out.trans (hb12.mono h11.out.size)))
                clear hb12
                go_wp2_with fail
                go_ret
                exact ⟨rfl, hE.out⟩

end Go.Proofs.Ytcpojadinkonnaa
