/-
  The document's Hull (printed by gen_hullt.py).
-/
import Derived.Test.YtcpojadinkonnaaHullS
namespace Go.Proofs.Ytcpojadinkonnaa
open Go.RowKit

theorem own_new {W : World} {b g n : Nat} {e : TypeId} {cs : Array Value} (h : Var W g e cs) (hs : cs.size = n * 2) (hb : b ≤ g) (hn : n ≤ maxLen) : W.ownsRow b e 2 (.slice (some ⟨g, 0, none⟩) n n) n cs.toList :=
  ⟨by simpa using hs, .inr ⟨g, n, cs, rfl, hb, h, Nat.le_refl _, hn, hs, by rw [← hs, ← Array.length_toList, List.take_length]⟩⟩
theorem gp_app_mem {l H : List Pt} {a : Pt} (hm : ∀ x ∈ H, x ∈ l) (ha : a ∈ l) {i : Nat} (h : i ≤ H.length) : gp (H ++ [a]) i ∈ l := by
  rcases Nat.lt_or_ge i H.length with h1 | h1
  · rw [gp_app_lt h1]; exact hm _ (gp_mem h1)
  · obtain rfl : i = H.length := by omega
    rw [gp_app_ge]; exact ha

set_option maxHeartbeats 2000000 in
set_option maxRecDepth 100000 in
theorem hull_ref (ps : List Pt) (hps : ∀ p ∈ ps, IPt p) (M : Nat) (A : Option Addr) (c n : Nat) (hn : ps.length = n) (hlen : n * 16 ≤ 140737488351232) (w : World) (hP : PtsAt M w (.slice A n c) ps) (hM : M ≤ w.heap.size) :
    Calls Try.prog 17 #[.slice A n c] w fun e w' => ∃ (A' : Option Addr) (c' m : Nat), e = .returned (.slice A' m c') ∧ (hullL ps).length = m ∧ w'.ownsRow w.heap.size 32 2 (.slice A' m c') m (flat (hullL ps)) ∧ Below w.heap.size w w' := by
  have H0 := Lib.hid (once_ref ps M A c n hn (by omega) w hP hM)
  have hdl := dd_srt_len ps
  obtain ⟨hasc, hmem⟩ := dd_srt ps
  have hlI : ∀ p ∈ dd (srt ps), IPt p := fun p hp => hps p ((hmem p).1 hp)
  obtain ⟨l, hl⟩ : ∃ l, dd (srt ps) = l := ⟨_, rfl⟩
  have hH : hullL ps = hullF l := by unfold hullL; rw [hl]
  rw [hl] at hdl hasc hlI H0
  obtain ⟨Hu, hHu⟩ : ∃ H, hullL ps = H := ⟨_, rfl⟩
  rw [hHu]
  have HU := Lib.hid (hH.symm.trans hHu)
  have HL := Lib.hid (And.intro hasc hlI)
  clear hP hmem hl hasc hlI hH hps hHu
  go_enter Try.func17, Try.ntmps17
  go_wp2_with fail
  refine H0.out.mono ?_
  rintro e w1 ⟨A1, c1, m, rfl, hlm, hown1, hb1⟩
  have hz1 := hb1.size
  have hm : m ≤ n := by omega
  have H1 := Lib.hid (And.intro hlm (And.intro hown1 hb1))
  rcases Nat.lt_or_ge m 3 with h3 | h3
  · have hI : (m : Int) < 3 := by omega
    have hF : Hu = l := HU.out.symm.trans (if_pos (by omega))
    subst hF
    clear hlm hown1 hb1
    go_wp2_with fail
    go_ret
    exact ⟨A1, c1, m, rfl, H1.out⟩
  · have hI : ¬ (m : Int) < 3 := by omega
    have hF : Hu = (chainF l).reverse.dropLast ++ (chainF l.reverse).reverse.dropLast := HU.out.symm.trans (if_neg (by omega))
    have HI := hull_is HL.out.1 (show 2 ≤ l.length by omega)
    rw [← hF] at HI
    have hflat : ∀ z, l.getLast? = some z → (∀ q ∈ l, tr (gp l 0) z q = 0) → Hu = [gp l 0, z] := fun z ez h => hF.trans (hull_flat HL.out.1 (by omega) ez h)
    have hz := last_gp (show 0 < l.length by omega)
    obtain ⟨g, rfl, _, hgw, _, hcell⟩ := own_cells hown1 (by omega)
    have HC := Lib.hid (fun W (hb : Below w1.heap.size w1 W) j (hj : j < m) => (show W.cell? ⟨g, j * 2, none⟩ = some (.int .i32 (gp l j).1) ∧ W.cell? ⟨g, j * 2 + 1, none⟩ = some (.int .i32 (gp l j).2) from ⟨(hb.cell (p := ⟨g, j * 2, none⟩) hgw).trans (hcell j (by omega)).1, (hb.cell (p := ⟨g, j * 2 + 1, none⟩) hgw).trans (hcell j (by omega)).2⟩))
    have hPl := ptsAt_of_own hown1 hlm
    have HFo := Lib.hid (fun W (hb : Below w1.heap.size w1 W) a b (ha : IPt a) (hbI : IPt b) => follows_ref l HL.out.2 a b ha hbI w1.heap.size (some ⟨g, 0, none⟩) c1 m hlm (by omega) W (hPl.below hb) hb.size)
    have hIl := gp_i HL.out.2
    obtain ⟨r, hr⟩ : ∃ r, m = r + 1 := ⟨m - 1, by omega⟩
    rw [hlm, show m - 1 = r by omega] at hz
    obtain ⟨⟨x0, y0⟩, hp0⟩ : ∃ p, gp l 0 = p := ⟨_, rfl⟩
    obtain ⟨⟨xz, yz⟩, hpz⟩ : ∃ p, gp l r = p := ⟨_, rfl⟩
    have hI0 := hIl 0
    have hIz := hIl r
    rw [hp0] at hI0
    rw [hpz] at hIz
    rw [hpz] at hz
    have HK := Lib.hid (And.intro HI (And.intro (hflat _ hz) (And.intro hr (And.intro hp0 (And.intro hpz (And.intro hIl hlm))))))
    have hwr : IntKind.i64.wrap ((m : Int) - 1) = (r : Int) := by simp only [IntKind.wrap, IntKind.signed, IntKind.bits]; simp; omega
    have hrm : (r : Int) < (m : Int) := by omega
    have h0m : (0 : Int) < (m : Int) := by omega
    have dr : decide ((r : Int) < 0) = false := decide_eq_false (by omega)
    clear hlm hown1 hb1 hF HI hflat hz hcell hPl hIl hr hp0 hpz
    go_wp2_with fail
    go_loopw [4, 5] (fun fl i wr => ∃ (k : Nat) (f : Bool), k ≤ m ∧ i = .int .i64 (k : Int) ∧ fl = .bool f ∧ (f = true ↔ ∀ j, j < k → tr (x0, y0) (xz, yz) (gp l j) = 0) ∧ Below w1.heap.size w1 wr) (fun _ i _ => m - (intOf i).toNat)
    case atStart => exact ⟨0, true, by omega, rfl, rfl, ⟨fun _ j hj => by omega, fun _ => rfl⟩, Below.refl _ _⟩
    case round =>
      obtain ⟨k, f, hk, rfl, rfl, hf, hB⟩ := hrel
      have hz := hB.size
      have hgz : g < wr.heap.size := by omega
      obtain ⟨a0, a1⟩ := HC.out wr hB 0 (by omega)
      obtain ⟨z0, z1⟩ := HC.out wr hB r (by omega)
      rw [HK.out.2.2.2.1, Nat.zero_mul] at a0 a1
      rw [HK.out.2.2.2.2.1] at z0 z1
      dsimp only at a0 a1 z0 z1
      have HB := Lib.hid (And.intro hf hB)
      clear hf hB
      rcases Nat.lt_or_ge k m with hlt | hge
      · have hkI : (k : Int) < (m : Int) := by omega
        have dk : decide ((k : Int) < 0) = false := decide_eq_false (by omega)
        obtain ⟨q0, q1⟩ := HC.out wr HB.out.2 k hlt
        have hIq := HK.out.2.2.2.2.2.1 k
        obtain ⟨⟨x, y⟩, hq⟩ : ∃ q, gp l k = q := ⟨_, rfl⟩
        rw [hq] at q0 q1 hIq
        dsimp only at q0 q1 hIq
        have hT := fun W => turn04 x0 y0 xz yz x y hI0.1 hI0.2 hIz.1 hIz.2 hIq.1 hIq.2 W
        obtain ⟨T, hTe⟩ : ∃ T, trn x0 y0 xz yz x y = T := ⟨_, rfl⟩
        rw [hTe] at hT
        have HT := Lib.hid hT
        have hTq : tr (x0, y0) (xz, yz) (gp l k) = T := by rw [hq]; exact hTe
        have HTq := Lib.hid hTq
        clear hT hTe hq hTq
        rcases Decidable.em (T = 0) with hT0 | hT0
        · subst hT0
          go_wp2_with fail
          have hq_wr := @wd_cell wr
          refine wp_region_wd (by kernel_rfl) (by kernel_rfl) ?_
          repeat (go_big_quiet_step ((first | (go_at_call 27; with_reducible exact quiet_wd (HT.out _)))))
          refine wpQuiet_nil ?_
          rintro w5 ⟨⟨wx, hb_w5⟩, hwx⟩
          obtain rfl : w5 = wx := hwx
          clear hq_wr
          have hz_w5 := hb_w5.size
          obtain ⟨hc_w5, hf_w5⟩ := bcell hb_w5
          have hs_w5_0 : g < w5.heap.size := Nat.lt_of_lt_of_le (by assumption) hb_w5.size
          have HE := Lib.hid (HB.out.2.trans (hb_w5.mono hz))
          clear hb_w5 hc_w5 hf_w5
          go_wp2_with fail
          go_roundw
          case rel => exact ⟨k + 1, f, by omega, by simp, rfl, ⟨fun h j hj => by
            rcases Nat.lt_or_ge j k with h1 | h1
            · exact HB.out.1.1 h j h1
            · rw [show j = k by omega]; exact HTq.out, fun h => HB.out.1.2 fun j hj => h j (by omega)⟩, HE.out⟩
          case measure => simp [intOf]; omega
        · have hT1 : (T == 0) = false := beq_eq_false_iff_ne.2 hT0
          go_wp2_with fail
          have hq_wr := @wd_cell wr
          refine wp_region_wd (by kernel_rfl) (by kernel_rfl) ?_
          repeat (go_big_quiet_step ((first | (go_at_call 27; with_reducible exact quiet_wd (HT.out _)))))
          refine wpQuiet_nil ?_
          rintro w5 ⟨⟨wx, hb_w5⟩, hwx⟩
          obtain rfl : w5 = wx := hwx
          clear hq_wr
          have hz_w5 := hb_w5.size
          obtain ⟨hc_w5, hf_w5⟩ := bcell hb_w5
          have hs_w5_0 : g < w5.heap.size := Nat.lt_of_lt_of_le (by assumption) hb_w5.size
          have HE := Lib.hid (HB.out.2.trans (hb_w5.mono hz))
          clear hb_w5 hc_w5 hf_w5
          go_wp2_with fail
          go_roundw
          case rel => exact ⟨k + 1, false, by omega, by simp, rfl, ⟨fun h => (by cases h), fun h => absurd (HTq.out.symm.trans (h k (by omega))) hT0⟩, HE.out⟩
          case measure => simp [intOf]; omega
      · have hkI : ¬ (k : Int) < (m : Int) := by omega
        cases f
        · clear z0 z1
          have HE := Lib.hid HB.out.2
          clear HB
          go_wp2_with fail
          refine wp_gen (fun W2 hW2 => ?_)
          have hX0 : w1.heap.size ≤ wr.heap.size := hz
          have vX : Var W2 wr.heap.size 32 #[.int .i32 x0, .int .i32 y0] := by rw [hW2]; exact Var.new _ _ _
          have hBW : Below w1.heap.size w1 W2 := by rw [hW2]; exact HE.out.alloc hz _
          have hH1 : Hu.take 1 = [(x0, y0)] := by
            rw [take_gp HK.out.1.pos, HK.out.1.first, HK.out.2.2.2.1]
            rfl
          have hown0 : W2.ownsRow w1.heap.size 32 2 (.slice (some ⟨wr.heap.size, 0, none⟩) 1 1) 1 (flat (Hu.take 1)) := by
            rw [hH1]
            exact own_new vX rfl hX0 (by unfold maxLen; omega)
          have hlen1 : Hu.length ≤ m := by have := HK.out.1.len; have := HK.out.2.2.2.2.2.2; omega
          obtain ⟨Lh, hLh⟩ : ∃ z, Hu.length = z := ⟨_, rfl⟩
          have hpos : 0 < Lh := by rw [← hLh]; exact HK.out.1.pos
          have HLh := Lib.hid hLh
          rw [hLh] at hlen1
          clear hW2 vX hX0 HE hH1 hLh a0 a1 hgz hz hkI
          go_loopw [6] (fun o wr => ∃ (k co : Nat) (Ao : Option Addr), 1 ≤ k ∧ k ≤ Lh ∧ o = .slice Ao k co ∧ wr.ownsRow w1.heap.size 32 2 (.slice Ao k co) k (flat (Hu.take k)) ∧ Below w1.heap.size w1 wr) (fun o _ => Lh - lenOf o)
          case atStart => exact ⟨1, 1, _, by omega, by omega, rfl, hown0, hBW⟩
          case round =>
            obtain ⟨k, co, Ao, h1k, hkL, rfl, hown, hB⟩ := hrel
            clear hown0 hBW
            have hz := hB.size
            have hkm : (k : Int) ≤ (m : Int) := by omega
            obtain ⟨j, hj⟩ : ∃ j, k = j + 1 := ⟨k - 1, by omega⟩
            obtain ⟨go, rfl, _, hgoz, _, hco⟩ := own_cells hown (by omega)
            obtain ⟨a0, a1⟩ := hco j (by rw [List.length_take, HLh.out]; omega)
            have hgt : gp (Hu.take k) j = gp Hu j := by
              unfold gp
              rw [List.getElem?_take_of_lt (by omega)]
            rw [hgt] at a0 a1
            have ha : gp Hu j ∈ l := HK.out.1.mem _ (gp_mem (by rw [HLh.out]; omega))
            have hIa := HL.out.2 _ ha
            have hwalk := HK.out.1.walk j (by rw [HLh.out]; omega)
            have hjj : j + 1 = k := hj.symm
            rw [hjj] at hwalk
            obtain ⟨⟨xa, ya⟩, hpa⟩ : ∃ p, gp Hu j = p := ⟨_, rfl⟩
            rw [hpa] at a0 a1 hIa hwalk
            dsimp only at a0 a1
            have hwj : IntKind.i64.wrap ((k : Int) - 1) = (j : Int) := by simp only [IntKind.wrap, IntKind.signed, IntKind.bits]; simp; omega
            have hjk : (j : Int) < (k : Int) := by omega
            have dj : decide ((j : Int) < 0) = false := decide_eq_false (by omega)
            have HW := Lib.hid (And.intro hwalk (And.intro hj (And.intro hown hB)))
            clear hco hgt ha hpa hwalk hj hjj hown hB
            go_wp2_with fail
            refine wp_gen (fun W3 hW3 => ?_)
            obtain ⟨X, hX⟩ : ∃ X, wr.heap.size = X := ⟨_, rfl⟩
            have vX : Var W3 X 32 #[.int .i32 xa, .int .i32 ya] := by rw [hW3, ← hX]; exact Var.new _ _ _
            have hb3 : Below wr.heap.size wr W3 := by rw [hW3]; go_grown
            have hown3 := own_keepH HW.out.2.2.1 hb3
            have hB3 := HW.out.2.2.2.trans (hb3.mono hz)
            rw [hX]
            clear hW3 hX hb3 a0 a1 hgoz hz
            go_loopw [6, 8] (fun o i wr => ∃ (s : Nat), s ≤ m ∧ i = .int .i64 (s : Int) ∧ o = .slice (some ⟨go, 0, none⟩) k co ∧ (∀ t, t < s → fol l (xa, ya) (gp l t) = false) ∧ wr.ownsRow w1.heap.size 32 2 (.slice (some ⟨go, 0, none⟩) k co) k (flat (Hu.take k)) ∧ Var wr X 32 #[.int .i32 xa, .int .i32 ya] ∧ Below w1.heap.size w1 wr) (fun _ i _ => m - (intOf i).toNat)
            case atStart => exact ⟨0, by omega, rfl, rfl, fun t ht => by omega, hown3, vX, hB3⟩
            case round =>
              obtain ⟨s, hs, rfl, rfl, hall, hown, hvX, hB⟩ := hrel
              clear hown3 vX hB3
              have hz := hB.size
              have hgz : g < wr.heap.size := by omega
              rcases Nat.lt_or_ge s m with hlt2 | hge2
              · have hsI : (s : Int) < (m : Int) := by omega
                have ds : decide ((s : Int) < 0) = false := decide_eq_false (by omega)
                obtain ⟨b0, b1⟩ := HC.out wr hB 0 (by omega)
                rw [HK.out.2.2.2.1, Nat.zero_mul] at b0 b1
                obtain ⟨q0, q1⟩ := HC.out wr hB s hlt2
                have hIq := HK.out.2.2.2.2.2.1 s
                have hqm : gp l s ∈ l := gp_mem (by have := HK.out.2.2.2.2.2.2; omega)
                obtain ⟨⟨x, y⟩, hq⟩ : ∃ q, gp l s = q := ⟨_, rfl⟩
                rw [hq] at q0 q1 hIq hqm
                dsimp only at q0 q1 b0 b1
                have x0' := hvX.cell 0
                have x1' := hvX.cell 1
                have hXz := hvX.lt
                obtain ⟨f, hf⟩ : ∃ f : Bool, fol l (xa, ya) (x, y) = f := ⟨_, rfl⟩
                have hFw := fun (X0 : Wd wr) => HFo.out X0.w (hB.trans (X0.h.mono hz)) (xa, ya) (x, y) hIa hIq
                simp only [hf] at hFw
                have HFc := Lib.hid hFw
                have HS := Lib.hid (And.intro hall (And.intro hown (And.intro hvX (And.intro hB (And.intro hq (And.intro hqm hf))))))
                clear hall hown hvX hFw hq hqm hf
                cases f
                · go_wp2_with fail
                  have hq_wr := @wd_cell wr
                  refine wp_region_wd (by kernel_rfl) (by kernel_rfl) ?_
                  repeat (go_big_quiet_step ((first | (go_at_call 40; with_reducible exact quiet_wd (HFc.out _)))))
                  refine wpQuiet_nil ?_
                  rintro w5 ⟨⟨wx, hb_w5⟩, hwx⟩
                  obtain rfl : w5 = wx := hwx
                  clear hq_wr
                  have hz_w5 := hb_w5.size
                  obtain ⟨hc_w5, hf_w5⟩ := bcell hb_w5
                  have hs_w5_0 : g < w5.heap.size := Nat.lt_of_lt_of_le (by assumption) hb_w5.size
                  have hs_w5_1 : X < w5.heap.size := Nat.lt_of_lt_of_le (by assumption) hb_w5.size
                  have HE := Lib.hid (And.intro (own_keepH HS.out.2.1 hb_w5) (And.intro (HS.out.2.2.1.keep hb_w5) (HS.out.2.2.2.1.trans (hb_w5.mono hz))))
                  clear hb_w5 hc_w5 hf_w5
                  go_wp2_with fail
                  go_roundw
                  case rel => exact ⟨s + 1, by omega, by simp, rfl, fun t ht => by
                    rcases Nat.lt_or_ge t s with h | h
                    · exact HS.out.1 t h
                    · rw [show t = s by omega, HS.out.2.2.2.2.1]; exact HS.out.2.2.2.2.2.2, HE.out⟩
                  case measure => simp [intOf]; omega
                · have hnext : gp (Hu ++ [gp l 0]) k = (x, y) := by
                    refine fol_one (gp_app_mem HK.out.1.mem ?_ (by rw [HLh.out]; omega)) HS.out.2.2.2.2.2.1 HW.out.1 HS.out.2.2.2.2.2.2
                    exact gp_mem (by have := HK.out.2.2.2.2.2.2; omega)
                  rw [HK.out.2.2.2.1] at hnext
                  go_wp2_with fail
                  have hq_wr := @wd_cell wr
                  refine wp_region_wd (by kernel_rfl) (by kernel_rfl) ?_
                  repeat (go_big_quiet_step ((first | (go_at_call 40; with_reducible exact quiet_wd (HFc.out _)))))
                  refine wpQuiet_nil ?_
                  rintro w5 ⟨⟨wx, hb_w5⟩, hwx⟩
                  obtain rfl : w5 = wx := hwx
                  clear hq_wr
                  have hz_w5 := hb_w5.size
                  obtain ⟨hc_w5, hf_w5⟩ := bcell hb_w5
                  have hs_w5_0 : g < w5.heap.size := Nat.lt_of_lt_of_le (by assumption) hb_w5.size
                  have hs_w5_1 : X < w5.heap.size := Nat.lt_of_lt_of_le (by assumption) hb_w5.size
                  have hown5 := own_keepH HS.out.2.1 hb_w5
                  have hB5 := HS.out.2.2.2.1.trans (hb_w5.mono hz)
                  have hz5 := hB5.size
                  have hgz5 : g < w5.heap.size := by omega
                  obtain ⟨d0, d1⟩ := HC.out w5 hB5 0 (by omega)
                  rw [HK.out.2.2.2.1, Nat.zero_mul] at d0 d1
                  obtain ⟨e2, e3⟩ := HC.out w5 hB5 s hlt2
                  rw [HS.out.2.2.2.2.1] at e2 e3
                  dsimp only at d0 d1 e2 e3
                  have hXz5 : X < w5.heap.size := Nat.lt_of_lt_of_le hXz hb_w5.size
                  have H5 := Lib.hid (And.intro hown5 hB5)
                  clear hb_w5 hc_w5 hf_w5 hown5 hB5 b0 b1 q0 q1 x0' x1'
                  rcases Decidable.em (x0 = x) with hxx | hxx
                  · rcases Decidable.em (y0 = y) with hyy | hyy
                    · have hkL2 : k = Lh := by
                        rcases Nat.lt_or_ge k Lh with h | h
                        · exfalso
                          have h2 := HK.out.1.back k h1k (by rw [HLh.out]; exact h)
                          rw [gp_app_lt (by rw [HLh.out]; exact h)] at hnext
                          exact h2 (by rw [hnext, HK.out.2.2.2.1, hxx, hyy])
                        · omega
                      have hfin : Hu.take k = Hu := List.take_of_length_le (by rw [HLh.out]; omega)
                      have HQ := Lib.hid (And.intro hkL2 hfin)
                      clear hkL2 hfin hnext
                      subst hxx hyy
                      go_wp2_with fail
                      have hq_w5 := @wd_cell w5
                      refine wp_region_wd (by kernel_rfl) (by kernel_rfl) ?_
                      repeat (go_big_quiet_step ((first | (fail))))
                      refine wpQuiet_nil ?_
                      rintro w6 ⟨⟨wx, hb_w6⟩, hwx⟩
                      obtain rfl : w6 = wx := hwx
                      clear hq_w5
                      have hz_w6 := hb_w6.size
                      obtain ⟨hc_w6, hf_w6⟩ := bcell hb_w6
                      have hs_w6_0 : g < w6.heap.size := Nat.lt_of_lt_of_le (by assumption) hb_w6.size
                      have hs_w6_1 : X < w6.heap.size := Nat.lt_of_lt_of_le (by assumption) hb_w6.size
                      have hown6 := own_keepH H5.out.1 hb_w6
                      rw [HQ.out.2] at hown6
                      have HE := Lib.hid (And.intro (own_baseS hown6 hz1) (H1.out.2.2.trans ((H5.out.2.trans (hb_w6.mono hz5)).mono hz1)))
                      clear hb_w6 hc_w6 hf_w6 hown6
                      go_wp2_with fail
                      go_ret
                      exact ⟨_, co, k, rfl, HLh.out.trans HQ.out.1.symm, HE.out⟩
                    · have hne : (y == y0) = false := beq_eq_false_iff_ne.2 (Ne.symm hyy)
                      have HNE := (fun e => hyy (by injection e with _ h; exact h.symm) : ¬ (x0, y) = (x0, y0))
                      subst hxx
                      have hnx : ¬ (x0, y) = (x0, y0) := HNE
                      clear HNE
                      have hk1 : k ≠ Lh := fun e => hnx (by have := HS.out.2.2.2.2.2.2; rw [← hnext, e, ← HLh.out, gp_app_ge])
                      have hk2 : k < Lh := by omega
                      have hnext2 : gp Hu k = (x0, y) := by rw [← hnext, gp_app_lt (by rw [HLh.out]; omega)]
                      have HN := Lib.hid (And.intro hnext2 hk2)
                      clear hk1 hnext2 hnext hnx
                      go_wp2_with fail
                      have hq_w5 := @wd_cell w5
                      refine wp_region_wd (by kernel_rfl) (by kernel_rfl) ?_
                      repeat (go_big_quiet_step ((first | (fail))))
                      refine wpQuiet_nil ?_
                      rintro w6 ⟨⟨wx, hb_w6⟩, hwx⟩
                      obtain rfl : w6 = wx := hwx
                      clear hq_w5
                      have hz_w6 := hb_w6.size
                      obtain ⟨hc_w6, hf_w6⟩ := bcell hb_w6
                      have hs_w6_0 : g < w6.heap.size := Nat.lt_of_lt_of_le (by assumption) hb_w6.size
                      have hs_w6_1 : X < w6.heap.size := Nat.lt_of_lt_of_le (by assumption) hb_w6.size
                      have hown6 := own_keepH H5.out.1 hb_w6
                      have hB6 := H5.out.2.trans (hb_w6.mono hz5)
                      have hz6 := hB6.size
                      have H6 := Lib.hid hB6
                      have hgz6 : g < w6.heap.size := by omega
                      obtain ⟨e0, e1⟩ := HC.out w6 hB6 s hlt2
                      rw [HS.out.2.2.2.2.1] at e0 e1
                      dsimp only at e0 e1
                      clear hb_w6 hc_w6 hf_w6 d0 d1 e2 e3 hB6
                      go_wp2_with (at_builtin; refine wpList_push rfl (.tmp 84) (.tmp 89) 23 rfl eltP w1.heap.size (some ⟨go, 0, none⟩) k co _ rfl hown6 [_, _] rfl rfl (two_cells rfl rfl) (le_maxLen (by omega)) (by omega) hz6 ?_; intro A' c' w' hown' hg')
                      have hB7 := below_push H6.out hown6 (Nat.le_refl _) hz6 hg'
                      go_roundw
                      case rel => exact ⟨k + 1, c', A', by omega, by omega, rfl, by rw [take_gp (by rw [HLh.out]; exact HN.out.2), flat_snoc, HN.out.1]; exact hown', hB7⟩
                      case measure => simp [lenOf]; omega
                  · have hne : (x == x0) = false := beq_eq_false_iff_ne.2 (Ne.symm hxx)
                    have HNE := (fun e => hxx (by injection e with h _; exact h.symm) : ¬ (x, y) = (x0, y0))
                    have hnx : ¬ (x, y) = (x0, y0) := HNE
                    clear HNE
                    have hk1 : k ≠ Lh := fun e => hnx (by have := HS.out.2.2.2.2.2.2; rw [← hnext, e, ← HLh.out, gp_app_ge])
                    have hk2 : k < Lh := by omega
                    have hnext2 : gp Hu k = (x, y) := by rw [← hnext, gp_app_lt (by rw [HLh.out]; omega)]
                    have HN := Lib.hid (And.intro hnext2 hk2)
                    clear hk1 hnext2 hnext hnx
                    go_wp2_with fail
                    have hq_w5 := @wd_cell w5
                    refine wp_region_wd (by kernel_rfl) (by kernel_rfl) ?_
                    repeat (go_big_quiet_step ((first | (fail))))
                    refine wpQuiet_nil ?_
                    rintro w6 ⟨⟨wx, hb_w6⟩, hwx⟩
                    obtain rfl : w6 = wx := hwx
                    clear hq_w5
                    have hz_w6 := hb_w6.size
                    obtain ⟨hc_w6, hf_w6⟩ := bcell hb_w6
                    have hs_w6_0 : g < w6.heap.size := Nat.lt_of_lt_of_le (by assumption) hb_w6.size
                    have hs_w6_1 : X < w6.heap.size := Nat.lt_of_lt_of_le (by assumption) hb_w6.size
                    have hown6 := own_keepH H5.out.1 hb_w6
                    have hB6 := H5.out.2.trans (hb_w6.mono hz5)
                    have hz6 := hB6.size
                    have H6 := Lib.hid hB6
                    have hgz6 : g < w6.heap.size := by omega
                    obtain ⟨e0, e1⟩ := HC.out w6 hB6 s hlt2
                    rw [HS.out.2.2.2.2.1] at e0 e1
                    dsimp only at e0 e1
                    clear hb_w6 hc_w6 hf_w6 d0 d1 e2 e3 hB6
                    go_wp2_with (at_builtin; refine wpList_push rfl (.tmp 84) (.tmp 89) 23 rfl eltP w1.heap.size (some ⟨go, 0, none⟩) k co _ rfl hown6 [_, _] rfl rfl (two_cells rfl rfl) (le_maxLen (by omega)) (by omega) hz6 ?_; intro A' c' w' hown' hg')
                    have hB7 := below_push H6.out hown6 (Nat.le_refl _) hz6 hg'
                    go_roundw
                    case rel => exact ⟨k + 1, c', A', by omega, by omega, rfl, by rw [take_gp (by rw [HLh.out]; exact HN.out.2), flat_snoc, HN.out.1]; exact hown', hB7⟩
                    case measure => simp [lenOf]; omega
              · exfalso
                have hge3 : s = m := by omega
                have hnm : gp (Hu ++ [gp l 0]) k ∈ l := gp_app_mem HK.out.1.mem (gp_mem (by have := HK.out.2.2.2.2.2.2; omega)) (by rw [HLh.out]; omega)
                obtain ⟨t, ht, e⟩ := List.getElem_of_mem hnm
                have h1 := hall t (by have := HK.out.2.2.2.2.2.2; omega)
                rw [show gp l t = gp (Hu ++ [gp l 0]) k by unfold gp; rw [List.getElem?_eq_getElem ht, e]; rfl, HW.out.1] at h1
                cases h1
        · have hfl : Hu = [(x0, y0), (xz, yz)] := by
            have h1 := HB.out.1.1 rfl
            rw [← HK.out.2.2.2.1]
            refine HK.out.2.1 fun q hq => ?_
            obtain ⟨j, hj, e⟩ := List.getElem_of_mem hq
            have := h1 j (by have := HK.out.2.2.2.2.2.2; omega)
            rw [show gp l j = q by unfold gp; rw [List.getElem?_eq_getElem hj]; exact e] at this
            rw [HK.out.2.2.2.1]
            exact this
          subst hfl
          have HE := Lib.hid HB.out.2
          clear HB
          go_wp2_with fail
          have hB := H1.out.2.2.trans (HE.out.mono hz1)
          have hq_wr := @wd_cell wr
          refine wp_region_wd_tail 9 (by kernel_rfl) (by kernel_rfl) ?_
          simp only [List.take_succ_cons, List.take_zero, List.drop_succ_cons, List.drop_zero]
          repeat (go_big_quiet_step (fail))
          refine wpQuiet_nil ?_
          rintro w5 ⟨⟨wx, hb_w5⟩, hwx⟩
          obtain rfl : w5 = wx := hwx
          clear hq_wr
          have hz_w5 := hb_w5.size
          obtain ⟨hc_w5, hf_w5⟩ := bcell hb_w5
          have hB_w5 : Below w.heap.size w w5 := Below.trans (by go_grown) (hb_w5.mono (by go_size))
          have hs_w5_0 : g < w5.heap.size := Nat.lt_of_lt_of_le (by assumption) hb_w5.size
          have hB5 := HE.out.trans (hb_w5.mono hz)
          have hz5 := hB5.size
          have hW := hB5.alloc hz5 (.cells #[.int .i32 x0, .int .i32 y0, .int .i32 xz, .int .i32 yz] 32)
          have hown5 : (w5.alloc (.cells #[.int .i32 x0, .int .i32 y0, .int .i32 xz, .int .i32 yz] 32)).ownsRow w.heap.size 32 2 (.slice (some ⟨w5.heap.size, 0, none⟩) 2 2) 2 (flat [(x0, y0), (xz, yz)]) := own_new (Var.new _ _ _) rfl (by omega) (by unfold maxLen; omega)
          have H5 := Lib.hid (And.intro hown5 (H1.out.2.2.trans (hW.mono hz1)))
          clear hb_w5 hc_w5 hf_w5 hB5 hW hown5
          go_wp2_with fail
          go_ret
          exact ⟨_, 2, 2, rfl, rfl, H5.out⟩

end Go.Proofs.Ytcpojadinkonnaa
