/-
  The program's Normal: the one form of a ring. Printed by wip/tools/gen_norm.py.
  The program's Convex.
  The laws' own works: a square is a ring, two points are none.
-/
import Derived.Test.YthbndilnobjjgaaNormT
import Derived.Test.YthbndilnobjjgaaChkD
import Derived.Test.YthbndilnobjjgaaMeetC
namespace Go.Proofs.Ythbndilnobjjgaa
open Go.RowKit Go.Shelf

theorem chk_zero {ps : List Pt} {i j : Nat} (h : ChkIs ps (0, i, j)) : (3 ≤ ps.length ∧ ps.length ≤ 64) ∧ (∀ m, m < ps.length → InAt ps m) ∧ (∀ m, m < ps.length → DiffAt ps m) ∧ FineAt ps ps.length 0 := by
  rcases h with ⟨_, h⟩ | ⟨h1, h⟩
  · cases h
  rcases h with ⟨_, _, _, _, h⟩ | ⟨h2, h⟩
  · cases h
  rcases h with ⟨_, _, _, _, h⟩ | ⟨h3, h⟩
  · cases h
  rcases h with ⟨i, j, _, _, hne, _, h⟩ | ⟨h4, _⟩
  · injection h with h _
    exact absurd h.symm hne
  · exact ⟨h1, h2, h3, h4⟩
theorem turn_t (a b c : Pt) (ha : IPt a) (hb : IPt b) (hc : IPt c) (t : Int) (h : t6 a b c = t) (w : World) : Calls Try.prog 35 #[.agg #[.int .i32 a.1, .int .i32 a.2], .agg #[.int .i32 b.1, .int .i32 b.2], .agg #[.int .i32 c.1, .int .i32 c.2]] w fun e w' => e = .returned (.int .i64 t) ∧ Below w.heap.size w w' := by
  have H := turn_any a.1 a.2 b.1 b.2 c.1 c.2 ha.1 ha.2 hb.1 hb.2 hc.1 hc.2 w
  rw [← h]
  exact H
theorem norm_idx {k n q1 q2 : Nat} (h : k < n) (hn : n ≤ 64) (e1 : (k + n - 1) % n = q1) (e2 : (k + 1) % n = q2) :
    IntKind.i64.wrap ((k : Int) + (n : Int)) = (k : Int) + (n : Int) ∧ IntKind.i64.wrap ((k : Int) + (n : Int) - 1) = (k : Int) + (n : Int) - 1 ∧ IntKind.i64.wrap ((k : Int) + 1) = (k : Int) + 1 ∧ ((k : Int) + (n : Int) - 1).tmod (n : Int) = (q1 : Int) ∧ ((k : Int) + 1).tmod (n : Int) = (q2 : Int) ∧ q1 < n ∧ q2 < n ∧ IntKind.i64.wrap (q1 : Int) = (q1 : Int) ∧ IntKind.i64.wrap (q2 : Int) = (q2 : Int) := by
  have w : ∀ z : Int, -9223372036854775808 ≤ z → z ≤ 9223372036854775807 → IntKind.i64.wrap z = z := fun z a b => by
    simp only [IntKind.wrap, IntKind.signed, IntKind.bits]
    simp
    omega
  have l1 : q1 < n := by rw [← e1]; exact Nat.mod_lt _ (by omega)
  have l2 : q2 < n := by rw [← e2]; exact Nat.mod_lt _ (by omega)
  refine ⟨w _ (by omega) (by omega), w _ (by omega) (by omega), w _ (by omega) (by omega), ?_, ?_, l1, l2, w _ (by omega) (by omega), w _ (by omega) (by omega)⟩
  · rw [show (k : Int) + (n : Int) - 1 = ((k + n - 1 : Nat) : Int) by omega, ← Int.ofNat_tmod, e1]
  · rw [show (k : Int) + 1 = ((k + 1 : Nat) : Int) by omega, ← Int.ofNat_tmod, e2]

set_option maxHeartbeats 4000000 in
set_option maxRecDepth 100000 in
theorem normal_any (HM : MeetSays) (ps : List Pt) (hps : ∀ p ∈ ps, IPt p) (n : Nat) (hn : ps.length = n) (M c : Nat) (A : Option Addr) (w : World) (hP : PtsAt M w (.slice A n c) ps) (hM : M ≤ w.heap.size) :
    Calls Try.prog 10 #[.slice A n c] w fun e w' => (∃ r, ChkIs ps r ∧ ((r.1 ≠ 0 ∧ e = .returned (.tuple #[.slice none 0 0, .int .i64 r.1])) ∨ (r.1 = 0 ∧ ∃ A' c', e = .returned (.tuple #[.slice A' (normP ps).length c', .int .i64 0]) ∧ w'.ownsRow w.heap.size 28 2 (.slice A' (normP ps).length c') (normP ps).length (flat (normP ps))))) ∧ Below w.heap.size w w' := by
  have CK := Lib.hid (check_any HM ps hps n hn M c A w hP hM)
  go_enter Try.func10, Try.ntmps10
  show Code.wp _ (.seq _ (.seq _ (.seq _ (.seq _ (.seq _ (.seq _ (tailT Try.f10 6))))))) _ _ _
  generalize hTL : tailT Try.f10 6 = TL
  have HTL := Lib.hid hTL
  clear hTL
  go_wp2_with fail
  refine CK.out.mono ?_
  rintro e w1 ⟨⟨⟨r0, ri, rj⟩, hr, rfl⟩, hb1⟩
  dsimp only
  have HR := Lib.hid hr
  have HB1 := Lib.hid hb1
  clear hr hb1 CK
  by_cases h0 : r0 = 0
  · subst h0
    obtain ⟨⟨h3, h64⟩, hin, _⟩ := chk_zero HR.out
    rw [hn] at h3 h64
    obtain ⟨g, off, rfl, hg, hcs⟩ := pts_cells6 hP (by omega)
    have hgw : g < w.heap.size := by omega
    have HCS : Hid (∀ W', Below w.heap.size w W' → ∀ k, k < n → W'.cell? ⟨g, off + k * 2, none⟩ = some (.int .i32 (gp ps k).1) ∧ W'.cell? ⟨g, off + k * 2 + 1, none⟩ = some (.int .i32 (gp ps k).2)) := Lib.hid (fun W' hb k hk => ⟨(hb.cell (p := ⟨g, off + k * 2, none⟩) hgw).trans (hcs k (by omega)).1, (hb.cell (p := ⟨g, off + k * 2 + 1, none⟩) hgw).trans (hcs k (by omega)).2⟩)
    have AR := Lib.hid (fun W (h : Below w.heap.size w W) => area2_any ps hps n hn (by omega) M c (some ⟨g, off, none⟩) W (hP.below (h.mono hM)) (Nat.le_trans hM h.size) (fun h => by omega))
    have SG := Lib.hid (fun W => sign_any (areaP ps) (area_128 hps (by omega)) W)
    have HPS := Lib.hid (And.intro hn hps)
    have HNL : Hid ((normL ps).length = (bendsTo ps ps.length).length ∧ (normP ps).length = (normL ps).length) := Lib.hid ⟨normL_len ps, normP_len ps⟩
    have HNP : Hid (normP ps = rotF (normL ps) (firstTo (normL ps) (normL ps).length)) := Lib.hid rfl
    have HNX : Hid ((areaP ps < 0 → normL ps = (bendsTo ps ps.length).reverse) ∧ (¬ areaP ps < 0 → normL ps = bendsTo ps ps.length)) := Lib.hid ⟨fun h => by unfold normL; rw [if_pos h], fun h => by unfold normL; rw [if_neg h]⟩
    clear hin hcs hP hps hn
    go_wp2_with fail
    go_loopw [8, 27] (fun v i wr => ∃ (k m : Nat) (A' : Option Addr) (c' : Nat), k ≤ n ∧ (bendsTo ps k).length = m ∧ v = .slice A' m c' ∧ i = .int .i64 (k : Int) ∧ (m = 0 → A' = none ∧ c' = 0) ∧ wr.ownsRow w.heap.size 28 2 (.slice A' m c') m (flat (bendsTo ps k)) ∧ Below w.heap.size w wr) (fun _ i _ => n - (intOf i).toNat)
    case atStart => exact ⟨0, 0, none, 0, Nat.zero_le _, rfl, rfl, rfl, fun _ => ⟨rfl, rfl⟩, World.ownsRow_nil _ _ _ _, HB1.out⟩
    case round =>
      obtain ⟨k, m, A', c', hk, hm, rfl, rfl, hA, hown, hbel⟩ := hrel
      rcases Nat.lt_or_ge k n with hlt | hge
      · have hkI : (k : Int) < (n : Int) := by omega
        obtain ⟨q1, e1⟩ : ∃ q, (k + n - 1) % n = q := ⟨_, rfl⟩
        obtain ⟨q2, e2⟩ : ∃ q, (k + 1) % n = q := ⟨_, rfl⟩
        obtain ⟨w1', w2', w3', m1, m2, l1, l2, w4', w5'⟩ := norm_idx hlt h64 e1 e2
        have l1I : (q1 : Int) < (n : Int) := by omega
        have l2I : (q2 : Int) < (n : Int) := by omega
        have hz1 : ((n : Int) == 0) = false := by rw [beq_eq_false_iff_ne]; omega
        have hz2 : ¬ (n : Int) = 0 := by omega
        have hz3 : ¬ n = 0 := by omega
        have ck := HCS.out wr hbel k hlt
        obtain ⟨t, ht⟩ : ∃ t, t6 (gp ps q1) (gp ps k) (gp ps q2) = t := ⟨_, rfl⟩
        have TN := Lib.hid (fun W => turn_t (gp ps q1) (gp ps k) (gp ps q2) (gp_i HPS.out.2 q1) (gp_i HPS.out.2 k) (gp_i HPS.out.2 q2) t ht W)
        have HBD : Hid (bendAt ps k = !(t == 0)) := Lib.hid (by unfold bendAt; rw [HPS.out.1, e1, e2, ht])
        have HQ := Lib.hid (fun W' h => And.intro (HCS.out W' h q1 l1) (HCS.out W' h q2 l2))
        have HXK : Hid (gp ps k = gp ps k) := Lib.hid rfl
        obtain ⟨⟨x1, x2⟩, hx⟩ : ∃ x, gp ps k = x := ⟨_, rfl⟩
        obtain ⟨⟨y1, y2⟩, hy⟩ : ∃ y, gp ps q1 = y := ⟨_, rfl⟩
        obtain ⟨⟨z1, z2⟩, hz⟩ : ∃ z, gp ps q2 = z := ⟨_, rfl⟩
        rw [hx] at ck TN
        rw [hy] at TN HQ
        rw [hz] at TN HQ
        dsimp only at ck TN HQ
        obtain ⟨ck1, ck2⟩ := ck
        have HX := Lib.hid hx
        have HK := Lib.hid (And.intro hm (And.intro hA (And.intro hown hbel)))
        have hwz := hbel.size
        have hgr : g < wr.heap.size := by omega
        clear ht hx hy hz e1 e2 hm hA hown hbel HXK
        go_upto_region 9 with fail
        refine wp_gen (fun W1 hW1 => ?_)
        have hb1 : Below wr.heap.size wr W1 := by rw [hW1]; exact (Below.refl _ _).alloc (Nat.le_refl _) _
        have d0 : W1.cell? ⟨wr.heap.size, 0, none⟩ = some (.int .i32 x1) := by rw [hW1]; simp
        have d1 : W1.cell? ⟨wr.heap.size, 1, none⟩ = some (.int .i32 x2) := by rw [hW1]; simp
        have hz4 : wr.heap.size < W1.heap.size := by rw [hW1]; simp
        have hg1 : g < W1.heap.size := by omega
        obtain ⟨⟨f1, f2⟩, f3, f4⟩ := HQ.out W1 (HK.out.2.2.2.trans (hb1.mono hwz))
        have HB1' := Lib.hid hb1
        clear hW1 hb1 ck1 ck2
        have hq_W1 := @wd_cell W1
        refine wp_region_wd (by kernel_rfl) (by kernel_rfl) ?_
        repeat (go_big_quiet_step ((first | (go_at_call 35; with_reducible exact quiet_wd (TN.out _)))))
        refine wpQuiet_nil ?_
        rintro w4 ⟨⟨wx, hb_w4⟩, hwx⟩
        obtain rfl : w4 = wx := hwx
        clear hq_W1
        have hz_w4 := hb_w4.size
        obtain ⟨hc_w4, hf_w4⟩ := bcell hb_w4
        have hs_w4_0 : wr.heap.size < w4.heap.size := Nat.lt_of_lt_of_le (by assumption) hb_w4.size
        have HB4 := Lib.hid (HB1'.out.trans (hb_w4.mono HB1'.out.size))
        have g0 := (hc_w4 wr.heap.size 0 hz4).trans d0
        have g1 := (hc_w4 wr.heap.size 1 hz4).trans d1
        have hz5 : wr.heap.size < w4.heap.size := by have := hb_w4.size; omega
        clear HB1' hb_w4 f1 f2 f3 f4 d0 d1 hc_w4 hf_w4
        obtain ⟨hm, hA, hown, hbel⟩ := HK.out
        by_cases ht0 : t = 0
        · have hq : (t != 0) = false := by rw [ht0]; rfl
          have hbd := bends_no (ps := ps) (k := k) (by rw [HBD.out, ht0]; rfl)
          have hown4 := own_keepT hown HB4.out
          have hbel4 := hbel.trans (HB4.out.mono hwz)
          have H4 := Lib.hid (And.intro hown4 hbel4)
          clear hown4 hbel4 hown hbel
          go_wp2_with fail
          go_roundw
          case rel => exact ⟨k + 1, m, A', c', by omega, by rw [hbd]; exact hm, rfl, by simp, hA, by rw [hbd]; exact H4.out.1, H4.out.2⟩
          case measure => simp [intOf]; omega
        · have hq : (t != 0) = true := by simp [ht0]
          have hbd := bends_yes (ps := ps) (k := k) (by rw [HBD.out]; simp [ht0])
          rw [HX.out] at hbd
          have hml := bends_len ps k
          have hown4 := own_keepT hown HB4.out
          have hbel4 := hbel.trans (HB4.out.mono hwz)
          have hsz4 := hbel4.size
          clear hown hbel
          go_wp2_with (at_builtin; refine wpList_push rfl (.tmp 51) (.tmp 53) 23 rfl eltP w.heap.size A' m c' (flat (bendsTo ps k)) rfl hown4 [_, _] rfl rfl (two_cells rfl rfl) (le_maxLen (by omega)) (by omega) (by omega) ?_; intro A5 c5 w5 hown5 hg5)
          go_roundw
          case rel => exact ⟨k + 1, m + 1, A5, c5, by omega, by rw [hbd, List.length_append, hm]; rfl, rfl, by simp, fun h => by omega, by rw [hbd, flat_snoc]; exact hown5, below_push hbel4 hown4 (Nat.le_refl _) hsz4 hg5⟩
          case measure => simp [intOf]; omega
      · obtain rfl : k = n := by omega
        have HK := Lib.hid (And.intro hm (And.intro hA (And.intro hown hbel)))
        have hml := bends_len ps k
        clear hm hA hown hbel hk hge
        go_wp2_with fail
        refine (AR.out wr HK.out.2.2.2).mono ?_
        rintro e w5 ⟨rfl, hb5⟩
        have HB5 := Lib.hid hb5
        clear hb5
        go_wp2_with fail
        refine (SG.out _).mono ?_
        rintro e w6 ⟨rfl, hb6⟩
        have HB6 := Lib.hid (HB5.out.trans (hb6.mono HB5.out.size))
        clear hb6 HB5 AR SG
        obtain ⟨hm, hA, hown, hbel⟩ := HK.out
        have hown6 := own_keepT hown HB6.out
        have hbel6 := hbel.trans (HB6.out.mono hbel.size)
        have HN := Lib.hid hm
        have HAz := Lib.hid hA
        have hm64 : m ≤ 64 := by omega
        have hpl : (normL ps).length = m := by rw [HNL.out.1, HPS.out.1]; exact hm
        have hpl2 : (normP ps).length = m := by rw [HNL.out.2]; exact hpl
        have HPL := Lib.hid (And.intro hpl hpl2)
        clear hm hA hown hbel HK HB6 HCS hpl hpl2 HNL
        by_cases ha : areaP ps < 0
        · have hd : decide (cmpI (areaP ps) 0 < 0) = true := by simp; unfold cmpI; split <;> omega
          have hnl := HNX.out.1 ha
          have RV := Lib.hid (reverse_any (bendsTo ps k) w.heap.size A' c' m HN.out (by omega) w6 hown6)
          have H6 := Lib.hid (And.intro hown6 hbel6)
          clear ha hown6 hbel6
          go_wp2_with fail
          refine RV.out.mono ?_
          rintro e w7 ⟨⟨u, rfl⟩, hown7, hg7⟩
          have hbel7 := below_push H6.out.2 H6.out.1 (Nat.le_refl _) H6.out.2.size hg7
          have H7 := Lib.hid (And.intro hown7 hbel7)
          clear hown7 hbel7 hg7 H6 RV
          go_wp2_with fail
          rw [← HTL.out]
          refine Code.wp_mono (fun e a' w' h => ?_) (norm_tail w w7 (normL ps) A' m c' HPL.out.1 hm64 HAz.out (Lib.hid H7.out.2) (Lib.hid (by rw [hnl, HPS.out.1]; exact H7.out.1)) _ _ _ _ _ _ _ _ _ _ _ _ _ _ _ _ _ _ _ _ _ _ _ _ _ _ _ _ _ _ _ _ _ _ _ _ _ _ _ _ _ _ _ _ _ _ _ _ _ _ _ _ _ _ _ _ _ _ _ _ _ _ _ _ _ _ _ _ _ _ _ _ _ _ _ _ _ _ _ _ _ _ _ _)
          obtain ⟨rfl, hd8, ⟨A8, c8, hres, hown8⟩, hb8⟩ := h
          exact ⟨hd8, _, hres, ⟨(0, ri, rj), HR.out, .inr ⟨rfl, A8, c8, by rw [HPL.out.2], by rw [HPL.out.2, HNP.out, HPL.out.1]; exact hown8⟩⟩, hb8⟩
        · have hd : decide (cmpI (areaP ps) 0 < 0) = false := by simp; unfold cmpI; split <;> omega
          have hnl := HNX.out.2 (by omega)
          have H7 := Lib.hid (And.intro hown6 hbel6)
          clear ha hown6 hbel6
          go_wp2_with fail
          rw [← HTL.out]
          refine Code.wp_mono (fun e a' w' h => ?_) (norm_tail w w6 (normL ps) A' m c' HPL.out.1 hm64 HAz.out (Lib.hid H7.out.2) (Lib.hid (by rw [hnl, HPS.out.1]; exact H7.out.1)) _ _ _ _ _ _ _ _ _ _ _ _ _ _ _ _ _ _ _ _ _ _ _ _ _ _ _ _ _ _ _ _ _ _ _ _ _ _ _ _ _ _ _ _ _ _ _ _ _ _ _ _ _ _ _ _ _ _ _ _ _ _ _ _ _ _ _ _ _ _ _ _ _ _ _ _ _ _ _ _ _ _ _ _)
          obtain ⟨rfl, hd8, ⟨A8, c8, hres, hown8⟩, hb8⟩ := h
          exact ⟨hd8, _, hres, ⟨(0, ri, rj), HR.out, .inr ⟨rfl, A8, c8, by rw [HPL.out.2], by rw [HPL.out.2, HNP.out, HPL.out.1]; exact hown8⟩⟩, hb8⟩
  · have hne : (r0 != 0) = true := by simp [h0]
    go_wp2_with fail
    refine bodyPost_ret (by simp [results, Try.results10, go_sem, *]; try rfl) rfl ?_
    exact ⟨⟨(r0, ri, rj), HR.out, .inl ⟨h0, rfl⟩⟩, HB1.out⟩

theorem norm_ipt {ps : List Pt} (hps : ∀ p ∈ ps, IPt p) : ∀ p ∈ normP ps, IPt p := by
  have hb : ∀ p ∈ bendsTo ps ps.length, IPt p := fun p hp => by
    unfold bendsTo at hp
    obtain ⟨k, _, rfl⟩ := List.mem_map.1 hp
    exact gp_i hps k
  have hl : ∀ p ∈ normL ps, IPt p := fun p hp => by
    unfold normL at hp
    split at hp
    · exact hb p (List.mem_reverse.1 hp)
    · exact hb p hp
  intro p hp
  unfold normP rotF at hp
  rcases List.mem_append.1 hp with h | h
  · exact hl p (List.mem_of_mem_drop h)
  · exact hl p (List.mem_of_mem_take h)
theorem norm_64 {ps : List Pt} (h : ps.length ≤ 64) : (normP ps).length ≤ 64 := by
  rw [normP_len, normL_len]
  have := bends_len ps ps.length
  omega
theorem conv_idx {k n q1 q2 : Nat} (h : k < n) (hn : n ≤ 64) (e1 : (k + 1) % n = q1) (e2 : (k + 2) % n = q2) :
    IntKind.i64.wrap ((k : Int) + 2) = (k : Int) + 2 ∧ IntKind.i64.wrap ((k : Int) + 1) = (k : Int) + 1 ∧ ((k : Int) + 1).tmod (n : Int) = (q1 : Int) ∧ ((k : Int) + 2).tmod (n : Int) = (q2 : Int) ∧ q1 < n ∧ q2 < n ∧ IntKind.i64.wrap (q1 : Int) = (q1 : Int) ∧ IntKind.i64.wrap (q2 : Int) = (q2 : Int) := by
  have w : ∀ z : Int, -9223372036854775808 ≤ z → z ≤ 9223372036854775807 → IntKind.i64.wrap z = z := fun z a b => by
    simp only [IntKind.wrap, IntKind.signed, IntKind.bits]
    simp
    omega
  have l1 : q1 < n := by rw [← e1]; exact Nat.mod_lt _ (by omega)
  have l2 : q2 < n := by rw [← e2]; exact Nat.mod_lt _ (by omega)
  refine ⟨w _ (by omega) (by omega), w _ (by omega) (by omega), ?_, ?_, l1, l2, w _ (by omega) (by omega), w _ (by omega) (by omega)⟩
  · rw [show (k : Int) + 1 = ((k + 1 : Nat) : Int) by omega, ← Int.ofNat_tmod, e1]
  · rw [show (k : Int) + 2 = ((k + 2 : Nat) : Int) by omega, ← Int.ofNat_tmod, e2]

set_option maxHeartbeats 4000000 in
set_option maxRecDepth 100000 in
theorem convex_any (HM : MeetSays) (ps : List Pt) (hps : ∀ p ∈ ps, IPt p) (n : Nat) (hn : ps.length = n) (M c : Nat) (A : Option Addr) (w : World) (hP : PtsAt M w (.slice A n c) ps) (hM : M ≤ w.heap.size) :
    Calls Try.prog 13 #[.slice A n c] w fun e w' => (∃ r, ChkIs ps r ∧ e = .returned (.bool (if r.1 = 0 then convL (normP ps) else false))) ∧ Below w.heap.size w w' := by
  have NR := Lib.hid (normal_any HM ps hps n hn M c A w hP hM)
  have HI := Lib.hid (norm_ipt hps)
  have H64 : Hid (∀ {i j : Nat}, ChkIs ps (0, i, j) → (normP ps).length ≤ 64) := Lib.hid (fun h => norm_64 (chk_zero h).1.2)
  obtain ⟨L, hL⟩ : ∃ L, normP ps = L := ⟨_, rfl⟩
  rw [hL] at NR HI H64 ⊢
  clear hL hP hps
  go_enter Try.func13, Try.ntmps13
  go_wp2_with fail
  refine NR.out.mono ?_
  rintro e w1 ⟨⟨⟨r0, ri, rj⟩, hr, hcase⟩, hb1⟩
  have HR := Lib.hid hr
  have HB1 := Lib.hid hb1
  clear hr hb1 NR
  rcases hcase with ⟨h0, rfl⟩ | ⟨h0, A', c', rfl, hown⟩
  · dsimp only at h0
    have hne : (r0 != 0) = true := by simp [h0]
    go_wp2_with fail
    refine bodyPost_ret (by simp [results, Try.results13, go_sem, *]; try rfl) rfl ?_
    exact ⟨⟨(r0, ri, rj), HR.out, by rw [if_neg h0]⟩, HB1.out⟩
  · dsimp only at h0
    subst h0
    have h64 := H64.out HR.out
    obtain ⟨m, hm⟩ : ∃ m, L.length = m := ⟨_, rfl⟩
    rw [hm] at hown h64 ⊢
    have HO := Lib.hid (And.intro hm hown)
    clear hm hown H64
    have K0 : Hid (convL L = (List.range m).all (leftAt L)) := Lib.hid (by unfold convL; rw [HO.out.1])
    go_wp2_with fail
    go_loopw [17] (fun i wr => ∃ k : Nat, k ≤ m ∧ i = .int .i64 (k : Int) ∧ (∀ j, j < k → leftAt L j = true) ∧ Below w1.heap.size w1 wr) (fun i _ => m - (intOf i).toNat)
    case atStart => exact ⟨0, Nat.zero_le _, rfl, fun j hj => absurd hj (Nat.not_lt_zero _), Below.refl _ _⟩
    case round =>
      obtain ⟨k, hk, rfl, hall, hbel⟩ := hrel
      have HA := Lib.hid hall
      have hownr := own_keepT HO.out.2 hbel
      rcases Nat.lt_or_ge k m with hlt | hge
      · have hkI : (k : Int) < (m : Int) := by omega
        obtain ⟨q1, e1⟩ : ∃ q, (k + 1) % m = q := ⟨_, rfl⟩
        obtain ⟨q2, e2⟩ : ∃ q, (k + 2) % m = q := ⟨_, rfl⟩
        obtain ⟨w1', w2', m1, m2, l1, l2, w4', w5'⟩ := conv_idx hlt h64 e1 e2
        have l1I : (q1 : Int) < (m : Int) := by omega
        have l2I : (q2 : Int) < (m : Int) := by omega
        have hz1 : ((m : Int) == 0) = false := by rw [beq_eq_false_iff_ne]; omega
        have hz2 : ¬ (m : Int) = 0 := by omega
        have hz3 : ¬ m = 0 := by omega
        obtain ⟨g, rfl, hgb, hg, hfz, hc⟩ := own_cells (qs := L) hownr (by omega)
        obtain ⟨t, ht⟩ : ∃ t, t6 (gp L k) (gp L q1) (gp L q2) = t := ⟨_, rfl⟩
        have TN := Lib.hid (fun W => turn_t (gp L k) (gp L q1) (gp L q2) (gp_i HI.out k) (gp_i HI.out q1) (gp_i HI.out q2) t ht W)
        have HL : Hid (leftAt L k = decide (0 ≤ t)) := Lib.hid (by unfold leftAt; rw [HO.out.1, e1, e2, ht])
        obtain ⟨a1, a2⟩ := hc k (by rw [HO.out.1]; exact hlt)
        obtain ⟨b1, b2⟩ := hc q1 (by rw [HO.out.1]; exact l1)
        obtain ⟨d1, d2⟩ := hc q2 (by rw [HO.out.1]; exact l2)
        have HBL := Lib.hid hbel
        have hzr := hbel.size
        clear hall hbel hownr hc hfz ht e1 e2
        obtain ⟨⟨x1, x2⟩, hx⟩ : ∃ x, gp L k = x := ⟨_, rfl⟩
        obtain ⟨⟨y1, y2⟩, hy⟩ : ∃ y, gp L q1 = y := ⟨_, rfl⟩
        obtain ⟨⟨z1, z2⟩, hz⟩ : ∃ z, gp L q2 = z := ⟨_, rfl⟩
        rw [hx] at a1 a2 TN
        rw [hy] at b1 b2 TN
        rw [hz] at d1 d2 TN
        dsimp only at a1 a2 b1 b2 d1 d2 TN
        clear hx hy hz
        go_upto_region 8 with fail
        have hq_wr := @wd_cell wr
        refine wp_region_wd (by kernel_rfl) (by kernel_rfl) ?_
        repeat (go_big_quiet_step ((first | (go_at_call 35; with_reducible exact quiet_wd (TN.out _)))))
        refine wpQuiet_nil ?_
        rintro w4 ⟨⟨wx, hb_w4⟩, hwx⟩
        obtain rfl : w4 = wx := hwx
        clear hq_wr
        have hz_w4 := hb_w4.size
        obtain ⟨hc_w4, hf_w4⟩ := bcell hb_w4
        have HB4 := Lib.hid (HBL.out.trans (hb_w4.mono hzr))
        have HB0 := Lib.hid (HB1.out.trans (HB4.out.mono HB1.out.size))
        clear hb_w4 HBL
        by_cases ht0 : t < 0
        · have hd : decide (t < 0) = true := by simp [ht0]
          have hf : leftAt L k = false := by rw [HL.out]; simp; omega
          go_wp2_with fail
          refine bodyPost_ret (by simp [results, Try.results13, go_sem, *]; try rfl) rfl ?_
          exact ⟨⟨(0, ri, rj), HR.out, by rw [if_pos rfl, K0.out, all_not hlt hf]⟩, HB0.out⟩
        · have hd : decide (t < 0) = false := by simp; omega
          have hf : leftAt L k = true := by rw [HL.out]; simp; omega
          go_wp2_with fail
          go_roundw
          case rel => exact ⟨k + 1, by omega, by simp, fun j hj => by
            rcases Nat.lt_or_ge j k with h | h
            · exact HA.out j h
            · obtain rfl : j = k := by omega
              exact hf, HB4.out⟩
          case measure => simp [intOf]; omega
      · obtain rfl : k = m := by omega
        have HB0 := Lib.hid (HB1.out.trans (hbel.mono HB1.out.size))
        clear hall hbel hownr
        go_wp2_with fail
        refine bodyPost_ret (by simp [results, Try.results13, go_sem, *]; try rfl) rfl ?_
        exact ⟨⟨(0, ri, rj), HR.out, by rw [if_pos rfl, K0.out, all_range HA.out]⟩, HB0.out⟩

def sqP : List Pt := [(0, 0), (2, 0), (2, 2), (0, 2)]
def sqQ : List Pt := [(0, 0), (2, 0)]
theorem sq_fine : ∀ j, j < 4 → ∀ i, i < j → pairF sqP i j = 0 := by decide +kernel
theorem sq_chk : ChkIs sqP (0, 0, 0) := by
  refine .inr ⟨⟨by decide, by decide⟩, .inr ⟨fun m hm => ?_, .inr ⟨fun m hm => ?_, .inr ⟨fun i j hij hj _ => ?_, rfl⟩⟩⟩⟩
  · have : ∀ m, m < 4 → inP (gp sqP m) = true := by decide +kernel
    exact this m hm
  · have : ∀ m, m < 4 → gp sqP m ≠ gp sqP ((m + 1) % 4) := by decide +kernel
    exact this m hm
  · exact sq_fine j hj i hij
theorem sq_chk2 : ChkIs sqQ (60, 0, 0) := .inl ⟨.inl (by decide), rfl⟩
theorem sq_area : areaP sqP = 8 := by decide +kernel
theorem sq_conv : convL (normP sqP) = true := by decide +kernel
theorem sq_ipt : ∀ p ∈ sqP, IPt p := fun p hp => by
  simp only [sqP, List.mem_cons, List.not_mem_nil, or_false] at hp
  rcases hp with rfl | rfl | rfl | rfl <;> (unfold IPt I32; decide)
theorem sq_ipt2 : ∀ p ∈ sqQ, IPt p := fun p hp => by
  simp only [sqQ, List.mem_cons, List.not_mem_nil, or_false] at hp
  rcases hp with rfl | rfl <;> (unfold IPt I32; decide)
theorem sq_pts {W : World} {g : Nat} (h : Var W g 28 #[.int .i32 0, .int .i32 0, .int .i32 2, .int .i32 0, .int .i32 2, .int .i32 2, .int .i32 0, .int .i32 2]) :
    PtsAt W.heap.size W (.slice (some ⟨g, 0, none⟩) 4 4) sqP ∧ PtsAt W.heap.size W (.slice (some ⟨g, 0, none⟩) 2 4) sqQ := by
  constructor
  · refine .inr ⟨g, 0, 4, rfl, h.lt, fun j hj => ?_⟩
    have hj' : j < 4 := hj
    rcases (show j = 0 ∨ j = 1 ∨ j = 2 ∨ j = 3 by omega) with rfl | rfl | rfl | rfl
    · exact ⟨h.cell 0, h.cell 1⟩
    · exact ⟨h.cell 2, h.cell 3⟩
    · exact ⟨h.cell 4, h.cell 5⟩
    · exact ⟨h.cell 6, h.cell 7⟩
  · refine .inr ⟨g, 0, 4, rfl, h.lt, fun j hj => ?_⟩
    have hj' : j < 2 := hj
    rcases (show j = 0 ∨ j = 1 by omega) with rfl | rfl
    · exact ⟨h.cell 0, h.cell 1⟩
    · exact ⟨h.cell 2, h.cell 3⟩

set_option maxHeartbeats 2000000 in
set_option maxRecDepth 100000 in
theorem works6_any (HM : MeetSays) (w : World) : Calls Try.prog 9 #[] w fun e w' => e = .returned (.bool true) ∧ Below w.heap.size w w' := by
  have C1 := Lib.hid (fun A W (h : PtsAt W.heap.size W (.slice A 4 4) sqP) => check_any HM sqP sq_ipt 4 rfl W.heap.size 4 A W h (Nat.le_refl _))
  have C2 := Lib.hid (fun A W (h : PtsAt W.heap.size W (.slice A 2 4) sqQ) => check_any HM sqQ sq_ipt2 2 rfl W.heap.size 4 A W h (Nat.le_refl _))
  have AR := Lib.hid (fun A W (h : PtsAt W.heap.size W (.slice A 4 4) sqP) => by have z := area2_any sqP sq_ipt 4 rfl (by omega) W.heap.size 4 A W h (Nat.le_refl _) (fun h => by omega); rw [sq_area, show hi64 8 = 0 by decide +kernel, show lo64 8 = 8 by decide +kernel] at z; exact z)
  have CV := Lib.hid (fun A W (h : PtsAt W.heap.size W (.slice A 4 4) sqP) => convex_any HM sqP sq_ipt 4 rfl W.heap.size 4 A W h (Nat.le_refl _))
  clear HM
  go_enter Try.func9, Try.ntmps9
  go_upto_region 2 with fail
  refine wp_gen (fun W hW => ?_)
  have vV : Hid (Var W w.heap.size 28 #[.int .i32 0, .int .i32 0, .int .i32 2, .int .i32 0, .int .i32 2, .int .i32 2, .int .i32 0, .int .i32 2]) := Lib.hid (by rw [hW]; exact Var.new _ _ _)
  have HB : Hid (Below w.heap.size w W) := Lib.hid (by rw [hW]; go_grown)
  clear hW
  obtain ⟨g, hg⟩ : ∃ g, w.heap.size = g := ⟨_, rfl⟩
  rw [hg] at vV ⊢
  have HG := Lib.hid hg
  clear hg
  go_wp2_with fail
  refine (C1.out _ _ (sq_pts vV.out).1).mono ?_
  rintro e w1 ⟨⟨r, hr, rfl⟩, hb⟩
  obtain rfl := chk_one hr sq_chk
  have vV := Lib.hid (vV.out.keep hb)
  have HB := Lib.hid (HB.out.trans (hb.mono HB.out.size))
  clear hr hb C1
  dsimp only
  go_wp2_with fail
  refine (C2.out _ _ (sq_pts vV.out).2).mono ?_
  rintro e w2 ⟨⟨r, hr, rfl⟩, hb⟩
  obtain rfl := chk_one hr sq_chk2
  have vV := Lib.hid (vV.out.keep hb)
  have HB := Lib.hid (HB.out.trans (hb.mono HB.out.size))
  clear hr hb C2
  dsimp only
  go_wp2_with fail
  refine (AR.out _ _ (sq_pts vV.out).1).mono ?_
  rintro e w3 ⟨rfl, hb⟩
  have vV := Lib.hid (vV.out.keep hb)
  have HB := Lib.hid (HB.out.trans (hb.mono HB.out.size))
  clear hb AR
  go_wp2_with fail
  refine (CV.out _ _ (sq_pts vV.out).1).mono ?_
  rintro e w4 ⟨⟨r, hr, rfl⟩, hb⟩
  obtain rfl := chk_one hr sq_chk
  have HB := Lib.hid (HB.out.trans (hb.mono HB.out.size))
  clear hr hb CV
  rw [if_pos rfl, sq_conv]
  go_wp2_with fail
  refine bodyPost_ret (by simp [results, Try.results9, go_sem, *]; try rfl) rfl ?_
  exact ⟨rfl, by first | exact HB.out | (rw [HG.out]; exact HB.out)⟩

end Go.Proofs.Ythbndilnobjjgaa
