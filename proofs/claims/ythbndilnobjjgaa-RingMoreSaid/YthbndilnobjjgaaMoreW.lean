/-
  RingMore: the law's body.
  RingMore: the walk.
-/
import Derived.Test.YthbndilnobjjgaaMoreN
import Derived.Test.YthbndilnobjjgaaSame6
import Derived.Test.YthbndilnobjjgaaMeetC
namespace Go.Proofs.Ythbndilnobjjgaa
open Go.RowKit Go.Shelf

/-- The first k points, m put in behind the q-th. -/
def insTo (ps : List Pt) (q : Nat) (m : Pt) : Nat → List Pt
  | 0 => []
  | k + 1 => if k = q then insTo ps q m k ++ [gp ps k] ++ [m] else insTo ps q m k ++ [gp ps k]
theorem ins_len (ps : List Pt) (q : Nat) (m : Pt) : ∀ k, (insTo ps q m k).length = if k ≤ q then k else k + 1
  | 0 => by rw [if_pos (Nat.zero_le _)]; rfl
  | k + 1 => by
    have ih := ins_len ps q m k
    unfold insTo
    split <;> split at ih <;> split <;> simp only [List.length_append, List.length_cons, List.length_nil] <;> omega
theorem ins_at (ps : List Pt) (q : Nat) (m : Pt) : ∀ k j, j < (insTo ps q m k).length → gp (insTo ps q m k) j = if j ≤ q then gp ps j else if j = q + 1 then m else gp ps (j - 1)
  | 0, j, h => absurd h (Nat.not_lt_zero _)
  | k + 1, j, h => by
    have ih := ins_at ps q m k j
    have hl := ins_len ps q m k
    unfold insTo at h ⊢
    by_cases hk : k = q
    · rw [if_pos hk] at h ⊢
      rw [if_pos (by omega)] at hl
      simp only [List.length_append, List.length_cons, List.length_nil] at h
      rcases Nat.lt_trichotomy j k with c | c | c
      · rw [gp_snoc_lt (by simp; omega), gp_snoc_lt (by omega)]; exact ih (by omega)
      · rw [gp_snoc_lt (by simp; omega), gp_snoc_eq (by omega), if_pos (by omega), c]
      · rw [gp_snoc_eq (by simp; omega), if_neg (by omega), if_pos (by omega)]
    · rw [if_neg hk] at h ⊢
      simp only [List.length_append, List.length_cons, List.length_nil] at h
      rcases Nat.lt_or_ge j (insTo ps q m k).length with c | c
      · rw [gp_snoc_lt c]; exact ih c
      · rw [gp_snoc_eq (by omega)]
        split at hl
        · rw [if_pos (by omega), show j = k by omega]
        · rw [if_neg (by omega), if_neg (by omega), show j - 1 = k by omega]
theorem ins_is {ps : List Pt} {n q : Nat} {m : Pt} (hn : ps.length = n) (h3 : 3 ≤ n) (hq : q < n) (hm : Mid (gp ps q) (nx ps q) m) : Ins ps (insTo ps q m n) n q m := by
  have hl := ins_len ps q m n
  rw [if_neg (by omega)] at hl
  refine ⟨h3, hq, hn, hl, fun k hk => ?_, ?_, fun k hk hk2 => ?_, hm⟩
  · rw [ins_at ps q m n k (by omega), if_pos hk]
  · rw [ins_at ps q m n (q + 1) (by omega), if_neg (by omega), if_pos rfl]
  · rw [ins_at ps q m n k (by omega), if_neg (by omega), if_neg (by omega)]
theorem ins_ipt {ps : List Pt} {q : Nat} {m : Pt} (hps : ∀ p ∈ ps, IPt p) (hm : IPt m) : ∀ k, ∀ p ∈ insTo ps q m k, IPt p
  | 0, p, h => by cases h
  | k + 1, p, h => by
    have ih := ins_ipt (q := q) hps hm k
    unfold insTo at h
    split at h
    · rcases List.mem_append.1 h with h | h
      · rcases List.mem_append.1 h with h | h
        · exact ih p h
        · rw [List.mem_singleton.1 h]; exact gp_i hps k
      · rw [List.mem_singleton.1 h]; exact hm
    · rcases List.mem_append.1 h with h | h
      · exact ih p h
      · rw [List.mem_singleton.1 h]; exact gp_i hps k
theorem w64 {z : Int} (a : -9223372036854775808 ≤ z) (b : z ≤ 9223372036854775807) : IntKind.i64.wrap z = z := by
  simp only [IntKind.wrap, IntKind.signed, IntKind.bits]
  simp
  omega
theorem w32 {z : Int} (a : -2147483648 ≤ z) (b : z ≤ 2147483647) : IntKind.i32.wrap z = z := by
  simp only [IntKind.wrap, IntKind.signed, IntKind.bits]
  simp
  omega
theorem more_idx (z : Int) {n : Nat} (h0 : 0 < n) (hn : n ≤ 64) : ∃ (y : Int) (q q2 : Nat), z.tmod (n : Int) = y ∧ IntKind.i64.wrap y = y ∧ IntKind.i64.wrap (y + (n : Int)) = y + (n : Int) ∧ (y + (n : Int)).tmod (n : Int) = (q : Int) ∧ IntKind.i64.wrap (q : Int) = (q : Int) ∧ q < n ∧ IntKind.i64.wrap ((q : Int) + 1) = (q : Int) + 1 ∧ ((q : Int) + 1).tmod (n : Int) = (q2 : Int) ∧ IntKind.i64.wrap (q2 : Int) = (q2 : Int) ∧ q2 < n ∧ (q + 1) % n = q2 := by
  have hb1 := Int.tmod_lt_of_pos z (show (0 : Int) < (n : Int) by omega)
  have hb2 : -(n : Int) < z.tmod (n : Int) := by
    have := Int.tmod_lt_of_pos (-z) (show (0 : Int) < (n : Int) by omega)
    rw [Int.neg_tmod] at this
    omega
  obtain ⟨y, hy⟩ : ∃ y, z.tmod (n : Int) = y := ⟨_, rfl⟩
  rw [hy] at hb1 hb2
  obtain ⟨s, hs⟩ : ∃ s : Nat, y + (n : Int) = (s : Int) := ⟨(y + (n : Int)).toNat, by omega⟩
  have hq : s % n < n := Nat.mod_lt _ h0
  have hq2 : (s % n + 1) % n < n := Nat.mod_lt _ h0
  refine ⟨y, s % n, (s % n + 1) % n, hy, w64 (by omega) (by omega), w64 (by omega) (by omega), by rw [hs, ← Int.ofNat_tmod], w64 (by omega) (by omega), hq, w64 (by omega) (by omega), ?_, w64 (by omega) (by omega), hq2, rfl⟩
  rw [show ((s % n : Nat) : Int) + 1 = ((s % n + 1 : Nat) : Int) by omega, ← Int.ofNat_tmod]
/-- Halves: of a sum of two numbers of the lattice. -/
theorem half_of {x y : Int} (hx : -1073741823 ≤ x ∧ x ≤ 1073741823) (hy : -1073741823 ≤ y ∧ y ≤ 1073741823) : ∃ u h o : Int, x + y = u ∧ IntKind.i64.wrap x = x ∧ IntKind.i64.wrap y = y ∧ IntKind.i64.wrap u = u ∧ u.tdiv 2 = h ∧ u.tmod 2 = o ∧ IntKind.i64.wrap h = h ∧ IntKind.i64.wrap o = o ∧ IntKind.i32.wrap h = h ∧ (o = 0 → 2 * h = x + y) ∧ I32 h := by
  obtain ⟨u, hu⟩ : ∃ u, x + y = u := ⟨_, rfl⟩
  obtain ⟨h, hh⟩ : ∃ h, u.tdiv 2 = h := ⟨_, rfl⟩
  obtain ⟨o, ho⟩ : ∃ o, u.tmod 2 = o := ⟨_, rfl⟩
  have e := Int.mul_tdiv_add_tmod u 2
  rw [hh, ho] at e
  have b1 := Int.tmod_lt_of_pos u (show (0 : Int) < 2 by omega)
  have b2 := Int.tmod_lt_of_pos (-u) (show (0 : Int) < 2 by omega)
  rw [Int.neg_tmod] at b2
  rw [ho] at b1 b2
  refine ⟨u, h, o, hu, w64 (by omega) (by omega), w64 (by omega) (by omega), w64 (by omega) (by omega), hh, ho, w64 (by omega) (by omega), w64 (by omega) (by omega), w32 (by omega) (by omega), fun h0 => by omega, ?_⟩
  unfold I32
  omega

theorem ptsAt_mono {M M' : Nat} {W : World} {sv : Value} {ps : List Pt} (h : M ≤ M') : PtsAt M W sv ps → PtsAt M' W sv ps
  | .inl e => .inl e
  | .inr ⟨b, off, cap, e, hb, hc⟩ => .inr ⟨b, off, cap, e, Nat.lt_of_lt_of_le hb h, hc⟩

set_option maxHeartbeats 4000000 in
set_option maxRecDepth 100000 in
theorem ringMore_core (w : World) (A : Option Addr) (n c : Nat) (ps : List Pt) (hps : ∀ p ∈ ps, IPt p) (z : Int) (hn : ps.length = n) (_ : ps.length * 8 ≤ 140737488351232) (hI : PtsAt w.heap.size w (.slice A n c) ps) :
    Calls Try.prog 4 #[.slice A n c, .int .i64 z] w fun e w' => e = .returned (.bool true) ∧ Below w.heap.size w w' := by
  have CK := Lib.hid (check_any meet_says ps hps n hn w.heap.size c A w hI (Nat.le_refl _))
  have WK := Lib.hid (fun W => works6_any meet_says W)
  have HP := Lib.hid (And.intro hn (And.intro hps hI))
  clear hps hn hI
  go_enter Try.func4, Try.ntmps4
  go_wp2_with fail
  refine CK.out.mono ?_
  rintro e w1 ⟨⟨⟨r0, ri, rj⟩, hr, rfl⟩, hb1⟩
  dsimp only
  have HR := Lib.hid hr
  have HB1 := Lib.hid hb1
  clear hr hb1 CK
  by_cases h0 : r0 = 0
  · subst h0
    obtain ⟨⟨h3, h64⟩, hin, hdi, _⟩ := chk_zero HR.out
    obtain ⟨hn, hps, hI⟩ := HP.out
    rw [hn] at h3 h64
    by_cases h63 : 64 ≤ n
    · have h63I : (64 : Int) ≤ (n : Int) := by omega
      clear hin hdi hn hps hI
      go_wp2_with fail
      refine (WK.out _).mono ?_
      rintro e w2 ⟨rfl, hb2⟩
      have HB2 := Lib.hid (HB1.out.trans (hb2.mono HB1.out.size))
      clear hb2
      go_wp2_with fail
      refine bodyPost_ret (by simp [results, Try.results4, go_sem, *]; try rfl) rfl ?_
      exact ⟨rfl, HB2.out⟩
    have h63I : ¬ (64 : Int) ≤ (n : Int) := by omega
    obtain ⟨g, off, rfl, hg, hcs⟩ := pts_cells6 hI (by omega)
    obtain ⟨y, q, q2, e1, v1, v2, e2, v3, hq, v4, e3, v5, hq2, e4⟩ := more_idx z (show 0 < n by omega) h64
    have ha1 := hin q (by omega)
    have hb1 := hin q2 (by omega)
    unfold InAt inP at ha1 hb1
    rw [decide_eq_true_eq] at ha1 hb1
    obtain ⟨u1, m1, o1, p1, p2, p3, p4, p5, p6, p7, p8, p9, p10, p11⟩ := half_of ha1.1 hb1.1
    obtain ⟨u2, m2, o2, s1, s2, s3, s4, s5, s6, s7, s8, s9, s10, s11⟩ := half_of ha1.2 hb1.2
    have hnx : nx ps q = gp ps q2 := by unfold nx; rw [hn, e4]
    have HM : Hid (o1 = 0 → o2 = 0 → Mid (gp ps q) (nx ps q) (m1, m2)) := Lib.hid (fun a b => by rw [hnx]; exact ⟨p10 a, s10 b⟩)
    have HI : Hid (I32 m1 ∧ I32 m2) := Lib.hid ⟨p11, s11⟩
    have cq := hcs q (by omega)
    have cq2 := hcs q2 (by omega)
    obtain ⟨⟨x1, x2⟩, hx⟩ : ∃ x, gp ps q = x := ⟨_, rfl⟩
    obtain ⟨⟨y1, y2⟩, hy⟩ : ∃ x, gp ps q2 = x := ⟨_, rfl⟩
    rw [hx] at cq p1 p2 s1 s2
    rw [hy] at cq2 p1 p3 s1 s3
    dsimp only at cq cq2 p1 p2 p3 s1 s2 s3
    have ck1 := (HB1.out.cell (p := ⟨g, off + q * 2, none⟩) hg).trans cq.1
    have ck2 := (HB1.out.cell (p := ⟨g, off + q * 2 + 1, none⟩) hg).trans cq.2
    have ck3 := (HB1.out.cell (p := ⟨g, off + q2 * 2, none⟩) hg).trans cq2.1
    have ck4 := (HB1.out.cell (p := ⟨g, off + q2 * 2 + 1, none⟩) hg).trans cq2.2
    have hg1 : g < w1.heap.size := by have := HB1.out.size; omega
    have HCS := Lib.hid (And.intro hg hcs)
    have hqI : (q : Int) < (n : Int) := by omega
    have hq2I : (q2 : Int) < (n : Int) := by omega
    have hz1 : ((n : Int) == 0) = false := by rw [beq_eq_false_iff_ne]; omega
    have hz2 : ¬ (n : Int) = 0 := by omega
    have hz3 : ¬ n = 0 := by omega
    clear hin hdi hn hps hI hcs ha1 hb1 p10 p11 s10 s11 hnx hx hy cq cq2 e4
    go_upto_region 11 with fail
    refine wp_gen (fun W2 hW2 => ?_)
    have hb2 : Below w1.heap.size w1 W2 := by rw [hW2]; exact (((Below.refl _ _).alloc (Nat.le_refl _) _).alloc (by simp) _).alloc (by simp; omega) _
    have vM := Lib.hid (show Var W2 (w1.heap.size + 1 + 1) 28 #[.int .i32 m1, .int .i32 m2] by rw [hW2]; have := Var.new ((w1.alloc (Obj.cells #[Value.int IntKind.i32 x1, Value.int IntKind.i32 x2] 28)).alloc (Obj.cells #[Value.int IntKind.i32 y1, Value.int IntKind.i32 y2] 28)) 28 #[.int .i32 m1, .int .i32 m2]; simpa using this)
    have HB2 := Lib.hid (HB1.out.trans (hb2.mono HB1.out.size))
    have hbl : w1.heap.size + 1 + 1 < W2.heap.size := by rw [hW2]; simp
    obtain ⟨b, hb⟩ : ∃ b, w1.heap.size + 1 + 1 = b := ⟨_, rfl⟩
    rw [hb] at vM hbl ⊢
    clear hW2 hb hb2 ck1 ck2 ck3 ck4 e1 v1 v2 e2 p1 p2 p3 p4 p5 p7 p9 s1 s2 s3 s4 s5 s7 s9 HB1 v5 e3 hq2I hq2 hz1 hz2 hz3 hg1
    rcases (Decidable.em (o1 = 0)).symm with ho1 | ho1
    · have ho : (o1 != 0) = true := by simp [ho1]
      clear HM HI HCS HP
      go_wp2_with fail
      refine (WK.out _).mono ?_
      rintro e w3 ⟨rfl, hb3⟩
      have HB3 := Lib.hid (HB2.out.trans (hb3.mono HB2.out.size))
      clear hb3
      go_wp2_with fail
      refine bodyPost_ret (by simp [results, Try.results4, go_sem, *]; try rfl) rfl ?_
      exact ⟨rfl, HB3.out⟩
    · rcases (Decidable.em (o2 = 0)).symm with ho2 | ho2
      · have ho : (o2 != 0) = true := by simp [ho2]
        subst ho1
        clear HM HI HCS HP
        go_wp2_with fail
        refine (WK.out _).mono ?_
        rintro e w3 ⟨rfl, hb3⟩
        have HB3 := Lib.hid (HB2.out.trans (hb3.mono HB2.out.size))
        clear hb3
        go_wp2_with fail
        refine bodyPost_ret (by simp [results, Try.results4, go_sem, *]; try rfl) rfl ?_
        exact ⟨rfl, HB3.out⟩
      · subst ho1 ho2
        have HS := Lib.hid (HM.out rfl rfl)
        clear HM
        go_wp2_with fail
        have HPS := Lib.hid (And.intro HP.out.1 HP.out.2.1)
        have HC : Hid (∀ W, Below W2.heap.size W2 W → ∀ k, k < n → W.cell? ⟨g, off + k * 2, none⟩ = some (.int .i32 (gp ps k).1) ∧ W.cell? ⟨g, off + k * 2 + 1, none⟩ = some (.int .i32 (gp ps k).2)) := Lib.hid (fun W hbW k hk => by
          have hw := HB2.out.trans (hbW.mono HB2.out.size)
          have c0 := HCS.out.2 k (by rw [HP.out.1]; exact hk)
          exact ⟨(hw.cell (p := ⟨g, off + k * 2, none⟩) HCS.out.1).trans c0.1, (hw.cell (p := ⟨g, off + k * 2 + 1, none⟩) HCS.out.1).trans c0.2⟩)
        have hgw2 : g < W2.heap.size := by have := HB2.out.size; have := HCS.out.1; omega
        clear p6 p8 s6 s8 HCS
        go_loopw [14, 15] (fun v i wr => ∃ (k l : Nat) (A' : Option Addr) (c' : Nat), k ≤ n ∧ (insTo ps q (m1, m2) k).length = l ∧ v = .slice A' l c' ∧ i = .int .i64 (k : Int) ∧ (l = 0 → A' = none ∧ c' = 0) ∧ wr.ownsRow W2.heap.size 28 2 (.slice A' l c') l (flat (insTo ps q (m1, m2) k)) ∧ Below W2.heap.size W2 wr) (fun _ i _ => n - (intOf i).toNat)
        case atStart => exact ⟨0, 0, none, 0, Nat.zero_le _, rfl, rfl, rfl, fun _ => ⟨rfl, rfl⟩, World.ownsRow_nil _ _ _ _, Below.refl _ _⟩
        case round =>
          obtain ⟨k, l, A', c', hk, hl, rfl, rfl, hA, hown, hbel⟩ := hrel
          have hll := ins_len ps q (m1, m2) k
          have hl64 : l ≤ 65 := by rw [hl] at hll; split at hll <;> omega
          rcases Nat.lt_or_ge k n with hlt | hge
          · have hkI : (k : Int) < (n : Int) := by omega
            obtain ⟨ck1, ck2⟩ := HC.out wr hbel k hlt
            have hwk : IntKind.i64.wrap ((k : Int) + 1) = (k : Int) + 1 := w64 (by omega) (by omega)
            have hgr : g < wr.heap.size := by have := hbel.size; omega
            obtain ⟨⟨x, y'⟩, hx⟩ : ∃ x, gp ps k = x := ⟨_, rfl⟩
            rw [hx] at ck1 ck2
            dsimp only at ck1 ck2
            have hsz := hbel.size
            clear hll
            by_cases hkq : k = q
            · subst hkq
              have hin1 : insTo ps k (m1, m2) (k + 1) = insTo ps k (m1, m2) k ++ [(x, y')] ++ [(m1, m2)] := by rw [← hx]; exact if_pos rfl
              clear hx
              go_wp2_with first
                | (at_builtin; refine wpList_push rfl (.tmp 102) (.tmp 104) 23 rfl eltP W2.heap.size A5 (l + 1) c5 (flat (insTo ps k (m1, m2) k) ++ [.int .i32 x, .int .i32 y']) rfl hown5 [_, _] rfl rfl (two_cells rfl rfl) (le_maxLen (by omega)) (by omega) (by omega) ?_; intro A6 c6 w6 hown6 hg6)
                | (at_builtin; refine wpList_push rfl (.tmp 92) (.tmp 97) 23 rfl eltP W2.heap.size A' l c' (flat (insTo ps k (m1, m2) k)) rfl hown [_, _] rfl rfl (two_cells rfl rfl) (le_maxLen (by omega)) (by omega) (by omega) ?_; intro A5 c5 w5 hown5 hg5; have hbel5 := below_push hbel hown (Nat.le_refl _) hsz hg5; have d0 : w5.cell? ⟨b, 0, none⟩ = some (.int .i32 m1) := (vM.out.keep hbel5).cell 0; have d1 : w5.cell? ⟨b, 1, none⟩ = some (.int .i32 m2) := (vM.out.keep hbel5).cell 1; have hsz5 := hbel5.size; have hb5 : b < w5.heap.size := by omega)
              go_roundw
              case rel => exact ⟨k + 1, l + 2, A6, c6, by omega, by rw [hin1, List.length_append, List.length_append, hl]; rfl, rfl, by simp, fun h => by omega, by rw [hin1, flat_snoc, flat_snoc]; exact hown6, below_push hbel5 hown5 (Nat.le_refl _) hbel5.size hg6⟩
              case measure => simp [intOf]; omega
            · have hkq2 : ((k : Int) == (q : Int)) = false := by rw [beq_eq_false_iff_ne]; omega
              have hin1 : insTo ps q (m1, m2) (k + 1) = insTo ps q (m1, m2) k ++ [(x, y')] := by rw [← hx]; exact if_neg hkq
              clear hx
              go_wp2_with (at_builtin; refine wpList_push rfl (.tmp 92) (.tmp 97) 23 rfl eltP W2.heap.size A' l c' (flat (insTo ps q (m1, m2) k)) rfl hown [_, _] rfl rfl (two_cells rfl rfl) (le_maxLen (by omega)) (by omega) (by omega) ?_; intro A5 c5 w5 hown5 hg5)
              go_roundw
              case rel => exact ⟨k + 1, l + 1, A5, c5, by omega, by rw [hin1, List.length_append, hl]; rfl, rfl, by simp, fun h => by omega, by rw [hin1, flat_snoc]; exact hown5, below_push hbel hown (Nat.le_refl _) hsz hg5⟩
              case measure => simp [intOf]; omega
          · obtain rfl : k = n := by omega
            rw [if_neg (by omega)] at hll
            obtain rfl : l = k + 1 := by omega
            obtain ⟨hn, hps⟩ := HPS.out
            have II := ins_is hn h3 hq HS.out
            obtain ⟨ws, hws⟩ : ∃ ws, insTo ps q (m1, m2) k = ws := ⟨_, rfl⟩
            rw [hws] at hl hown II
            have hwi : ∀ p ∈ ws, IPt p := by rw [← hws]; exact ins_ipt hps (show IPt (m1, m2) from HI.out) k
            have PV : PtsAt w.heap.size wr (.slice (some ⟨g, off, none⟩) k c) ps := HP.out.2.2.below (HB2.out.trans (hbel.mono HB2.out.size))
            have PW : PtsAt wr.heap.size wr (.slice A' (k + 1) c') ws := ptsAt_of_own hown hl
            have HBr := Lib.hid (HB2.out.trans (hbel.mono HB2.out.size))
            have hsr := HBr.out.size
            have hwh := II.whole (by omega) HR.out
            have hnm := II.norm
            have har := II.area
            have CK2 := Lib.hid (check_any meet_says ws hwi (k + 1) hl wr.heap.size c' A' wr PW (Nat.le_refl _))
            have NV := Lib.hid (fun W (h : Below wr.heap.size wr W) => normal_any meet_says ps hps k hn w.heap.size c (some ⟨g, off, none⟩) W (PV.below (h.mono hsr)) (Nat.le_trans hsr h.size))
            have NW := Lib.hid (fun W (h : Below wr.heap.size wr W) => normal_any meet_says ws hwi (k + 1) hl wr.heap.size c' A' W (PW.below h) h.size)
            have AV := Lib.hid (fun W (h : Below wr.heap.size wr W) => area2_any ps hps k hn (by omega) w.heap.size c (some ⟨g, off, none⟩) W (PV.below (h.mono hsr)) (Nat.le_trans hsr h.size) (fun h => by omega))
            have AW := Lib.hid (fun W (h : Below wr.heap.size wr W) => area2_any ws hwi (k + 1) hl (by omega) wr.heap.size c' A' W (PW.below h) h.size (fun h => by omega))
            have CV := Lib.hid (fun W (h : Below wr.heap.size wr W) => convex_any meet_says ps hps k hn w.heap.size c (some ⟨g, off, none⟩) W (PV.below (h.mono hsr)) (Nat.le_trans hsr h.size))
            have CW := Lib.hid (fun W (h : Below wr.heap.size wr W) => convex_any meet_says ws hwi (k + 1) hl wr.heap.size c' A' W (PW.below h) h.size)
            obtain ⟨N, hN⟩ : ∃ N, normP ps = N := ⟨_, rfl⟩
            have hN64 : N.length ≤ 64 := by rw [← hN]; exact norm_64 (by omega)
            rw [har] at AW
            rw [hnm] at NW CW
            rw [hN] at NV NW CV CW
            obtain ⟨H, hH⟩ : ∃ H, hi64 (areaP ps) = H := ⟨_, rfl⟩
            obtain ⟨L, hL⟩ : ∃ H, lo64 (areaP ps) = H := ⟨_, rfl⟩
            obtain ⟨T, hT⟩ : ∃ T, convL N = T := ⟨_, rfl⟩
            rw [hH, hL] at AV AW
            rw [hT] at CV CW
            obtain ⟨m, hm⟩ : ∃ m, N.length = m := ⟨_, rfl⟩
            rw [hm] at NV NW hN64
            have SM := Lib.hid (fun X Y cx cy W (h1 : PtsAt W.heap.size W (.slice X m cx) N) (h2 : PtsAt W.heap.size W (.slice Y m cy) N) => by have z := same06_is X Y m m cx cy N N W.heap.size hm hm (by omega) W (Nat.le_refl _) h1 h2; rw [decide_eq_true (show N = N from rfl)] at z; exact z)
            have HH := Lib.hid (And.intro HR.out (And.intro hwh hm))
            clear hws hwi PV PW hps hn II hown hbel hl hnm har hN hH hL hT hwh HP HPS HS HI vM HC hbl HR hm hA hll hl64 hge hk HB2
            go_wp2_with fail
            refine CK2.out.mono ?_
            rintro e w3 ⟨⟨r, hr, rfl⟩, hb3⟩
            obtain rfl := chk_one hr HH.out.2.1
            have H3 := Lib.hid hb3
            clear hr hb3 CK2
            dsimp only
            go_wp2_with fail
            refine (NV.out _ H3.out).mono ?_
            rintro e w4 ⟨⟨r, hr, hcase⟩, hb4⟩
            obtain rfl := chk_one hr HH.out.1
            rcases hcase with ⟨hx, _⟩ | ⟨_, X, cx, rfl, hox⟩
            · exact absurd rfl hx
            have OX := Lib.hid (ptsAt_of_own hox HH.out.2.2)
            have H4 := Lib.hid (H3.out.trans (hb4.mono H3.out.size))
            clear hr hb4 NV H3 hox
            go_wp2_with fail
            refine (NW.out _ H4.out).mono ?_
            rintro e w5 ⟨⟨r, hr, hcase⟩, hb5⟩
            obtain rfl := chk_one hr HH.out.2.1
            rcases hcase with ⟨hx, _⟩ | ⟨_, Y, cy, rfl, hoy⟩
            · exact absurd rfl hx
            have OY := Lib.hid (ptsAt_of_own hoy HH.out.2.2)
            have OX := Lib.hid (ptsAt_mono hb5.size (OX.out.below hb5))
            have H5 := Lib.hid (H4.out.trans (hb5.mono H4.out.size))
            clear hr hb5 NW H4 hoy
            go_wp2_with fail
            refine (SM.out X Y cx cy w5 OX.out OY.out).mono ?_
            rintro e w6 ⟨rfl, hb6⟩
            have H6 := Lib.hid (H5.out.trans (hb6.mono H5.out.size))
            clear hb6 SM H5 OX OY
            go_wp2_with fail
            refine (AV.out _ H6.out).mono ?_
            rintro e w7 ⟨rfl, hb7⟩
            have H7 := Lib.hid (H6.out.trans (hb7.mono H6.out.size))
            clear hb7 AV H6
            go_wp2_with fail
            refine (AW.out _ H7.out).mono ?_
            rintro e w8 ⟨rfl, hb8⟩
            have H8 := Lib.hid (H7.out.trans (hb8.mono H7.out.size))
            clear hb8 AW H7
            go_wp2_with fail
            refine (CV.out _ H8.out).mono ?_
            rintro e w9 ⟨⟨r, hr, rfl⟩, hb9⟩
            obtain rfl := chk_one hr HH.out.1
            rw [if_pos rfl]
            have H9 := Lib.hid (H8.out.trans (hb9.mono H8.out.size))
            clear hr hb9 CV H8
            go_wp2_with fail
            refine (CW.out _ H9.out).mono ?_
            rintro e w10 ⟨⟨r, hr, rfl⟩, hb10⟩
            obtain rfl := chk_one hr HH.out.2.1
            rw [if_pos rfl]
            have H10 := Lib.hid (H9.out.trans (hb10.mono H9.out.size))
            clear hr hb10 CW H9
            go_wp2_with fail
            refine (WK.out _).mono ?_
            rintro e w11 ⟨rfl, hb11⟩
            have H11 := Lib.hid (HBr.out.trans ((H10.out.trans (hb11.mono H10.out.size)).mono HBr.out.size))
            clear hb11 WK H10 HBr
            go_wp2_with fail
            refine bodyPost_ret (by simp [results, Try.results4, go_sem, *]; try rfl) rfl ?_
            exact ⟨rfl, H11.out⟩
  · have hne : (r0 != 0) = true := by simp [h0]
    go_wp2_with fail
    refine (WK.out _).mono ?_
    rintro e w2 ⟨rfl, hb2⟩
    have HB2 := Lib.hid (HB1.out.trans (hb2.mono HB1.out.size))
    clear hb2
    go_wp2_with fail
    refine bodyPost_ret (by simp [results, Try.results4, go_sem, *]; try rfl) rfl ?_
    exact ⟨rfl, HB2.out⟩

end Go.Proofs.Ythbndilnobjjgaa
