/-
  The document's layer 6: at, pair, Check.
-/
import Derived.Test.YthbndilnobjjgaaChk6R
import Derived.Test.YthbndilnobjjgaaIter
import Derived.Deep.Cut
import Derived.OwnWalk
import Derived.Deep.LoopGhost
namespace Go.Proofs.Ythbndilnobjjgaa
open Go.RowKit

theorem pts_cells6 {M n c : Nat} {A : Option Addr} {ps : List Pt} {W : World} (h : PtsAt M W (.slice A n c) ps) (hn : 0 < n) : ∃ b off, A = some ⟨b, off, none⟩ ∧ b < M ∧ ∀ k, k < ps.length → W.cell? ⟨b, off + k * 2, none⟩ = some (.int .i32 (gp ps k).1) ∧ W.cell? ⟨b, off + k * 2 + 1, none⟩ = some (.int .i32 (gp ps k).2) := by
  rcases h with ⟨⟨A0, c0, he⟩, _⟩ | ⟨b, off, cap, he, hb, hc⟩
  · injection he with _ h2 _
    omega
  · injection he with he1 he2 he3
    exact ⟨b, off, he1, hb, hc⟩

set_option maxHeartbeats 1000000 in
theorem at06 (ps : List Pt) (n : Nat) (hn : ps.length = n) (h0 : 0 < n) (i : Nat) (M c : Nat) (A : Option Addr) (w : World) (hP : PtsAt M w (.slice A n c) ps) (hM : M ≤ w.heap.size) :
    Calls Try.prog 43 #[.slice A n c, .int .i64 (i : Int)] w fun e w' => e = .returned (.agg #[.int .i32 (gp ps (i % n)).1, .int .i32 (gp ps (i % n)).2]) ∧ Below w.heap.size w w' := by
  obtain ⟨b, off, rfl, hb, hc⟩ := pts_cells6 hP h0
  have hq : i % n < n := Nat.mod_lt _ h0
  have hmod : (i : Int).tmod (n : Int) = ((i % n : Nat) : Int) := (Int.ofNat_tmod i n).symm
  obtain ⟨q, hqe⟩ : ∃ q, i % n = q := ⟨_, rfl⟩
  rw [hqe] at hq hmod ⊢
  obtain ⟨c0, c1⟩ := hc q (by omega)
  obtain ⟨⟨x, y⟩, hxy⟩ : ∃ p, gp ps q = p := ⟨_, rfl⟩
  rw [hxy] at c0 c1 ⊢
  dsimp only at c0 c1 ⊢
  have hbw : b < w.heap.size := by omega
  have hz : ((n : Int) == 0) = false := by rw [beq_eq_false_iff_ne]; omega
  have hz2 : ¬ (n : Int) = 0 := by omega
  have hz3 : ¬ n = 0 := by omega
  have hqI : (q : Int) < (n : Int) := by omega
  clear hP hc hn hqe hxy
  go_enter Try.func43, Try.ntmps43
  go_wp2_with fail
  refine bodyPost_ret (by simp [results, Try.results43, go_sem, *]; try rfl) rfl ?_
  exact ⟨rfl, by go_grown⟩

set_option maxHeartbeats 1000000 in
set_option maxRecDepth 100000 in
theorem pair06 (ps : List Pt) (hin : ∀ k, k < ps.length → inP (gp ps k) = true) (n : Nat) (hn : ps.length = n) (hn64 : n ≤ 64) (i j : Nat) (hij : i < j) (hj : j < n) (M c : Nat) (A : Option Addr) (w : World) (hP : PtsAt M w (.slice A n c) ps) (hM : M ≤ w.heap.size) :
    Calls Try.prog 45 #[.slice A n c, .int .i64 (i : Int), .int .i64 (j : Int)] w fun e w' => e = .returned (.int .i64 (pairF ps i j)) ∧ Below w.heap.size w w' := by
  have lt : ∀ k, Lt6 (gp ps (k % n)) := fun k => lt6_of (hin _ (by rw [hn]; exact Nat.mod_lt _ (by omega)))
  have ei : i % n = i := Nat.mod_eq_of_lt (by omega)
  have ej : j % n = j := Nat.mod_eq_of_lt hj
  have li := lt i
  have li1 := lt (i + 1)
  have lj := lt j
  have lj1 := lt (j + 1)
  rw [ei] at li
  rw [ej] at lj
  have C1 := Lib.hid (fun W (h : Below w.heap.size w W) => at06 ps n hn (by omega) i M c A W (hP.below (h.mono hM)) (Nat.le_trans hM h.size))
  have C2 : Hid (∀ W, Below w.heap.size w W → Calls Try.prog 43 #[.slice A n c, .int .i64 ((i : Int) + 1)] W fun e w' => e = .returned (.agg #[.int .i32 (gp ps ((i + 1) % n)).1, .int .i32 (gp ps ((i + 1) % n)).2]) ∧ Below W.heap.size W w') := Lib.hid (fun W (h : Below w.heap.size w W) => at06 ps n hn (by omega) (i + 1) M c A W (hP.below (h.mono hM)) (Nat.le_trans hM h.size))
  have C3 := Lib.hid (fun W (h : Below w.heap.size w W) => at06 ps n hn (by omega) j M c A W (hP.below (h.mono hM)) (Nat.le_trans hM h.size))
  have C4 : Hid (∀ W, Below w.heap.size w W → Calls Try.prog 43 #[.slice A n c, .int .i64 ((j : Int) + 1)] W fun e w' => e = .returned (.agg #[.int .i32 (gp ps ((j + 1) % n)).1, .int .i32 (gp ps ((j + 1) % n)).2]) ∧ Below W.heap.size W w') := Lib.hid (fun W (h : Below w.heap.size w W) => at06 ps n hn (by omega) (j + 1) M c A W (hP.below (h.mono hM)) (Nat.le_trans hM h.size))
  have F1 := Lib.hid (fun W => more06 (gp ps i) (gp ps ((i + 1) % n)) (gp ps ((j + 1) % n)) li li1 lj1 W)
  have F2 := Lib.hid (fun W => more06 (gp ps j) (gp ps ((j + 1) % n)) (gp ps ((i + 1) % n)) lj lj1 li1 W)
  have F3 := Lib.hid (fun W => touch06 (gp ps i) (gp ps ((i + 1) % n)) (gp ps j) (gp ps ((j + 1) % n)) W)
  unfold pairF
  rw [hn]
  rw [ei] at C1
  rw [ej] at C3
  obtain ⟨f1, hf1⟩ : ∃ z, foldF (gp ps i) (gp ps ((i + 1) % n)) (gp ps ((j + 1) % n)) = z := ⟨_, rfl⟩
  obtain ⟨f2, hf2⟩ : ∃ z, foldF (gp ps j) (gp ps ((j + 1) % n)) (gp ps ((i + 1) % n)) = z := ⟨_, rfl⟩
  obtain ⟨f3, hf3⟩ : ∃ z, touches (gp ps i) (gp ps ((i + 1) % n)) (gp ps j) (gp ps ((j + 1) % n)) = z := ⟨_, rfl⟩
  rw [hf1] at F1 ⊢
  rw [hf2] at F2 ⊢
  rw [hf3] at F3 ⊢
  obtain ⟨r, hr⟩ : ∃ r, (if j = i + 1 then (if f1 = true then (63 : Int) else 0) else if i = 0 ∧ j = n - 1 then (if f2 = true then 63 else 0) else if f3 = true then 64 else 0) = r := ⟨_, rfl⟩
  rw [hr]
  have HR := Lib.hid hr
  clear hr hf1 hf2 hf3 li li1 lj lj1 lt ei ej hin hP
  obtain ⟨⟨ax, ay⟩, ha⟩ : ∃ p, gp ps i = p := ⟨_, rfl⟩
  obtain ⟨⟨bx, by_⟩, hb⟩ : ∃ p, gp ps ((i + 1) % n) = p := ⟨_, rfl⟩
  obtain ⟨⟨cx, cy⟩, hc⟩ : ∃ p, gp ps j = p := ⟨_, rfl⟩
  obtain ⟨⟨dx, dy⟩, hd⟩ : ∃ p, gp ps ((j + 1) % n) = p := ⟨_, rfl⟩
  rw [ha] at C1
  rw [hb] at C2
  rw [hc] at C3
  rw [hd] at C4
  rw [ha, hb, hd] at F1
  rw [hc, hd, hb] at F2
  rw [ha, hb, hc, hd] at F3
  dsimp only at C1 C2 C3 C4 F1 F2 F3
  clear ha hb hc hd hn
  have hw1 : wrap64 ((i : Int) + 1) = (i : Int) + 1 := by unfold wrap64; omega
  have hw2 : wrap64 ((j : Int) + 1) = (j : Int) + 1 := by unfold wrap64; omega
  have hw3 : wrap64 ((n : Int) - 1) = (n : Int) - 1 := by unfold wrap64; omega
  go_enter Try.func45, Try.ntmps45
  go_wp2_with fail
  refine (C1.out _ (Below.refl _ _)).mono ?_
  rintro e w1 ⟨rfl, hb1⟩
  have B1 := Lib.hid (And.intro hb1 hb1.size)
  clear hb1
  go_wp2_with fail
  refine (C2.out _ (B1.out.1.alloc B1.out.2 _)).mono ?_
  rintro e w2 ⟨rfl, hb2⟩
  have vA : Var w2 w1.heap.size 28 #[.int .i32 ax, .int .i32 ay] := (Var.new _ _ _).keep hb2
  have hB2 := (B1.out.1.alloc B1.out.2 _).trans (hb2.mono (by simp; exact Nat.le_trans B1.out.2 (Nat.le_succ _)))
  have B2 := Lib.hid (And.intro vA (And.intro hB2 hB2.size))
  clear hb2 vA hB2
  go_wp2_with fail
  refine (C3.out _ (B2.out.2.1.alloc B2.out.2.2 _)).mono ?_
  rintro e w3 ⟨rfl, hb3⟩
  have vA := (B2.out.1.alloc _).keep hb3
  have vB : Var w3 w2.heap.size 28 #[.int .i32 bx, .int .i32 by_] := (Var.new _ _ _).keep hb3
  have hB3 := (B2.out.2.1.alloc B2.out.2.2 _).trans (hb3.mono (by simp; exact Nat.le_trans B2.out.2.2 (Nat.le_succ _)))
  have B3 := Lib.hid (And.intro vA (And.intro vB (And.intro hB3 hB3.size)))
  clear hb3 vA vB hB3
  go_wp2_with fail
  refine (C4.out _ (B3.out.2.2.1.alloc B3.out.2.2.2 _)).mono ?_
  rintro e w4 ⟨rfl, hb4⟩
  have vA := (B3.out.1.alloc _).keep hb4
  have vB := (B3.out.2.1.alloc _).keep hb4
  have vC : Var w4 w3.heap.size 28 #[.int .i32 cx, .int .i32 cy] := (Var.new _ _ _).keep hb4
  have hB4 := (B3.out.2.2.1.alloc B3.out.2.2.2 _).trans (hb4.mono (by simp; exact Nat.le_trans B3.out.2.2.2 (Nat.le_succ _)))
  have B4 := Lib.hid (And.intro vA (And.intro vB (And.intro vC (And.intro hB4 hB4.size))))
  clear hb4 vA vB vC hB4
  go_upto_region 6 with fail
  refine wp_gen (fun W5 hW5 => ?_)
  have vA : Var W5 w1.heap.size 28 #[.int .i32 ax, .int .i32 ay] := by rw [hW5]; exact B4.out.1.alloc _
  have vB : Var W5 w2.heap.size 28 #[.int .i32 bx, .int .i32 by_] := by rw [hW5]; exact B4.out.2.1.alloc _
  have vC : Var W5 w3.heap.size 28 #[.int .i32 cx, .int .i32 cy] := by rw [hW5]; exact B4.out.2.2.1.alloc _
  have vD : Var W5 w4.heap.size 28 #[.int .i32 dx, .int .i32 dy] := by rw [hW5]; exact Var.new _ _ _
  have hB5 : Below w.heap.size w W5 := by rw [hW5]; exact B4.out.2.2.2.1.alloc B4.out.2.2.2.2 _
  clear hW5
  obtain ⟨Xa, hXa⟩ : ∃ X, w1.heap.size = X := ⟨_, rfl⟩
  obtain ⟨Xb, hXb⟩ : ∃ X, w2.heap.size = X := ⟨_, rfl⟩
  obtain ⟨Xc, hXc⟩ : ∃ X, w3.heap.size = X := ⟨_, rfl⟩
  obtain ⟨Xd, hXd⟩ : ∃ X, w4.heap.size = X := ⟨_, rfl⟩
  rw [hXa] at vA ⊢
  rw [hXb] at vB ⊢
  rw [hXc] at vC ⊢
  rw [hXd] at vD ⊢
  clear B1 B2 B3 B4 hXa hXb hXc hXd
  have a0 : W5.cell? ⟨Xa, 0, none⟩ = some (.int .i32 ax) := vA.cell 0
  have a1 : W5.cell? ⟨Xa, 1, none⟩ = some (.int .i32 ay) := vA.cell 1
  have b0 : W5.cell? ⟨Xb, 0, none⟩ = some (.int .i32 bx) := vB.cell 0
  have b1 : W5.cell? ⟨Xb, 1, none⟩ = some (.int .i32 by_) := vB.cell 1
  have c0 : W5.cell? ⟨Xc, 0, none⟩ = some (.int .i32 cx) := vC.cell 0
  have c1 : W5.cell? ⟨Xc, 1, none⟩ = some (.int .i32 cy) := vC.cell 1
  have d0 : W5.cell? ⟨Xd, 0, none⟩ = some (.int .i32 dx) := vD.cell 0
  have d1 : W5.cell? ⟨Xd, 1, none⟩ = some (.int .i32 dy) := vD.cell 1
  have H5 := Lib.hid (And.intro hB5 hB5.size)
  clear vA vB vC vD hB5
  rcases Decidable.em (j = i + 1) with hj1 | hj1
  · have q1 : ((j : Int) == (i : Int) + 1) = true := by rw [beq_iff_eq]; omega
    have q2 : (j : Int) = (i : Int) + 1 := by omega
    have HJ := Lib.hid hj1
    clear hj1 F2 F3 q2
    cases f1
    · go_wp2_with fail
      refine (F1.out _).mono ?_
      rintro e w6 ⟨rfl, hb6⟩
      have H6 := Lib.hid (H5.out.1.trans (hb6.mono H5.out.2))
      clear hb6
      go_wp2_with fail
      go_ret
      exact ⟨ret_i6 (by rw [← HR.out, if_pos HJ.out]; rfl), H6.out⟩
    · go_wp2_with fail
      refine (F1.out _).mono ?_
      rintro e w6 ⟨rfl, hb6⟩
      have H6 := Lib.hid (H5.out.1.trans (hb6.mono H5.out.2))
      clear hb6
      go_wp2_with fail
      go_ret
      exact ⟨ret_i6 (by rw [← HR.out, if_pos HJ.out]; rfl), H6.out⟩
  · have q1 : ((j : Int) == (i : Int) + 1) = false := by rw [beq_eq_false_iff_ne]; omega
    have q2 : ¬ (j : Int) = (i : Int) + 1 := by omega
    have HJ := Lib.hid hj1
    rcases Decidable.em (i = 0 ∧ j = n - 1) with hj2 | hj2
    · have q3 : ((i : Int) == 0) = true := by rw [beq_iff_eq]; omega
      have q4 : ((j : Int) == (n : Int) - 1) = true := by rw [beq_iff_eq]; omega
      have HK := Lib.hid hj2
      clear hj1 hj2 F1 F3
      cases f2
      · go_wp2_with fail
        refine (F2.out _).mono ?_
        rintro e w6 ⟨rfl, hb6⟩
        have H6 := Lib.hid (H5.out.1.trans (hb6.mono H5.out.2))
        clear hb6
        go_wp2_with fail
        go_ret
        exact ⟨ret_i6 (by rw [← HR.out, if_neg HJ.out, if_pos HK.out]; rfl), H6.out⟩
      · go_wp2_with fail
        refine (F2.out _).mono ?_
        rintro e w6 ⟨rfl, hb6⟩
        have H6 := Lib.hid (H5.out.1.trans (hb6.mono H5.out.2))
        clear hb6
        go_wp2_with fail
        go_ret
        exact ⟨ret_i6 (by rw [← HR.out, if_neg HJ.out, if_pos HK.out]; rfl), H6.out⟩
    · have HK := Lib.hid hj2
      rcases Decidable.em (i = 0) with hi0 | hi0
      · have q3 : ((i : Int) == 0) = true := by rw [beq_iff_eq]; omega
        have q4 : ((j : Int) == (n : Int) - 1) = false := by rw [beq_eq_false_iff_ne]; omega
        clear hj1 hj2 F1 F2 hi0
        cases f3
        · go_wp2_with fail
          refine (F3.out _).mono ?_
          rintro e w6 ⟨rfl, hb6⟩
          have H6 := Lib.hid (H5.out.1.trans (hb6.mono H5.out.2))
          clear hb6
          go_wp2_with fail
          go_ret
          exact ⟨ret_i6 (by rw [← HR.out, if_neg HJ.out, if_neg HK.out]; rfl), H6.out⟩
        · go_wp2_with fail
          refine (F3.out _).mono ?_
          rintro e w6 ⟨rfl, hb6⟩
          have H6 := Lib.hid (H5.out.1.trans (hb6.mono H5.out.2))
          clear hb6
          go_wp2_with fail
          go_ret
          exact ⟨ret_i6 (by rw [← HR.out, if_neg HJ.out, if_neg HK.out]; rfl), H6.out⟩
      · have q3 : ((i : Int) == 0) = false := by rw [beq_eq_false_iff_ne]; omega
        clear hj1 hj2 F1 F2 hi0
        cases f3
        · go_wp2_with fail
          refine (F3.out _).mono ?_
          rintro e w6 ⟨rfl, hb6⟩
          have H6 := Lib.hid (H5.out.1.trans (hb6.mono H5.out.2))
          clear hb6
          go_wp2_with fail
          go_ret
          exact ⟨ret_i6 (by rw [← HR.out, if_neg HJ.out, if_neg HK.out]; rfl), H6.out⟩
        · go_wp2_with fail
          refine (F3.out _).mono ?_
          rintro e w6 ⟨rfl, hb6⟩
          have H6 := Lib.hid (H5.out.1.trans (hb6.mono H5.out.2))
          clear hb6
          go_wp2_with fail
          go_ret
          exact ⟨ret_i6 (by rw [← HR.out, if_neg HJ.out, if_neg HK.out]; rfl), H6.out⟩

/-- Check's answer. -/
def ChkOut (ps : List Pt) (e : Ending) : Prop := ∃ r, ChkIs ps r ∧ e = .returned (.tuple #[.int .i64 r.1, .int .i64 (r.2.1 : Int), .int .i64 (r.2.2 : Int)])
theorem chk_put {ps : List Pt} {a : Int} {b c : Nat} (h : ChkIs ps (a, b, c)) : ChkOut ps (.returned (.tuple #[.int .i64 a, .int .i64 (b : Int), .int .i64 (c : Int)])) := ⟨_, h, rfl⟩
theorem ret_r6 {a b c : Int} {r : Int × Nat × Nat} (h1 : a = r.1) (h2 : b = (r.2.1 : Int)) (h3 : c = (r.2.2 : Int)) : Ending.returned (.tuple #[.int .i64 a, .int .i64 b, .int .i64 c]) = .returned (.tuple #[.int .i64 r.1, .int .i64 (r.2.1 : Int), .int .i64 (r.2.2 : Int)]) := by rw [h1, h2, h3]

set_option maxHeartbeats 2000000 in
set_option maxRecDepth 100000 in
theorem check06 (ps : List Pt) (n : Nat) (hn : ps.length = n) (M c : Nat) (A : Option Addr) (w : World) (hP : PtsAt M w (.slice A n c) ps) (hM : M ≤ w.heap.size) :
    Calls Try.prog 18 #[.slice A n c] w fun e w' => ChkOut ps e ∧ Below w.heap.size w w' := by
  rcases Nat.lt_or_ge n 3 with h3 | h3
  · have hI : (n : Int) < 3 := by omega
    have hd : decide ((n : Int) < 3) = true := decide_eq_true hI
    have HC : Hid (ChkIs ps (60, 0, 0)) := Lib.hid (.inl ⟨by omega, rfl⟩)
    clear hn hP
    go_enter Try.func18, Try.ntmps18
    go_wp2_with fail
    go_ret3
    exact ⟨chk_put HC.out, by go_grown⟩
  rcases Nat.lt_or_ge 64 n with h64 | h64
  · have hI : ¬ (n : Int) < 3 := by omega
    have hI2 : (64 : Int) < (n : Int) := by omega
    have HC : Hid (ChkIs ps (60, 0, 0)) := Lib.hid (.inl ⟨by omega, rfl⟩)
    clear hn hP
    go_enter Try.func18, Try.ntmps18
    go_wp2_with fail
    go_ret3
    exact ⟨chk_put HC.out, by go_grown⟩
  have hI : ¬ (n : Int) < 3 := by omega
  have hI2 : ¬ (64 : Int) < (n : Int) := by omega
  obtain ⟨g, off, rfl, hg, hc⟩ := pts_cells6 hP (by omega)
  have HP := Lib.hid (And.intro hn (And.intro hP hc))
  have AT := Lib.hid (fun i W (h : Below w.heap.size w W) => at06 ps n hn (by omega) i M c (some ⟨g, off, none⟩) W (hP.below (h.mono hM)) (Nat.le_trans hM h.size))
  have PR := Lib.hid (fun (hin : ∀ k, k < ps.length → inP (gp ps k) = true) i j hij hj W (h : Below w.heap.size w W) => pair06 ps hin n hn h64 i j hij hj M c (some ⟨g, off, none⟩) W (hP.below (h.mono hM)) (Nat.le_trans hM h.size))
  clear hn hP hc
  go_enter Try.func18, Try.ntmps18
  go_wp2_with fail
  go_loopw [6] (fun i wr => ∃ k : Nat, k ≤ n ∧ i = .int .i64 (k : Int) ∧ (∀ m, m < k → InAt ps m) ∧ Below w.heap.size w wr) (fun i _ => n - (intOf i).toNat)
  case atStart => exact ⟨0, by omega, rfl, fun m hm => absurd hm (by omega), by go_grown⟩
  case round =>
    obtain ⟨k, hk, rfl, hall, hB⟩ := hrel
    have hz := hB.size
    rcases Nat.lt_or_ge k n with hlt | hge
    · have hkI : (k : Int) < (n : Int) := by omega
      have c0 := (hB.cell (p := ⟨g, off + k * 2, none⟩) (show g < w.heap.size by omega)).trans (HP.out.2.2 k (by have := HP.out.1; omega)).1
      have c1 := (hB.cell (p := ⟨g, off + k * 2 + 1, none⟩) (show g < w.heap.size by omega)).trans (HP.out.2.2 k (by have := HP.out.1; omega)).2
      have hgz : g < wr.heap.size := by omega
      have HX := Lib.hid (And.intro hall hB)
      have HI := Lib.hid (fun W => in06 (gp ps k) W)
      obtain ⟨v, hv⟩ : ∃ z, inP (gp ps k) = z := ⟨_, rfl⟩
      rw [hv] at HI
      have HV := Lib.hid hv
      obtain ⟨⟨x, y⟩, hxy⟩ : ∃ q, gp ps k = q := ⟨_, rfl⟩
      rw [hxy] at c0 c1 HI
      dsimp only at c0 c1 HI
      clear hall hB hv hxy
      cases v with
      | true =>
        go_wp2_with fail
        refine (HI.out _).mono ?_
        rintro e w3 ⟨rfl, hb3⟩
        have H3 := Lib.hid (HX.out.2.trans (hb3.mono hz))
        clear hb3
        go_wp2_with fail
        go_roundw
        case rel =>
          refine ⟨k + 1, by omega, by simp, fun m hm => ?_, H3.out⟩
          rcases Nat.lt_or_ge m k with h1 | h1
          · exact HX.out.1 m h1
          · rw [show m = k by omega]; exact HV.out
        case measure => simp [intOf]; omega
      | false =>
        go_wp2_with fail
        refine (HI.out _).mono ?_
        rintro e w3 ⟨rfl, hb3⟩
        have H3 := Lib.hid (HX.out.2.trans (hb3.mono hz))
        clear hb3
        go_wp2_with fail
        go_ret3
        exact ⟨chk_put (a := 61) (b := k) (c := 0) (.inr ⟨by have := HP.out.1; omega, .inl ⟨k, by have := HP.out.1; omega, fun h => Bool.false_ne_true (HV.out.symm.trans h), HX.out.1, rfl⟩⟩), H3.out⟩
    · have hkI : ¬ (k : Int) < (n : Int) := by omega
      have HIN : Hid (∀ m, m < ps.length → InAt ps m) := Lib.hid (fun m hm => hall m (by have := HP.out.1; omega))
      have HB := Lib.hid hB
      clear hall hB
      go_wp2_with fail
      obtain ⟨wk, rfl⟩ : ∃ z, z = wr := ⟨_, rfl⟩
      go_loopw [7] (fun i wr => ∃ k : Nat, k ≤ n ∧ i = .int .i64 (k : Int) ∧ (∀ m, m < k → DiffAt ps m) ∧ Below w.heap.size w wr) (fun i _ => n - (intOf i).toNat)
      case atStart => exact ⟨0, by omega, rfl, fun m hm => absurd hm (by omega), HB.out⟩
      case round =>
        clear hz hkI
        obtain ⟨k, hk, rfl, hall, hB⟩ := hrel
        have hz := hB.size
        rcases Nat.lt_or_ge k n with hlt | hge
        · have hkI : (k : Int) < (n : Int) := by omega
          have hw1 : wrap64 ((k : Int) + 1) = (k : Int) + 1 := by unfold wrap64; omega
          have A1 := Lib.hid (fun W h => AT.out k W h)
          rw [Nat.mod_eq_of_lt hlt] at A1
          have A2 : Hid (∀ W, Below w.heap.size w W → Calls Try.prog 43 #[.slice (some ⟨g, off, none⟩) n c, .int .i64 ((k : Int) + 1)] W fun e w' => e = .returned (.agg #[.int .i32 (gp ps ((k + 1) % n)).1, .int .i32 (gp ps ((k + 1) % n)).2]) ∧ Below W.heap.size W w') := Lib.hid (fun W h => AT.out (k + 1) W h)
          have HX := Lib.hid (And.intro hall hB)
          have HD : Hid (DiffAt ps k ↔ gp ps k ≠ gp ps ((k + 1) % n)) := Lib.hid (by unfold DiffAt; rw [HP.out.1])
          have hmod := mod_int (k := k) (m := n) (by omega)
          have HQ : Hid (∃ q, (k + 1) % n = q) := Lib.hid ⟨_, rfl⟩
          obtain ⟨q, hq⟩ := HQ.out
          have HQ2 := Lib.hid hq
          rw [hq] at hmod A2 HD
          obtain ⟨⟨x, y⟩, hxy⟩ : ∃ q, gp ps k = q := ⟨_, rfl⟩
          obtain ⟨⟨x', y'⟩, hxy'⟩ : ∃ p, gp ps q = p := ⟨_, rfl⟩
          rw [hxy] at A1 HD
          rw [hxy'] at A2 HD
          dsimp only at A1 A2
          clear hall hB hq HQ hxy hxy'
          have step : ∀ w3, Below w.heap.size w w3 → (x, y) ≠ (x', y') → (∀ m, m < k + 1 → DiffAt ps m) ∧ Below w.heap.size w w3 := fun w3 hb hne => ⟨fun m hm => by
            rcases Nat.lt_or_ge m k with h1 | h1
            · exact HX.out.1 m h1
            · rw [show m = k by omega]; exact HD.out.2 hne, hb⟩
          have ST := Lib.hid step
          clear step
          by_cases hx : x = x'
          · by_cases hy : y = y'
            · subst hx hy
              have hz1 : ((n : Int) == 0) = false := by rw [beq_eq_false_iff_ne]; omega
              have hz2 : ¬ (n : Int) = 0 := by omega
              have hz3 : ¬ n = 0 := by omega
              go_wp2_with fail
              refine (A1.out _ HX.out.2).mono ?_
              rintro e w3 ⟨rfl, hb3⟩
              have H3 := Lib.hid (HX.out.2.trans (hb3.mono hz))
              clear hb3
              go_wp2_with fail
              refine (A2.out _ H3.out).mono ?_
              rintro e w4 ⟨rfl, hb4⟩
              have H4 := Lib.hid (H3.out.trans (hb4.mono H3.out.size))
              clear hb4
              go_wp2_with fail
              have hq_w4 := @wd_cell w4
              refine wp_region_wd (by kernel_rfl) (by kernel_rfl) ?_
              repeat (go_big_quiet_step ((first | (fail))))
              refine wpQuiet_nil ?_
              rintro w5 ⟨⟨wx, hb_w5⟩, hwx⟩
              obtain rfl : w5 = wx := hwx
              clear hq_w4
              have hz_w5 := hb_w5.size
              obtain ⟨hc_w5, hf_w5⟩ := bcell hb_w5
              have H5 := Lib.hid (H4.out.trans (hb_w5.mono H4.out.size))
              clear hb_w5 hc_w5 hf_w5
              go_wp2_with fail
              go_ret3
              refine ⟨chk_put (a := 62) (b := k) (c := q) (.inr ⟨by have := HP.out.1; omega, .inr ⟨HIN.out, .inl ⟨k, by have := HP.out.1; omega, fun h => HD.out.1 h rfl, HX.out.1, ?_⟩⟩⟩), H5.out⟩
              rw [HP.out.1, HQ2.out]
            · have hne : (y == y') = false := beq_eq_false_iff_ne.2 hy
              go_wp2_with fail
              refine (A1.out _ HX.out.2).mono ?_
              rintro e w3 ⟨rfl, hb3⟩
              have H3 := Lib.hid (HX.out.2.trans (hb3.mono hz))
              clear hb3
              go_wp2_with fail
              refine (A2.out _ H3.out).mono ?_
              rintro e w4 ⟨rfl, hb4⟩
              have H4 := Lib.hid (H3.out.trans (hb4.mono H3.out.size))
              have hy4 := Lib.hid hy
              clear hb4 hx hy
              go_wp2_with fail
              go_roundw
              case rel => exact ⟨k + 1, by omega, by simp, ST.out _ H4.out (fun e => hy4.out (by injection e))⟩
              case measure => simp [intOf]; omega
          · have hne : (x == x') = false := beq_eq_false_iff_ne.2 hx
            go_wp2_with fail
            refine (A1.out _ HX.out.2).mono ?_
            rintro e w3 ⟨rfl, hb3⟩
            have H3 := Lib.hid (HX.out.2.trans (hb3.mono hz))
            clear hb3
            go_wp2_with fail
            refine (A2.out _ H3.out).mono ?_
            rintro e w4 ⟨rfl, hb4⟩
            have H4 := Lib.hid (H3.out.trans (hb4.mono H3.out.size))
            have hy4 := Lib.hid hx
            clear hb4 hx
            go_wp2_with fail
            go_roundw
            case rel => exact ⟨k + 1, by omega, by simp, ST.out _ H4.out (fun e => hy4.out (by injection e))⟩
            case measure => simp [intOf]; omega
        · have hkI : ¬ (k : Int) < (n : Int) := by omega
          have HDF : Hid (∀ m, m < ps.length → DiffAt ps m) := Lib.hid (fun m hm => hall m (by have := HP.out.1; omega))
          have HB2 := Lib.hid hB
          clear hall hB HB
          go_wp2_with fail
          obtain ⟨wl, rfl⟩ : ∃ z, z = wr := ⟨_, rfl⟩
          go_loopw [8] (fun i wr => ∃ k : Nat, k ≤ n ∧ i = .int .i64 (k : Int) ∧ FineAt ps k (k + 1) ∧ Below w.heap.size w wr) (fun i _ => n - (intOf i).toNat)
          case atStart => exact ⟨0, by omega, rfl, fine_start ps, HB2.out⟩
          case round =>
            clear hz hkI
            obtain ⟨i, hi, rfl, hfi, hB⟩ := hrel
            have hz := hB.size
            rcases Nat.lt_or_ge i n with hlt | hge
            · have hiI : (i : Int) < (n : Int) := by omega
              have HX := Lib.hid (And.intro hfi hB)
              clear hfi hB
              go_wp2_with fail
              obtain ⟨wm, rfl⟩ : ∃ z, z = wr := ⟨_, rfl⟩
              go_loopw [9] (fun t wr => ∃ j : Nat, i < j ∧ j ≤ n ∧ t = .int .i64 (j : Int) ∧ FineAt ps i j ∧ Below w.heap.size w wr) (fun t _ => n - (intOf t).toNat)
              case atStart => exact ⟨i + 1, by omega, by omega, by simp, HX.out.1, HX.out.2⟩
              case round =>
                clear hz
                obtain ⟨j, hij, hj, rfl, hfj, hB⟩ := hrel
                have hz := hB.size
                rcases Nat.lt_or_ge j n with hlt2 | hge2
                · have hjI : (j : Int) < (n : Int) := by omega
                  have HY := Lib.hid (And.intro hfj hB)
                  have PC := Lib.hid (fun W h => PR.out HIN.out i j hij hlt2 W h)
                  obtain ⟨v, hv⟩ : ∃ v, pairF ps i j = v := ⟨_, rfl⟩
                  rw [hv] at PC
                  have HV := Lib.hid hv
                  clear hfj hB hv
                  by_cases hv0 : v = 0
                  · subst hv0
                    go_wp2_with fail
                    refine (PC.out _ HY.out.2).mono ?_
                    rintro e w3 ⟨rfl, hb3⟩
                    have H3 := Lib.hid (HY.out.2.trans (hb3.mono hz))
                    clear hb3
                    go_wp2_with fail
                    go_roundw
                    case rel => exact ⟨j + 1, by omega, by omega, by simp, fine_step HY.out.1 HV.out, H3.out⟩
                    case measure => simp [intOf]; omega
                  · have hv1 : (v == 0) = false := beq_eq_false_iff_ne.2 hv0
                    go_wp2_with fail
                    refine (PC.out _ HY.out.2).mono ?_
                    rintro e w3 ⟨rfl, hb3⟩
                    have H3 := Lib.hid (HY.out.2.trans (hb3.mono hz))
                    clear hb3
                    go_wp2_with fail
                    go_ret3
                    refine ⟨chk_put (a := v) (b := i) (c := j) (.inr ⟨by have := HP.out.1; omega, .inr ⟨HIN.out, .inr ⟨HDF.out, .inl ⟨i, j, hij, by have := HP.out.1; omega, by rw [HV.out]; exact hv0, HY.out.1, ?_⟩⟩⟩⟩), H3.out⟩
                    rw [HV.out]
                · have hjI : ¬ (j : Int) < (n : Int) := by omega
                  have HY : Hid (FineAt ps (i + 1) (i + 1 + 1) ∧ Below w.heap.size w wr) := Lib.hid ⟨fine_next (by rw [show ps.length = j by have := HP.out.1; omega]; exact hfj), hB⟩
                  clear hfj hB
                  go_wp2_with fail
                  go_roundw
                  case rel => exact ⟨i + 1, by omega, by simp, HY.out.1, HY.out.2⟩
                  case measure => simp [intOf]; omega
            · have hiI : ¬ (i : Int) < (n : Int) := by omega
              have HX : Hid (FineAt ps ps.length 0 ∧ Below w.heap.size w wr) := Lib.hid ⟨fine_end hfi (by have := HP.out.1; omega), hB⟩
              clear hfi hB
              go_wp2_with fail
              go_ret3
              exact ⟨chk_put (a := 0) (b := 0) (c := 0) (.inr ⟨by have := HP.out.1; omega, .inr ⟨HIN.out, .inr ⟨HDF.out, .inr ⟨HX.out.1, rfl⟩⟩⟩⟩), HX.out.2⟩

end Go.Proofs.Ythbndilnobjjgaa
