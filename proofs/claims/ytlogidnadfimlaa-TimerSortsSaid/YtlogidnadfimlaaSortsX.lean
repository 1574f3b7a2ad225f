/-
  The law's body: what is set in any order is taken in order.
-/
import Derived.Test.YtlogidnadfimlaaOpenDues
namespace Go.Proofs.Ytlogidnadfimlaa
open Go.RowKit Go.Maps

/-- The first loop: k of l put in, n of them stand. -/
def Lp1 (l : List Du) (w : World) (d vb mb k n : Nat) (W : World) : Prop := ∃ A cap hs, DuAt W d vb mb A cap n 4096 hs ∧ (∀ x ∈ hs, x ∈ l) ∧ n ≤ k ∧ (0 < k → 0 < n) ∧ Below w.heap.size w W ∧ ∀ b, (Value.slice A 0 0).ownBlock = some b → w.heap.size ≤ b
theorem lp1_next {l : List Du} {w : World} {d vb mb k n : Nat} {W w' : World} {A : Option Addr} {hs : List Du} (hd : w.heap.size ≤ d ∧ w.heap.size ≤ mb) (hk : k < 1024) (h2 : (∀ x ∈ hs, x ∈ l) ∧ n ≤ k ∧ (0 < k → 0 < n) ∧ Below w.heap.size w W ∧ (∀ b, (Value.slice A 0 0).ownBlock = some b → w.heap.size ≤ b)) (hn : hs.length = n) {x : Du} (hx : x ∈ l) {e : Ending} (h : ∃ l', SetD hs l' x 4096 e ∧ DuTo W w' d vb mb A 4096 l') :
    ∃ c : Int, e = .returned (.int .i64 c) ∧ ((c = 0 ∧ Lp1 l w d vb mb (k + 1) (n + 1) w') ∨ (c = 140 ∧ Lp1 l w d vb mb (k + 1) n w')) := by
  obtain ⟨l', hS, A', cap', n', hD, hT, hO⟩ := h
  obtain ⟨p1, p2, p3, p4, p5⟩ := h2
  have hb : Below w.heap.size w w' := p4.trans (hT.below (fun b hb => by
    rcases hb with rfl | rfl | hb
    · exact hd.1
    · exact hd.2
    · exact p5 b hb) p4.size)
  have hO' : ∀ b, (Value.slice A' 0 0).ownBlock = some b → w.heap.size ≤ b := fun b hb => (hO b hb).elim (p5 b) (fun h => Nat.le_trans p4.size h)
  have hl := hD.len
  rcases hS with ⟨ht, rfl, rfl⟩ | ⟨_, hm, _, _⟩ | ⟨_, _, hp, rfl⟩
  · obtain rfl : n' = n := by omega
    refine ⟨140, rfl, .inr ⟨rfl, A', cap', l', hD, p1, by omega, fun _ => ?_, hb, hO'⟩⟩
    obtain ⟨y, hy, _⟩ := there_iff.1 ht
    have := List.length_pos_of_mem hy
    omega
  · omega
  · obtain rfl : n' = n + 1 := by
      have := hp.length_eq
      rw [List.length_cons] at this
      omega
    exact ⟨0, rfl, .inl ⟨rfl, A', cap', l', hD, fun y hy => by
      rcases List.mem_cons.1 (hp.mem_iff.1 hy) with rfl | h
      · exact hx
      · exact p1 y h, by omega, fun _ => Nat.succ_pos n, hb, hO'⟩⟩

/-- The second loop: k taken of N, the last of them in block B. -/
def Lp2 (l : List Du) (w : World) (d vb mb N B k : Nat) (W : World) : Prop := ∃ A cap hs la, DuAt W d vb mb A cap (N - k) 4096 hs ∧ (∀ x ∈ hs, x ∈ l) ∧ Below w.heap.size w W ∧ (∀ b, (Value.slice A 0 0).ownBlock = some b → w.heap.size ≤ b ∧ b ≠ B) ∧ Var W B 31 #[.int .u32 la.1, .int .u32 la.2.1, .int .u32 la.2.2] ∧ (0 < k → ∀ x ∈ hs, duLt la x)
theorem rdy_all {l : List Du} (hu : ∀ x ∈ l, UD x) (h0 : 0 < l.length) : rdyD l 4294967295 = true := by
  unfold rdyD
  have := (ud_at hu h0).1
  unfold U32 at this
  simp
  omega
theorem first_lt {hs l' : List Du} (hh : HeapL hs) (hk : KeysD hs) (hp : hs.Perm (gd hs 0 :: l')) : ∀ x ∈ l', duLt (gd hs 0) x := fun x hx => by
  have hk' : KeysD (gd hs 0 :: l') := keys_perm hp hk
  have hne := (List.pairwise_cons.1 hk').1 x hx
  obtain ⟨i, hi, rfl⟩ := gd_of_mem (hp.mem_iff.2 (List.mem_cons_of_mem _ hx))
  have h1 := heap_min hh i hi
  cases Decidable.em (duLt (gd hs 0) (gd hs i)) with
  | inl h => exact h
  | inr h => exact absurd (by rw [du_eq h h1]) hne
theorem lp2_take {hs l' : List Du} {e : Ending} (h0 : 0 < hs.length) (hu : ∀ x ∈ hs, UD x) (h : TakeD hs l' 4294967295 e) : hs.Perm (gd hs 0 :: l') ∧ ∃ y0 y1 y2, gd hs 0 = (y0, y1, y2) ∧ e = .returned (.tuple #[.agg #[.int .u32 y0, .int .u32 y1, .int .u32 y2], .bool true]) := by
  rcases h with ⟨_, h1, h2⟩ | ⟨h1, _⟩
  · exact ⟨h1, _, _, _, rfl, h2⟩
  · rw [rdy_all hu h0] at h1
    cases h1
theorem lp2_start {l : List Du} {w : World} {d vb mb k N : Nat} {W : World} {t : TypeId} (h : Lp1 l w d vb mb k N W) (ht : t = 31) : Lp2 l w d vb mb N W.heap.size 0 (W.alloc (.cells #[.int .u32 0, .int .u32 0, .int .u32 0] t)) ∧ d < W.heap.size ∧ vb < W.heap.size ∧ mb < W.heap.size ∧ w.heap.size ≤ W.heap.size := by
  subst ht
  obtain ⟨A, cap, hs, hD, p1, _, _, p4, p5⟩ := h
  have hb : Below W.heap.size W (W.alloc (.cells #[.int .u32 0, .int .u32 0, .int .u32 0] 31)) := (Below.refl _ _).alloc (Nat.le_refl _) _
  refine ⟨⟨A, cap, hs, (0, 0, 0), hD.below hb, p1, p4.trans (hb.mono p4.size), fun b hb' => ⟨p5 b hb', ?_⟩, Var.new _ _ _, fun h => absurd h (Nat.lt_irrefl _)⟩, hD.dv.lt, hD.vv.lt, ?_, p4.size⟩
  · have := (hD.row.lt b ((ob_any _ _ _ _ _).trans hb')).2
    omega
  · obtain ⟨D, hm, _⟩ := hD.mp
    exact hm.lt
theorem lp2_next {l : List Du} {w : World} {d vb mb N B k n5 cap : Nat} {A : Option Addr} {hs l' : List Du} {w5 W8 : World} {y0 y1 y2 : Int} {la : Du} (hB : d < B ∧ vb < B ∧ mb < B ∧ w.heap.size ≤ B) (p1 : ∀ x ∈ hs, x ∈ l) (p4 : Below w.heap.size w W8) (p5 : ∀ b, (Value.slice A 0 0).ownBlock = some b → w.heap.size ≤ b ∧ b ≠ B)
    (hk : k < N) (hl : hs.length = N - k) (hp : hs.Perm (gd hs 0 :: l')) (hy : gd hs 0 = (y0, y1, y2)) (hh : HeapL hs) (hkk : KeysD hs) (hD : DuAt w5 d vb mb A cap n5 4096 l') (h8 : Below w5.heap.size w5 W8) (vB : Var W8 B 31 #[.int .u32 la.1, .int .u32 la.2.1, .int .u32 la.2.2]) :
    Lp2 l w d vb mb N B (k + 1) (((W8.setCell ⟨B, 0, none⟩ (.int .u32 y0)).setCell ⟨B, 1, none⟩ (.int .u32 y1)).setCell ⟨B, 2, none⟩ (.int .u32 y2)) := by
  have hT : Turn (· = B) W8 (((W8.setCell ⟨B, 0, none⟩ (.int .u32 y0)).setCell ⟨B, 1, none⟩ (.int .u32 y1)).setCell ⟨B, 2, none⟩ (.int .u32 y2)) := Turn.set (Turn.set (Turn.set (Turn.refl (· = B) W8) (p := ⟨B, 0, none⟩) rfl _) (p := ⟨B, 1, none⟩) rfl _) (p := ⟨B, 2, none⟩) rfl _
  have hn5 : n5 = N - (k + 1) := by
    have := hp.length_eq
    rw [List.length_cons, hD.len] at this
    omega
  subst hn5
  have hlt := first_lt hh hkk hp
  rw [hy] at hlt
  refine ⟨A, cap, l', (y0, y1, y2), (hD.below h8).turn hT (by omega) (by omega) (by omega) (fun b hb => (p5 b ((ob_any _ _ _ _ _).trans hb)).2), fun x hx => p1 x (hp.mem_iff.2 (List.mem_cons_of_mem _ hx)), p4.trans (hT.below (fun b hb => ?_) p4.size), p5, ((vB.store 0 _).store 1 _).store 2 _, fun _ => hlt⟩
  have hb' : b = B := hb
  omega
theorem lp2_none {l' : List Du} {e : Ending} (h : TakeD [] l' 4294967295 e) : e = ret2 (0, 0, 0) false := by
  rcases h with ⟨h1, _⟩ | ⟨_, _, h1⟩
  · cases h1
  · exact h1
theorem ds_some {m : Nat} {W : World} {A : Option Addr} {c n k : Nat} {l : List Du} (h : DsAt m W (.slice A n c) l) (hn : l.length = n) (hk : k < n) : ∃ b off, A = some ⟨b, off, none⟩ ∧ b < m ∧ ∀ j, j < n → W.cell? ⟨b, off + j * 3, none⟩ = some (.int .u32 (gd l j).1) ∧ W.cell? ⟨b, off + j * 3 + 1, none⟩ = some (.int .u32 (gd l j).2.1) ∧ W.cell? ⟨b, off + j * 3 + 2, none⟩ = some (.int .u32 (gd l j).2.2) := by
  rcases h with ⟨_, h⟩ | ⟨b, off, cap, e, hb, hc⟩
  · rw [h] at hn
    simp at hn
    omega
  · injection e with e1
    exact ⟨b, off, e1, hb, fun j hj => hc j (by omega)⟩
set_option maxHeartbeats 4000000 in
set_option maxRecDepth 100000 in
theorem timerSorts_core (sv : Value) (l : List Du) (n : Nat) (hn : l.length = n) (hu : ∀ x ∈ l, UD x) (w : World) (hI : DsAt w.heap.size w sv l) (hv : ∃ A c, sv = .slice A n c) :
    Calls Try.prog 4 #[sv] w fun e w' => e = .returned (.bool true) ∧ Below w.heap.size w w' := by
  rcases (show 1024 < n ∨ n ≤ 1024 by omega) with hbig | hsm
  · obtain ⟨A, c, rfl⟩ := hv
    have h1 : (1024 : Int) < (n : Int) := by omega
    clear hI hu hn hbig
    go_enter Try.func4, Try.ntmps4
    go_wp2_with fail
    refine bodyPost_ret (by simp [results, Try.results4, go_sem, *]; try rfl) rfl ?_
    exact ⟨rfl, by go_grown⟩
  · have HI := Lib.hid (And.intro hI (And.intro hu hn))
    have HV := Lib.hid hI
    obtain ⟨A0, c0, rfl⟩ := hv
    have h1 : ¬ (1024 : Int) < (n : Int) := by omega
    clear hI hu hn
    go_enter Try.func4, Try.ntmps4
    go_wp2_with fail
    refine (new_any 4096 (by decide) (by decide) w).mono ?_
    rintro e w1 ⟨d, vb, mb, rfl, hD, hb1, z1, z2, z3⟩
    have H1 := Lib.hid (And.intro hD (And.intro hb1 (And.intro z1 (And.intro z2 z3))))
    clear hD hb1 z1 z2 z3
    go_wp2_with fail
    go_loopw [5, 6] (fun m i wr => ∃ (k n' : Nat), i = .int .i64 (k : Int) ∧ m = .int .i64 (n' : Int) ∧ k ≤ n ∧ n' ≤ k ∧ Hid (Lp1 l w d vb mb k n' wr)) (fun _ i _ => n - (intOf i).toNat)
    case atStart => exact ⟨0, 0, rfl, rfl, Nat.zero_le _, Nat.zero_le _, Lib.hid ⟨none, 0, [], H1.out.1, fun x hx => absurd hx List.not_mem_nil, Nat.le_refl _, fun h => absurd h (Nat.lt_irrefl _), H1.out.2.1, fun b hb => by cases hb⟩⟩
    case round =>
      obtain ⟨k, n', rfl, rfl, hk, hnk, HL⟩ := hrel
      rcases Nat.lt_or_ge k n with hlt | hge
      · obtain ⟨A, cap, hs, hD, p1, p2, p3, p4, p5⟩ := HL.out
        obtain ⟨b, off, rfl, hb, hc⟩ := ds_some HV.out HI.out.2.2 hlt
        obtain ⟨k0, k1, k2⟩ := hc k hlt
        have a0 := (p4.cell (p := ⟨b, off + k * 3, none⟩) hb).trans k0
        have a1 := (p4.cell (p := ⟨b, off + k * 3 + 1, none⟩) hb).trans k1
        have a2 := (p4.cell (p := ⟨b, off + k * 3 + 2, none⟩) hb).trans k2
        have hbr : b < wr.heap.size := Nat.lt_of_lt_of_le hb p4.size
        have hx : gd l k ∈ l := gd_mem (by rw [HI.out.2.2]; exact hlt)
        have ST := Lib.hid (fun e w' (h : ∃ l', SetD hs l' (gd l k) 4096 e ∧ DuTo wr w' d vb mb A 4096 l') => lp1_next (l := l) (w := w) (d := d) (vb := vb) (mb := mb) (n := n') (x := gd l k) (k := k) (hs := hs) (W := wr) (w' := w') (A := A) (e := e) ⟨H1.out.2.2.1, H1.out.2.2.2.2⟩ (Nat.lt_of_lt_of_le hlt hsm) ⟨p1, p2, p3, p4, p5⟩ hD.len hx h)
        have SA := Lib.hid (set_any d vb mb cap n' A 4096 (by decide) hs (gd l k) (HI.out.2.1 _ hx) wr hD)
        obtain ⟨⟨z0, z1, z2⟩, hz⟩ : ∃ z, gd l k = z := ⟨_, rfl⟩
        rw [hz] at a0 a1 a2 ST SA
        dsimp only at a0 a1 a2 SA
        clear hz hx k0 k1 k2 hc hD p1 p2 p3 p4 p5
        go_wp2_with fail
        refine SA.out.mono ?_
        rintro e w5 h5
        obtain ⟨c, rfl, hcs⟩ := ST.out e w5 h5
        have H5 := Lib.hid hcs
        clear ST SA h5 a0 a1 a2
        rcases hcs with ⟨rfl, _⟩ | ⟨rfl, _⟩
        · go_wp2_with fail
          go_roundw
          case rel =>
            rcases H5.out with ⟨_, h⟩ | ⟨h, _⟩
            · exact ⟨k + 1, n' + 1, by simp, by simp, hlt, by omega, Lib.hid h⟩
            · cases h
          case measure => simp [intOf]; omega
        · go_wp2_with fail
          go_roundw
          case rel =>
            rcases H5.out with ⟨h, _⟩ | ⟨_, h⟩
            · cases h
            · exact ⟨k + 1, n', by simp, rfl, hlt, by omega, Lib.hid h⟩
          case measure => simp [intOf]; omega
      · obtain rfl : k = n := by omega
        have hbb : (decide (0 < (k : Int)) = true ∧ ((n' : Int) == 0) = false ∧ (0 : Int) < (n' : Int) ∧ (0 : Int) < (k : Int)) ∨ (decide (0 < (k : Int)) = false ∧ ¬ (0 : Int) < (k : Int)) := by
          obtain ⟨_, _, _, _, _, _, p3, _⟩ := HL.out
          rcases Nat.eq_zero_or_pos k with h | h
          · exact .inr ⟨by rw [h]; rfl, by omega⟩
          · have := p3 h
            exact .inl ⟨by simp; omega, by rw [beq_eq_false_iff_ne]; omega, by omega, by omega⟩
        obtain ⟨wk, rfl⟩ : ∃ z, z = wr := ⟨_, rfl⟩
        rcases hbb with ⟨g1, g2, g3, g4⟩ | ⟨g1, g2⟩
        · go_wp2_with fail
          obtain ⟨HS2, HBN⟩ := lp2_start (t := 31) HL.out rfl
          have HL2 := Lib.hid HS2
          clear HS2
          refine wp_gen (fun W1 hW1 => ?_)
          rw [← hW1] at HL2
          obtain ⟨B, hB⟩ : ∃ B, wk.heap.size = B := ⟨_, rfl⟩
          rw [hB] at HL2 HBN ⊢
          have HN := Lib.hid HBN
          clear hW1 HL hB HBN
          go_loopw [8] (fun i wr => ∃ j : Nat, i = .int .i64 (j : Int) ∧ j ≤ n' ∧ Hid (Lp2 l w d vb mb n' B j wr)) (fun i _ => n' - (intOf i).toNat)
          case atStart => exact ⟨0, rfl, Nat.zero_le _, HL2⟩
          case round =>
            obtain ⟨j, rfl, hj, HL⟩ := hrel
            obtain ⟨A, cap, hs, la, hD, p1, p4, p5, vB, hla⟩ := HL.out
            have TK := Lib.hid (take_any d vb mb cap (n' - j) A 4096 4294967295 hs wr hD)
            have HD := Lib.hid (And.intro hD (And.intro p1 (And.intro p4 (And.intro p5 (And.intro vB hla)))))
            clear hD p1 p4 p5 vB hla HL
            rcases Nat.lt_or_ge j n' with hlt | hge
            · go_wp2_with fail
              refine TK.out.mono ?_
              rintro e w5 ⟨⟨l', n5, hD5, hTk⟩, hT5⟩
              obtain ⟨hp, y0, y1, y2, hy, rfl⟩ := lp2_take (by rw [HD.out.1.len]; omega) HD.out.1.ud hTk
              have hbB : Below w5.heap.size w5 w5 := Below.refl _ _
              have hn5 : n5 = n' - j - 1 := by
                have := hp.length_eq
                rw [List.length_cons, HD.out.1.len, hD5.len] at this
                omega
              have H5 := Lib.hid (And.intro hp (And.intro hy (And.intro hD5 (HD.out.2.2.1.trans (hT5.below (fun b hb => by
                rcases hb with rfl | rfl | hb
                · exact H1.out.2.2.1
                · exact H1.out.2.2.2.2
                · exact (HD.out.2.2.2.1 b hb).1) HD.out.2.2.1.size)))))
              have vB5 := HD.out.2.2.2.2.1.turn hT5 (by
                rintro (h | h | h)
                · have := HN.out; omega
                · have := HN.out; omega
                · exact (HD.out.2.2.2.1 B h).2 rfl)
              have LN := Lib.hid (fun W (h : Below w5.heap.size w5 W) => len_any d vb mb cap n5 A 4096 l' W (hD5.below h))
              have hAl : Hid (0 < j → decide (duLt la (y0, y1, y2)) = true) := Lib.hid (fun h => decide_eq_true (hy ▸ HD.out.2.2.2.2.2 h (gd hs 0) (gd_mem (by rw [HD.out.1.len]; omega))))
              have hmem : decide ((y0, y1, y2) ∈ l) = true := decide_eq_true (hy ▸ HD.out.2.1 (gd hs 0) (gd_mem (by rw [HD.out.1.len]; omega)))
              have HS := Lib.hid (fun W (h : Below w.heap.size w W) => has_any (.slice A0 k c0) l (y0, y1, y2) w.heap.size (by rw [HI.out.2.2]; exact hsm) W h.size (HV.out.below h))
              rw [hmem] at HS
              obtain ⟨⟨x0, x1, x2⟩, hla⟩ : ∃ x, la = x := ⟨_, rfl⟩
              rw [hla] at vB5 hAl
              have HA := Lib.hid (fun W => ahead_any (x0, x1, x2) (y0, y1, y2) W)
              dsimp only at vB5 HA HS
              rw [show ((n5 : Int)) = (n' : Int) - 1 - (j : Int) by omega] at LN
              clear hp hy hD5 hT5 hTk hmem TK hla hbB
              go_upto_region 19 with fail
              refine wp_gen (fun W6 hW6 => ?_)
              have hb6 : Below w5.heap.size w5 W6 := by rw [hW6]; exact (Below.refl _ _).alloc (Nat.le_refl _) _
              have v9 : Hid (Var W6 w5.heap.size 31 #[.int .u32 y0, .int .u32 y1, .int .u32 y2]) := Lib.hid (by rw [hW6]; exact Var.new _ _ _)
              have vB6 := Lib.hid (vB5.keep hb6)
              have H6 := Lib.hid hb6
              obtain ⟨G, hG⟩ : ∃ G, w5.heap.size = G := ⟨_, rfl⟩
              rw [hG] at v9 ⊢
              have hBG : B < G := by rw [← hG]; exact vB5.lt
              have e0 := v9.out.cell 0
              have e1 := v9.out.cell 1
              have e2 := v9.out.cell 2
              simp only [List.getElem?_toArray, List.getElem?_cons_zero, List.getElem?_cons_succ] at e0 e1 e2
              have b0 := vB6.out.cell 0
              have b1 := vB6.out.cell 1
              have b2 := vB6.out.cell 2
              simp only [List.getElem?_toArray, List.getElem?_cons_zero, List.getElem?_cons_succ] at b0 b1 b2
              have y9 := v9.out.lt
              have yB := vB6.out.lt
              have hW5 := Lib.hid (H5.out.2.2.2.trans (hb6.mono H5.out.2.2.2.size))
              have hw1 : IntKind.i64.wrap ((n' : Int) - 1) = (n' : Int) - 1 := w64_16 ⟨by omega, by omega⟩
              have hw2 : IntKind.i64.wrap ((n' : Int) - 1 - (j : Int)) = (n' : Int) - 1 - (j : Int) := w64_16 ⟨by omega, by omega⟩
              clear hW6 hb6 vB5 hG hn5
              rcases Nat.eq_zero_or_pos j with hj0 | hj0
              · have q1 : decide (0 < (j : Int)) = false := by simp; omega
                have q2 : ¬ (0 : Int) < (j : Int) := by omega
                clear HA hAl hj0
                go_wp2_with fail
                refine (HS.out _ hW5.out).mono ?_
                rintro e w8 ⟨rfl, hb8⟩
                have h68 := Lib.hid (Below.trans (Below.refl W6.heap.size W6) (hb8.mono (Below.refl W6.heap.size W6).size))
                clear hb8 e0 e1 e2 b0 b1 b2 y9 yB
                go_wp2_with fail
                refine (LN.out _ (H6.out.trans (h68.out.mono H6.out.size))).mono ?_
                rintro e w9 ⟨rfl, rfl⟩
                have v98 := v9.out.keep h68.out
                have vB8 := vB6.out.keep h68.out
                have e0 := v98.cell 0
                have e1 := v98.cell 1
                have e2 := v98.cell 2
                simp only [List.getElem?_toArray, List.getElem?_cons_zero, List.getElem?_cons_succ] at e0 e1 e2
                have y9 := v98.lt
                have yB := vB8.lt
                have c0' := vB8.cell 0
                have c1' := vB8.cell 1
                have c2' := vB8.cell 2
                simp only [List.getElem?_toArray, List.getElem?_cons_zero, List.getElem?_cons_succ] at c0' c1' c2'
                have f0 := vB8.free 0
                have f1 := vB8.free 1
                have f2 := vB8.free 2
                clear v98 vB8 LN
                go_wp2_with fail
                go_roundw
                case rel =>
                  obtain ⟨hp, hy, hD5, hB5⟩ := H5.out
                  have h58 := H6.out.trans (h68.out.mono H6.out.size)
                  exact ⟨j + 1, by simp, hlt, Lib.hid (lp2_next (la := (x0, x1, x2)) HN.out HD.out.2.1 (hB5.trans (h58.mono hB5.size)) HD.out.2.2.2.1 hlt HD.out.1.len hp hy HD.out.1.heap HD.out.1.keys hD5 h58 (vB6.out.keep h68.out))⟩
                case measure => simp [intOf]; omega
              · have q1 : decide (0 < (j : Int)) = true := by simp; omega
                have q2 : (0 : Int) < (j : Int) := by omega
                have hA' := hAl.out hj0
                rw [hA'] at HA
                clear hAl hj0 hA'
                go_wp2_with fail
                refine (HA.out _).mono ?_
                rintro e w7 ⟨rfl, hb7⟩
                have h67 := Lib.hid hb7
                have e0 := (hb7.cell (p := ⟨G, 0, none⟩) y9).trans e0
                have e1 := (hb7.cell (p := ⟨G, 1, none⟩) y9).trans e1
                have e2 := (hb7.cell (p := ⟨G, 2, none⟩) y9).trans e2
                have y97 : G < w7.heap.size := Nat.lt_of_lt_of_le y9 hb7.size
                clear hb7
                go_wp2_with fail
                refine (HS.out _ (hW5.out.trans (h67.out.mono hW5.out.size))).mono ?_
                rintro e w8 ⟨rfl, hb8⟩
                have h68 := Lib.hid (Below.trans h67.out (hb8.mono (h67.out).size))
                clear hb8 e0 e1 e2 b0 b1 b2 y9 yB y97
                go_wp2_with fail
                refine (LN.out _ (H6.out.trans (h68.out.mono H6.out.size))).mono ?_
                rintro e w9 ⟨rfl, rfl⟩
                have v98 := v9.out.keep h68.out
                have vB8 := vB6.out.keep h68.out
                have e0 := v98.cell 0
                have e1 := v98.cell 1
                have e2 := v98.cell 2
                simp only [List.getElem?_toArray, List.getElem?_cons_zero, List.getElem?_cons_succ] at e0 e1 e2
                have y9 := v98.lt
                have yB := vB8.lt
                have c0' := vB8.cell 0
                have c1' := vB8.cell 1
                have c2' := vB8.cell 2
                simp only [List.getElem?_toArray, List.getElem?_cons_zero, List.getElem?_cons_succ] at c0' c1' c2'
                have f0 := vB8.free 0
                have f1 := vB8.free 1
                have f2 := vB8.free 2
                clear v98 vB8 LN
                go_wp2_with fail
                go_roundw
                case rel =>
                  obtain ⟨hp, hy, hD5, hB5⟩ := H5.out
                  have h58 := H6.out.trans (h68.out.mono H6.out.size)
                  exact ⟨j + 1, by simp, hlt, Lib.hid (lp2_next (la := (x0, x1, x2)) HN.out HD.out.2.1 (hB5.trans (h58.mono hB5.size)) HD.out.2.2.2.1 hlt HD.out.1.len hp hy HD.out.1.heap HD.out.1.keys hD5 h58 (vB6.out.keep h68.out))⟩
                case measure => simp [intOf]; omega
            · obtain rfl : j = n' := by omega
              go_wp2_with fail
              refine TK.out.mono ?_
              rintro e w5 ⟨⟨l', n5, hD5, hTk⟩, hT5⟩
              have hs0 : hs = [] := List.eq_nil_of_length_eq_zero (by rw [HD.out.1.len]; omega)
              subst hs0
              have he := lp2_none hTk
              subst he
              have H5 := Lib.hid (HD.out.2.2.1.trans (hT5.below (fun b hb => by
                rcases hb with rfl | rfl | hb
                · exact H1.out.2.2.1
                · exact H1.out.2.2.2.2
                · exact (HD.out.2.2.2.1 b hb).1) HD.out.2.2.1.size))
              unfold ret2
              clear hTk hD5 hT5 TK
              go_wp2_with fail
              refine bodyPost_ret (by simp [results, Try.results4, go_sem, *]; try rfl) rfl ?_
              exact ⟨rfl, H5.out.trans (((Below.refl _ w5).alloc (Nat.le_refl _) _).mono H5.out.size)⟩
        · go_wp2_with fail
          obtain ⟨HS2, HBN⟩ := lp2_start (t := 31) HL.out rfl
          have HL2 := Lib.hid HS2
          clear HS2
          refine wp_gen (fun W1 hW1 => ?_)
          rw [← hW1] at HL2
          obtain ⟨B, hB⟩ : ∃ B, wk.heap.size = B := ⟨_, rfl⟩
          rw [hB] at HL2 HBN ⊢
          have HN := Lib.hid HBN
          clear hW1 HL hB HBN
          go_loopw [8] (fun i wr => ∃ j : Nat, i = .int .i64 (j : Int) ∧ j ≤ n' ∧ Hid (Lp2 l w d vb mb n' B j wr)) (fun i _ => n' - (intOf i).toNat)
          case atStart => exact ⟨0, rfl, Nat.zero_le _, HL2⟩
          case round =>
            obtain ⟨j, rfl, hj, HL⟩ := hrel
            obtain ⟨A, cap, hs, la, hD, p1, p4, p5, vB, hla⟩ := HL.out
            have TK := Lib.hid (take_any d vb mb cap (n' - j) A 4096 4294967295 hs wr hD)
            have HD := Lib.hid (And.intro hD (And.intro p1 (And.intro p4 (And.intro p5 (And.intro vB hla)))))
            clear hD p1 p4 p5 vB hla HL
            obtain rfl : j = n' := by omega
            go_wp2_with fail
            refine TK.out.mono ?_
            rintro e w5 ⟨⟨l', n5, hD5, hTk⟩, hT5⟩
            have hs0 : hs = [] := List.eq_nil_of_length_eq_zero (by rw [HD.out.1.len]; omega)
            subst hs0
            have he := lp2_none hTk
            subst he
            have H5 := Lib.hid (HD.out.2.2.1.trans (hT5.below (fun b hb => by
              rcases hb with rfl | rfl | hb
              · exact H1.out.2.2.1
              · exact H1.out.2.2.2.2
              · exact (HD.out.2.2.2.1 b hb).1) HD.out.2.2.1.size))
            unfold ret2
            clear hTk hD5 hT5 TK
            go_wp2_with fail
            refine bodyPost_ret (by simp [results, Try.results4, go_sem, *]; try rfl) rfl ?_
            exact ⟨rfl, H5.out.trans (((Below.refl _ w5).alloc (Nat.le_refl _) _).mono H5.out.size)⟩
end Go.Proofs.Ytlogidnadfimlaa
