/-
  The document's Far.
-/
import Derived.Test.YtcpojadinkonnaaFarP
import Derived.Test.YtcpojadinkonnaaPointR
import Derived.Test.YtcpojadinkonnaaRound
namespace Go.Proofs.Ytcpojadinkonnaa
open Go.RowKit

theorem NumAt.overF {w : World} {v : Value} {z : Int} (h : NumAt w v z) {R : Nat} {cs : Array Value} (hV : Var w R 64 cs) (x y : Value) : NumAt ((w.setCell ⟨R, 0, none⟩ x).setCell ⟨R, 1, none⟩ y) v z := by
  obtain ⟨b, A, n, c, ds, rfl, hs, hr, ht, hv⟩ := num_open h
  exact num_mk (hr.over hV x y) ht hs.out hv.out
/-- The furthest one so far is held in a box. -/
def BestF (wr : World) (X : Nat) (F : Int) : Prop := ∃ (b : Bool) (A : Option Addr) (n c : Nat), Var wr X 64 #[.bool b, .slice A n c] ∧ NumAt wr (.agg #[.bool b, .slice A n c]) F
theorem BestF.keep {W W' : World} {X : Nat} {F : Int} (h : BestF W X F) (hb : Below W.heap.size W W') : BestF W' X F := by
  obtain ⟨b, A, n, c, hV, hN⟩ := h
  exact ⟨b, A, n, c, hV.keep hb, hN.below hb⟩
theorem open_numF {P : Program} {f : FuncId} {args : Array Value} {w : World} {x : Int} (h : Calls P f args w fun e w' => ∃ u, e = .returned u ∧ NumAt w' u x ∧ Below w.heap.size w w') :
    Calls P f args w fun e w' => ∃ b A n c d, e = .returned (.agg #[.bool b, .slice A n c]) ∧ (RawAt w' A n c d ∧ Tight d ∧ Hid (b = decide (x < 0)) ∧ Hid (val d = x.natAbs)) ∧ Below w.heap.size w w' :=
  h.mono fun _ _ ⟨u, he, hu, hb⟩ => by
    obtain ⟨b1, A1, n1, c1, d1, rfl, hs1, hr1, ht1, hv1⟩ := num_open hu
    exact ⟨b1, A1, n1, c1, d1, he, ⟨hr1, ht1, hs1, hv1⟩, hb⟩
theorem small_sq {x : Int} (h : -1 ≤ x ∧ x ≤ 36893488147419103232) : Small 14 x.natAbs := by
  unfold Small
  have e : (1000 ^ 14 : Nat) = 1000000000000000000000000000000000000000000 := by decide
  omega
theorem out_none {ps : List Pt} {n : Nat} (hn : ps.length = n) (h2 : n < 2) : outF ps n = (0, 0, -1) := by
  have : n = 0 ∨ n = 1 := by omega
  rcases this with h | h
  · rw [h]; rfl
  · rw [h]
    show inF ps 0 (ps.length - 1) (0, 0, -1) = _
    rw [hn, h]
    rfl
def FrR (g off c n s1 s2 X a b D : Nat) (ob : Bool) (oA : Option Addr) (on oc : Nat) (v w : Value) (Z : Act) : Prop := ∃ u : Nat → Value, Z = { tmps := #[.slice (some ⟨g, off, none⟩) n c, undef, .int .i64 0, .int .i64 0, .int .i64 0, .int .i64 (s1 : Int), .int .i64 (s2 : Int), .pointer (some ⟨X, 0, none⟩), .int .i64 (a : Int), .int .i64 (b : Int), .pointer (some ⟨D, 0, none⟩), .agg #[.bool ob, .slice oA on oc], .int .i64 (a : Int), .slice (some ⟨g, off, none⟩) n c, .int .i64 (n : Int), .bool true, v, w, .int .i64 (a : Int), .int .i64 ((a : Int) + 1), u 20, u 21, u 22, u 23, u 24, u 25, u 26, u 27, u 28, u 29, u 30, u 31, u 32, u 33, u 34, u 35, u 36, u 37, u 38, u 39, u 40, u 41, undef, undef, undef, undef, undef, undef, undef, undef, undef, undef, undef, undef, undef, undef], defers := [] }
theorem frR_mk {g off c n s1 s2 X a b D : Nat} {ob : Bool} {oA : Option Addr} {on oc : Nat} {v w : Value} {x20 x21 x22 x23 x24 x25 x26 x27 x28 x29 x30 x31 x32 x33 x34 x35 x36 x37 x38 x39 x40 x41 : Value} : FrR g off c n s1 s2 X a b D ob oA on oc v w { tmps := #[.slice (some ⟨g, off, none⟩) n c, undef, .int .i64 0, .int .i64 0, .int .i64 0, .int .i64 (s1 : Int), .int .i64 (s2 : Int), .pointer (some ⟨X, 0, none⟩), .int .i64 (a : Int), .int .i64 (b : Int), .pointer (some ⟨D, 0, none⟩), .agg #[.bool ob, .slice oA on oc], .int .i64 (a : Int), .slice (some ⟨g, off, none⟩) n c, .int .i64 (n : Int), .bool true, v, w, .int .i64 (a : Int), .int .i64 ((a : Int) + 1), x20, x21, x22, x23, x24, x25, x26, x27, x28, x29, x30, x31, x32, x33, x34, x35, x36, x37, x38, x39, x40, x41, undef, undef, undef, undef, undef, undef, undef, undef, undef, undef, undef, undef, undef, undef], defers := [] } :=
  ⟨fun i => ([undef, undef, undef, undef, undef, undef, undef, undef, undef, undef, undef, undef, undef, undef, undef, undef, undef, undef, undef, undef, x20, x21, x22, x23, x24, x25, x26, x27, x28, x29, x30, x31, x32, x33, x34, x35, x36, x37, x38, x39, x40, x41] : List Value).getD i undef, rfl⟩

set_option maxHeartbeats 1000000 in
set_option maxRecDepth 100000 in
theorem far_ref (ps : List Pt) (hps : ∀ p ∈ ps, IPt p) (M : Nat) (A : Option Addr) (c n : Nat) (hn : ps.length = n) (hlen : n * 8 ≤ 140737488355328) (w : World) (hP : PtsAt M w (.slice A n c) ps) (hM : M ≤ w.heap.size) :
    Calls Try.prog 23 #[.slice A n c] w fun e w' => e = .returned (.tuple #[.int .i64 ((outF ps n).1 : Int), .int .i64 ((outF ps n).2.1 : Int), .int .i64 (wrap64 (sqd (gp ps (outF ps n).1) (gp ps (outF ps n).2.1)))]) ∧ Below w.heap.size w w' := by
  have HP := Lib.hid (And.intro hP (And.intro hn (And.intro hps (gp_i hps))))
  have HO := Lib.hid (fun W => of_ref (-1) (by omega) W)
  obtain ⟨si, hsi⟩ : ∃ z, (outF ps n).1 = z := ⟨_, rfl⟩
  obtain ⟨sj, hsj⟩ : ∃ z, (outF ps n).2.1 = z := ⟨_, rfl⟩
  obtain ⟨D, hD⟩ : ∃ z, wrap64 (sqd (gp ps si) (gp ps sj)) = z := ⟨_, rfl⟩
  have hcs : (si = 0 ∧ sj = 0 ∧ D = 0) ∨ (si < sj ∧ sj < n) := by
    rcases Nat.lt_or_ge n 2 with h2 | h2
    · have e1 := out_none hn h2
      rw [e1] at hsi hsj
      dsimp only at hsi hsj
      refine .inl ⟨hsi.symm, hsj.symm, ?_⟩
      rw [← hD, ← hsi, ← hsj]
      have : sqd (gp ps 0) (gp ps 0) = 0 := by unfold sqd; grind
      rw [this]; simp [wrap64]
    · obtain ⟨q1, q2, _⟩ := far_max (ps := ps) (by omega)
      rw [hn] at q1 q2
      rw [hsi, hsj] at q1
      rw [hsj] at q2
      exact .inr ⟨q1, q2⟩
  rw [hsi, hsj, hD]
  have HS := Lib.hid (And.intro hsi (And.intro hsj hD))
  have HCS := Lib.hid hcs
  clear hP hn hps hsi hsj hD hcs
  go_enter Try.func23, Try.ntmps23
  go_wp2_with fail
  refine (open_numF (HO.out _)).mono ?_
  rintro e w1 ⟨ob, oA, on, oc, ods, rfl, ⟨hr, ht, hs, hv⟩, hb1⟩
  have HN0 := Lib.hid (And.intro (num_mk hr ht hs.out hv.out) hb1)
  have hz1 := hb1.size
  clear hb1 hr ht hs hv
  go_wp2_with fail
  refine wp_gen (fun W hW => ?_)
  obtain ⟨X, hX⟩ : ∃ X, w1.heap.size = X := ⟨_, rfl⟩
  have vX : Var W X 64 #[.bool ob, .slice oA on oc] := by rw [hW, ← hX]; exact Var.new _ _ _
  have hBW : Below w.heap.size w W := by rw [hW]; exact HN0.out.2.alloc hz1 _
  have hNW : NumAt W (.agg #[.bool ob, .slice oA on oc]) (-1) := HN0.out.1.below (by rw [hW]; go_grown)
  have hwX : w.heap.size ≤ X := by omega
  rw [hX]
  have HW := Lib.hid (And.intro vX (And.intro hBW hNW))
  clear hW hX HO vX hBW hNW
  go_loopw [5, 6, 8] (fun i j t wr => ∃ (a : Nat) (st : Nat × Nat × Int), a ≤ n ∧ t = .int .i64 (a : Int) ∧ st = outF ps a ∧ i = .int .i64 (st.1 : Int) ∧ j = .int .i64 (st.2.1 : Int) ∧ BestF wr X st.2.2 ∧ Below w.heap.size w wr) (fun _ _ t _ => n - (intOf t).toNat)
  case atStart => exact ⟨0, (0, 0, -1), by omega, rfl, rfl, rfl, rfl, ⟨_, _, _, _, HW.out.1, HW.out.2.2⟩, HW.out.2.1⟩
  case round =>
    obtain ⟨a, st, ha, rfl, hst, rfl, rfl, hvX, hB⟩ := hrel
    have hz := hB.size
    rcases Nat.lt_or_ge a n with hlt | hge
    · have haI : (a : Int) < (n : Int) := by omega
      have da : decide ((a : Int) < 0) = false := decide_eq_false (by omega)
      have hwa : IntKind.i64.wrap ((a : Int) + 1) = (a : Int) + 1 := by simp only [IntKind.wrap, IntKind.signed, IntKind.bits]; simp; omega
      have HA := Lib.hid (And.intro hst (And.intro hvX hB))
      obtain ⟨g, off, rfl, hg, hc⟩ := pts_cells HP.out.1 (by have := HP.out.2.1; omega)
      have HC := Lib.hid (fun W (hb : Below w.heap.size w W) j (hj : j < n) => (show W.cell? ⟨g, off + j * 2, none⟩ = some (.int .i32 (gp ps j).1) ∧ W.cell? ⟨g, off + j * 2 + 1, none⟩ = some (.int .i32 (gp ps j).2) from ⟨(hb.cell (p := ⟨g, off + j * 2, none⟩) (show g < w.heap.size by omega)).trans (hc j (by have := HP.out.2.1; omega)).1, (hb.cell (p := ⟨g, off + j * 2 + 1, none⟩) (show g < w.heap.size by omega)).trans (hc j (by have := HP.out.2.1; omega)).2⟩))
      clear hst hvX hB hc
      go_wp2_with fail
      go_loopw [5, 6, 9] (fun i j t wr => ∃ (k : Nat) (st : Nat × Nat × Int), k ≤ n - (a + 1) ∧ t = .int .i64 ((a + 1 + k : Nat) : Int) ∧ st = inF ps a k (outF ps a) ∧ i = .int .i64 (st.1 : Int) ∧ j = .int .i64 (st.2.1 : Int) ∧ BestF wr X st.2.2 ∧ Below w.heap.size w wr) (fun _ _ t _ => n - (intOf t).toNat)
      case atStart => exact ⟨0, st, by omega, by simp, HA.out.1, rfl, rfl, HA.out.2.1, HA.out.2.2⟩
      case round =>
        clear HA hz
        obtain ⟨k, st, hk, rfl, hst, rfl, rfl, hvX, hB⟩ := hrel
        obtain ⟨b, hb⟩ : ∃ b, a + 1 + k = b := ⟨_, rfl⟩
        rw [hb]
        have hz := hB.size
        rcases Nat.lt_or_ge b n with hlt2 | hge2
        · have hbI : (b : Int) < (n : Int) := by omega
          have db : decide ((b : Int) < 0) = false := decide_eq_false (by omega)
          obtain ⟨c0, c1⟩ := HC.out wr hB a hlt
          obtain ⟨d0, d1⟩ := HC.out wr hB b hlt2
          have hfit : Fit ps st := by rw [hst]; exact (in_fit (out_fit ps a (by have := HP.out.2.1; omega)).1 k (by have := HP.out.2.1; omega)).1
          have hF := small_sq (fit_in HP.out.2.2.1 hfit)
          have Ia := HP.out.2.2.2 a
          have Ib := HP.out.2.2.2 b
          have hSq := small_sq (show -1 ≤ sqd (gp ps a) (gp ps b) ∧ _ from ⟨by have := (sqd_in Ia Ib).1; omega, (sqd_in Ia Ib).2⟩)
          have hstep : inF ps a (k + 1) (outF ps a) = stepF ps a b st := by rw [hst, ← hb]; rfl
          obtain ⟨⟨xa, ya⟩, hpa⟩ : ∃ p, gp ps a = p := ⟨_, rfl⟩
          obtain ⟨⟨xb, yb⟩, hpb⟩ : ∃ p, gp ps b = p := ⟨_, rfl⟩
          unfold stepF at hstep
          rw [hpa, hpb] at hstep hSq
          rw [hpa] at c0 c1 Ia
          rw [hpb] at d0 d1 Ib
          dsimp only at c0 c1 d0 d1
          obtain ⟨S, hS⟩ : ∃ S, sqd (xa, ya) (xb, yb) = S := ⟨_, rfl⟩
          have hQ : ∀ W, Calls Try.prog 54 #[(Value.agg #[.int .i32 (xa), .int .i32 (ya)]), (Value.agg #[.int .i32 (xb), .int .i32 (yb)])] W fun e w' => ∃ u, e = .returned u ∧ NumAt w' u S ∧ Below W.heap.size W w' := fun W => by rw [← hS]; exact square04 xa ya xb yb Ia.1 Ia.2 Ib.1 Ib.2 W
          rw [hS] at hstep hSq
          obtain ⟨s1, s2, F⟩ := st
          dsimp only at hF hstep hvX ⊢
          have HQ := Lib.hid hQ
          have hCm := Lib.hid (fun (W : World) v v' (h1 : NumAt W v S) (h2 : NumAt W v' F) => cmp_ref h1 h2 hSq hF (by omega) W (Below.refl _ _))
          have hXz : X < wr.heap.size := by obtain ⟨_, _, _, _, h, _⟩ := hvX; exact h.lt
          have HT := Lib.hid (And.intro hstep (And.intro hvX (And.intro hB hb)))
          have hgz : g < wr.heap.size := by omega
          clear hQ hstep hvX hB hb hst hfit hF hSq hS hpa hpb Ia Ib
          go_wp2_with fail
          refine wp_cutR (fun a' w' => ∃ D b1 A1 n1 c1, FrR g off c n s1 s2 X a b D ob oA on oc u16 u17 a' ∧ wr.heap.size ≤ D ∧ Var w' D 64 #[.bool b1, .slice A1 n1 c1] ∧ NumAt w' (.agg #[.bool b1, .slice A1 n1 c1]) S ∧ Below wr.heap.size wr w') ?_ ?_
          · go_region_held3 (fun w' => Below wr.heap.size wr w' ∧ (∀ b o, b < wr.heap.size → w'.cell? ⟨b, o, none⟩ = wr.cell? ⟨b, o, none⟩))
              (first | assumption | (repeat' (first | assumption | (with_reducible exact held_refl _) | (with_reducible refine held_drew ?_) | (with_reducible refine held_alloc _ ?_) | (with_reducible refine held_set _ (by first | omega | (simp; done) | (simp; omega)) ?_))))
              (first
                | (go_at_call 54; with_reducible refine (open_numF (HQ.out _)).mono ?_; rintro e wk ⟨b1, A1, n1, c1', ds1, rfl, ⟨hr1, ht1⟩, hb_wk⟩; have hS_wk := held_step hb_wk (W0 := wr) (by (first | assumption | (repeat' (first | assumption | (with_reducible exact held_refl _) | (with_reducible refine held_drew ?_) | (with_reducible refine held_alloc _ ?_))))); obtain ⟨hc_wk, hf_wk⟩ := bcell hb_wk; have hz_wk := hb_wk.size; (try simp at hz_wk); (try have hsp1 : wr.heap.size < wk.heap.size := (by omega))))
            all_goals
              refine ⟨rfl, _, b1, A1, n1, c1', frR_mk, ?_, ?_, num_mk (ds := ds1) ?_ ht1.1 ht1.2.1.out ht1.2.2.out, ((show Below wr.heap.size wr _ ∧ (∀ b o, b < wr.heap.size → World.cell? _ ⟨b, o, none⟩ = wr.cell? ⟨b, o, none⟩) by (repeat' (first | assumption | (with_reducible exact held_refl _) | (with_reducible refine held_drew ?_) | (with_reducible refine held_alloc _ ?_) | (with_reducible refine held_set _ (by first | omega | (simp; done) | (simp; omega)) ?_)))).1)⟩
              · first | exact Nat.le_refl _ | (simp; done) | omega | (simp; omega)
              all_goals repeat' (first
                | (with_reducible exact hr1)
                | (with_reducible exact Var.new' _ _ _ (by first | rfl | (simp; done) | (simp; omega)))
                | (with_reducible refine var_twoN ?_)
                | (with_reducible refine Var.drew ?_)
                | (with_reducible refine Var.alloc ?_ _)
                | (with_reducible refine Var.keep ?_ hb_wk)
                | (with_reducible refine raw_farN ?_ ?_)
                | (with_reducible refine raw_alloc ?_ _)
                | (with_reducible refine raw_drew ?_))
          · rintro _ w3 ⟨D3, b1, A1, n1, c1', ⟨u3, rfl⟩, hD3, vD, hu, hb3⟩
            obtain ⟨bF, AF, nF, cF, vF, hNF⟩ := HT.out.2.1.keep hb3
            have d0' : w3.cell? ⟨D3, 0, none⟩ = some (.bool b1) := vD.cell 0
            have d1' : w3.cell? ⟨D3, 1, none⟩ = some (.slice A1 n1 c1') := vD.cell 1
            have x0' : w3.cell? ⟨X, 0, none⟩ = some (.bool bF) := vF.cell 0
            have x1' : w3.cell? ⟨X, 1, none⟩ = some (.slice AF nF cF) := vF.cell 1
            have HC3 := Lib.hid (hCm.out w3 _ _ hu hNF)
            have H3 := Lib.hid (And.intro vD (And.intro vF (And.intro (HT.out.2.2.1.trans (hb3.mono hz)) (And.intro hu hNF))))
            have hz3 := hb3.size
            have zD3 := vD.lt
            have zX3 := vF.lt
            clear vD vF hb3 c0 c1 d0 d1 HQ hCm hu hNF
            go_wp2_with fail
            refine (HC3.out).mono ?_
            rintro e w4 ⟨rfl, hb4⟩
            obtain ⟨sg, hsg⟩ : ∃ z, cmpI S F = z := ⟨_, rfl⟩
            have hpos : 0 < sg ↔ F < S := by rw [← hsg]; exact cmpI_pos
            rw [hsg]
            have vX4 := H3.out.2.1.keep hb4
            have vD4 := H3.out.1.keep hb4
            have hu4 := H3.out.2.2.2.1.below hb4
            have hN4 := H3.out.2.2.2.2.below hb4
            have y0 : w4.cell? ⟨D3, 0, none⟩ = some (.bool b1) := vD4.cell 0
            have y1 : w4.cell? ⟨D3, 1, none⟩ = some (.slice A1 n1 c1') := vD4.cell 1
            have z0 : w4.cell? ⟨X, 0, none⟩ = some (.bool bF) := vX4.cell 0
            have z1 : w4.cell? ⟨X, 1, none⟩ = some (.slice AF nF cF) := vX4.cell 1
            have fx0 := vX4.free 0
            have fx1 := vX4.free 1
            have zX4 := vX4.lt
            have zD4 := vD4.lt
            have hDX : ¬ D3 = X := by omega
            have hXD : ¬ X = D3 := by omega
            have hwb : IntKind.i64.wrap ((b : Int) + 1) = (b : Int) + 1 := by simp only [IntKind.wrap, IntKind.signed, IntKind.bits]; simp; omega
            have hB4 := H3.out.2.2.1.trans (hb4.mono H3.out.2.2.1.size)
            have HN := Lib.hid (And.intro (show BestF _ X S from ⟨b1, A1, n1, c1', (vX4.store 0 (.bool b1)).store 1 (.slice A1 n1 c1'), hu4.overF vX4 _ _⟩) ((hB4.setCell (p := ⟨X, 0, none⟩) hwX (.bool b1)).setCell (p := ⟨X, 1, none⟩) hwX (.slice A1 n1 c1')))
            have HO4 := Lib.hid (And.intro (show BestF w4 X F from ⟨bF, AF, nF, cF, vX4, hN4⟩) hB4)
            clear vX4 vD4 hb4 d0' d1' x0' x1' H3 hsg HC3 hu4 hN4 hB4
            rcases Int.lt_or_le 0 sg with hs | hs
            · have hst2 : inF ps a (k + 1) (outF ps a) = (a, b, S) := by rw [HT.out.1]; exact if_pos (hpos.1 hs)
              have HS2 := Lib.hid hst2
              clear hst2 hpos
              go_wp2_with fail
              go_roundw
              case rel => exact ⟨k + 1, (a, b, S), by have := HT.out.2.2.2; omega, by have := HT.out.2.2.2; simp; omega, HS2.out.symm, rfl, rfl, HN.out.1, HN.out.2⟩
              case measure => simp [intOf]; omega
            · have hs' : ¬ 0 < sg := by omega
              have hst2 : inF ps a (k + 1) (outF ps a) = (s1, s2, F) := by rw [HT.out.1]; exact if_neg (fun h => hs' (hpos.2 h))
              have HS2 := Lib.hid hst2
              clear hst2 hpos hs
              go_wp2_with fail
              go_roundw
              case rel => exact ⟨k + 1, (s1, s2, F), by have := HT.out.2.2.2; omega, by have := HT.out.2.2.2; simp; omega, HS2.out.symm, rfl, rfl, HO4.out.1, HO4.out.2⟩
              case measure => simp [intOf]; omega
        · have hbI : ¬ (b : Int) < (n : Int) := by omega
          have hkE : k = n - (a + 1) := by omega
          have HA2 := Lib.hid (And.intro hst (And.intro hvX (And.intro hB hkE)))
          clear hst hvX hB hkE hb
          go_wp2_with fail
          go_roundw
          case rel =>
            refine ⟨a + 1, st, by omega, by simp, ?_, rfl, rfl, HA2.out.2.1, HA2.out.2.2.1⟩
            rw [HA2.out.1, HA2.out.2.2.2]
            show _ = inF ps a (ps.length - (a + 1)) (outF ps a)
            rw [HP.out.2.1]
          case measure => simp [intOf]; omega
    · have haI : ¬ (a : Int) < (n : Int) := by omega
      have haE : a = n := by omega
      have e1 : st.1 = si := by rw [hst, haE]; exact HS.out.1
      have e2 : st.2.1 = sj := by rw [hst, haE]; exact HS.out.2.1
      rw [e1, e2]
      have HX := Lib.hid hB
      clear hst hvX haE e1 e2
      rcases HCS.out with ⟨q1, q2, q3⟩ | ⟨q1, q2⟩
      · subst q1 q2 q3
        clear hB
        go_wp2_with fail
        go_ret3
        exact ⟨rfl, HX.out⟩
      · obtain ⟨g, off, rfl, hg, hc⟩ := pts_cells HP.out.1 (by have := HP.out.2.1; omega)
        have Ia := HP.out.2.2.2 si
        have Ib := HP.out.2.2.2 sj
        have c0 := (hB.cell (p := ⟨g, off + si * 2, none⟩) (show g < w.heap.size by omega)).trans (hc si (by have := HP.out.2.1; omega)).1
        have c1 := (hB.cell (p := ⟨g, off + si * 2 + 1, none⟩) (show g < w.heap.size by omega)).trans (hc si (by have := HP.out.2.1; omega)).2
        have d0 := (hB.cell (p := ⟨g, off + sj * 2, none⟩) (show g < w.heap.size by omega)).trans (hc sj (by have := HP.out.2.1; omega)).1
        have d1 := (hB.cell (p := ⟨g, off + sj * 2 + 1, none⟩) (show g < w.heap.size by omega)).trans (hc sj (by have := HP.out.2.1; omega)).2
        obtain ⟨⟨xa, ya⟩, hpa⟩ : ∃ p, gp ps si = p := ⟨_, rfl⟩
        obtain ⟨⟨xb, yb⟩, hpb⟩ : ∃ p, gp ps sj = p := ⟨_, rfl⟩
        have hD2 := HS.out.2.2
        rw [hpa, hpb] at hD2
        rw [hpa] at c0 c1 Ia
        rw [hpb] at d0 d1 Ib
        dsimp only at c0 c1 d0 d1
        have HQ : Hid (∀ W, Calls Try.prog 56 #[(Value.agg #[.int .i32 (xa), .int .i32 (ya)]), (Value.agg #[.int .i32 (xb), .int .i32 (yb)])] W fun e w' => e = .returned (.int .i64 D) ∧ Below W.heap.size W w') := Lib.hid (fun W => (dist04 round_says xa ya xb yb Ia.1 Ia.2 Ib.1 Ib.2 W).mono (fun e w' ⟨h1, h2⟩ => ⟨h1.trans (by rw [← hD2]; rfl), h2⟩))
        have hgz : g < wr.heap.size := by have := hB.size; omega
        have s1I : (si : Int) < (n : Int) := by omega
        have s2I : (sj : Int) < (n : Int) := by omega
        have s12 : ¬ (si : Int) = (sj : Int) := by omega
        have ds1 : decide ((si : Int) < 0) = false := decide_eq_false (by omega)
        have ds2 : decide ((sj : Int) < 0) = false := decide_eq_false (by omega)
        clear hB hpa hpb Ia Ib hD2 hc
        go_wp2_with fail
        have hq_wr := @wd_cell wr
        refine wp_region_wd (by kernel_rfl) (by kernel_rfl) ?_
        repeat (go_big_quiet_step ((first | (go_at_call 56; with_reducible exact quiet_wd (HQ.out _)))))
        refine wpQuiet_nil ?_
        rintro w9 ⟨⟨wx, hb_w9⟩, hwx⟩
        obtain rfl : w9 = wx := hwx
        clear hq_wr
        have hz_w9 := hb_w9.size
        obtain ⟨hc_w9, hf_w9⟩ := bcell hb_w9
        have hs_w9_0 : g < w9.heap.size := Nat.lt_of_lt_of_le (by assumption) hb_w9.size
        go_wp2_with fail
        go_ret3
        exact ⟨rfl, HX.out.trans (hb_w9.mono HX.out.size)⟩

end Go.Proofs.Ytcpojadinkonnaa
