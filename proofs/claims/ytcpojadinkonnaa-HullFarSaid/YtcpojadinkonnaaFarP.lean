/-
  The program's square and Far.
-/
import Derived.Test.YtcpojadinkonnaaFarM
import Derived.Test.YtcpojadinkonnaaRef
import Derived.Test.YtcpojadinkonnaaTurnB
import Derived.Deep.LoopGhost
import Derived.OwnWalk
namespace Go.Proofs.Ytcpojadinkonnaa
open Go.RowKit

theorem wide_twoF {w : World} {g : Nat} {u v p q : Value} (h : Var w g 51 #[p, q]) : Var ((w.setCell ⟨g, 0, none⟩ u).setCell ⟨g, 1, none⟩ v) g 51 #[u, v] := (h.store 0 u).store 1 v
theorem far_sq_in {a b : Int} (h1 : I32 a) (h2 : I32 b) : 0 ≤ (b - a) * (b - a) ∧ (b - a) * (b - a) ≤ 18446744073709551616 := by
  unfold I32 at *
  have h3 : (b - a).natAbs ≤ 4294967296 := by omega
  have h4 := Nat.mul_le_mul h3 h3
  rw [← Int.natAbs_mul] at h4
  have := sq_nonneg (b - a)
  omega
theorem sqd_in {p q : Pt} (hp : IPt p) (hq : IPt q) : 0 ≤ sqd p q ∧ sqd p q ≤ 36893488147419103232 := by
  have h1 := far_sq_in hp.1 hq.1
  have h2 := far_sq_in hp.2 hq.2
  unfold sqd
  omega
theorem in_far {x : Int} (h : -1 ≤ x ∧ x ≤ 36893488147419103232) : In128 x := by unfold In128; omega

set_option maxHeartbeats 1000000 in
theorem hsquare_any (ax ay bx by_ : Int) (h1 : I32 ax) (h2 : I32 ay) (h3 : I32 bx) (h4 : I32 by_) (w : World) :
    Calls Try.prog 51 #[.agg #[.int .i32 ax, .int .i32 ay], .agg #[.int .i32 bx, .int .i32 by_]] w fun e w' => e = .returned (.agg #[.int .i64 (hi64 (sqd (ax, ay) (bx, by_))), .int .u64 (lo64 (sqd (ax, ay) (bx, by_)))]) ∧ Below w.heap.size w w' := by
  have M1 := Lib.hid (fun W => mul_any (bx - ax) (bx - ax) (d_64 h3 h1) (d_64 h3 h1) W)
  have M2 := Lib.hid (fun W => mul_any (by_ - ay) (by_ - ay) (d_64 h4 h2) (d_64 h4 h2) W)
  have A := Lib.hid (fun W => add_any ((bx - ax) * (bx - ax)) ((by_ - ay) * (by_ - ay)) W)
  have e1 := wrap_sub h3 h1
  have e2 := wrap_sub h4 h2
  have hs : sqd (ax, ay) (bx, by_) = (bx - ax) * (bx - ax) + (by_ - ay) * (by_ - ay) := rfl
  rw [hs]
  obtain ⟨dx, hdx⟩ : ∃ d, bx - ax = d := ⟨_, rfl⟩
  obtain ⟨dy, hdy⟩ : ∃ d, by_ - ay = d := ⟨_, rfl⟩
  rw [hdx] at M1 A e1 ⊢
  rw [hdy] at M2 A e2 ⊢
  clear h1 h2 h3 h4 hs hdx hdy
  go_enter Try.func51, Try.ntmps51
  go_wp2_with fail
  refine wp_gen (fun W hW => ?_)
  have v0 : Var W w.heap.size 32 #[.int .i32 ax, .int .i32 ay] := by rw [hW]; exact ((Var.new _ _ _).alloc _).alloc _
  have v1 : Var W (w.heap.size + 1) 32 #[.int .i32 bx, .int .i32 by_] := by rw [hW]; exact (Var.new' _ _ _ (by simp)).alloc _
  have v2 : Var W (w.heap.size + 1 + 1) 51 #[.int .i64 0, .int .u64 0] := by rw [hW]; exact Var.new' _ _ _ (by simp)
  have hB : Below w.heap.size w W := by rw [hW]; go_grown
  have a0 : W.cell? ⟨w.heap.size, 0, none⟩ = some (.int .i32 ax) := v0.cell 0
  have a1 : W.cell? ⟨w.heap.size, 1, none⟩ = some (.int .i32 ay) := v0.cell 1
  have b0 : W.cell? ⟨w.heap.size + 1, 0, none⟩ = some (.int .i32 bx) := v1.cell 0
  have b1 : W.cell? ⟨w.heap.size + 1, 1, none⟩ = some (.int .i32 by_) := v1.cell 1
  have s0 := v0.lt
  have s1 := v1.lt
  have z2 := v2.lt
  clear hW
  have hq_W := @wd_cell W
  refine wp_region_wd (by kernel_rfl) (by kernel_rfl) ?_
  repeat (go_big_quiet_step ((first | (fail))))
  refine wpQuiet_nil ?_
  rintro w1 ⟨⟨wx, hb_w1⟩, hwx⟩
  obtain rfl : w1 = wx := hwx
  clear hq_W
  have hz_w1 := hb_w1.size
  obtain ⟨hc_w1, hf_w1⟩ := bcell hb_w1
  have hs_w1_0 : w.heap.size < w1.heap.size := Nat.lt_of_lt_of_le (by assumption) hb_w1.size
  have hs_w1_1 : w.heap.size + 1 < w1.heap.size := Nat.lt_of_lt_of_le (by assumption) hb_w1.size
  have v3 := v2.keep hb_w1
  have hB1 := hB.trans (hb_w1.mono hB.size)
  have hz1 := hB1.size
  have z3 := v3.lt
  have H1 := Lib.hid (And.intro v3 hB1)
  clear hb_w1 hc_w1 hf_w1 v0 v1 v2 hB a0 a1 b0 b1 v3 hB1
  go_wp2_with fail
  refine (M1.out _).mono ?_
  rintro e w2 ⟨rfl, hb2⟩
  have H2 := Lib.hid (And.intro (H1.out.1.keep hb2) (H1.out.2.trans (hb2.mono hz1)))
  clear hb2
  go_wp2_with fail
  refine (M2.out _).mono ?_
  rintro e w3 ⟨rfl, hb3⟩
  have H3 := Lib.hid (And.intro (H2.out.1.keep hb3) (H2.out.2.trans (hb3.mono H2.out.2.size)))
  clear hb3
  go_wp2_with fail
  refine (A.out _).mono ?_
  rintro e w4 ⟨rfl, hb4⟩
  have v4 := H3.out.1.keep hb4
  have hB4 := H3.out.2.trans (hb4.mono H3.out.2.size)
  have c0 : w4.cell? ⟨w.heap.size + 1 + 1, 0, none⟩ = some (.int .i64 0) := v4.cell 0
  have c1 : w4.cell? ⟨w.heap.size + 1 + 1, 1, none⟩ = some (.int .u64 0) := v4.cell 1
  have f0 := v4.free 0
  have f1 := v4.free 1
  have z4 := v4.lt
  clear hb4
  go_wp2_with fail
  refine bodyPost_ret (by simp [results, Try.results51, go_sem, *]; try rfl) rfl ?_
  exact ⟨rfl, by go_grown⟩

theorem fit_in {ps : List Pt} (hps : ∀ p ∈ ps, IPt p) {s : Nat × Nat × Int} (h : Fit ps s) : -1 ≤ s.2.2 ∧ s.2.2 ≤ 36893488147419103232 := by
  rcases h with rfl | ⟨_, _, h⟩
  · dsimp only; omega
  · rw [h]
    have := sqd_in (gp_i hps s.1) (gp_i hps s.2.1)
    omega

def FrF (g off c n s1 s2 X a b D : Nat) (v : Value) (A : Act) : Prop := ∃ u : Nat → Value, A = { tmps := #[.slice (some ⟨g, off, none⟩) n c, undef, .int .i64 (s1 : Int), .int .i64 (s2 : Int), .int .i64 0, .pointer (some ⟨X, 0, none⟩), .int .i64 (a : Int), .int .i64 (b : Int), .pointer (some ⟨D, 0, none⟩), .slice (some ⟨g, off, none⟩) n c, .int .i64 (n : Int), .bool false, .agg #[.int .i64 (hi64 (-1)), .int .u64 (lo64 (-1))], .slice (some ⟨g, off, none⟩) n c, .int .i64 (n : Int), .int .i64 (a : Int), .bool true, .int .i64 (a : Int), .int .i64 (a : Int), .int .i64 ((a : Int) + 1), u 20, u 21, u 22, u 23, u 24, u 25, u 26, u 27, u 28, u 29, u 30, u 31, u 32, u 33, u 34, u 35, u 36, u 37, u 38, u 39, u 40, u 41, v, undef, undef, undef, undef, undef, undef, undef, undef, undef, undef, undef], defers := [] }
theorem frF_mk {g off c n s1 s2 X a b D : Nat} {v : Value} {x20 x21 x22 x23 x24 x25 x26 x27 x28 x29 x30 x31 x32 x33 x34 x35 x36 x37 x38 x39 x40 x41 : Value} : FrF g off c n s1 s2 X a b D v { tmps := #[.slice (some ⟨g, off, none⟩) n c, undef, .int .i64 (s1 : Int), .int .i64 (s2 : Int), .int .i64 0, .pointer (some ⟨X, 0, none⟩), .int .i64 (a : Int), .int .i64 (b : Int), .pointer (some ⟨D, 0, none⟩), .slice (some ⟨g, off, none⟩) n c, .int .i64 (n : Int), .bool false, .agg #[.int .i64 (hi64 (-1)), .int .u64 (lo64 (-1))], .slice (some ⟨g, off, none⟩) n c, .int .i64 (n : Int), .int .i64 (a : Int), .bool true, .int .i64 (a : Int), .int .i64 (a : Int), .int .i64 ((a : Int) + 1), x20, x21, x22, x23, x24, x25, x26, x27, x28, x29, x30, x31, x32, x33, x34, x35, x36, x37, x38, x39, x40, x41, v, undef, undef, undef, undef, undef, undef, undef, undef, undef, undef, undef], defers := [] } :=
  ⟨fun i => ([undef, undef, undef, undef, undef, undef, undef, undef, undef, undef, undef, undef, undef, undef, undef, undef, undef, undef, undef, undef, x20, x21, x22, x23, x24, x25, x26, x27, x28, x29, x30, x31, x32, x33, x34, x35, x36, x37, x38, x39, x40, x41] : List Value).getD i undef, rfl⟩
def WF (x : Int) : Array Value := #[.int .i64 (hi64 x), .int .u64 (lo64 x)]

set_option maxHeartbeats 1000000 in
set_option maxRecDepth 100000 in
theorem hfar_any (ps : List Pt) (hps : ∀ p ∈ ps, IPt p) (M : Nat) (A : Option Addr) (c n : Nat) (hn : ps.length = n) (hlen : n * 8 ≤ 140737488355328) (w : World) (hP : PtsAt M w (.slice A n c) ps) (hM : M ≤ w.heap.size) :
    Calls Try.prog 22 #[.slice A n c] w fun e w' => e = .returned (.tuple #[.int .i64 ((outF ps n).1 : Int), .int .i64 ((outF ps n).2.1 : Int), .int .i64 (wrap64 (sqd (gp ps (outF ps n).1) (gp ps (outF ps n).2.1)))]) ∧ Below w.heap.size w w' := by
  have HP := Lib.hid (And.intro hP (And.intro hn (And.intro hps (gp_i hps))))
  rcases Nat.lt_or_ge n 2 with h2 | h2
  · have e1 : outF ps n = (0, 0, -1) := by
      have : n = 0 ∨ n = 1 := by omega
      rcases this with h | h
      · rw [h]; rfl
      · rw [h]
        show inF ps 0 (ps.length - 1) (0, 0, -1) = _
        rw [hn, h]
        rfl
    have e2 : wrap64 (sqd (gp ps 0) (gp ps 0)) = 0 := by
      have : sqd (gp ps 0) (gp ps 0) = 0 := by unfold sqd; grind
      rw [this]; simp [wrap64]
    rw [e1]
    dsimp only
    rw [e2]
    have hI : (n : Int) < 2 := by omega
    clear hP hn hps e1 e2
    go_enter Try.func22, Try.ntmps22
    go_wp2_with fail
    go_ret3
    exact ⟨rfl, by go_grown⟩
  · have hI : ¬ (n : Int) < 2 := by omega
    obtain ⟨si, hsi⟩ : ∃ z, (outF ps n).1 = z := ⟨_, rfl⟩
    obtain ⟨sj, hsj⟩ : ∃ z, (outF ps n).2.1 = z := ⟨_, rfl⟩
    obtain ⟨D, hD⟩ : ∃ z, wrap64 (sqd (gp ps si) (gp ps sj)) = z := ⟨_, rfl⟩
    obtain ⟨hfit, _⟩ := out_fit ps n (by omega)
    obtain ⟨q1, q2, _⟩ := far_max (ps := ps) (by omega)
    rw [hn] at q1 q2
    rw [hsi, hsj] at q1
    rw [hsj] at q2
    rw [hsi, hsj, hD]
    have HS := Lib.hid (And.intro hsi (And.intro hsj hD))
    obtain ⟨g, off, rfl, hg, hc⟩ := pts_cells hP (by omega)
    have HC := Lib.hid (fun W (hb : Below w.heap.size w W) j (hj : j < n) => (show W.cell? ⟨g, off + j * 2, none⟩ = some (.int .i32 (gp ps j).1) ∧ W.cell? ⟨g, off + j * 2 + 1, none⟩ = some (.int .i32 (gp ps j).2) from ⟨(hb.cell (p := ⟨g, off + j * 2, none⟩) (show g < w.heap.size by omega)).trans (hc j (by omega)).1, (hb.cell (p := ⟨g, off + j * 2 + 1, none⟩) (show g < w.heap.size by omega)).trans (hc j (by omega)).2⟩))
    have HO := Lib.hid (fun W => of_any (-1) (by omega) W)
    clear hP hn hps hc hsi hsj hD hfit
    go_enter Try.func22, Try.ntmps22
    go_wp2_with fail
    refine (HO.out _).mono ?_
    rintro e w1 ⟨rfl, hb1⟩
    have HB1 := Lib.hid hb1
    have hz1 := hb1.size
    clear hb1
    go_wp2_with fail
    refine wp_gen (fun W hW => ?_)
    obtain ⟨X, hX⟩ : ∃ X, w1.heap.size = X := ⟨_, rfl⟩
    have vX : Var W X 51 #[.int .i64 (hi64 (-1)), .int .u64 (lo64 (-1))] := by rw [hW, ← hX]; exact Var.new _ _ _
    have hBW : Below w.heap.size w W := by rw [hW]; exact HB1.out.alloc hz1 _
    have hwX : w.heap.size ≤ X := by omega
    rw [hX]
    clear hW hX HO
    go_loopw [2, 3, 15] (fun i j t wr => ∃ (a : Nat) (st : Nat × Nat × Int), a ≤ n ∧ t = .int .i64 (a : Int) ∧ st = outF ps a ∧ i = .int .i64 (st.1 : Int) ∧ j = .int .i64 (st.2.1 : Int) ∧ Var wr X 51 #[.int .i64 (hi64 st.2.2), .int .u64 (lo64 st.2.2)] ∧ Below w.heap.size w wr) (fun _ _ t _ => n - (intOf t).toNat)
    case atStart => exact ⟨0, (0, 0, -1), by omega, rfl, rfl, rfl, rfl, vX, hBW⟩
    case round =>
      obtain ⟨a, st, ha, rfl, hst, rfl, rfl, hvX, hB⟩ := hrel
      clear vX hBW
      have hz := hB.size
      rcases Nat.lt_or_ge a n with hlt | hge
      · have haI : (a : Int) < (n : Int) := by omega
        have da : decide ((a : Int) < 0) = false := decide_eq_false (by omega)
        have HA := Lib.hid (And.intro hst (And.intro hvX hB))
        clear hst hvX hB
        go_wp2_with fail
        go_loopw [2, 3, 7] (fun i j t wr => ∃ (k : Nat) (st : Nat × Nat × Int), k ≤ n - (a + 1) ∧ t = .int .i64 ((a + 1 + k : Nat) : Int) ∧ st = inF ps a k (outF ps a) ∧ i = .int .i64 (st.1 : Int) ∧ j = .int .i64 (st.2.1 : Int) ∧ Var wr X 51 #[.int .i64 (hi64 st.2.2), .int .u64 (lo64 st.2.2)] ∧ Below w.heap.size w wr) (fun _ _ t _ => n - (intOf t).toNat)
        case atStart => exact ⟨0, st, by omega, by simp, HA.out.1, rfl, rfl, HA.out.2.1, HA.out.2.2⟩
        case round =>
          clear HA hz
          obtain ⟨k, st, hk, rfl, hst, rfl, rfl, hvX, hB⟩ := hrel
          obtain ⟨b, hb⟩ : ∃ b, a + 1 + k = b := ⟨_, rfl⟩
          rw [hb]
          have hz := hB.size
          rcases Nat.lt_or_ge b n with hlt2 | hge2
          · have hbI : (b : Int) < (n : Int) := by omega
            have db : decide ((b : Int) < 0) = false := decide_eq_false (by omega)
            obtain ⟨c0, c1⟩ := HC.out wr hB a hlt
            obtain ⟨d0, d1⟩ := HC.out wr hB b hlt2
            have hfit : Fit ps st := by rw [hst]; exact (in_fit (out_fit ps a (by have := HP.out.2.1; omega)).1 k (by have := HP.out.2.1; omega)).1
            have hF := in_far (fit_in HP.out.2.2.1 hfit)
            have Ia := HP.out.2.2.2 a
            have Ib := HP.out.2.2.2 b
            have hSq := in_far (show -1 ≤ sqd (gp ps a) (gp ps b) ∧ _ from ⟨by have := (sqd_in Ia Ib).1; omega, (sqd_in Ia Ib).2⟩)
            have hstep : inF ps a (k + 1) (outF ps a) = stepF ps a b st := by rw [hst, ← hb]; rfl
            obtain ⟨⟨xa, ya⟩, hpa⟩ : ∃ p, gp ps a = p := ⟨_, rfl⟩
            obtain ⟨⟨xb, yb⟩, hpb⟩ : ∃ p, gp ps b = p := ⟨_, rfl⟩
            unfold stepF at hstep
            rw [hpa, hpb] at hstep hSq
            rw [hpa] at c0 c1 Ia
            rw [hpb] at d0 d1 Ib
            dsimp only at c0 c1 d0 d1
            have hQ := fun W => hsquare_any xa ya xb yb Ia.1 Ia.2 Ib.1 Ib.2 W
            obtain ⟨S, hS⟩ : ∃ S, sqd (xa, ya) (xb, yb) = S := ⟨_, rfl⟩
            rw [hS] at hQ hstep hSq
            obtain ⟨s1, s2, F⟩ := st
            dsimp only at hF hstep hvX ⊢
            have HQ := Lib.hid hQ
            have hCm := Lib.hid (fun W => cmp_any S F hSq hF W)
            have HT := Lib.hid (And.intro hstep (And.intro hvX (And.intro hB hb)))
            have x0 : wr.cell? ⟨X, 0, none⟩ = some (.int .i64 (hi64 F)) := hvX.cell 0
            have x1 : wr.cell? ⟨X, 1, none⟩ = some (.int .u64 (lo64 F)) := hvX.cell 1
            have hXz := hvX.lt
            have hgz : g < wr.heap.size := by omega
            clear hQ hstep hvX hB hb hst hfit hF hSq hS hpa hpb Ia Ib
            go_wp2_with fail
            refine wp_cutR (fun a' w' => ∃ D, FrF g off c n s1 s2 X a b D u42 a' ∧ wr.heap.size ≤ D ∧ Var w' D 51 (WF S) ∧ Below wr.heap.size wr w') ?_ ?_
            · go_region_held3 (fun w' => Below wr.heap.size wr w' ∧ (∀ b o, b < wr.heap.size → w'.cell? ⟨b, o, none⟩ = wr.cell? ⟨b, o, none⟩))
                (first | assumption | (repeat' (first | assumption | (with_reducible exact held_refl _) | (with_reducible refine held_drew ?_) | (with_reducible refine held_alloc _ ?_) | (with_reducible refine held_set _ (by first | omega | (simp; done) | (simp; omega)) ?_))))
                (first
                  | (go_at_call 51; with_reducible refine (HQ.out _).mono ?_; rintro e wk ⟨rfl, hb_wk⟩; have hS_wk := held_step hb_wk (W0 := wr) (by (first | assumption | (repeat' (first | assumption | (with_reducible exact held_refl _) | (with_reducible refine held_drew ?_) | (with_reducible refine held_alloc _ ?_))))); obtain ⟨hc_wk, hf_wk⟩ := bcell hb_wk; have hz_wk := hb_wk.size; (try simp at hz_wk); (try have hsp1 : wr.heap.size < wk.heap.size := (by omega))))
              all_goals
                refine ⟨rfl, _, frF_mk, ?_, ?_, ((show Below wr.heap.size wr _ ∧ (∀ b o, b < wr.heap.size → World.cell? _ ⟨b, o, none⟩ = wr.cell? ⟨b, o, none⟩) by (repeat' (first | assumption | (with_reducible exact held_refl _) | (with_reducible refine held_drew ?_) | (with_reducible refine held_alloc _ ?_) | (with_reducible refine held_set _ (by first | omega | (simp; done) | (simp; omega)) ?_)))).1)⟩
                · first | exact Nat.le_refl _ | (simp; done) | omega | (simp; omega)
                · unfold WF
                  repeat' (first
                    | (with_reducible exact Var.new' _ _ _ (by first | rfl | (simp; done) | (simp; omega)))
                    | (with_reducible refine wide_twoF (p := .int .i64 0) (q := .int .u64 0) ?_)
                    | (with_reducible refine Var.drew ?_)
                    | (with_reducible refine Var.alloc ?_ _)
                    | (with_reducible refine Var.keep ?_ hb_wk))
            · rintro _ w3 ⟨D3, ⟨u3, rfl⟩, hD3, vD, hb3⟩
              have vX3 := HT.out.2.1.keep hb3
              have d0' : w3.cell? ⟨D3, 0, none⟩ = some (.int .i64 (hi64 S)) := vD.cell 0
              have d1' : w3.cell? ⟨D3, 1, none⟩ = some (.int .u64 (lo64 S)) := vD.cell 1
              have x0' : w3.cell? ⟨X, 0, none⟩ = some (.int .i64 (hi64 F)) := vX3.cell 0
              have x1' : w3.cell? ⟨X, 1, none⟩ = some (.int .u64 (lo64 F)) := vX3.cell 1
              have H3 := Lib.hid (And.intro vD (And.intro vX3 (HT.out.2.2.1.trans (hb3.mono hz))))
              have hz3 := hb3.size
              have zD3 := vD.lt
              have zX3 := vX3.lt
              clear vD vX3 hb3 c0 c1 d0 d1 x0 x1 HQ
              go_wp2_with fail
              refine (hCm.out w3).mono ?_
              rintro e w4 ⟨rfl, hb4⟩
              obtain ⟨sg, hsg⟩ : ∃ z, cmpI S F = z := ⟨_, rfl⟩
              have hpos : 0 < sg ↔ F < S := by rw [← hsg]; exact cmpI_pos
              rw [hsg]
              have vX4 := H3.out.2.1.keep hb4
              have vD4 := H3.out.1.keep hb4
              have y0 : w4.cell? ⟨D3, 0, none⟩ = some (.int .i64 (hi64 S)) := vD4.cell 0
              have y1 : w4.cell? ⟨D3, 1, none⟩ = some (.int .u64 (lo64 S)) := vD4.cell 1
              have z0 : w4.cell? ⟨X, 0, none⟩ = some (.int .i64 (hi64 F)) := vX4.cell 0
              have z1 : w4.cell? ⟨X, 1, none⟩ = some (.int .u64 (lo64 F)) := vX4.cell 1
              have fx0 := vX4.free 0
              have fx1 := vX4.free 1
              have zX4 := vX4.lt
              have zD4 := vD4.lt
              have hDX : ¬ D3 = X := by omega
              have hXD : ¬ X = D3 := by omega
              have hwb : IntKind.i64.wrap ((b : Int) + 1) = (b : Int) + 1 := by simp only [IntKind.wrap, IntKind.signed, IntKind.bits]; simp; omega
              have H4 := Lib.hid (And.intro vX4 (H3.out.2.2.trans (hb4.mono H3.out.2.2.size)))
              clear vX4 vD4 hb4 d0' d1' x0' x1' H3 hsg hCm
              rcases Int.lt_or_le 0 sg with hs | hs
              · have hst2 : inF ps a (k + 1) (outF ps a) = (a, b, S) := by rw [HT.out.1]; exact if_pos (hpos.1 hs)
                have HS2 := Lib.hid hst2
                clear hst2 hpos
                go_wp2_with fail
                refine wp_cutR (fun a' w' => FrF g off c n a b X a b D3 u42 a' ∧ Var w' X 51 (WF S) ∧ Below w.heap.size w w') ?_ ?_
                · go_region
                  all_goals
                    refine ⟨rfl, frF_mk, ?_, ?_⟩
                    · exact Var.drew (wide_twoF H4.out.1)
                    · exact (((H4.out.2.setCell (p := ⟨X, 0, none⟩) hwX _).setCell (p := ⟨X, 1, none⟩) hwX _)).drew
                · rintro _ w5 ⟨⟨u5, rfl⟩, vX5, hb5⟩
                  have H5 := Lib.hid (And.intro vX5 hb5)
                  clear vX5 hb5
                  go_wp2_with fail
                  go_roundw
                  case rel => exact ⟨k + 1, (a, b, S), by have := HT.out.2.2.2; omega, by have := HT.out.2.2.2; simp; omega, HS2.out.symm, rfl, rfl, H5.out.1, H5.out.2⟩
                  case measure => simp [intOf]; omega
              · have hs' : ¬ 0 < sg := by omega
                have hst2 : inF ps a (k + 1) (outF ps a) = (s1, s2, F) := by rw [HT.out.1]; exact if_neg (fun h => hs' (hpos.2 h))
                have HS2 := Lib.hid hst2
                clear hst2 hpos hs
                go_wp2_with fail
                go_roundw
                case rel => exact ⟨k + 1, (s1, s2, F), by have := HT.out.2.2.2; omega, by have := HT.out.2.2.2; simp; omega, HS2.out.symm, rfl, rfl, H4.out.1, H4.out.2⟩
                case measure => simp [intOf]; omega
          · have hbI : ¬ (b : Int) < (n : Int) := by omega
            have hkE : k = n - (a + 1) := by omega
            have HA2 := Lib.hid (And.intro hst (And.intro hvX (And.intro hB hkE)))
            clear hst hvX hB hkE hb
            go_wp2_with fail
            go_roundw
            case rel =>
              refine ⟨a + 1, st, by omega, by simp, ?_, rfl, rfl, HA2.out.2.1, HA2.out.2.2.1⟩
              rw [HA2.out.1, HA2.out.2.2.2]
              show _ = inF ps a (ps.length - (a + 1)) (outF ps a)
              rw [HP.out.2.1]
            case measure => simp [intOf]; omega
      · have haI : ¬ (a : Int) < (n : Int) := by omega
        have haE : a = n := by omega
        have e1 : st.1 = si := by rw [hst, haE]; exact HS.out.1
        have e2 : st.2.1 = sj := by rw [hst, haE]; exact HS.out.2.1
        rw [e1, e2]
        have Ia := HP.out.2.2.2 si
        have Ib := HP.out.2.2.2 sj
        obtain ⟨c0, c1⟩ := HC.out wr hB si (by omega)
        obtain ⟨d0, d1⟩ := HC.out wr hB sj (by omega)
        obtain ⟨⟨xa, ya⟩, hpa⟩ : ∃ p, gp ps si = p := ⟨_, rfl⟩
        obtain ⟨⟨xb, yb⟩, hpb⟩ : ∃ p, gp ps sj = p := ⟨_, rfl⟩
        have hD2 := HS.out.2.2
        rw [hpa, hpb] at hD2
        rw [hpa] at c0 c1 Ia
        rw [hpb] at d0 d1 Ib
        dsimp only at c0 c1 d0 d1
        have HQ : Hid (∀ W, Calls Try.prog 52 #[(Value.agg #[.int .i32 (xa), .int .i32 (ya)]), (Value.agg #[.int .i32 (xb), .int .i32 (yb)])] W fun e w' => e = .returned (.int .i64 D) ∧ Below W.heap.size W w') := Lib.hid (fun W => (dist_any xa ya xb yb Ia.1 Ia.2 Ib.1 Ib.2 W).mono (fun e w' ⟨h1, h2⟩ => ⟨h1.trans (by rw [← hD2]; rfl), h2⟩))
        have HX := Lib.hid hB
        have hgz : g < wr.heap.size := by have := hB.size; omega
        have s1I : (si : Int) < (n : Int) := by omega
        have s2I : (sj : Int) < (n : Int) := by omega
        have ds1 : decide ((si : Int) < 0) = false := decide_eq_false (by omega)
        have ds2 : decide ((sj : Int) < 0) = false := decide_eq_false (by omega)
        clear hst hvX hB haE e1 e2 hpa hpb Ia Ib hD2
        go_wp2_with fail
        have hq_wr := @wd_cell wr
        refine wp_region_wd (by kernel_rfl) (by kernel_rfl) ?_
        repeat (go_big_quiet_step ((first | (go_at_call 52; with_reducible exact quiet_wd (HQ.out _)))))
        refine wpQuiet_nil ?_
        rintro w9 ⟨⟨wx, hb_w9⟩, hwx⟩
        obtain rfl : w9 = wx := hwx
        clear hq_wr
        have hz_w9 := hb_w9.size
        obtain ⟨hc_w9, hf_w9⟩ := bcell hb_w9
        have hs_w9_0 : g < w9.heap.size := Nat.lt_of_lt_of_le (by assumption) hb_w9.size
        go_wp2_with fail
        go_ret3
        exact ⟨rfl, HX.out.trans (hb_w9.mono HX.out.size)⟩

end Go.Proofs.Ytcpojadinkonnaa
