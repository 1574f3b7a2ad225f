/-
  The document's Meet: how two segments meet. Printed by wip/tools/gen_meetr.py.
-/
import Derived.Test.YtpjgghakeaajbaaMeetS
import Derived.Test.YtpjgghakeaajbaaLives
namespace Go.Proofs.Ytpjgghakeaajbaa
open Go.RowKit

theorem wp_cutM {P : Program} {c : Code} {Q : Exit → Act → World → Prop} {a : Act} {w : World} (R : Act → World → Prop) (h1 : c.wp P (fun e a' w' => e = .normal ∧ R a' w') a w) (h2 : ∀ a' w', R a' w' → Q .normal a' w') : c.wp P Q a w :=
  Code.wp_mono (fun e a' w' ⟨he, hR⟩ => by subst he; exact h2 a' w' hR) h1

set_option warningAsError false in
set_option maxHeartbeats 8000000 in
set_option maxRecDepth 100000 in
theorem meet_r (a b c d : Pt) (w : World) :
    Calls Try.prog 7 #[.agg #[.int .i32 a.1, .int .i32 a.2], .agg #[.int .i32 b.1, .int .i32 b.2], .agg #[.int .i32 c.1, .int .i32 c.2], .agg #[.int .i32 d.1, .int .i32 d.2]] w fun e w' => e = .returned (MtV (meetR a b c d)) ∧ Below w.heap.size w w' := by
  have Ia := Lib.hid (fun W => rin_any a W)
  have Ib := Lib.hid (fun W => rin_any b W)
  have Ic := Lib.hid (fun W => rin_any c W)
  have Id := Lib.hid (fun W => rin_any d W)
  obtain ⟨M, hM⟩ : ∃ M, meetR a b c d = M := ⟨_, rfl⟩
  rw [hM]
  have HM := Lib.hid hM
  clear hM
  by_cases hin : (inP a && inP b && inP c && inP d) = true
  · have hI := hin
    simp only [Bool.and_eq_true] at hI
    obtain ⟨⟨⟨ia, ib⟩, ic⟩, id'⟩ := hI
    rw [ia] at Ia
    rw [ib] at Ib
    rw [ic] at Ic
    rw [id'] at Id
    have ha := inP_i32 ia
    have hb := inP_i32 ib
    have hc := inP_i32 ic
    have hd := inP_i32 id'
    have HIN := Lib.hid hin
    have HII := Lib.hid (And.intro (And.intro ia ib) (And.intro ic id'))
    clear ia ib ic id' hin
    by_cases hab : a = b
    · subst hab
      have ON := Lib.hid (fun W => on_r a c d ha hc hd W)
      have HMe := Lib.hid (show meetR a a c d = if onR a c d then ⟨1, false, (0, 1), (0, 1)⟩ else mt0 by unfold meetR; rw [if_pos HIN.out, if_pos rfl])
      clear ha hb hc hd
      cases ho : onR a c d
      · rw [ho] at ON HMe
        clear ho
        obtain ⟨a1, a2⟩ := a
        obtain ⟨c1, c2⟩ := c
        obtain ⟨d1, d2⟩ := d
        dsimp only at ON Ia Ib Ic Id
        skip
        go_enter Try.func7, Try.ntmps7
        go_upto_region 1 with fail
        refine wp_gen (fun W0 hW => ?_)
        obtain ⟨A, hA⟩ : ∃ A, w.heap.size = A := ⟨_, rfl⟩
        have HA := Lib.hid hA
        have St : Hid (MtSt w A (A + 1) (A + 1 + 1) (A + 1 + 1 + 1) (A + 1 + 1 + 1 + 1) (a1, a2) (a1, a2) (c1, c2) (d1, d2) W0) := Lib.hid ⟨by rw [hW]; go_grown, by rw [hW, ← hA]; exact ((((Var.new _ _ _).alloc _).alloc _).alloc _).alloc _, by rw [hW, ← hA]; exact (((Var.new' _ _ _ (by simp)).alloc _).alloc _).alloc _, by rw [hW, ← hA]; exact ((Var.new' _ _ _ (by simp)).alloc _).alloc _, by rw [hW, ← hA]; exact (Var.new' _ _ _ (by simp)).alloc _, by rw [hW, ← hA]; exact Var.new' _ _ _ (by simp)⟩
        clear hW
        rw [hA]
        obtain ⟨B, hB⟩ : ∃ B, A + 1 = B := ⟨_, rfl⟩
        rw [hB] at St ⊢
        obtain ⟨C, hC⟩ : ∃ C, B + 1 = C := ⟨_, rfl⟩
        rw [hC] at St ⊢
        obtain ⟨D, hD⟩ : ∃ D, C + 1 = D := ⟨_, rfl⟩
        rw [hD] at St ⊢
        obtain ⟨R, hR⟩ : ∃ R, D + 1 = R := ⟨_, rfl⟩
        rw [hR] at St ⊢
        have hAR : A ≤ R := by omega
        have hwR : w.heap.size ≤ R := by omega
        have nAR : ¬ A = R := by omega
        have nRA : ¬ R = A := by omega
        have nBR : ¬ B = R := by omega
        have nRB : ¬ R = B := by omega
        have nCR : ¬ C = R := by omega
        have nRC : ¬ R = C := by omega
        have nDR : ¬ D = R := by omega
        have nRD : ¬ R = D := by omega
        clear hA hB hC hD hR
        have ka0 : W0.cell? ⟨A, 0, none⟩ = some (.int .i32 a1) := St.out.va.cell 0
        have ka1 : W0.cell? ⟨A, 1, none⟩ = some (.int .i32 a2) := St.out.va.cell 1
        have za := St.out.va.lt
        have kb0 : W0.cell? ⟨B, 0, none⟩ = some (.int .i32 a1) := St.out.vb.cell 0
        have kb1 : W0.cell? ⟨B, 1, none⟩ = some (.int .i32 a2) := St.out.vb.cell 1
        have zb := St.out.vb.lt
        have kc0 : W0.cell? ⟨C, 0, none⟩ = some (.int .i32 c1) := St.out.vc.cell 0
        have kc1 : W0.cell? ⟨C, 1, none⟩ = some (.int .i32 c2) := St.out.vc.cell 1
        have zc := St.out.vc.lt
        have kd0 : W0.cell? ⟨D, 0, none⟩ = some (.int .i32 d1) := St.out.vd.cell 0
        have kd1 : W0.cell? ⟨D, 1, none⟩ = some (.int .i32 d2) := St.out.vd.cell 1
        have zd := St.out.vd.lt
        go_wp2_with fail
        refine (Ia.out _).mono ?_
        rintro e w1 ⟨rfl, hbw1⟩
        have St := Lib.hid (St.out.keep hbw1)
        clear hbw1 ka0 ka1 za kb0 kb1 zb kc0 kc1 zc kd0 kd1 zd
        have ka0 : w1.cell? ⟨A, 0, none⟩ = some (.int .i32 a1) := St.out.va.cell 0
        have ka1 : w1.cell? ⟨A, 1, none⟩ = some (.int .i32 a2) := St.out.va.cell 1
        have za := St.out.va.lt
        have kb0 : w1.cell? ⟨B, 0, none⟩ = some (.int .i32 a1) := St.out.vb.cell 0
        have kb1 : w1.cell? ⟨B, 1, none⟩ = some (.int .i32 a2) := St.out.vb.cell 1
        have zb := St.out.vb.lt
        have kc0 : w1.cell? ⟨C, 0, none⟩ = some (.int .i32 c1) := St.out.vc.cell 0
        have kc1 : w1.cell? ⟨C, 1, none⟩ = some (.int .i32 c2) := St.out.vc.cell 1
        have zc := St.out.vc.lt
        have kd0 : w1.cell? ⟨D, 0, none⟩ = some (.int .i32 d1) := St.out.vd.cell 0
        have kd1 : w1.cell? ⟨D, 1, none⟩ = some (.int .i32 d2) := St.out.vd.cell 1
        have zd := St.out.vd.lt
        go_wp2_with fail
        refine (Ib.out _).mono ?_
        rintro e w2 ⟨rfl, hbw2⟩
        have St := Lib.hid (St.out.keep hbw2)
        clear hbw2 ka0 ka1 za kb0 kb1 zb kc0 kc1 zc kd0 kd1 zd
        have ka0 : w2.cell? ⟨A, 0, none⟩ = some (.int .i32 a1) := St.out.va.cell 0
        have ka1 : w2.cell? ⟨A, 1, none⟩ = some (.int .i32 a2) := St.out.va.cell 1
        have za := St.out.va.lt
        have kb0 : w2.cell? ⟨B, 0, none⟩ = some (.int .i32 a1) := St.out.vb.cell 0
        have kb1 : w2.cell? ⟨B, 1, none⟩ = some (.int .i32 a2) := St.out.vb.cell 1
        have zb := St.out.vb.lt
        have kc0 : w2.cell? ⟨C, 0, none⟩ = some (.int .i32 c1) := St.out.vc.cell 0
        have kc1 : w2.cell? ⟨C, 1, none⟩ = some (.int .i32 c2) := St.out.vc.cell 1
        have zc := St.out.vc.lt
        have kd0 : w2.cell? ⟨D, 0, none⟩ = some (.int .i32 d1) := St.out.vd.cell 0
        have kd1 : w2.cell? ⟨D, 1, none⟩ = some (.int .i32 d2) := St.out.vd.cell 1
        have zd := St.out.vd.lt
        go_wp2_with fail
        refine (Ic.out _).mono ?_
        rintro e w3 ⟨rfl, hbw3⟩
        have St := Lib.hid (St.out.keep hbw3)
        clear hbw3 ka0 ka1 za kb0 kb1 zb kc0 kc1 zc kd0 kd1 zd
        have ka0 : w3.cell? ⟨A, 0, none⟩ = some (.int .i32 a1) := St.out.va.cell 0
        have ka1 : w3.cell? ⟨A, 1, none⟩ = some (.int .i32 a2) := St.out.va.cell 1
        have za := St.out.va.lt
        have kb0 : w3.cell? ⟨B, 0, none⟩ = some (.int .i32 a1) := St.out.vb.cell 0
        have kb1 : w3.cell? ⟨B, 1, none⟩ = some (.int .i32 a2) := St.out.vb.cell 1
        have zb := St.out.vb.lt
        have kc0 : w3.cell? ⟨C, 0, none⟩ = some (.int .i32 c1) := St.out.vc.cell 0
        have kc1 : w3.cell? ⟨C, 1, none⟩ = some (.int .i32 c2) := St.out.vc.cell 1
        have zc := St.out.vc.lt
        have kd0 : w3.cell? ⟨D, 0, none⟩ = some (.int .i32 d1) := St.out.vd.cell 0
        have kd1 : w3.cell? ⟨D, 1, none⟩ = some (.int .i32 d2) := St.out.vd.cell 1
        have zd := St.out.vd.lt
        go_wp2_with fail
        refine (Id.out _).mono ?_
        rintro e w4 ⟨rfl, hbw4⟩
        have St := Lib.hid (St.out.keep hbw4)
        clear hbw4 ka0 ka1 za kb0 kb1 zb kc0 kc1 zc kd0 kd1 zd
        have ka0 : w4.cell? ⟨A, 0, none⟩ = some (.int .i32 a1) := St.out.va.cell 0
        have ka1 : w4.cell? ⟨A, 1, none⟩ = some (.int .i32 a2) := St.out.va.cell 1
        have za := St.out.va.lt
        have kb0 : w4.cell? ⟨B, 0, none⟩ = some (.int .i32 a1) := St.out.vb.cell 0
        have kb1 : w4.cell? ⟨B, 1, none⟩ = some (.int .i32 a2) := St.out.vb.cell 1
        have zb := St.out.vb.lt
        have kc0 : w4.cell? ⟨C, 0, none⟩ = some (.int .i32 c1) := St.out.vc.cell 0
        have kc1 : w4.cell? ⟨C, 1, none⟩ = some (.int .i32 c2) := St.out.vc.cell 1
        have zc := St.out.vc.lt
        have kd0 : w4.cell? ⟨D, 0, none⟩ = some (.int .i32 d1) := St.out.vd.cell 0
        have kd1 : w4.cell? ⟨D, 1, none⟩ = some (.int .i32 d2) := St.out.vd.cell 1
        have zd := St.out.vd.lt
        go_wp2_with fail
        refine (ON.out _).mono ?_
        rintro e w5 ⟨rfl, hbw5⟩
        have St := Lib.hid (St.out.keep hbw5)
        clear hbw5 ka0 ka1 za kb0 kb1 zb kc0 kc1 zc kd0 kd1 zd
        have ka0 : w5.cell? ⟨A, 0, none⟩ = some (.int .i32 a1) := St.out.va.cell 0
        have ka1 : w5.cell? ⟨A, 1, none⟩ = some (.int .i32 a2) := St.out.va.cell 1
        have za := St.out.va.lt
        have kb0 : w5.cell? ⟨B, 0, none⟩ = some (.int .i32 a1) := St.out.vb.cell 0
        have kb1 : w5.cell? ⟨B, 1, none⟩ = some (.int .i32 a2) := St.out.vb.cell 1
        have zb := St.out.vb.lt
        have kc0 : w5.cell? ⟨C, 0, none⟩ = some (.int .i32 c1) := St.out.vc.cell 0
        have kc1 : w5.cell? ⟨C, 1, none⟩ = some (.int .i32 c2) := St.out.vc.cell 1
        have zc := St.out.vc.lt
        have kd0 : w5.cell? ⟨D, 0, none⟩ = some (.int .i32 d1) := St.out.vd.cell 0
        have kd1 : w5.cell? ⟨D, 1, none⟩ = some (.int .i32 d2) := St.out.vd.cell 1
        have zd := St.out.vd.lt
        have zR := St.out.vr.lt
        have kr0 : w5.cell? ⟨R, 0, none⟩ = some (.int .u8 0) := St.out.vr.cell 0
        have kr1 : w5.cell? ⟨R, 1, none⟩ = some (.bool false) := St.out.vr.cell 1
        have kr2 : w5.cell? ⟨R, 2, none⟩ = some (.int .i64 0) := St.out.vr.cell 2
        have kr3 : w5.cell? ⟨R, 3, none⟩ = some (.int .i64 0) := St.out.vr.cell 3
        have kr4 : w5.cell? ⟨R, 4, none⟩ = some (.int .i64 0) := St.out.vr.cell 4
        have kr5 : w5.cell? ⟨R, 5, none⟩ = some (.int .i64 0) := St.out.vr.cell 5
        have gr0 := St.out.vr.free 0
        have gr1 := St.out.vr.free 1
        have gr2 := St.out.vr.free 2
        have gr3 := St.out.vr.free 3
        have gr4 := St.out.vr.free 4
        have gr5 := St.out.vr.free 5
        go_wp2_with fail
        refine bodyPost_ret (by simp [results, Try.results7, go_sem, *]; try rfl) rfl ?_
        refine ⟨?_, one_below St.out.bel hwR _ _ _ _ _ _⟩
        rw [← HM.out, HMe.out, if_neg Bool.false_ne_true]
        rfl
      · rw [ho] at ON HMe
        clear ho
        obtain ⟨a1, a2⟩ := a
        obtain ⟨c1, c2⟩ := c
        obtain ⟨d1, d2⟩ := d
        dsimp only at ON Ia Ib Ic Id
        skip
        go_enter Try.func7, Try.ntmps7
        go_upto_region 1 with fail
        refine wp_gen (fun W0 hW => ?_)
        obtain ⟨A, hA⟩ : ∃ A, w.heap.size = A := ⟨_, rfl⟩
        have HA := Lib.hid hA
        have St : Hid (MtSt w A (A + 1) (A + 1 + 1) (A + 1 + 1 + 1) (A + 1 + 1 + 1 + 1) (a1, a2) (a1, a2) (c1, c2) (d1, d2) W0) := Lib.hid ⟨by rw [hW]; go_grown, by rw [hW, ← hA]; exact ((((Var.new _ _ _).alloc _).alloc _).alloc _).alloc _, by rw [hW, ← hA]; exact (((Var.new' _ _ _ (by simp)).alloc _).alloc _).alloc _, by rw [hW, ← hA]; exact ((Var.new' _ _ _ (by simp)).alloc _).alloc _, by rw [hW, ← hA]; exact (Var.new' _ _ _ (by simp)).alloc _, by rw [hW, ← hA]; exact Var.new' _ _ _ (by simp)⟩
        clear hW
        rw [hA]
        obtain ⟨B, hB⟩ : ∃ B, A + 1 = B := ⟨_, rfl⟩
        rw [hB] at St ⊢
        obtain ⟨C, hC⟩ : ∃ C, B + 1 = C := ⟨_, rfl⟩
        rw [hC] at St ⊢
        obtain ⟨D, hD⟩ : ∃ D, C + 1 = D := ⟨_, rfl⟩
        rw [hD] at St ⊢
        obtain ⟨R, hR⟩ : ∃ R, D + 1 = R := ⟨_, rfl⟩
        rw [hR] at St ⊢
        have hAR : A ≤ R := by omega
        have hwR : w.heap.size ≤ R := by omega
        have nAR : ¬ A = R := by omega
        have nRA : ¬ R = A := by omega
        have nBR : ¬ B = R := by omega
        have nRB : ¬ R = B := by omega
        have nCR : ¬ C = R := by omega
        have nRC : ¬ R = C := by omega
        have nDR : ¬ D = R := by omega
        have nRD : ¬ R = D := by omega
        clear hA hB hC hD hR
        have ka0 : W0.cell? ⟨A, 0, none⟩ = some (.int .i32 a1) := St.out.va.cell 0
        have ka1 : W0.cell? ⟨A, 1, none⟩ = some (.int .i32 a2) := St.out.va.cell 1
        have za := St.out.va.lt
        have kb0 : W0.cell? ⟨B, 0, none⟩ = some (.int .i32 a1) := St.out.vb.cell 0
        have kb1 : W0.cell? ⟨B, 1, none⟩ = some (.int .i32 a2) := St.out.vb.cell 1
        have zb := St.out.vb.lt
        have kc0 : W0.cell? ⟨C, 0, none⟩ = some (.int .i32 c1) := St.out.vc.cell 0
        have kc1 : W0.cell? ⟨C, 1, none⟩ = some (.int .i32 c2) := St.out.vc.cell 1
        have zc := St.out.vc.lt
        have kd0 : W0.cell? ⟨D, 0, none⟩ = some (.int .i32 d1) := St.out.vd.cell 0
        have kd1 : W0.cell? ⟨D, 1, none⟩ = some (.int .i32 d2) := St.out.vd.cell 1
        have zd := St.out.vd.lt
        go_wp2_with fail
        refine (Ia.out _).mono ?_
        rintro e w1 ⟨rfl, hbw1⟩
        have St := Lib.hid (St.out.keep hbw1)
        clear hbw1 ka0 ka1 za kb0 kb1 zb kc0 kc1 zc kd0 kd1 zd
        have ka0 : w1.cell? ⟨A, 0, none⟩ = some (.int .i32 a1) := St.out.va.cell 0
        have ka1 : w1.cell? ⟨A, 1, none⟩ = some (.int .i32 a2) := St.out.va.cell 1
        have za := St.out.va.lt
        have kb0 : w1.cell? ⟨B, 0, none⟩ = some (.int .i32 a1) := St.out.vb.cell 0
        have kb1 : w1.cell? ⟨B, 1, none⟩ = some (.int .i32 a2) := St.out.vb.cell 1
        have zb := St.out.vb.lt
        have kc0 : w1.cell? ⟨C, 0, none⟩ = some (.int .i32 c1) := St.out.vc.cell 0
        have kc1 : w1.cell? ⟨C, 1, none⟩ = some (.int .i32 c2) := St.out.vc.cell 1
        have zc := St.out.vc.lt
        have kd0 : w1.cell? ⟨D, 0, none⟩ = some (.int .i32 d1) := St.out.vd.cell 0
        have kd1 : w1.cell? ⟨D, 1, none⟩ = some (.int .i32 d2) := St.out.vd.cell 1
        have zd := St.out.vd.lt
        go_wp2_with fail
        refine (Ib.out _).mono ?_
        rintro e w2 ⟨rfl, hbw2⟩
        have St := Lib.hid (St.out.keep hbw2)
        clear hbw2 ka0 ka1 za kb0 kb1 zb kc0 kc1 zc kd0 kd1 zd
        have ka0 : w2.cell? ⟨A, 0, none⟩ = some (.int .i32 a1) := St.out.va.cell 0
        have ka1 : w2.cell? ⟨A, 1, none⟩ = some (.int .i32 a2) := St.out.va.cell 1
        have za := St.out.va.lt
        have kb0 : w2.cell? ⟨B, 0, none⟩ = some (.int .i32 a1) := St.out.vb.cell 0
        have kb1 : w2.cell? ⟨B, 1, none⟩ = some (.int .i32 a2) := St.out.vb.cell 1
        have zb := St.out.vb.lt
        have kc0 : w2.cell? ⟨C, 0, none⟩ = some (.int .i32 c1) := St.out.vc.cell 0
        have kc1 : w2.cell? ⟨C, 1, none⟩ = some (.int .i32 c2) := St.out.vc.cell 1
        have zc := St.out.vc.lt
        have kd0 : w2.cell? ⟨D, 0, none⟩ = some (.int .i32 d1) := St.out.vd.cell 0
        have kd1 : w2.cell? ⟨D, 1, none⟩ = some (.int .i32 d2) := St.out.vd.cell 1
        have zd := St.out.vd.lt
        go_wp2_with fail
        refine (Ic.out _).mono ?_
        rintro e w3 ⟨rfl, hbw3⟩
        have St := Lib.hid (St.out.keep hbw3)
        clear hbw3 ka0 ka1 za kb0 kb1 zb kc0 kc1 zc kd0 kd1 zd
        have ka0 : w3.cell? ⟨A, 0, none⟩ = some (.int .i32 a1) := St.out.va.cell 0
        have ka1 : w3.cell? ⟨A, 1, none⟩ = some (.int .i32 a2) := St.out.va.cell 1
        have za := St.out.va.lt
        have kb0 : w3.cell? ⟨B, 0, none⟩ = some (.int .i32 a1) := St.out.vb.cell 0
        have kb1 : w3.cell? ⟨B, 1, none⟩ = some (.int .i32 a2) := St.out.vb.cell 1
        have zb := St.out.vb.lt
        have kc0 : w3.cell? ⟨C, 0, none⟩ = some (.int .i32 c1) := St.out.vc.cell 0
        have kc1 : w3.cell? ⟨C, 1, none⟩ = some (.int .i32 c2) := St.out.vc.cell 1
        have zc := St.out.vc.lt
        have kd0 : w3.cell? ⟨D, 0, none⟩ = some (.int .i32 d1) := St.out.vd.cell 0
        have kd1 : w3.cell? ⟨D, 1, none⟩ = some (.int .i32 d2) := St.out.vd.cell 1
        have zd := St.out.vd.lt
        go_wp2_with fail
        refine (Id.out _).mono ?_
        rintro e w4 ⟨rfl, hbw4⟩
        have St := Lib.hid (St.out.keep hbw4)
        clear hbw4 ka0 ka1 za kb0 kb1 zb kc0 kc1 zc kd0 kd1 zd
        have ka0 : w4.cell? ⟨A, 0, none⟩ = some (.int .i32 a1) := St.out.va.cell 0
        have ka1 : w4.cell? ⟨A, 1, none⟩ = some (.int .i32 a2) := St.out.va.cell 1
        have za := St.out.va.lt
        have kb0 : w4.cell? ⟨B, 0, none⟩ = some (.int .i32 a1) := St.out.vb.cell 0
        have kb1 : w4.cell? ⟨B, 1, none⟩ = some (.int .i32 a2) := St.out.vb.cell 1
        have zb := St.out.vb.lt
        have kc0 : w4.cell? ⟨C, 0, none⟩ = some (.int .i32 c1) := St.out.vc.cell 0
        have kc1 : w4.cell? ⟨C, 1, none⟩ = some (.int .i32 c2) := St.out.vc.cell 1
        have zc := St.out.vc.lt
        have kd0 : w4.cell? ⟨D, 0, none⟩ = some (.int .i32 d1) := St.out.vd.cell 0
        have kd1 : w4.cell? ⟨D, 1, none⟩ = some (.int .i32 d2) := St.out.vd.cell 1
        have zd := St.out.vd.lt
        go_wp2_with fail
        refine (ON.out _).mono ?_
        rintro e w5 ⟨rfl, hbw5⟩
        have St := Lib.hid (St.out.keep hbw5)
        clear hbw5 ka0 ka1 za kb0 kb1 zb kc0 kc1 zc kd0 kd1 zd
        have ka0 : w5.cell? ⟨A, 0, none⟩ = some (.int .i32 a1) := St.out.va.cell 0
        have ka1 : w5.cell? ⟨A, 1, none⟩ = some (.int .i32 a2) := St.out.va.cell 1
        have za := St.out.va.lt
        have kb0 : w5.cell? ⟨B, 0, none⟩ = some (.int .i32 a1) := St.out.vb.cell 0
        have kb1 : w5.cell? ⟨B, 1, none⟩ = some (.int .i32 a2) := St.out.vb.cell 1
        have zb := St.out.vb.lt
        have kc0 : w5.cell? ⟨C, 0, none⟩ = some (.int .i32 c1) := St.out.vc.cell 0
        have kc1 : w5.cell? ⟨C, 1, none⟩ = some (.int .i32 c2) := St.out.vc.cell 1
        have zc := St.out.vc.lt
        have kd0 : w5.cell? ⟨D, 0, none⟩ = some (.int .i32 d1) := St.out.vd.cell 0
        have kd1 : w5.cell? ⟨D, 1, none⟩ = some (.int .i32 d2) := St.out.vd.cell 1
        have zd := St.out.vd.lt
        have zR := St.out.vr.lt
        have kr0 : w5.cell? ⟨R, 0, none⟩ = some (.int .u8 0) := St.out.vr.cell 0
        have kr1 : w5.cell? ⟨R, 1, none⟩ = some (.bool false) := St.out.vr.cell 1
        have kr2 : w5.cell? ⟨R, 2, none⟩ = some (.int .i64 0) := St.out.vr.cell 2
        have kr3 : w5.cell? ⟨R, 3, none⟩ = some (.int .i64 0) := St.out.vr.cell 3
        have kr4 : w5.cell? ⟨R, 4, none⟩ = some (.int .i64 0) := St.out.vr.cell 4
        have kr5 : w5.cell? ⟨R, 5, none⟩ = some (.int .i64 0) := St.out.vr.cell 5
        have gr0 := St.out.vr.free 0
        have gr1 := St.out.vr.free 1
        have gr2 := St.out.vr.free 2
        have gr3 := St.out.vr.free 3
        have gr4 := St.out.vr.free 4
        have gr5 := St.out.vr.free 5
        go_wp2_with fail
        refine bodyPost_ret (by simp [results, Try.results7, go_sem, *]; try rfl) rfl ?_
        refine ⟨?_, one_below St.out.bel hwR _ _ _ _ _ _⟩
        rw [← HM.out, HMe.out, if_pos trivial]
        rfl
    · have HAB := Lib.hid hab
      have T1 := Lib.hid (fun W => turn_r a b c ha hb hc W)
      have T2 := Lib.hid (fun W => turn_r a b d ha hb hd W)
      have ON := Lib.hid (fun W => one_r a b c d hab ha hb hc hd W)
      have hco := sb_64 ha hb
      have hco2 := sb_64 hc hd
      have hco3 := sb_64 ha hc
      have X1 := Lib.hid (fun W => cross_q (sb a b) (sb c d) hco.1 hco.2 hco2.1 hco2.2 W)
      have X2 := Lib.hid (fun W => cross_q (sb a c) (sb c d) hco3.1 hco3.2 hco2.1 hco2.2 W)
      have X3 := Lib.hid (fun W => cross_q (sb a c) (sb a b) hco3.1 hco3.2 hco.1 hco.2 W)
      have Q1 := Lib.hid (qs_cross hco.1 hco.2 hco2.1 hco2.2)
      have Q2 := Lib.hid (qs_cross hco3.1 hco3.2 hco2.1 hco2.2)
      have Q3 := Lib.hid (qs_cross hco3.1 hco3.2 hco.1 hco.2)
      have W1c := Lib.hid (fun W => whole_q 1 one_64 W)
      clear hco hco2 hco3
      obtain ⟨t1, ht1⟩ : ∃ t, cmpI (cr (sb a b) (sb a c)) 0 = t := ⟨_, rfl⟩
      obtain ⟨t2, ht2⟩ : ∃ t, cmpI (cr (sb a b) (sb a d)) 0 = t := ⟨_, rfl⟩
      rw [ht1] at T1
      rw [ht2] at T2
      have HT1 := Lib.hid (show cr (sb a b) (sb a c) = 0 ↔ t1 = 0 by rw [← ht1]; exact cmpI_zero.symm)
      have HT2 := Lib.hid (show cr (sb a b) (sb a d) = 0 ↔ t2 = 0 by rw [← ht2]; exact cmpI_zero.symm)
      clear ht1 ht2 hab
      have hwr := Lib.hid (And.intro (And.intro ha hb) (And.intro hc hd))
      clear ha hb hc hd
      obtain ⟨a1, a2⟩ := a
      obtain ⟨b1, b2⟩ := b
      obtain ⟨c1, c2⟩ := c
      obtain ⟨d1, d2⟩ := d
      dsimp only at *
      skip
      go_enter Try.func7, Try.ntmps7
      show Code.wp _ (.seq _ (.seq _ (.seq _ (.seq _ (.seq _ (tailO Try.f7 5)))))) _ _ _
      generalize hTL : tailO Try.f7 5 = TL
      have HTL := Lib.hid hTL
      clear hTL
      go_upto_region 1 with fail
      refine wp_gen (fun W0 hW => ?_)
      obtain ⟨A, hA⟩ : ∃ A, w.heap.size = A := ⟨_, rfl⟩
      have HA := Lib.hid hA
      have St : Hid (MtSt w A (A + 1) (A + 1 + 1) (A + 1 + 1 + 1) (A + 1 + 1 + 1 + 1) (a1, a2) (b1, b2) (c1, c2) (d1, d2) W0) := Lib.hid ⟨by rw [hW]; go_grown, by rw [hW, ← hA]; exact ((((Var.new _ _ _).alloc _).alloc _).alloc _).alloc _, by rw [hW, ← hA]; exact (((Var.new' _ _ _ (by simp)).alloc _).alloc _).alloc _, by rw [hW, ← hA]; exact ((Var.new' _ _ _ (by simp)).alloc _).alloc _, by rw [hW, ← hA]; exact (Var.new' _ _ _ (by simp)).alloc _, by rw [hW, ← hA]; exact Var.new' _ _ _ (by simp)⟩
      clear hW
      rw [hA]
      obtain ⟨B, hB⟩ : ∃ B, A + 1 = B := ⟨_, rfl⟩
      rw [hB] at St ⊢
      obtain ⟨C, hC⟩ : ∃ C, B + 1 = C := ⟨_, rfl⟩
      rw [hC] at St ⊢
      obtain ⟨D, hD⟩ : ∃ D, C + 1 = D := ⟨_, rfl⟩
      rw [hD] at St ⊢
      obtain ⟨R, hR⟩ : ∃ R, D + 1 = R := ⟨_, rfl⟩
      rw [hR] at St ⊢
      have hAR : A ≤ R := by omega
      have hwR : w.heap.size ≤ R := by omega
      have nAR : ¬ A = R := by omega
      have nRA : ¬ R = A := by omega
      have nBR : ¬ B = R := by omega
      have nRB : ¬ R = B := by omega
      have nCR : ¬ C = R := by omega
      have nRC : ¬ R = C := by omega
      have nDR : ¬ D = R := by omega
      have nRD : ¬ R = D := by omega
      clear hA hB hC hD hR
      have ka0 : W0.cell? ⟨A, 0, none⟩ = some (.int .i32 a1) := St.out.va.cell 0
      have ka1 : W0.cell? ⟨A, 1, none⟩ = some (.int .i32 a2) := St.out.va.cell 1
      have za := St.out.va.lt
      have kb0 : W0.cell? ⟨B, 0, none⟩ = some (.int .i32 b1) := St.out.vb.cell 0
      have kb1 : W0.cell? ⟨B, 1, none⟩ = some (.int .i32 b2) := St.out.vb.cell 1
      have zb := St.out.vb.lt
      have kc0 : W0.cell? ⟨C, 0, none⟩ = some (.int .i32 c1) := St.out.vc.cell 0
      have kc1 : W0.cell? ⟨C, 1, none⟩ = some (.int .i32 c2) := St.out.vc.cell 1
      have zc := St.out.vc.lt
      have kd0 : W0.cell? ⟨D, 0, none⟩ = some (.int .i32 d1) := St.out.vd.cell 0
      have kd1 : W0.cell? ⟨D, 1, none⟩ = some (.int .i32 d2) := St.out.vd.cell 1
      have zd := St.out.vd.lt
      go_wp2_with fail
      refine (Ia.out _).mono ?_
      rintro e w1 ⟨rfl, hbw1⟩
      have St := Lib.hid (St.out.keep hbw1)
      clear hbw1 ka0 ka1 za kb0 kb1 zb kc0 kc1 zc kd0 kd1 zd
      have ka0 : w1.cell? ⟨A, 0, none⟩ = some (.int .i32 a1) := St.out.va.cell 0
      have ka1 : w1.cell? ⟨A, 1, none⟩ = some (.int .i32 a2) := St.out.va.cell 1
      have za := St.out.va.lt
      have kb0 : w1.cell? ⟨B, 0, none⟩ = some (.int .i32 b1) := St.out.vb.cell 0
      have kb1 : w1.cell? ⟨B, 1, none⟩ = some (.int .i32 b2) := St.out.vb.cell 1
      have zb := St.out.vb.lt
      have kc0 : w1.cell? ⟨C, 0, none⟩ = some (.int .i32 c1) := St.out.vc.cell 0
      have kc1 : w1.cell? ⟨C, 1, none⟩ = some (.int .i32 c2) := St.out.vc.cell 1
      have zc := St.out.vc.lt
      have kd0 : w1.cell? ⟨D, 0, none⟩ = some (.int .i32 d1) := St.out.vd.cell 0
      have kd1 : w1.cell? ⟨D, 1, none⟩ = some (.int .i32 d2) := St.out.vd.cell 1
      have zd := St.out.vd.lt
      go_wp2_with fail
      refine (Ib.out _).mono ?_
      rintro e w2 ⟨rfl, hbw2⟩
      have St := Lib.hid (St.out.keep hbw2)
      clear hbw2 ka0 ka1 za kb0 kb1 zb kc0 kc1 zc kd0 kd1 zd
      have ka0 : w2.cell? ⟨A, 0, none⟩ = some (.int .i32 a1) := St.out.va.cell 0
      have ka1 : w2.cell? ⟨A, 1, none⟩ = some (.int .i32 a2) := St.out.va.cell 1
      have za := St.out.va.lt
      have kb0 : w2.cell? ⟨B, 0, none⟩ = some (.int .i32 b1) := St.out.vb.cell 0
      have kb1 : w2.cell? ⟨B, 1, none⟩ = some (.int .i32 b2) := St.out.vb.cell 1
      have zb := St.out.vb.lt
      have kc0 : w2.cell? ⟨C, 0, none⟩ = some (.int .i32 c1) := St.out.vc.cell 0
      have kc1 : w2.cell? ⟨C, 1, none⟩ = some (.int .i32 c2) := St.out.vc.cell 1
      have zc := St.out.vc.lt
      have kd0 : w2.cell? ⟨D, 0, none⟩ = some (.int .i32 d1) := St.out.vd.cell 0
      have kd1 : w2.cell? ⟨D, 1, none⟩ = some (.int .i32 d2) := St.out.vd.cell 1
      have zd := St.out.vd.lt
      go_wp2_with fail
      refine (Ic.out _).mono ?_
      rintro e w3 ⟨rfl, hbw3⟩
      have St := Lib.hid (St.out.keep hbw3)
      clear hbw3 ka0 ka1 za kb0 kb1 zb kc0 kc1 zc kd0 kd1 zd
      have ka0 : w3.cell? ⟨A, 0, none⟩ = some (.int .i32 a1) := St.out.va.cell 0
      have ka1 : w3.cell? ⟨A, 1, none⟩ = some (.int .i32 a2) := St.out.va.cell 1
      have za := St.out.va.lt
      have kb0 : w3.cell? ⟨B, 0, none⟩ = some (.int .i32 b1) := St.out.vb.cell 0
      have kb1 : w3.cell? ⟨B, 1, none⟩ = some (.int .i32 b2) := St.out.vb.cell 1
      have zb := St.out.vb.lt
      have kc0 : w3.cell? ⟨C, 0, none⟩ = some (.int .i32 c1) := St.out.vc.cell 0
      have kc1 : w3.cell? ⟨C, 1, none⟩ = some (.int .i32 c2) := St.out.vc.cell 1
      have zc := St.out.vc.lt
      have kd0 : w3.cell? ⟨D, 0, none⟩ = some (.int .i32 d1) := St.out.vd.cell 0
      have kd1 : w3.cell? ⟨D, 1, none⟩ = some (.int .i32 d2) := St.out.vd.cell 1
      have zd := St.out.vd.lt
      go_wp2_with fail
      refine (Id.out _).mono ?_
      rintro e w4 ⟨rfl, hbw4⟩
      have St := Lib.hid (St.out.keep hbw4)
      clear hbw4 ka0 ka1 za kb0 kb1 zb kc0 kc1 zc kd0 kd1 zd
      have ka0 : w4.cell? ⟨A, 0, none⟩ = some (.int .i32 a1) := St.out.va.cell 0
      have ka1 : w4.cell? ⟨A, 1, none⟩ = some (.int .i32 a2) := St.out.va.cell 1
      have za := St.out.va.lt
      have kb0 : w4.cell? ⟨B, 0, none⟩ = some (.int .i32 b1) := St.out.vb.cell 0
      have kb1 : w4.cell? ⟨B, 1, none⟩ = some (.int .i32 b2) := St.out.vb.cell 1
      have zb := St.out.vb.lt
      have kc0 : w4.cell? ⟨C, 0, none⟩ = some (.int .i32 c1) := St.out.vc.cell 0
      have kc1 : w4.cell? ⟨C, 1, none⟩ = some (.int .i32 c2) := St.out.vc.cell 1
      have zc := St.out.vc.lt
      have kd0 : w4.cell? ⟨D, 0, none⟩ = some (.int .i32 d1) := St.out.vd.cell 0
      have kd1 : w4.cell? ⟨D, 1, none⟩ = some (.int .i32 d2) := St.out.vd.cell 1
      have zd := St.out.vd.lt
      go_upto_region 3 with fail
      refine wp_cutM (fun a' w' => (∃ v19 v20 v21 v22 v23 v24 v25 v26 v27 v28 v29 v30 v31 v32 v33 v34 v35 v36 v37 v38 v39, a' = { tmps := #[.agg #[.int .i32 a1, .int .i32 a2], .agg #[.int .i32 b1, .int .i32 b2], .agg #[.int .i32 c1, .int .i32 c2], .agg #[.int .i32 d1, .int .i32 d2], .pointer (some ⟨A, 0, none⟩), .pointer (some ⟨B, 0, none⟩), .pointer (some ⟨C, 0, none⟩), .pointer (some ⟨D, 0, none⟩), .pointer (some ⟨R, 0, none⟩), undef, undef, undef, undef, undef, undef, undef, undef, undef, undef, v19, v20, v21, v22, v23, v24, v25, v26, v27, v28, v29, v30, v31, v32, v33, v34, v35, v36, v37, v38, v39, .bool false, undef, undef, undef, undef, undef, undef, undef, undef, undef, undef, undef, undef, undef, undef, undef, undef, undef, undef, undef, undef, undef, undef, undef, undef, undef, undef, undef, undef, undef, undef, undef, undef, undef, undef, undef, undef, undef, undef, undef, undef, undef, undef, undef, undef, undef, undef, undef, undef, undef, undef, undef, undef, undef, undef, undef, undef, undef, undef, undef, undef, undef, undef, undef, undef, undef, undef, undef, undef, undef, undef, undef, undef, undef, undef, undef, undef, undef, undef, undef, undef, undef, undef, undef, undef, undef, undef, undef, undef, undef, undef, undef, undef, undef, undef, undef, undef, undef, undef, undef, undef, undef, undef, undef, undef, undef, undef, undef, undef, undef, undef, undef, undef, undef, undef, undef, undef, undef, undef, undef, undef, undef, undef, undef, undef, undef, undef, undef, undef, undef, undef, undef, undef, undef, undef, undef, undef, undef, undef, undef, undef, undef, undef, undef, undef, undef, undef, undef, undef, undef, undef, undef, undef], defers := [] }) ∧ w' = w4) ?_ ?_
      · by_cases hx : a1 = b1
        · subst hx
          have hq : (a2 == b2) = false := beq_eq_false_iff_ne.2 (fun h => HAB.out (by rw [h]))
          go_wp2_with fail
          try exact ⟨_, _, _, _, _, _, _, _, _, _, _, _, _, _, _, _, _, _, _, _, _, rfl⟩
        · have hq : (a1 == b1) = false := beq_eq_false_iff_ne.2 hx
          clear hx
          go_wp2_with fail
          try exact ⟨_, _, _, _, _, _, _, _, _, _, _, _, _, _, _, _, _, _, _, _, _, rfl⟩
      rintro a' w' ⟨⟨v19, v20, v21, v22, v23, v24, v25, v26, v27, v28, v29, v30, v31, v32, v33, v34, v35, v36, v37, v38, v39, rfl⟩, rfl⟩
      by_cases hbt : t1 = 0 ∧ t2 = 0
      · obtain ⟨rfl, rfl⟩ := hbt
        have HMe := Lib.hid (show meetR (a1, a2) (b1, b2) (c1, c2) (d1, d2) = oneR (qalong (a1, a2) (b1, b2) (c1, c2)) (qalong (a1, a2) (b1, b2) (d1, d2)) by unfold meetR; rw [if_pos HIN.out, if_neg HAB.out, if_pos ⟨HT1.out.2 rfl, HT2.out.2 rfl⟩])
        clear X1 X2 X3 Q1 Q2 Q3 W1c
        go_wp2_with fail
        refine (T1.out _).mono ?_
        rintro e w5 ⟨rfl, hbw5⟩
        have St := Lib.hid (St.out.keep hbw5)
        clear hbw5 ka0 ka1 za kb0 kb1 zb kc0 kc1 zc kd0 kd1 zd
        have ka0 : w5.cell? ⟨A, 0, none⟩ = some (.int .i32 a1) := St.out.va.cell 0
        have ka1 : w5.cell? ⟨A, 1, none⟩ = some (.int .i32 a2) := St.out.va.cell 1
        have za := St.out.va.lt
        have kb0 : w5.cell? ⟨B, 0, none⟩ = some (.int .i32 b1) := St.out.vb.cell 0
        have kb1 : w5.cell? ⟨B, 1, none⟩ = some (.int .i32 b2) := St.out.vb.cell 1
        have zb := St.out.vb.lt
        have kc0 : w5.cell? ⟨C, 0, none⟩ = some (.int .i32 c1) := St.out.vc.cell 0
        have kc1 : w5.cell? ⟨C, 1, none⟩ = some (.int .i32 c2) := St.out.vc.cell 1
        have zc := St.out.vc.lt
        have kd0 : w5.cell? ⟨D, 0, none⟩ = some (.int .i32 d1) := St.out.vd.cell 0
        have kd1 : w5.cell? ⟨D, 1, none⟩ = some (.int .i32 d2) := St.out.vd.cell 1
        have zd := St.out.vd.lt
        go_wp2_with fail
        refine (T2.out _).mono ?_
        rintro e w6 ⟨rfl, hbw6⟩
        have St := Lib.hid (St.out.keep hbw6)
        clear hbw6 ka0 ka1 za kb0 kb1 zb kc0 kc1 zc kd0 kd1 zd
        have ka0 : w6.cell? ⟨A, 0, none⟩ = some (.int .i32 a1) := St.out.va.cell 0
        have ka1 : w6.cell? ⟨A, 1, none⟩ = some (.int .i32 a2) := St.out.va.cell 1
        have za := St.out.va.lt
        have kb0 : w6.cell? ⟨B, 0, none⟩ = some (.int .i32 b1) := St.out.vb.cell 0
        have kb1 : w6.cell? ⟨B, 1, none⟩ = some (.int .i32 b2) := St.out.vb.cell 1
        have zb := St.out.vb.lt
        have kc0 : w6.cell? ⟨C, 0, none⟩ = some (.int .i32 c1) := St.out.vc.cell 0
        have kc1 : w6.cell? ⟨C, 1, none⟩ = some (.int .i32 c2) := St.out.vc.cell 1
        have zc := St.out.vc.lt
        have kd0 : w6.cell? ⟨D, 0, none⟩ = some (.int .i32 d1) := St.out.vd.cell 0
        have kd1 : w6.cell? ⟨D, 1, none⟩ = some (.int .i32 d2) := St.out.vd.cell 1
        have zd := St.out.vd.lt
        obtain ⟨m, hm⟩ : ∃ m, oneR (qalong (a1, a2) (b1, b2) (c1, c2)) (qalong (a1, a2) (b1, b2) (d1, d2)) = m := ⟨_, rfl⟩
        rw [hm] at ON HMe
        clear hm
        unfold MtV at ON
        go_wp2_with fail
        refine (ON.out _).mono ?_
        rintro e w7 ⟨rfl, hbw7⟩
        have St := Lib.hid (St.out.keep hbw7)
        clear hbw7 ka0 ka1 za kb0 kb1 zb kc0 kc1 zc kd0 kd1 zd
        have ka0 : w7.cell? ⟨A, 0, none⟩ = some (.int .i32 a1) := St.out.va.cell 0
        have ka1 : w7.cell? ⟨A, 1, none⟩ = some (.int .i32 a2) := St.out.va.cell 1
        have za := St.out.va.lt
        have kb0 : w7.cell? ⟨B, 0, none⟩ = some (.int .i32 b1) := St.out.vb.cell 0
        have kb1 : w7.cell? ⟨B, 1, none⟩ = some (.int .i32 b2) := St.out.vb.cell 1
        have zb := St.out.vb.lt
        have kc0 : w7.cell? ⟨C, 0, none⟩ = some (.int .i32 c1) := St.out.vc.cell 0
        have kc1 : w7.cell? ⟨C, 1, none⟩ = some (.int .i32 c2) := St.out.vc.cell 1
        have zc := St.out.vc.lt
        have kd0 : w7.cell? ⟨D, 0, none⟩ = some (.int .i32 d1) := St.out.vd.cell 0
        have kd1 : w7.cell? ⟨D, 1, none⟩ = some (.int .i32 d2) := St.out.vd.cell 1
        have zd := St.out.vd.lt
        have zR := St.out.vr.lt
        have kr0 : w7.cell? ⟨R, 0, none⟩ = some (.int .u8 0) := St.out.vr.cell 0
        have kr1 : w7.cell? ⟨R, 1, none⟩ = some (.bool false) := St.out.vr.cell 1
        have kr2 : w7.cell? ⟨R, 2, none⟩ = some (.int .i64 0) := St.out.vr.cell 2
        have kr3 : w7.cell? ⟨R, 3, none⟩ = some (.int .i64 0) := St.out.vr.cell 3
        have kr4 : w7.cell? ⟨R, 4, none⟩ = some (.int .i64 0) := St.out.vr.cell 4
        have kr5 : w7.cell? ⟨R, 5, none⟩ = some (.int .i64 0) := St.out.vr.cell 5
        have gr0 := St.out.vr.free 0
        have gr1 := St.out.vr.free 1
        have gr2 := St.out.vr.free 2
        have gr3 := St.out.vr.free 3
        have gr4 := St.out.vr.free 4
        have gr5 := St.out.vr.free 5
        go_wp2_with fail
        refine bodyPost_ret (by simp [results, Try.results7, go_sem, *]; try rfl) rfl ?_
        refine ⟨?_, one_below St.out.bel hwR _ _ _ _ _ _⟩
        rw [← HM.out, HMe.out]
        rfl
      · have HBT := Lib.hid hbt
        go_upto_region 7 with fail
        refine wp_cutM (fun a' w' => (∃ v19 v20 v21 v22 v23 v24 v25 v26 v27 v28 v29 v30 v31 v32 v33 v34 v35 v36 v37 v38 v39 v40 v41 v42 v43 v44 v45 v46 v47 v48 v49 v50 v51 v52 v53 v54 v55 v56 v57 v58 v59, a' = { tmps := #[.agg #[.int .i32 a1, .int .i32 a2], .agg #[.int .i32 b1, .int .i32 b2], .agg #[.int .i32 c1, .int .i32 c2], .agg #[.int .i32 d1, .int .i32 d2], .pointer (some ⟨A, 0, none⟩), .pointer (some ⟨B, 0, none⟩), .pointer (some ⟨C, 0, none⟩), .pointer (some ⟨D, 0, none⟩), .pointer (some ⟨R, 0, none⟩), undef, undef, undef, undef, undef, undef, undef, undef, undef, undef, v19, v20, v21, v22, v23, v24, v25, v26, v27, v28, v29, v30, v31, v32, v33, v34, v35, v36, v37, v38, v39, v40, v41, v42, v43, v44, v45, v46, v47, v48, v49, v50, v51, v52, v53, v54, v55, v56, v57, v58, v59, .bool false, undef, undef, undef, undef, undef, undef, undef, undef, undef, undef, undef, undef, undef, undef, undef, undef, undef, undef, undef, undef, undef, undef, undef, undef, undef, undef, undef, undef, undef, undef, undef, undef, undef, undef, undef, undef, undef, undef, undef, undef, undef, undef, undef, undef, undef, undef, undef, undef, undef, undef, undef, undef, undef, undef, undef, undef, undef, undef, undef, undef, undef, undef, undef, undef, undef, undef, undef, undef, undef, undef, undef, undef, undef, undef, undef, undef, undef, undef, undef, undef, undef, undef, undef, undef, undef, undef, undef, undef, undef, undef, undef, undef, undef, undef, undef, undef, undef, undef, undef, undef, undef, undef, undef, undef, undef, undef, undef, undef, undef, undef, undef, undef, undef, undef, undef, undef, undef, undef, undef, undef, undef, undef, undef, undef, undef, undef, undef, undef, undef, undef, undef, undef], defers := [] }) ∧ MtSt w A B C D R (a1, a2) (b1, b2) (c1, c2) (d1, d2) w') ?_ ?_
        · by_cases h1 : t1 = 0
          · subst h1
            have hq2 : (t2 == 0) = false := beq_eq_false_iff_ne.2 (fun h => hbt ⟨rfl, h⟩)
            clear hbt X1 X2 X3 Q1 Q2 Q3 W1c ON
            go_wp2_with fail
            refine (T1.out _).mono ?_
            rintro e w5 ⟨rfl, hbw5⟩
            have St := Lib.hid (St.out.keep hbw5)
            clear hbw5 ka0 ka1 za kb0 kb1 zb kc0 kc1 zc kd0 kd1 zd
            have ka0 : w5.cell? ⟨A, 0, none⟩ = some (.int .i32 a1) := St.out.va.cell 0
            have ka1 : w5.cell? ⟨A, 1, none⟩ = some (.int .i32 a2) := St.out.va.cell 1
            have za := St.out.va.lt
            have kb0 : w5.cell? ⟨B, 0, none⟩ = some (.int .i32 b1) := St.out.vb.cell 0
            have kb1 : w5.cell? ⟨B, 1, none⟩ = some (.int .i32 b2) := St.out.vb.cell 1
            have zb := St.out.vb.lt
            have kc0 : w5.cell? ⟨C, 0, none⟩ = some (.int .i32 c1) := St.out.vc.cell 0
            have kc1 : w5.cell? ⟨C, 1, none⟩ = some (.int .i32 c2) := St.out.vc.cell 1
            have zc := St.out.vc.lt
            have kd0 : w5.cell? ⟨D, 0, none⟩ = some (.int .i32 d1) := St.out.vd.cell 0
            have kd1 : w5.cell? ⟨D, 1, none⟩ = some (.int .i32 d2) := St.out.vd.cell 1
            have zd := St.out.vd.lt
            go_wp2_with fail
            refine (T2.out _).mono ?_
            rintro e w6 ⟨rfl, hbw6⟩
            have St := Lib.hid (St.out.keep hbw6)
            clear hbw6 ka0 ka1 za kb0 kb1 zb kc0 kc1 zc kd0 kd1 zd
            have ka0 : w6.cell? ⟨A, 0, none⟩ = some (.int .i32 a1) := St.out.va.cell 0
            have ka1 : w6.cell? ⟨A, 1, none⟩ = some (.int .i32 a2) := St.out.va.cell 1
            have za := St.out.va.lt
            have kb0 : w6.cell? ⟨B, 0, none⟩ = some (.int .i32 b1) := St.out.vb.cell 0
            have kb1 : w6.cell? ⟨B, 1, none⟩ = some (.int .i32 b2) := St.out.vb.cell 1
            have zb := St.out.vb.lt
            have kc0 : w6.cell? ⟨C, 0, none⟩ = some (.int .i32 c1) := St.out.vc.cell 0
            have kc1 : w6.cell? ⟨C, 1, none⟩ = some (.int .i32 c2) := St.out.vc.cell 1
            have zc := St.out.vc.lt
            have kd0 : w6.cell? ⟨D, 0, none⟩ = some (.int .i32 d1) := St.out.vd.cell 0
            have kd1 : w6.cell? ⟨D, 1, none⟩ = some (.int .i32 d2) := St.out.vd.cell 1
            have zd := St.out.vd.lt
            go_wp2_with fail
            first | exact ⟨⟨_, _, _, _, _, _, _, _, _, _, _, _, _, _, _, _, _, _, _, _, _, _, _, _, _, _, _, _, _, _, _, _, _, _, _, _, _, _, _, _, _, rfl⟩, St.out⟩ | exact St.out | (refine ⟨?_, St.out⟩; exact ⟨_, _, _, _, _, _, _, _, _, _, _, _, _, _, _, _, _, _, _, _, _, _, _, _, _, _, _, _, _, _, _, _, _, _, _, _, _, _, _, _, _, rfl⟩)
          · have hq1 : (t1 == 0) = false := beq_eq_false_iff_ne.2 h1
            clear hbt h1 X1 X2 X3 Q1 Q2 Q3 W1c ON
            go_wp2_with fail
            refine (T1.out _).mono ?_
            rintro e w5 ⟨rfl, hbw5⟩
            have St := Lib.hid (St.out.keep hbw5)
            clear hbw5 ka0 ka1 za kb0 kb1 zb kc0 kc1 zc kd0 kd1 zd
            have ka0 : w5.cell? ⟨A, 0, none⟩ = some (.int .i32 a1) := St.out.va.cell 0
            have ka1 : w5.cell? ⟨A, 1, none⟩ = some (.int .i32 a2) := St.out.va.cell 1
            have za := St.out.va.lt
            have kb0 : w5.cell? ⟨B, 0, none⟩ = some (.int .i32 b1) := St.out.vb.cell 0
            have kb1 : w5.cell? ⟨B, 1, none⟩ = some (.int .i32 b2) := St.out.vb.cell 1
            have zb := St.out.vb.lt
            have kc0 : w5.cell? ⟨C, 0, none⟩ = some (.int .i32 c1) := St.out.vc.cell 0
            have kc1 : w5.cell? ⟨C, 1, none⟩ = some (.int .i32 c2) := St.out.vc.cell 1
            have zc := St.out.vc.lt
            have kd0 : w5.cell? ⟨D, 0, none⟩ = some (.int .i32 d1) := St.out.vd.cell 0
            have kd1 : w5.cell? ⟨D, 1, none⟩ = some (.int .i32 d2) := St.out.vd.cell 1
            have zd := St.out.vd.lt
            go_wp2_with fail
            first | exact ⟨⟨_, _, _, _, _, _, _, _, _, _, _, _, _, _, _, _, _, _, _, _, _, _, _, _, _, _, _, _, _, _, _, _, _, _, _, _, _, _, _, _, _, rfl⟩, St.out⟩ | exact St.out | (refine ⟨?_, St.out⟩; exact ⟨_, _, _, _, _, _, _, _, _, _, _, _, _, _, _, _, _, _, _, _, _, _, _, _, _, _, _, _, _, _, _, _, _, _, _, _, _, _, _, _, _, rfl⟩)
        clear hbt ka0 ka1 za kb0 kb1 zb kc0 kc1 zc kd0 kd1 zd St
        rintro a' w5 ⟨⟨v19, v20, v21, v22, v23, v24, v25, v26, v27, v28, v29, v30, v31, v32, v33, v34, v35, v36, v37, v38, v39, v40, v41, v42, v43, v44, v45, v46, v47, v48, v49, v50, v51, v52, v53, v54, v55, v56, v57, v58, v59, rfl⟩, St'⟩
        have St := Lib.hid St'
        clear St'
        have ka0 : w5.cell? ⟨A, 0, none⟩ = some (.int .i32 a1) := St.out.va.cell 0
        have ka1 : w5.cell? ⟨A, 1, none⟩ = some (.int .i32 a2) := St.out.va.cell 1
        have za := St.out.va.lt
        have kb0 : w5.cell? ⟨B, 0, none⟩ = some (.int .i32 b1) := St.out.vb.cell 0
        have kb1 : w5.cell? ⟨B, 1, none⟩ = some (.int .i32 b2) := St.out.vb.cell 1
        have zb := St.out.vb.lt
        have kc0 : w5.cell? ⟨C, 0, none⟩ = some (.int .i32 c1) := St.out.vc.cell 0
        have kc1 : w5.cell? ⟨C, 1, none⟩ = some (.int .i32 c2) := St.out.vc.cell 1
        have zc := St.out.vc.lt
        have kd0 : w5.cell? ⟨D, 0, none⟩ = some (.int .i32 d1) := St.out.vd.cell 0
        have kd1 : w5.cell? ⟨D, 1, none⟩ = some (.int .i32 d2) := St.out.vd.cell 1
        have zd := St.out.vd.lt
        by_cases hcd : c1 = d1 ∧ c2 = d2
        · obtain ⟨rfl, rfl⟩ := hcd
          have HMe := Lib.hid (show meetR (a1, a2) (b1, b2) (c1, c2) (c1, c2) = mt0 by unfold meetR; rw [if_pos HIN.out, if_neg HAB.out, if_neg (fun h => HBT.out ⟨HT1.out.1 h.1, HT2.out.1 h.2⟩), if_pos rfl])
          have zR := St.out.vr.lt
          have kr0 : w5.cell? ⟨R, 0, none⟩ = some (.int .u8 0) := St.out.vr.cell 0
          have kr1 : w5.cell? ⟨R, 1, none⟩ = some (.bool false) := St.out.vr.cell 1
          have kr2 : w5.cell? ⟨R, 2, none⟩ = some (.int .i64 0) := St.out.vr.cell 2
          have kr3 : w5.cell? ⟨R, 3, none⟩ = some (.int .i64 0) := St.out.vr.cell 3
          have kr4 : w5.cell? ⟨R, 4, none⟩ = some (.int .i64 0) := St.out.vr.cell 4
          have kr5 : w5.cell? ⟨R, 5, none⟩ = some (.int .i64 0) := St.out.vr.cell 5
          have gr0 := St.out.vr.free 0
          have gr1 := St.out.vr.free 1
          have gr2 := St.out.vr.free 2
          have gr3 := St.out.vr.free 3
          have gr4 := St.out.vr.free 4
          have gr5 := St.out.vr.free 5
          go_wp2_with fail
          refine bodyPost_ret (by simp [results, Try.results7, go_sem, *]; try rfl) rfl ?_
          refine ⟨?_, one_below St.out.bel hwR _ _ _ _ _ _⟩
          rw [← HM.out, HMe.out]
          rfl
        · have HCD := Lib.hid hcd
          go_upto_region 9 with fail
          refine wp_cutM (fun a' w' => (∃ v19 v20 v21 v22 v23 v24 v25 v26 v27 v28 v29 v30 v31 v32 v33 v34 v35 v36 v37 v38 v39 v40 v41 v42 v43 v44 v45 v46 v47 v48 v49 v50 v51 v52 v53 v54 v55 v56 v57 v58 v59 v60 v61 v62 v63 v64 v65 v66 v67, a' = { tmps := #[.agg #[.int .i32 a1, .int .i32 a2], .agg #[.int .i32 b1, .int .i32 b2], .agg #[.int .i32 c1, .int .i32 c2], .agg #[.int .i32 d1, .int .i32 d2], .pointer (some ⟨A, 0, none⟩), .pointer (some ⟨B, 0, none⟩), .pointer (some ⟨C, 0, none⟩), .pointer (some ⟨D, 0, none⟩), .pointer (some ⟨R, 0, none⟩), undef, undef, undef, undef, undef, undef, undef, undef, undef, undef, v19, v20, v21, v22, v23, v24, v25, v26, v27, v28, v29, v30, v31, v32, v33, v34, v35, v36, v37, v38, v39, v40, v41, v42, v43, v44, v45, v46, v47, v48, v49, v50, v51, v52, v53, v54, v55, v56, v57, v58, v59, v60, v61, v62, v63, v64, v65, v66, v67, .bool false, undef, undef, undef, undef, undef, undef, undef, undef, undef, undef, undef, undef, undef, undef, undef, undef, undef, undef, undef, undef, undef, undef, undef, undef, undef, undef, undef, undef, undef, undef, undef, undef, undef, undef, undef, undef, undef, undef, undef, undef, undef, undef, undef, undef, undef, undef, undef, undef, undef, undef, undef, undef, undef, undef, undef, undef, undef, undef, undef, undef, undef, undef, undef, undef, undef, undef, undef, undef, undef, undef, undef, undef, undef, undef, undef, undef, undef, undef, undef, undef, undef, undef, undef, undef, undef, undef, undef, undef, undef, undef, undef, undef, undef, undef, undef, undef, undef, undef, undef, undef, undef, undef, undef, undef, undef, undef, undef, undef, undef, undef, undef, undef, undef, undef, undef, undef, undef, undef, undef, undef, undef, undef, undef, undef], defers := [] }) ∧ w' = w5) ?_ ?_
          · by_cases hx : c1 = d1
            · subst hx
              have hq : (c2 == d2) = false := beq_eq_false_iff_ne.2 (fun h => hcd ⟨rfl, h⟩)
              go_wp2_with fail
              try exact ⟨_, _, _, _, _, _, _, _, _, _, _, _, _, _, _, _, _, _, _, _, _, _, _, _, _, _, _, _, _, _, _, _, _, _, _, _, _, _, _, _, _, _, _, _, _, _, _, _, _, rfl⟩
            · have hq : (c1 == d1) = false := beq_eq_false_iff_ne.2 hx
              clear hx
              go_wp2_with fail
              try exact ⟨_, _, _, _, _, _, _, _, _, _, _, _, _, _, _, _, _, _, _, _, _, _, _, _, _, _, _, _, _, _, _, _, _, _, _, _, _, _, _, _, _, _, _, _, _, _, _, _, _, rfl⟩
          clear hcd
          rintro a' w' ⟨⟨v19, v20, v21, v22, v23, v24, v25, v26, v27, v28, v29, v30, v31, v32, v33, v34, v35, v36, v37, v38, v39, v40, v41, v42, v43, v44, v45, v46, v47, v48, v49, v50, v51, v52, v53, v54, v55, v56, v57, v58, v59, v60, v61, v62, v63, v64, v65, v66, v67, rfl⟩, rfl⟩
          go_wp2_with fail
          rw [← HTL.out]
          have HMe := Lib.hid (show meetR (a1, a2) (b1, b2) (c1, c2) (d1, d2) = if cr (sb (a1, a2) (b1, b2)) (sb (c1, c2) (d1, d2)) = 0 then mt0 else meetTS (qquo (qcross (sb (a1, a2) (c1, c2)) (sb (c1, c2) (d1, d2))) (qcross (sb (a1, a2) (b1, b2)) (sb (c1, c2) (d1, d2)))) (qquo (qcross (sb (a1, a2) (c1, c2)) (sb (a1, a2) (b1, b2))) (qcross (sb (a1, a2) (b1, b2)) (sb (c1, c2) (d1, d2)))) by unfold meetR; rw [if_pos HIN.out, if_neg HAB.out, if_neg (fun h => HBT.out ⟨HT1.out.1 h.1, HT2.out.1 h.2⟩), if_neg (fun h => HCD.out ⟨congrArg Prod.fst h, congrArg Prod.snd h⟩)]; rfl)
          refine Code.wp_mono (fun e a' w' h => ?_) (meet_tail a1 a2 b1 b2 c1 c2 d1 d2 HII.out.1.1 HII.out.1.2 HII.out.2.1 HII.out.2.2 w _ A B C D R St hwR _ _ _ _ _ _ _ _ _ _ _ _ _ _ _ _ _ _ _ _ _ _ _ _ _ _ _ _ _ _ _ _ _ _ _ _ _ _ _ _ _ _ _ _ _ _ _ _ _ _ _ _ _ _ _ _ _ _ _ _ _ _ _ _ _ _ _ _ _ _ _ _ _ _ _ _ _ _ _ _ _ _ _ _ _ _ _ _ _ _ _ _ _ _ _ _ _ _ _ _ _ _ _ _ _ _ _ _ _ _ _ _ _ _ _ _ _ _ _ _ _ _ _ _ _ _ _ _ _ _ _ _ _ _ _ _ _ _ _ _ _ _ _ _ _ _ _ _ _ _ _ _ _ _ _ _ _ _ _ _ _ _ _ _ _ _ _ _ _ _ _ _ _ _ _ _ _ _ _ _ _ _ _ _ _ _ _ _)
          obtain ⟨rfl, hd, hr, hb⟩ := h
          exact ⟨hd, _, hr, by rw [← HMe.out, HM.out], hb⟩
  · have HMe := Lib.hid (show meetR a b c d = mt0 by unfold meetR; rw [if_neg hin])
    cases ea : inP a
    · rw [ea] at Ia
      clear hin ea
      obtain ⟨a1, a2⟩ := a
      obtain ⟨b1, b2⟩ := b
      obtain ⟨c1, c2⟩ := c
      obtain ⟨d1, d2⟩ := d
      dsimp only at *
      go_enter Try.func7, Try.ntmps7
      go_upto_region 1 with fail
      refine wp_gen (fun W0 hW => ?_)
      obtain ⟨A, hA⟩ : ∃ A, w.heap.size = A := ⟨_, rfl⟩
      have HA := Lib.hid hA
      have St : Hid (MtSt w A (A + 1) (A + 1 + 1) (A + 1 + 1 + 1) (A + 1 + 1 + 1 + 1) (a1, a2) (b1, b2) (c1, c2) (d1, d2) W0) := Lib.hid ⟨by rw [hW]; go_grown, by rw [hW, ← hA]; exact ((((Var.new _ _ _).alloc _).alloc _).alloc _).alloc _, by rw [hW, ← hA]; exact (((Var.new' _ _ _ (by simp)).alloc _).alloc _).alloc _, by rw [hW, ← hA]; exact ((Var.new' _ _ _ (by simp)).alloc _).alloc _, by rw [hW, ← hA]; exact (Var.new' _ _ _ (by simp)).alloc _, by rw [hW, ← hA]; exact Var.new' _ _ _ (by simp)⟩
      clear hW
      rw [hA]
      obtain ⟨B, hB⟩ : ∃ B, A + 1 = B := ⟨_, rfl⟩
      rw [hB] at St ⊢
      obtain ⟨C, hC⟩ : ∃ C, B + 1 = C := ⟨_, rfl⟩
      rw [hC] at St ⊢
      obtain ⟨D, hD⟩ : ∃ D, C + 1 = D := ⟨_, rfl⟩
      rw [hD] at St ⊢
      obtain ⟨R, hR⟩ : ∃ R, D + 1 = R := ⟨_, rfl⟩
      rw [hR] at St ⊢
      have hAR : A ≤ R := by omega
      have hwR : w.heap.size ≤ R := by omega
      have nAR : ¬ A = R := by omega
      have nRA : ¬ R = A := by omega
      have nBR : ¬ B = R := by omega
      have nRB : ¬ R = B := by omega
      have nCR : ¬ C = R := by omega
      have nRC : ¬ R = C := by omega
      have nDR : ¬ D = R := by omega
      have nRD : ¬ R = D := by omega
      clear hA hB hC hD hR
      have ka0 : W0.cell? ⟨A, 0, none⟩ = some (.int .i32 a1) := St.out.va.cell 0
      have ka1 : W0.cell? ⟨A, 1, none⟩ = some (.int .i32 a2) := St.out.va.cell 1
      have za := St.out.va.lt
      have kb0 : W0.cell? ⟨B, 0, none⟩ = some (.int .i32 b1) := St.out.vb.cell 0
      have kb1 : W0.cell? ⟨B, 1, none⟩ = some (.int .i32 b2) := St.out.vb.cell 1
      have zb := St.out.vb.lt
      have kc0 : W0.cell? ⟨C, 0, none⟩ = some (.int .i32 c1) := St.out.vc.cell 0
      have kc1 : W0.cell? ⟨C, 1, none⟩ = some (.int .i32 c2) := St.out.vc.cell 1
      have zc := St.out.vc.lt
      have kd0 : W0.cell? ⟨D, 0, none⟩ = some (.int .i32 d1) := St.out.vd.cell 0
      have kd1 : W0.cell? ⟨D, 1, none⟩ = some (.int .i32 d2) := St.out.vd.cell 1
      have zd := St.out.vd.lt
      go_wp2_with fail
      refine (Ia.out _).mono ?_
      rintro e w1 ⟨rfl, hbw1⟩
      have St := Lib.hid (St.out.keep hbw1)
      clear hbw1 ka0 ka1 za kb0 kb1 zb kc0 kc1 zc kd0 kd1 zd
      have ka0 : w1.cell? ⟨A, 0, none⟩ = some (.int .i32 a1) := St.out.va.cell 0
      have ka1 : w1.cell? ⟨A, 1, none⟩ = some (.int .i32 a2) := St.out.va.cell 1
      have za := St.out.va.lt
      have kb0 : w1.cell? ⟨B, 0, none⟩ = some (.int .i32 b1) := St.out.vb.cell 0
      have kb1 : w1.cell? ⟨B, 1, none⟩ = some (.int .i32 b2) := St.out.vb.cell 1
      have zb := St.out.vb.lt
      have kc0 : w1.cell? ⟨C, 0, none⟩ = some (.int .i32 c1) := St.out.vc.cell 0
      have kc1 : w1.cell? ⟨C, 1, none⟩ = some (.int .i32 c2) := St.out.vc.cell 1
      have zc := St.out.vc.lt
      have kd0 : w1.cell? ⟨D, 0, none⟩ = some (.int .i32 d1) := St.out.vd.cell 0
      have kd1 : w1.cell? ⟨D, 1, none⟩ = some (.int .i32 d2) := St.out.vd.cell 1
      have zd := St.out.vd.lt
      have zR := St.out.vr.lt
      have kr0 : w1.cell? ⟨R, 0, none⟩ = some (.int .u8 0) := St.out.vr.cell 0
      have kr1 : w1.cell? ⟨R, 1, none⟩ = some (.bool false) := St.out.vr.cell 1
      have kr2 : w1.cell? ⟨R, 2, none⟩ = some (.int .i64 0) := St.out.vr.cell 2
      have kr3 : w1.cell? ⟨R, 3, none⟩ = some (.int .i64 0) := St.out.vr.cell 3
      have kr4 : w1.cell? ⟨R, 4, none⟩ = some (.int .i64 0) := St.out.vr.cell 4
      have kr5 : w1.cell? ⟨R, 5, none⟩ = some (.int .i64 0) := St.out.vr.cell 5
      have gr0 := St.out.vr.free 0
      have gr1 := St.out.vr.free 1
      have gr2 := St.out.vr.free 2
      have gr3 := St.out.vr.free 3
      have gr4 := St.out.vr.free 4
      have gr5 := St.out.vr.free 5
      go_wp2_with fail
      refine bodyPost_ret (by simp [results, Try.results7, go_sem, *]; try rfl) rfl ?_
      refine ⟨?_, one_below St.out.bel hwR _ _ _ _ _ _⟩
      rw [← HM.out, HMe.out]
      rfl
    · rw [ea] at Ia
      cases eb : inP b
      · rw [eb] at Ib
        clear hin ea eb
        obtain ⟨a1, a2⟩ := a
        obtain ⟨b1, b2⟩ := b
        obtain ⟨c1, c2⟩ := c
        obtain ⟨d1, d2⟩ := d
        dsimp only at *
        go_enter Try.func7, Try.ntmps7
        go_upto_region 1 with fail
        refine wp_gen (fun W0 hW => ?_)
        obtain ⟨A, hA⟩ : ∃ A, w.heap.size = A := ⟨_, rfl⟩
        have HA := Lib.hid hA
        have St : Hid (MtSt w A (A + 1) (A + 1 + 1) (A + 1 + 1 + 1) (A + 1 + 1 + 1 + 1) (a1, a2) (b1, b2) (c1, c2) (d1, d2) W0) := Lib.hid ⟨by rw [hW]; go_grown, by rw [hW, ← hA]; exact ((((Var.new _ _ _).alloc _).alloc _).alloc _).alloc _, by rw [hW, ← hA]; exact (((Var.new' _ _ _ (by simp)).alloc _).alloc _).alloc _, by rw [hW, ← hA]; exact ((Var.new' _ _ _ (by simp)).alloc _).alloc _, by rw [hW, ← hA]; exact (Var.new' _ _ _ (by simp)).alloc _, by rw [hW, ← hA]; exact Var.new' _ _ _ (by simp)⟩
        clear hW
        rw [hA]
        obtain ⟨B, hB⟩ : ∃ B, A + 1 = B := ⟨_, rfl⟩
        rw [hB] at St ⊢
        obtain ⟨C, hC⟩ : ∃ C, B + 1 = C := ⟨_, rfl⟩
        rw [hC] at St ⊢
        obtain ⟨D, hD⟩ : ∃ D, C + 1 = D := ⟨_, rfl⟩
        rw [hD] at St ⊢
        obtain ⟨R, hR⟩ : ∃ R, D + 1 = R := ⟨_, rfl⟩
        rw [hR] at St ⊢
        have hAR : A ≤ R := by omega
        have hwR : w.heap.size ≤ R := by omega
        have nAR : ¬ A = R := by omega
        have nRA : ¬ R = A := by omega
        have nBR : ¬ B = R := by omega
        have nRB : ¬ R = B := by omega
        have nCR : ¬ C = R := by omega
        have nRC : ¬ R = C := by omega
        have nDR : ¬ D = R := by omega
        have nRD : ¬ R = D := by omega
        clear hA hB hC hD hR
        have ka0 : W0.cell? ⟨A, 0, none⟩ = some (.int .i32 a1) := St.out.va.cell 0
        have ka1 : W0.cell? ⟨A, 1, none⟩ = some (.int .i32 a2) := St.out.va.cell 1
        have za := St.out.va.lt
        have kb0 : W0.cell? ⟨B, 0, none⟩ = some (.int .i32 b1) := St.out.vb.cell 0
        have kb1 : W0.cell? ⟨B, 1, none⟩ = some (.int .i32 b2) := St.out.vb.cell 1
        have zb := St.out.vb.lt
        have kc0 : W0.cell? ⟨C, 0, none⟩ = some (.int .i32 c1) := St.out.vc.cell 0
        have kc1 : W0.cell? ⟨C, 1, none⟩ = some (.int .i32 c2) := St.out.vc.cell 1
        have zc := St.out.vc.lt
        have kd0 : W0.cell? ⟨D, 0, none⟩ = some (.int .i32 d1) := St.out.vd.cell 0
        have kd1 : W0.cell? ⟨D, 1, none⟩ = some (.int .i32 d2) := St.out.vd.cell 1
        have zd := St.out.vd.lt
        go_wp2_with fail
        refine (Ia.out _).mono ?_
        rintro e w1 ⟨rfl, hbw1⟩
        have St := Lib.hid (St.out.keep hbw1)
        clear hbw1 ka0 ka1 za kb0 kb1 zb kc0 kc1 zc kd0 kd1 zd
        have ka0 : w1.cell? ⟨A, 0, none⟩ = some (.int .i32 a1) := St.out.va.cell 0
        have ka1 : w1.cell? ⟨A, 1, none⟩ = some (.int .i32 a2) := St.out.va.cell 1
        have za := St.out.va.lt
        have kb0 : w1.cell? ⟨B, 0, none⟩ = some (.int .i32 b1) := St.out.vb.cell 0
        have kb1 : w1.cell? ⟨B, 1, none⟩ = some (.int .i32 b2) := St.out.vb.cell 1
        have zb := St.out.vb.lt
        have kc0 : w1.cell? ⟨C, 0, none⟩ = some (.int .i32 c1) := St.out.vc.cell 0
        have kc1 : w1.cell? ⟨C, 1, none⟩ = some (.int .i32 c2) := St.out.vc.cell 1
        have zc := St.out.vc.lt
        have kd0 : w1.cell? ⟨D, 0, none⟩ = some (.int .i32 d1) := St.out.vd.cell 0
        have kd1 : w1.cell? ⟨D, 1, none⟩ = some (.int .i32 d2) := St.out.vd.cell 1
        have zd := St.out.vd.lt
        go_wp2_with fail
        refine (Ib.out _).mono ?_
        rintro e w2 ⟨rfl, hbw2⟩
        have St := Lib.hid (St.out.keep hbw2)
        clear hbw2 ka0 ka1 za kb0 kb1 zb kc0 kc1 zc kd0 kd1 zd
        have ka0 : w2.cell? ⟨A, 0, none⟩ = some (.int .i32 a1) := St.out.va.cell 0
        have ka1 : w2.cell? ⟨A, 1, none⟩ = some (.int .i32 a2) := St.out.va.cell 1
        have za := St.out.va.lt
        have kb0 : w2.cell? ⟨B, 0, none⟩ = some (.int .i32 b1) := St.out.vb.cell 0
        have kb1 : w2.cell? ⟨B, 1, none⟩ = some (.int .i32 b2) := St.out.vb.cell 1
        have zb := St.out.vb.lt
        have kc0 : w2.cell? ⟨C, 0, none⟩ = some (.int .i32 c1) := St.out.vc.cell 0
        have kc1 : w2.cell? ⟨C, 1, none⟩ = some (.int .i32 c2) := St.out.vc.cell 1
        have zc := St.out.vc.lt
        have kd0 : w2.cell? ⟨D, 0, none⟩ = some (.int .i32 d1) := St.out.vd.cell 0
        have kd1 : w2.cell? ⟨D, 1, none⟩ = some (.int .i32 d2) := St.out.vd.cell 1
        have zd := St.out.vd.lt
        have zR := St.out.vr.lt
        have kr0 : w2.cell? ⟨R, 0, none⟩ = some (.int .u8 0) := St.out.vr.cell 0
        have kr1 : w2.cell? ⟨R, 1, none⟩ = some (.bool false) := St.out.vr.cell 1
        have kr2 : w2.cell? ⟨R, 2, none⟩ = some (.int .i64 0) := St.out.vr.cell 2
        have kr3 : w2.cell? ⟨R, 3, none⟩ = some (.int .i64 0) := St.out.vr.cell 3
        have kr4 : w2.cell? ⟨R, 4, none⟩ = some (.int .i64 0) := St.out.vr.cell 4
        have kr5 : w2.cell? ⟨R, 5, none⟩ = some (.int .i64 0) := St.out.vr.cell 5
        have gr0 := St.out.vr.free 0
        have gr1 := St.out.vr.free 1
        have gr2 := St.out.vr.free 2
        have gr3 := St.out.vr.free 3
        have gr4 := St.out.vr.free 4
        have gr5 := St.out.vr.free 5
        go_wp2_with fail
        refine bodyPost_ret (by simp [results, Try.results7, go_sem, *]; try rfl) rfl ?_
        refine ⟨?_, one_below St.out.bel hwR _ _ _ _ _ _⟩
        rw [← HM.out, HMe.out]
        rfl
      · rw [eb] at Ib
        cases ec : inP c
        · rw [ec] at Ic
          clear hin ea eb ec
          obtain ⟨a1, a2⟩ := a
          obtain ⟨b1, b2⟩ := b
          obtain ⟨c1, c2⟩ := c
          obtain ⟨d1, d2⟩ := d
          dsimp only at *
          go_enter Try.func7, Try.ntmps7
          go_upto_region 1 with fail
          refine wp_gen (fun W0 hW => ?_)
          obtain ⟨A, hA⟩ : ∃ A, w.heap.size = A := ⟨_, rfl⟩
          have HA := Lib.hid hA
          have St : Hid (MtSt w A (A + 1) (A + 1 + 1) (A + 1 + 1 + 1) (A + 1 + 1 + 1 + 1) (a1, a2) (b1, b2) (c1, c2) (d1, d2) W0) := Lib.hid ⟨by rw [hW]; go_grown, by rw [hW, ← hA]; exact ((((Var.new _ _ _).alloc _).alloc _).alloc _).alloc _, by rw [hW, ← hA]; exact (((Var.new' _ _ _ (by simp)).alloc _).alloc _).alloc _, by rw [hW, ← hA]; exact ((Var.new' _ _ _ (by simp)).alloc _).alloc _, by rw [hW, ← hA]; exact (Var.new' _ _ _ (by simp)).alloc _, by rw [hW, ← hA]; exact Var.new' _ _ _ (by simp)⟩
          clear hW
          rw [hA]
          obtain ⟨B, hB⟩ : ∃ B, A + 1 = B := ⟨_, rfl⟩
          rw [hB] at St ⊢
          obtain ⟨C, hC⟩ : ∃ C, B + 1 = C := ⟨_, rfl⟩
          rw [hC] at St ⊢
          obtain ⟨D, hD⟩ : ∃ D, C + 1 = D := ⟨_, rfl⟩
          rw [hD] at St ⊢
          obtain ⟨R, hR⟩ : ∃ R, D + 1 = R := ⟨_, rfl⟩
          rw [hR] at St ⊢
          have hAR : A ≤ R := by omega
          have hwR : w.heap.size ≤ R := by omega
          have nAR : ¬ A = R := by omega
          have nRA : ¬ R = A := by omega
          have nBR : ¬ B = R := by omega
          have nRB : ¬ R = B := by omega
          have nCR : ¬ C = R := by omega
          have nRC : ¬ R = C := by omega
          have nDR : ¬ D = R := by omega
          have nRD : ¬ R = D := by omega
          clear hA hB hC hD hR
          have ka0 : W0.cell? ⟨A, 0, none⟩ = some (.int .i32 a1) := St.out.va.cell 0
          have ka1 : W0.cell? ⟨A, 1, none⟩ = some (.int .i32 a2) := St.out.va.cell 1
          have za := St.out.va.lt
          have kb0 : W0.cell? ⟨B, 0, none⟩ = some (.int .i32 b1) := St.out.vb.cell 0
          have kb1 : W0.cell? ⟨B, 1, none⟩ = some (.int .i32 b2) := St.out.vb.cell 1
          have zb := St.out.vb.lt
          have kc0 : W0.cell? ⟨C, 0, none⟩ = some (.int .i32 c1) := St.out.vc.cell 0
          have kc1 : W0.cell? ⟨C, 1, none⟩ = some (.int .i32 c2) := St.out.vc.cell 1
          have zc := St.out.vc.lt
          have kd0 : W0.cell? ⟨D, 0, none⟩ = some (.int .i32 d1) := St.out.vd.cell 0
          have kd1 : W0.cell? ⟨D, 1, none⟩ = some (.int .i32 d2) := St.out.vd.cell 1
          have zd := St.out.vd.lt
          go_wp2_with fail
          refine (Ia.out _).mono ?_
          rintro e w1 ⟨rfl, hbw1⟩
          have St := Lib.hid (St.out.keep hbw1)
          clear hbw1 ka0 ka1 za kb0 kb1 zb kc0 kc1 zc kd0 kd1 zd
          have ka0 : w1.cell? ⟨A, 0, none⟩ = some (.int .i32 a1) := St.out.va.cell 0
          have ka1 : w1.cell? ⟨A, 1, none⟩ = some (.int .i32 a2) := St.out.va.cell 1
          have za := St.out.va.lt
          have kb0 : w1.cell? ⟨B, 0, none⟩ = some (.int .i32 b1) := St.out.vb.cell 0
          have kb1 : w1.cell? ⟨B, 1, none⟩ = some (.int .i32 b2) := St.out.vb.cell 1
          have zb := St.out.vb.lt
          have kc0 : w1.cell? ⟨C, 0, none⟩ = some (.int .i32 c1) := St.out.vc.cell 0
          have kc1 : w1.cell? ⟨C, 1, none⟩ = some (.int .i32 c2) := St.out.vc.cell 1
          have zc := St.out.vc.lt
          have kd0 : w1.cell? ⟨D, 0, none⟩ = some (.int .i32 d1) := St.out.vd.cell 0
          have kd1 : w1.cell? ⟨D, 1, none⟩ = some (.int .i32 d2) := St.out.vd.cell 1
          have zd := St.out.vd.lt
          go_wp2_with fail
          refine (Ib.out _).mono ?_
          rintro e w2 ⟨rfl, hbw2⟩
          have St := Lib.hid (St.out.keep hbw2)
          clear hbw2 ka0 ka1 za kb0 kb1 zb kc0 kc1 zc kd0 kd1 zd
          have ka0 : w2.cell? ⟨A, 0, none⟩ = some (.int .i32 a1) := St.out.va.cell 0
          have ka1 : w2.cell? ⟨A, 1, none⟩ = some (.int .i32 a2) := St.out.va.cell 1
          have za := St.out.va.lt
          have kb0 : w2.cell? ⟨B, 0, none⟩ = some (.int .i32 b1) := St.out.vb.cell 0
          have kb1 : w2.cell? ⟨B, 1, none⟩ = some (.int .i32 b2) := St.out.vb.cell 1
          have zb := St.out.vb.lt
          have kc0 : w2.cell? ⟨C, 0, none⟩ = some (.int .i32 c1) := St.out.vc.cell 0
          have kc1 : w2.cell? ⟨C, 1, none⟩ = some (.int .i32 c2) := St.out.vc.cell 1
          have zc := St.out.vc.lt
          have kd0 : w2.cell? ⟨D, 0, none⟩ = some (.int .i32 d1) := St.out.vd.cell 0
          have kd1 : w2.cell? ⟨D, 1, none⟩ = some (.int .i32 d2) := St.out.vd.cell 1
          have zd := St.out.vd.lt
          go_wp2_with fail
          refine (Ic.out _).mono ?_
          rintro e w3 ⟨rfl, hbw3⟩
          have St := Lib.hid (St.out.keep hbw3)
          clear hbw3 ka0 ka1 za kb0 kb1 zb kc0 kc1 zc kd0 kd1 zd
          have ka0 : w3.cell? ⟨A, 0, none⟩ = some (.int .i32 a1) := St.out.va.cell 0
          have ka1 : w3.cell? ⟨A, 1, none⟩ = some (.int .i32 a2) := St.out.va.cell 1
          have za := St.out.va.lt
          have kb0 : w3.cell? ⟨B, 0, none⟩ = some (.int .i32 b1) := St.out.vb.cell 0
          have kb1 : w3.cell? ⟨B, 1, none⟩ = some (.int .i32 b2) := St.out.vb.cell 1
          have zb := St.out.vb.lt
          have kc0 : w3.cell? ⟨C, 0, none⟩ = some (.int .i32 c1) := St.out.vc.cell 0
          have kc1 : w3.cell? ⟨C, 1, none⟩ = some (.int .i32 c2) := St.out.vc.cell 1
          have zc := St.out.vc.lt
          have kd0 : w3.cell? ⟨D, 0, none⟩ = some (.int .i32 d1) := St.out.vd.cell 0
          have kd1 : w3.cell? ⟨D, 1, none⟩ = some (.int .i32 d2) := St.out.vd.cell 1
          have zd := St.out.vd.lt
          have zR := St.out.vr.lt
          have kr0 : w3.cell? ⟨R, 0, none⟩ = some (.int .u8 0) := St.out.vr.cell 0
          have kr1 : w3.cell? ⟨R, 1, none⟩ = some (.bool false) := St.out.vr.cell 1
          have kr2 : w3.cell? ⟨R, 2, none⟩ = some (.int .i64 0) := St.out.vr.cell 2
          have kr3 : w3.cell? ⟨R, 3, none⟩ = some (.int .i64 0) := St.out.vr.cell 3
          have kr4 : w3.cell? ⟨R, 4, none⟩ = some (.int .i64 0) := St.out.vr.cell 4
          have kr5 : w3.cell? ⟨R, 5, none⟩ = some (.int .i64 0) := St.out.vr.cell 5
          have gr0 := St.out.vr.free 0
          have gr1 := St.out.vr.free 1
          have gr2 := St.out.vr.free 2
          have gr3 := St.out.vr.free 3
          have gr4 := St.out.vr.free 4
          have gr5 := St.out.vr.free 5
          go_wp2_with fail
          refine bodyPost_ret (by simp [results, Try.results7, go_sem, *]; try rfl) rfl ?_
          refine ⟨?_, one_below St.out.bel hwR _ _ _ _ _ _⟩
          rw [← HM.out, HMe.out]
          rfl
        · rw [ec] at Ic
          cases ed : inP d
          · rw [ed] at Id
            clear hin ea eb ec ed
            obtain ⟨a1, a2⟩ := a
            obtain ⟨b1, b2⟩ := b
            obtain ⟨c1, c2⟩ := c
            obtain ⟨d1, d2⟩ := d
            dsimp only at *
            go_enter Try.func7, Try.ntmps7
            go_upto_region 1 with fail
            refine wp_gen (fun W0 hW => ?_)
            obtain ⟨A, hA⟩ : ∃ A, w.heap.size = A := ⟨_, rfl⟩
            have HA := Lib.hid hA
            have St : Hid (MtSt w A (A + 1) (A + 1 + 1) (A + 1 + 1 + 1) (A + 1 + 1 + 1 + 1) (a1, a2) (b1, b2) (c1, c2) (d1, d2) W0) := Lib.hid ⟨by rw [hW]; go_grown, by rw [hW, ← hA]; exact ((((Var.new _ _ _).alloc _).alloc _).alloc _).alloc _, by rw [hW, ← hA]; exact (((Var.new' _ _ _ (by simp)).alloc _).alloc _).alloc _, by rw [hW, ← hA]; exact ((Var.new' _ _ _ (by simp)).alloc _).alloc _, by rw [hW, ← hA]; exact (Var.new' _ _ _ (by simp)).alloc _, by rw [hW, ← hA]; exact Var.new' _ _ _ (by simp)⟩
            clear hW
            rw [hA]
            obtain ⟨B, hB⟩ : ∃ B, A + 1 = B := ⟨_, rfl⟩
            rw [hB] at St ⊢
            obtain ⟨C, hC⟩ : ∃ C, B + 1 = C := ⟨_, rfl⟩
            rw [hC] at St ⊢
            obtain ⟨D, hD⟩ : ∃ D, C + 1 = D := ⟨_, rfl⟩
            rw [hD] at St ⊢
            obtain ⟨R, hR⟩ : ∃ R, D + 1 = R := ⟨_, rfl⟩
            rw [hR] at St ⊢
            have hAR : A ≤ R := by omega
            have hwR : w.heap.size ≤ R := by omega
            have nAR : ¬ A = R := by omega
            have nRA : ¬ R = A := by omega
            have nBR : ¬ B = R := by omega
            have nRB : ¬ R = B := by omega
            have nCR : ¬ C = R := by omega
            have nRC : ¬ R = C := by omega
            have nDR : ¬ D = R := by omega
            have nRD : ¬ R = D := by omega
            clear hA hB hC hD hR
            have ka0 : W0.cell? ⟨A, 0, none⟩ = some (.int .i32 a1) := St.out.va.cell 0
            have ka1 : W0.cell? ⟨A, 1, none⟩ = some (.int .i32 a2) := St.out.va.cell 1
            have za := St.out.va.lt
            have kb0 : W0.cell? ⟨B, 0, none⟩ = some (.int .i32 b1) := St.out.vb.cell 0
            have kb1 : W0.cell? ⟨B, 1, none⟩ = some (.int .i32 b2) := St.out.vb.cell 1
            have zb := St.out.vb.lt
            have kc0 : W0.cell? ⟨C, 0, none⟩ = some (.int .i32 c1) := St.out.vc.cell 0
            have kc1 : W0.cell? ⟨C, 1, none⟩ = some (.int .i32 c2) := St.out.vc.cell 1
            have zc := St.out.vc.lt
            have kd0 : W0.cell? ⟨D, 0, none⟩ = some (.int .i32 d1) := St.out.vd.cell 0
            have kd1 : W0.cell? ⟨D, 1, none⟩ = some (.int .i32 d2) := St.out.vd.cell 1
            have zd := St.out.vd.lt
            go_wp2_with fail
            refine (Ia.out _).mono ?_
            rintro e w1 ⟨rfl, hbw1⟩
            have St := Lib.hid (St.out.keep hbw1)
            clear hbw1 ka0 ka1 za kb0 kb1 zb kc0 kc1 zc kd0 kd1 zd
            have ka0 : w1.cell? ⟨A, 0, none⟩ = some (.int .i32 a1) := St.out.va.cell 0
            have ka1 : w1.cell? ⟨A, 1, none⟩ = some (.int .i32 a2) := St.out.va.cell 1
            have za := St.out.va.lt
            have kb0 : w1.cell? ⟨B, 0, none⟩ = some (.int .i32 b1) := St.out.vb.cell 0
            have kb1 : w1.cell? ⟨B, 1, none⟩ = some (.int .i32 b2) := St.out.vb.cell 1
            have zb := St.out.vb.lt
            have kc0 : w1.cell? ⟨C, 0, none⟩ = some (.int .i32 c1) := St.out.vc.cell 0
            have kc1 : w1.cell? ⟨C, 1, none⟩ = some (.int .i32 c2) := St.out.vc.cell 1
            have zc := St.out.vc.lt
            have kd0 : w1.cell? ⟨D, 0, none⟩ = some (.int .i32 d1) := St.out.vd.cell 0
            have kd1 : w1.cell? ⟨D, 1, none⟩ = some (.int .i32 d2) := St.out.vd.cell 1
            have zd := St.out.vd.lt
            go_wp2_with fail
            refine (Ib.out _).mono ?_
            rintro e w2 ⟨rfl, hbw2⟩
            have St := Lib.hid (St.out.keep hbw2)
            clear hbw2 ka0 ka1 za kb0 kb1 zb kc0 kc1 zc kd0 kd1 zd
            have ka0 : w2.cell? ⟨A, 0, none⟩ = some (.int .i32 a1) := St.out.va.cell 0
            have ka1 : w2.cell? ⟨A, 1, none⟩ = some (.int .i32 a2) := St.out.va.cell 1
            have za := St.out.va.lt
            have kb0 : w2.cell? ⟨B, 0, none⟩ = some (.int .i32 b1) := St.out.vb.cell 0
            have kb1 : w2.cell? ⟨B, 1, none⟩ = some (.int .i32 b2) := St.out.vb.cell 1
            have zb := St.out.vb.lt
            have kc0 : w2.cell? ⟨C, 0, none⟩ = some (.int .i32 c1) := St.out.vc.cell 0
            have kc1 : w2.cell? ⟨C, 1, none⟩ = some (.int .i32 c2) := St.out.vc.cell 1
            have zc := St.out.vc.lt
            have kd0 : w2.cell? ⟨D, 0, none⟩ = some (.int .i32 d1) := St.out.vd.cell 0
            have kd1 : w2.cell? ⟨D, 1, none⟩ = some (.int .i32 d2) := St.out.vd.cell 1
            have zd := St.out.vd.lt
            go_wp2_with fail
            refine (Ic.out _).mono ?_
            rintro e w3 ⟨rfl, hbw3⟩
            have St := Lib.hid (St.out.keep hbw3)
            clear hbw3 ka0 ka1 za kb0 kb1 zb kc0 kc1 zc kd0 kd1 zd
            have ka0 : w3.cell? ⟨A, 0, none⟩ = some (.int .i32 a1) := St.out.va.cell 0
            have ka1 : w3.cell? ⟨A, 1, none⟩ = some (.int .i32 a2) := St.out.va.cell 1
            have za := St.out.va.lt
            have kb0 : w3.cell? ⟨B, 0, none⟩ = some (.int .i32 b1) := St.out.vb.cell 0
            have kb1 : w3.cell? ⟨B, 1, none⟩ = some (.int .i32 b2) := St.out.vb.cell 1
            have zb := St.out.vb.lt
            have kc0 : w3.cell? ⟨C, 0, none⟩ = some (.int .i32 c1) := St.out.vc.cell 0
            have kc1 : w3.cell? ⟨C, 1, none⟩ = some (.int .i32 c2) := St.out.vc.cell 1
            have zc := St.out.vc.lt
            have kd0 : w3.cell? ⟨D, 0, none⟩ = some (.int .i32 d1) := St.out.vd.cell 0
            have kd1 : w3.cell? ⟨D, 1, none⟩ = some (.int .i32 d2) := St.out.vd.cell 1
            have zd := St.out.vd.lt
            go_wp2_with fail
            refine (Id.out _).mono ?_
            rintro e w4 ⟨rfl, hbw4⟩
            have St := Lib.hid (St.out.keep hbw4)
            clear hbw4 ka0 ka1 za kb0 kb1 zb kc0 kc1 zc kd0 kd1 zd
            have ka0 : w4.cell? ⟨A, 0, none⟩ = some (.int .i32 a1) := St.out.va.cell 0
            have ka1 : w4.cell? ⟨A, 1, none⟩ = some (.int .i32 a2) := St.out.va.cell 1
            have za := St.out.va.lt
            have kb0 : w4.cell? ⟨B, 0, none⟩ = some (.int .i32 b1) := St.out.vb.cell 0
            have kb1 : w4.cell? ⟨B, 1, none⟩ = some (.int .i32 b2) := St.out.vb.cell 1
            have zb := St.out.vb.lt
            have kc0 : w4.cell? ⟨C, 0, none⟩ = some (.int .i32 c1) := St.out.vc.cell 0
            have kc1 : w4.cell? ⟨C, 1, none⟩ = some (.int .i32 c2) := St.out.vc.cell 1
            have zc := St.out.vc.lt
            have kd0 : w4.cell? ⟨D, 0, none⟩ = some (.int .i32 d1) := St.out.vd.cell 0
            have kd1 : w4.cell? ⟨D, 1, none⟩ = some (.int .i32 d2) := St.out.vd.cell 1
            have zd := St.out.vd.lt
            have zR := St.out.vr.lt
            have kr0 : w4.cell? ⟨R, 0, none⟩ = some (.int .u8 0) := St.out.vr.cell 0
            have kr1 : w4.cell? ⟨R, 1, none⟩ = some (.bool false) := St.out.vr.cell 1
            have kr2 : w4.cell? ⟨R, 2, none⟩ = some (.int .i64 0) := St.out.vr.cell 2
            have kr3 : w4.cell? ⟨R, 3, none⟩ = some (.int .i64 0) := St.out.vr.cell 3
            have kr4 : w4.cell? ⟨R, 4, none⟩ = some (.int .i64 0) := St.out.vr.cell 4
            have kr5 : w4.cell? ⟨R, 5, none⟩ = some (.int .i64 0) := St.out.vr.cell 5
            have gr0 := St.out.vr.free 0
            have gr1 := St.out.vr.free 1
            have gr2 := St.out.vr.free 2
            have gr3 := St.out.vr.free 3
            have gr4 := St.out.vr.free 4
            have gr5 := St.out.vr.free 5
            go_wp2_with fail
            refine bodyPost_ret (by simp [results, Try.results7, go_sem, *]; try rfl) rfl ?_
            refine ⟨?_, one_below St.out.bel hwR _ _ _ _ _ _⟩
            rw [← HM.out, HMe.out]
            rfl
          · rw [ed] at Id
            exact absurd (by rw [ea, eb, ec, ed]; rfl) hin

end Go.Proofs.Ytpjgghakeaajbaa
