/-
  The document's fractions, as they are told: number, frac.
-/
import Derived.Test.YtpjgghakeaajbaaFracQ
namespace Go.Proofs.Ytpjgghakeaajbaa
open Go.RowKit

theorem drop_step_le (ds : List Nat) (i : Nat) : val (ds.drop (i + 1)) * 4294967296 + dig ds i = val (ds.drop i) := by rw [dig_drop ds i]; omega
theorem drop_le (ds : List Nat) (i : Nat) : val (ds.drop i) ≤ val ds := by
  induction i with
  | zero => simp
  | succ i ih => have := drop_step_le ds i; omega

set_option maxHeartbeats 800000 in
theorem number_w {w0 : World} {A : Option Addr} {n c : Nat} {ds : List Nat} (h : RawAt w0 A n c ds) (hm : val ds ≤ 18446744073709551615) (hn : n ≤ 90000) (s : Bool) (w : World) (hw : Below w0.heap.size w0 w) :
    Calls Try.prog 50 #[.agg #[.bool s, .slice A n c]] w fun e w' => e = .returned (.int .u64 (val ds : Int)) ∧ Below w.heap.size w w' := by
  have r1 := h.below hw
  have HM := Lib.hid hm
  have HL := Lib.hid h.len
  clear h hw hm
  go_enter Try.func50, Try.ntmps50
  go_wp2_with fail
  refine wp_gen (fun W hW => ?_)
  have v0 : Var W w.heap.size 51 #[.bool s, .slice A n c] := by rw [hW]; exact Var.new _ _ _
  have hBW : Below w.heap.size w W := by rw [hW]; go_grown
  clear hW
  go_loopw [3, 4] (fun v t wr => ∃ (j q : Nat) (z : Int), v = .int .u64 (q : Int) ∧ t = .int .i64 z ∧ z = (j : Int) - 1 ∧ j ≤ n ∧ q = val (ds.drop j) ∧ Below W.heap.size W wr)
    (fun _ t _ => (intOf t + 1).toNat)
  case atStart => exact ⟨n, 0, _, rfl, rfl, rfl, Nat.le_refl _, by rw [drop_out (Nat.le_of_eq HL.out)], Below.refl _ _⟩
  case round =>
    obtain ⟨j, q, z, rfl, rfl, hz, hj, hq, hbel⟩ := hrel
    have HQ := Lib.hid hq
    clear hq
    have v0' := v0.keep hbel
    have a1 : wr.cell? ⟨w.heap.size, 1, none⟩ = some (.slice A n c) := v0'.cell 1
    have z0 := v0'.lt
    have hBr : Below w.heap.size w wr := hBW.trans (hbel.mono (Nat.le_of_lt v0.lt))
    rcases Nat.eq_zero_or_pos j with hj0 | hj0
    · subst hj0
      obtain rfl : z = -1 := by omega
      clear hz
      go_wp2_with fail
      go_ret
      refine ⟨ret_intR ?_, by go_grown⟩
      have := HQ.out
      simp only [List.drop_zero] at this
      omega
    · obtain ⟨i, rfl⟩ : ∃ i, j = i + 1 := ⟨j - 1, by omega⟩
      obtain rfl : z = (i : Int) := by omega
      clear hz hj0
      have hb : (q : Int) * 4294967296 + (dig ds i : Nat) ≤ 18446744073709551615 := by
        have h1 := drop_step_le ds i
        have h2 := drop_le ds i
        have h3 := HM.out
        have h4 := HQ.out
        rw [← h4] at h1
        omega
      obtain ⟨b, o, rfl, hb0, hc⟩ := (r1.below hBr).at_ (i := i) (by omega)
      have k1 : wr.cell? ⟨b, o + i, none⟩ = some (.int .u32 (dig ds i : Int)) := hc
      clear hc
      go_wp2_with fail
      go_roundw
      case rel =>
        have h1 := drop_step_le ds i
        have h4 := HQ.out
        rw [← h4] at h1
        exact ⟨i, q * 4294967296 + dig ds i, _, congrArg (Value.int .u64) (by omega), rfl, rfl, by omega, h1, hbel⟩
      case measure => simp [intOf]

theorem fr_nat' {n d g : Nat} (hg : Nat.gcd n d = g) : ((n / g : Nat) : Int) = (fr (n : Int) (d : Int)).1 ∧ ((d / g : Nat) : Int) = (fr (n : Int) (d : Int)).2 := by
  subst hg
  unfold fr
  simp only [Int.natAbs_natCast]
  exact ⟨by simp, by simp⟩

set_option maxHeartbeats 1600000 in
set_option maxRecDepth 100000 in
theorem frac_q {w0 : World} {v : Value} {x : Q} {k : Nat} (h : RatAt w0 v x) (hk : QS k x) (hk9 : k ≤ 90000) (h0 : 0 ≤ x.1 ∧ x.1 ≤ 9223372036854775807) (hd : 0 < x.2 ∧ x.2 ≤ 9223372036854775807) (w : World) (hw : Below w0.heap.size w0 w) :
    Calls Try.prog 28 #[v] w fun e w' => e = .returned (.agg #[.int .i64 (fr x.1 x.2).1, .int .i64 (fr x.1 x.2).2]) ∧ Below w.heap.size w w' := by
  obtain ⟨b1, A1, n1, c1, b2, A2, n2, c2, rfl, hx1, hx2⟩ := rat_open (h.below hw)
  obtain ⟨n, hn⟩ := Int.eq_ofNat_of_zero_le h0.1
  obtain ⟨d, hd'⟩ := Int.eq_ofNat_of_zero_le (Int.le_of_lt hd.1)
  obtain ⟨x1, x2⟩ := x
  dsimp only at hn hd' h0 hd hx1 hx2 ⊢
  subst hn hd'
  have hb1 := num_sign hx1.out
  obtain rfl : b1 = false := by rw [hb1]; simp
  have HN1 : Hid (∀ W, Below w.heap.size w W → Calls Try.prog 50 #[.agg #[.bool false, .slice A1 n1 c1]] W fun e w' => e = .returned (.int .u64 (n : Int)) ∧ Below W.heap.size W w') := Lib.hid (fun W hW => by
    obtain ⟨b, A, m, c, ds, e, _, hr, ht, hv⟩ := num_open hx1.out
    simp only [Value.agg.injEq] at e
    simp at e
    obtain ⟨rfl, rfl, rfl, rfl⟩ := e
    have hv' : val ds = n := by rw [hv.out]; rfl
    have := number_w hr (by omega) (Nat.le_trans (num_len hr ht hv' hk.1) hk9) false W hW
    rw [hv'] at this
    exact this)
  have HN2 : Hid (∀ W, Below w.heap.size w W → Calls Try.prog 50 #[.agg #[.bool b2, .slice A2 n2 c2]] W fun e w' => e = .returned (.int .u64 (d : Int)) ∧ Below W.heap.size W w') := Lib.hid (fun W hW => by
    obtain ⟨b, A, m, c, ds, e, _, hr, ht, hv⟩ := num_open hx2.out
    simp only [Value.agg.injEq] at e
    simp at e
    obtain ⟨rfl, rfl, rfl, rfl⟩ := e
    have hv' : val ds = d := by rw [hv.out]; rfl
    have := number_w hr (by omega) (Nat.le_trans (num_len hr ht hv' hk.2) hk9) b2 W hW
    rw [hv'] at this
    exact this)
  have hdp : 0 < d := by omega
  have hn64 : n ≤ 9223372036854775807 := by omega
  have hd64 : d ≤ 9223372036854775807 := by omega
  clear h hk hw hb1 h0 hd hx1 hx2
  go_enter Try.func28, Try.ntmps28
  go_wp2_with fail
  refine (HN1.out _ (by go_grown)).mono ?_
  rintro e w1 ⟨rfl, hb1⟩
  have va : Var w1 w.heap.size 53 #[.bool false, .slice A1 n1 c1, .bool b2, .slice A2 n2 c2] := ((Var.new _ _ _).alloc _).keep hb1
  have vR : Var w1 (w.heap.size + 1) 28 #[.int .i64 0, .int .i64 0] := (Var.new' _ _ _ (by simp)).keep hb1
  have hB1 : Below w.heap.size w w1 := Below.trans (by go_grown) (hb1.mono (by simp; omega))
  have a2 : w1.cell? ⟨w.heap.size, 2, none⟩ = some (.bool b2) := va.cell 2
  have a3 : w1.cell? ⟨w.heap.size, 3, none⟩ = some (.slice A2 n2 c2) := va.cell 3
  clear hb1
  go_wp2_with fail
  refine (HN2.out _ hB1).mono ?_
  rintro e w2 ⟨rfl, hb2⟩
  have va2 := va.keep hb2
  have vR2 := vR.keep hb2
  have hB2 := hB1.trans (hb2.mono hB1.size)
  clear hb2 va vR hB1 a2 a3
  go_wp2_with fail
  go_loopw [5, 6] (fun t u wr => ∃ x y : Nat, t = .int .u64 (x : Int) ∧ u = .int .u64 (y : Int) ∧ x ≤ 9223372036854775807 ∧ y ≤ 9223372036854775807 ∧ Nat.gcd x y = Nat.gcd n d ∧ (x = 0 → 0 < y) ∧ Below w2.heap.size w2 wr) (fun _ u _ => (intOf u).toNat)
  case atStart => exact ⟨n, d, rfl, rfl, hn64, hd64, rfl, fun _ => hdp, Below.refl _ _⟩
  case round =>
    obtain ⟨x, y, rfl, rfl, hx, hy, hg, hp, hbel⟩ := hrel
    rcases Nat.eq_zero_or_pos y with h1 | h1
    · subst h1
      have hxp : 0 < x := by
        rcases Nat.eq_zero_or_pos x with h | h
        · exact absurd (hp h) (by omega)
        · exact h
      have hfr := fr_nat' (n := n) (d := d) (g := x) (by rw [← hg, Nat.gcd_zero_right])
      have va3 := va2.keep hbel
      have vR3 := vR2.keep hbel
      have hB3 := hB2.trans (hbel.mono hB2.size)
      have hx0 : ¬ (x : Int) = 0 := by omega
      have hx1 : ((x : Int) == 0) = false := by rw [beq_eq_false_iff_ne]; exact hx0
      have a0 : wr.cell? ⟨w.heap.size, 0, none⟩ = some (.bool false) := va3.cell 0
      have r0 : wr.cell? ⟨w.heap.size + 1, 0, none⟩ = some (.int .i64 0) := vR3.cell 0
      have r1 : wr.cell? ⟨w.heap.size + 1, 1, none⟩ = some (.int .i64 0) := vR3.cell 1
      have f0 := vR3.free 0
      have f1 := vR3.free 1
      have z0 := va3.lt
      have z1 := vR3.lt
      obtain ⟨q1, hq1⟩ : ∃ q, n / x = q := ⟨_, rfl⟩
      obtain ⟨q2, hq2⟩ : ∃ q, d / x = q := ⟨_, rfl⟩
      have hb1 : q1 ≤ 9223372036854775807 := by have := Nat.div_le_self n x; omega
      have hb2 : q2 ≤ 9223372036854775807 := by have := Nat.div_le_self d x; omega
      have t1 : (n : Int).tdiv (x : Int) = (q1 : Int) := by rw [← hq1]; exact (Int.ofNat_tdiv n x).symm
      have t2 : (d : Int).tdiv (x : Int) = (q2 : Int) := by rw [← hq2]; exact (Int.ofNat_tdiv d x).symm
      have e1 : (n : Int) / (x : Int) = (q1 : Int) := by rw [← hq1]; exact (Int.natCast_ediv n x).symm
      have e2 : (d : Int) / (x : Int) = (q2 : Int) := by rw [← hq2]; exact (Int.natCast_ediv d x).symm
      rw [hq1, hq2] at hfr
      clear hq1 hq2
      have HF := Lib.hid (And.intro hfr (And.intro hB3 vR3))
      clear hfr hg hp hB3 vR3 va3 hbel
      go_wp2_with fail
      go_region
      go_wp2_with fail
      refine bodyPost_ret (by simp [results, Try.results28, go_sem, *]; try rfl) rfl ?_
      have hB3 := HF.out.2.1
      rw [← HF.out.1.1, ← HF.out.1.2]
      exact ⟨rfl, by go_grown⟩
    · have hy0 : ¬ (y : Int) = 0 := by omega
      have hy1 : ((y : Int) == 0) = false := by rw [beq_eq_false_iff_ne]; exact hy0
      have hm1 := Nat.mod_lt x h1
      have HG := Lib.hid (And.intro hg hp)
      clear hg hp
      go_wp2_with fail
      have hq_wr := @wd_cell wr
      refine wp_region_wd (by kernel_rfl) (by kernel_rfl) ?_
      repeat (go_big_quiet_step (fail))
      refine wpQuiet_nil ?_
      rintro w8 ⟨⟨wx, hb_w8⟩, hwx⟩
      obtain rfl : w8 = wx := hwx
      clear hq_wr
      have hz_w8 := hb_w8.size
      obtain ⟨hc_w8, hf_w8⟩ := bcell hb_w8
      go_wp2_with fail
      go_roundw
      case rel =>
        refine ⟨y, x % y, rfl, congrArg (Value.int .u64) (Int.natCast_emod x y).symm, hy, by omega, ?_, fun h => by omega, hbel.trans (hb_w8.mono hbel.size)⟩
        rw [← HG.out.1, Nat.gcd_comm x y, Nat.gcd_rec y x, Nat.gcd_comm]
      case measure => simp [intOf]; omega

end Go.Proofs.Ytpjgghakeaajbaa
