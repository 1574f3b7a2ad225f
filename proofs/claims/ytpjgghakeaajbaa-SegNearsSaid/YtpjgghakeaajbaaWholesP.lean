/-
  The document's whole numbers: of and plus.
-/
import Derived.Test.YtpjgghakeaajbaaWholes
namespace Go.Proofs.Ytpjgghakeaajbaa
open Go.RowKit

set_option maxHeartbeats 1600000 in
theorem of_num (v : Int) (hv : -9223372036854775808 ≤ v ∧ v ≤ 9223372036854775807) (w : World) :
    Calls Try.prog 48 #[.int .i64 v] w fun e w' => ∃ u, e = .returned u ∧ NumAt w' u v ∧ Below w.heap.size w w' := by
  obtain ⟨m, hm⟩ : ∃ m : Nat, v.natAbs = m := ⟨_, rfl⟩
  rcases Int.lt_or_le v 0 with hneg | hpos
  · have hm64 : m ≤ 9223372036854775808 := by omega
    have e1 : IntKind.u64.wrap (-(IntKind.u64.wrap v)) = (m : Int) := by simp only [IntKind.wrap_u64]; omega
    have HM := Lib.hid hm
    clear hm
    go_enter Try.func48, Try.ntmps48
    go_wp2_with fail
    have k1 : ((m : Int) % 4294967296) = ((m % 4294967296 : Nat) : Int) := by omega
    have k2 : ((m : Int) / 4294967296) = ((m / 4294967296 : Nat) : Int) := by omega
    rw [k1, k2]
    clear k1 k2
    obtain ⟨W, hW⟩ : ∃ W, (w.alloc (.cells #[.bool false, .slice none 0 0] 51)).alloc (.cells #[.int .u32 ((m % 4294967296 : Nat) : Int), .int .u32 ((m / 4294967296 : Nat) : Int)] 91) = W := ⟨_, rfl⟩
    rw [hW]
    have vG : Var W (w.heap.size + 1) 91 (([m % 4294967296, m / 4294967296].map U).toArray) := by rw [← hW]; exact Var.new' _ _ _ (by simp)
    have vR : Var W w.heap.size 51 #[.bool false, .slice none 0 0] := by rw [← hW]; exact (Var.new _ _ _).alloc _
    have hB : Below w.heap.size w W := by rw [← hW]; go_grown
    have hraw : RawAt W (some ⟨w.heap.size + 1, 0, none⟩) 2 2 [m % 4294967296, m / 4294967296] := raw_of_var vG rfl (by omega) (fun d hd => by simp at hd; omega)
    clear hW vG
    refine (open_mag (made_w hraw true W (Below.refl _ _))).mono ?_
    rintro e w1 ⟨b1, A1, n1, c1, ds1, rfl, hs1, hr1, ht1, hv1, hb1⟩
    have vR1 := vR.keep hb1
    have f0 := vR1.free 0
    have f1 := vR1.free 1
    have r0 := vR1.cell 0
    have r1 := vR1.cell 1
    have HR := Lib.hid (And.intro hr1 (And.intro ht1 (And.intro vR1 (hB.trans (hb1.mono hB.size)))))
    clear hraw vR hB hr1 ht1 vR1 hb1
    go_wp2_with fail
    refine bodyPost_ret (by simp [results, Try.results48, go_sem, *]; try rfl) rfl ?_
    obtain ⟨hr1, ht1, vR1, hb1⟩ := HR.out
    have hval := val_two m
    refine ⟨_, rfl, num_mk (hr1.over vR1 _ _) ht1 ?_ ?_, (hb1.setCell (p := ⟨w.heap.size, 0, none⟩) (Nat.le_refl _) _).setCell (p := ⟨w.heap.size, 1, none⟩) (Nat.le_refl _) _⟩
    · have := HM.out
      rw [hs1.out, hval]
      rw [Bool.eq_iff_iff]; simp; omega
    · rw [hv1.out, hval, HM.out]
  · obtain ⟨m', rfl⟩ := Int.eq_ofNat_of_zero_le hpos
    obtain rfl : m' = m := by omega
    have hnl : ¬ (m' : Int) < 0 := by omega
    clear hm
    go_enter Try.func48, Try.ntmps48
    go_wp2_with fail
    have k1 : ((m' : Int) % 4294967296) = ((m' % 4294967296 : Nat) : Int) := by omega
    have k2 : ((m' : Int) / 4294967296) = ((m' / 4294967296 : Nat) : Int) := by omega
    rw [k1, k2]
    clear k1 k2
    obtain ⟨W, hW⟩ : ∃ W, (w.alloc (.cells #[.bool false, .slice none 0 0] 51)).alloc (.cells #[.int .u32 ((m' % 4294967296 : Nat) : Int), .int .u32 ((m' / 4294967296 : Nat) : Int)] 91) = W := ⟨_, rfl⟩
    rw [hW]
    have vG : Var W (w.heap.size + 1) 91 (([m' % 4294967296, m' / 4294967296].map U).toArray) := by rw [← hW]; exact Var.new' _ _ _ (by simp)
    have vR : Var W w.heap.size 51 #[.bool false, .slice none 0 0] := by rw [← hW]; exact (Var.new _ _ _).alloc _
    have hB : Below w.heap.size w W := by rw [← hW]; go_grown
    have hraw : RawAt W (some ⟨w.heap.size + 1, 0, none⟩) 2 2 [m' % 4294967296, m' / 4294967296] := raw_of_var vG rfl (by omega) (fun d hd => by simp at hd; omega)
    clear hW vG
    refine (open_mag (made_w hraw false W (Below.refl _ _))).mono ?_
    rintro e w1 ⟨b1, A1, n1, c1, ds1, rfl, hs1, hr1, ht1, hv1, hb1⟩
    have vR1 := vR.keep hb1
    have f0 := vR1.free 0
    have f1 := vR1.free 1
    have r0 := vR1.cell 0
    have r1 := vR1.cell 1
    have HR := Lib.hid (And.intro hr1 (And.intro ht1 (And.intro vR1 (hB.trans (hb1.mono hB.size)))))
    clear hraw vR hB hr1 ht1 vR1 hb1
    go_wp2_with fail
    refine bodyPost_ret (by simp [results, Try.results48, go_sem, *]; try rfl) rfl ?_
    obtain ⟨hr1, ht1, vR1, hb1⟩ := HR.out
    have hval := val_two m'
    refine ⟨_, rfl, num_mk (hr1.over vR1 _ _) ht1 ?_ ?_, (hb1.setCell (p := ⟨w.heap.size, 0, none⟩) (Nat.le_refl _) _).setCell (p := ⟨w.heap.size, 1, none⟩) (Nat.le_refl _) _⟩
    · rw [hs1.out]
      rfl
    · rw [hv1.out, hval]
      rfl

/-- What made answers of a row, as a number. -/
theorem num_made {w : World} {v : Value} {s : Bool} {m : Nat} {z : Int} (h : MagAt w v (s && decide (¬ m = 0)) m) (hs : z.natAbs = m) (hz : (s = true → z ≤ 0) ∧ (s = false → 0 ≤ z)) : NumAt w v z := by
  refine num_mag h ?_ hs.symm
  rw [Bool.eq_iff_iff]
  cases s
  · have := hz.2 rfl
    simp
    omega
  · have := hz.1 rfl
    simp
    omega

theorem same_signs {b : Bool} {x y : Int} (h : b = decide (x < 0)) (h' : b = decide (y < 0)) : (x + y).natAbs = x.natAbs + y.natAbs ∧ (b = true → x + y ≤ 0) ∧ (b = false → 0 ≤ x + y) := by
  cases b
  · have h1 := of_decide_eq_false h.symm
    have h2 := of_decide_eq_false h'.symm
    exact ⟨by omega, by simp, fun _ => by omega⟩
  · have h1 := of_decide_eq_true h.symm
    have h2 := of_decide_eq_true h'.symm
    exact ⟨by omega, fun _ => by omega, by simp⟩
def Diff (b b' : Bool) (x y : Int) : Prop := (b = true ∧ b' = false ∧ x < 0 ∧ 0 ≤ y) ∨ (b = false ∧ b' = true ∧ 0 ≤ x ∧ y < 0)
theorem diff_signs {b b' : Bool} {x y : Int} (h : b = decide (x < 0)) (h' : b' = decide (y < 0)) (hne : ¬ b = b') : Diff b b' x y := by
  cases b <;> cases b'
  · exact absurd rfl hne
  · have h1 := of_decide_eq_false h.symm
    have h2 := of_decide_eq_true h'.symm
    exact .inr ⟨rfl, rfl, by omega, h2⟩
  · have h1 := of_decide_eq_true h.symm
    have h2 := of_decide_eq_false h'.symm
    exact .inl ⟨rfl, rfl, h1, by omega⟩
  · exact absurd rfl hne
theorem diff_less {b b' : Bool} {x y : Int} {m m' : Nat} (h : Diff b b' x y) (hm : m = x.natAbs) (hm' : m' = y.natAbs) (hlt : m < m') : (x + y).natAbs = y.natAbs - x.natAbs ∧ (b' = true → x + y ≤ 0) ∧ (b' = false → 0 ≤ x + y) := by
  rcases h with ⟨rfl, rfl, h1, h2⟩ | ⟨rfl, rfl, h1, h2⟩
  · exact ⟨by omega, by simp, fun _ => by omega⟩
  · exact ⟨by omega, fun _ => by omega, by simp⟩
theorem diff_more {b b' : Bool} {x y : Int} {m m' : Nat} (h : Diff b b' x y) (hm : m = x.natAbs) (hm' : m' = y.natAbs) (hge : m' ≤ m) : (x + y).natAbs = x.natAbs - y.natAbs ∧ (b = true → x + y ≤ 0) ∧ (b = false → 0 ≤ x + y) := by
  rcases h with ⟨rfl, rfl, h1, h2⟩ | ⟨rfl, rfl, h1, h2⟩
  · exact ⟨by omega, fun _ => by omega, by simp⟩
  · exact ⟨by omega, by simp, fun _ => by omega⟩

set_option maxHeartbeats 3200000 in
set_option maxRecDepth 100000 in
theorem plus_num {w0 : World} {v v' : Value} {x y : Int} {k : Nat} (h : NumAt w0 v x) (h' : NumAt w0 v' y) (hk : Small k x.natAbs) (hk' : Small k y.natAbs) (hk9 : k ≤ 90000) (w : World) (hw : Below w0.heap.size w0 w) :
    Calls Try.prog 49 #[v, v'] w fun e w' => ∃ u, e = .returned u ∧ NumAt w' u (x + y) ∧ Below w.heap.size w w' := by
  obtain ⟨b, A, n, c, ds, rfl, hs, hr, ht, hv⟩ := num_open (h.below hw)
  obtain ⟨b', A', n', c', ds', rfl, hs', hr', ht', hv'⟩ := num_open (h'.below hw)
  have l1 := num_len hr ht hv.out hk
  have l2 := num_len hr' ht' hv'.out hk'
  clear h h' hw hk hk'
  by_cases hsame : b = b'
  · subst hsame
    have hb0 : (b == b) = true := beq_self_eq_true b
    have HS := Lib.hid (same_signs hs.out hs'.out)
    clear hs hs'
    go_enter Try.func49, Try.ntmps49
    go_wp2_with fail
    refine wp_gen (fun W0 hW => ?_)
    have va : Var W0 w.heap.size 51 #[.bool b, .slice A n c] := by rw [hW]; exact ((Var.new _ _ _).alloc _).alloc _
    have vb : Var W0 (w.heap.size + 1) 51 #[.bool b, .slice A' n' c'] := by rw [hW]; exact (Var.new' _ _ _ (by simp)).alloc _
    have vR : Var W0 (w.heap.size + 1 + 1) 51 #[.bool false, .slice none 0 0] := by rw [hW]; exact Var.new' _ _ _ (by simp)
    have hB_W0 : Below w.heap.size w W0 := by rw [hW]; go_grown
    clear hW
    have a0 : W0.cell? ⟨w.heap.size, 0, none⟩ = some (.bool b) := va.cell 0
    have a1 : W0.cell? ⟨w.heap.size, 1, none⟩ = some (.slice A n c) := va.cell 1
    have b0 : W0.cell? ⟨w.heap.size + 1, 0, none⟩ = some (.bool b) := vb.cell 0
    have b1 : W0.cell? ⟨w.heap.size + 1, 1, none⟩ = some (.slice A' n' c') := vb.cell 1
    go_region_held3 (fun w' => Below (w.heap.size + 1 + 1) W0 w' ∧ w.heap.size + 1 + 1 < w'.heap.size ∧ (∀ b o, b < w.heap.size + 1 + 1 → w'.cell? ⟨b, o, none⟩ = W0.cell? ⟨b, o, none⟩) ∧ (∀ o, o < 2 → w'.cell? ⟨w.heap.size + 1 + 1, o, none⟩ = some (rd w' (w.heap.size + 1 + 1) o)) ∧ (∀ o, w'.frozen? ⟨w.heap.size + 1 + 1, o, none⟩ = false) ∧ (∃ cs, w'.heap[w.heap.size + 1 + 1]? = some (.cells cs 51 (0, 0))))
      (first | exact heldT_step hb_wk (by assumption) | exact heldT_start vR | (repeat (refine heldT_store ?_ _ _)); assumption)
      (first | (go_at_call 59; refine (sum_w hr hr' (by omega) (by omega) _ (heldT_bel (W0 := W0) (w.heap.size + 1 + 1) 2 51 (by assumption) hB_W0 (by omega))).mono ?_; rintro e wk ⟨A1, n1, c1, d1, rfl, hr1, hv1, hb_wk⟩) | (go_at_call 58; refine (open_mag (made_w hr1 b _ (Below.refl _ _))).mono ?_; rintro e wk ⟨b2, A2, n2, c2, d2, rfl, hs2, hr2, ht2, hv2, hb_wk⟩))
    obtain ⟨W', e', hB', k0, k1, cs, hVR⟩ := heldT_two (T := 51) (by assumption)
    have hraw := hr2.over hVR (.bool b2) (.slice A2 n2 c2)
    rw [e'] at hraw
    rw [e']
    clear e'
    go_wp2_with fail
    refine bodyPost_ret (by simp [results, Try.results49, go_sem, *]; try rfl) rfl ?_
    exact ⟨_, rfl, num_made (s := b) (m := val d1) ⟨A2, n2, c2, d2, by rw [hs2.out], hraw, ht2, hv2.out⟩ (by rw [hv1.out, hv.out, hv'.out]; exact HS.out.1) HS.out.2, Below.trans hB_W0 (hB'.mono (by omega))⟩
  · have hb0 : (b == b') = false := beq_eq_false_iff_ne.2 hsame
    have HD := Lib.hid (diff_signs hs.out hs'.out hsame)
    clear hs hs'
    rcases Nat.lt_or_ge (val ds) (val ds') with hc | hc
    · have hcm : cmpI (val ds) (val ds') < 0 := by unfold cmpI; rw [if_pos (by omega)]; omega
      obtain ⟨z, hz⟩ : ∃ z, cmpI (val ds : Int) (val ds' : Int) = z := ⟨_, rfl⟩
      have LW := Lib.hid (fun W (h : Below w.heap.size w W) => low_w hr ht hr' ht' W h)
      rw [hz] at hcm LW
      clear hz
      have HC := Lib.hid hc
      clear hc
      go_enter Try.func49, Try.ntmps49
      go_wp2_with fail
      refine (LW.out _ (by go_grown)).mono ?_
      rintro e w1 ⟨rfl, hb1⟩
      have va : Var w1 w.heap.size 51 #[.bool b, .slice A n c] := (((Var.new _ _ _).alloc _).alloc _).keep hb1
      have vb : Var w1 (w.heap.size + 1) 51 #[.bool b', .slice A' n' c'] := ((Var.new' _ _ _ (by simp)).alloc _).keep hb1
      have vR : Var w1 (w.heap.size + 1 + 1) 51 #[.bool false, .slice none 0 0] := (Var.new' _ _ _ (by simp)).keep hb1
      obtain ⟨W0, rfl⟩ : ∃ z, z = w1 := ⟨_, rfl⟩
      have hB_W0 : Below w.heap.size w W0 := Below.trans (by go_grown) (hb1.mono (by simp; omega))
      clear hb1
      have a0 : W0.cell? ⟨w.heap.size, 0, none⟩ = some (.bool b) := va.cell 0
      have a1 : W0.cell? ⟨w.heap.size, 1, none⟩ = some (.slice A n c) := va.cell 1
      have b0 : W0.cell? ⟨w.heap.size + 1, 0, none⟩ = some (.bool b') := vb.cell 0
      have b1 : W0.cell? ⟨w.heap.size + 1, 1, none⟩ = some (.slice A' n' c') := vb.cell 1
      go_wp2_with fail
      go_region_held3 (fun w' => Below (w.heap.size + 1 + 1) W0 w' ∧ w.heap.size + 1 + 1 < w'.heap.size ∧ (∀ b o, b < w.heap.size + 1 + 1 → w'.cell? ⟨b, o, none⟩ = W0.cell? ⟨b, o, none⟩) ∧ (∀ o, o < 2 → w'.cell? ⟨w.heap.size + 1 + 1, o, none⟩ = some (rd w' (w.heap.size + 1 + 1) o)) ∧ (∀ o, w'.frozen? ⟨w.heap.size + 1 + 1, o, none⟩ = false) ∧ (∃ cs, w'.heap[w.heap.size + 1 + 1]? = some (.cells cs 51 (0, 0))))
        (first | exact heldT_step hb_wk (by assumption) | exact heldT_start vR | (repeat (refine heldT_store ?_ _ _)); assumption)
        (first | (go_at_call 61; refine (less_w hr' hr ht (by omega) (Nat.le_of_lt HC.out) _ (heldT_bel (W0 := W0) (w.heap.size + 1 + 1) 2 51 (by assumption) hB_W0 (by omega))).mono ?_; rintro e wk ⟨A1, n1, c1, d1, rfl, hr1, hv1, hb_wk⟩) | (go_at_call 58; refine (open_mag (made_w hr1 b' _ (Below.refl _ _))).mono ?_; rintro e wk ⟨b2, A2, n2, c2, d2, rfl, hs2, hr2, ht2, hv2, hb_wk⟩))
      obtain ⟨W', e', hB', k0, k1, cs, hVR⟩ := heldT_two (T := 51) (by assumption)
      have hraw := hr2.over hVR (.bool b2) (.slice A2 n2 c2)
      rw [e'] at hraw
      rw [e']
      clear e'
      go_wp2_with fail
      refine bodyPost_ret (by simp [results, Try.results49, go_sem, *]; try rfl) rfl ?_
      exact ⟨_, rfl, num_made (s := b') (m := val d1) ⟨A2, n2, c2, d2, by rw [hs2.out], hraw, ht2, hv2.out⟩ (by rw [hv1.out, hv.out, hv'.out]; exact (diff_less HD.out hv.out hv'.out HC.out).1) (diff_less HD.out hv.out hv'.out HC.out).2, Below.trans hB_W0 (hB'.mono (by omega))⟩
    · have hcm : ¬ cmpI (val ds) (val ds') < 0 := by unfold cmpI; rw [if_neg (by omega)]; split <;> omega
      obtain ⟨z, hz⟩ : ∃ z, cmpI (val ds : Int) (val ds' : Int) = z := ⟨_, rfl⟩
      have LW := Lib.hid (fun W (h : Below w.heap.size w W) => low_w hr ht hr' ht' W h)
      rw [hz] at hcm LW
      clear hz
      have HC := Lib.hid hc
      clear hc
      go_enter Try.func49, Try.ntmps49
      go_wp2_with fail
      refine (LW.out _ (by go_grown)).mono ?_
      rintro e w1 ⟨rfl, hb1⟩
      have va : Var w1 w.heap.size 51 #[.bool b, .slice A n c] := (((Var.new _ _ _).alloc _).alloc _).keep hb1
      have vb : Var w1 (w.heap.size + 1) 51 #[.bool b', .slice A' n' c'] := ((Var.new' _ _ _ (by simp)).alloc _).keep hb1
      have vR : Var w1 (w.heap.size + 1 + 1) 51 #[.bool false, .slice none 0 0] := (Var.new' _ _ _ (by simp)).keep hb1
      obtain ⟨W0, rfl⟩ : ∃ z, z = w1 := ⟨_, rfl⟩
      have hB_W0 : Below w.heap.size w W0 := Below.trans (by go_grown) (hb1.mono (by simp; omega))
      clear hb1
      have a0 : W0.cell? ⟨w.heap.size, 0, none⟩ = some (.bool b) := va.cell 0
      have a1 : W0.cell? ⟨w.heap.size, 1, none⟩ = some (.slice A n c) := va.cell 1
      have b0 : W0.cell? ⟨w.heap.size + 1, 0, none⟩ = some (.bool b') := vb.cell 0
      have b1 : W0.cell? ⟨w.heap.size + 1, 1, none⟩ = some (.slice A' n' c') := vb.cell 1
      go_wp2_with fail
      go_region_held3 (fun w' => Below (w.heap.size + 1 + 1) W0 w' ∧ w.heap.size + 1 + 1 < w'.heap.size ∧ (∀ b o, b < w.heap.size + 1 + 1 → w'.cell? ⟨b, o, none⟩ = W0.cell? ⟨b, o, none⟩) ∧ (∀ o, o < 2 → w'.cell? ⟨w.heap.size + 1 + 1, o, none⟩ = some (rd w' (w.heap.size + 1 + 1) o)) ∧ (∀ o, w'.frozen? ⟨w.heap.size + 1 + 1, o, none⟩ = false) ∧ (∃ cs, w'.heap[w.heap.size + 1 + 1]? = some (.cells cs 51 (0, 0))))
        (first | exact heldT_step hb_wk (by assumption) | exact heldT_start vR | (repeat (refine heldT_store ?_ _ _)); assumption)
        (first | (go_at_call 61; refine (less_w hr hr' ht' (by omega) HC.out _ (heldT_bel (W0 := W0) (w.heap.size + 1 + 1) 2 51 (by assumption) hB_W0 (by omega))).mono ?_; rintro e wk ⟨A1, n1, c1, d1, rfl, hr1, hv1, hb_wk⟩) | (go_at_call 58; refine (open_mag (made_w hr1 b _ (Below.refl _ _))).mono ?_; rintro e wk ⟨b2, A2, n2, c2, d2, rfl, hs2, hr2, ht2, hv2, hb_wk⟩))
      obtain ⟨W', e', hB', k0, k1, cs, hVR⟩ := heldT_two (T := 51) (by assumption)
      have hraw := hr2.over hVR (.bool b2) (.slice A2 n2 c2)
      rw [e'] at hraw
      rw [e']
      clear e'
      go_wp2_with fail
      refine bodyPost_ret (by simp [results, Try.results49, go_sem, *]; try rfl) rfl ?_
      exact ⟨_, rfl, num_made (s := b) (m := val d1) ⟨A2, n2, c2, d2, by rw [hs2.out], hraw, ht2, hv2.out⟩ (by rw [hv1.out, hv.out, hv'.out]; exact (diff_more HD.out hv.out hv'.out HC.out).1) (diff_more HD.out hv.out hv'.out HC.out).2, Below.trans hB_W0 (hB'.mono (by omega))⟩

end Go.Proofs.Ytpjgghakeaajbaa
