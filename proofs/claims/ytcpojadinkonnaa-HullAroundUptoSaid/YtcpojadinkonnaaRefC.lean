/-
  Contracts of the reference's functions on whole numbers: Neg, Add, Sub, Cmp, Sign.
-/
import Derived.Test.YtcpojadinkonnaaRefB
namespace Go.Proofs.Ytcpojadinkonnaa
open Go.RowKit

/-- A contract that answers a size, its value laid open; the equations are kept from the walk. -/
theorem open_mag {P : Program} {f : FuncId} {args : Array Value} {w : World} {s : Bool} {m : Nat} (h : Calls P f args w fun e w' => ∃ v, e = .returned v ∧ MagAt w' v s m ∧ Below w.heap.size w w') :
    Calls P f args w fun e w' => ∃ b A n c ds, e = .returned (.agg #[.bool b, .slice A n c]) ∧ Hid (b = s) ∧ RawAt w' A n c ds ∧ Tight ds ∧ Hid (val ds = m) ∧ Below w.heap.size w w' :=
  h.mono fun _ _ ⟨_, he, ⟨A, n, c, ds, hv, hr, ht, hm⟩, hb⟩ => ⟨s, A, n, c, ds, by rw [he, hv], Lib.hid rfl, hr, ht, Lib.hid hm, hb⟩
theorem num_mk {w : World} {b : Bool} {A : Option Addr} {n c : Nat} {ds : List Nat} {z : Int} (hr : RawAt w A n c ds) (ht : Tight ds) (hs : b = decide (z < 0)) (hm : val ds = z.natAbs) :
    NumAt w (.agg #[.bool b, .slice A n c]) z := ⟨A, n, c, ds, by rw [hs], hr, ht, hm⟩
/-- A number as it comes in: its value laid open. -/
theorem num_open {w : World} {v : Value} {z : Int} (h : NumAt w v z) : ∃ b A n c ds, v = .agg #[.bool b, .slice A n c] ∧ Hid (b = decide (z < 0)) ∧ RawAt w A n c ds ∧ Tight ds ∧ Hid (val ds = z.natAbs) := by
  obtain ⟨A, n, c, ds, hv, hr, ht, hm⟩ := h
  exact ⟨_, A, n, c, ds, hv, Lib.hid rfl, hr, ht, Lib.hid hm⟩
theorem num_len {w : World} {A : Option Addr} {n c k : Nat} {ds : List Nat} {m : Nat} (hr : RawAt w A n c ds) (ht : Tight ds) (hv : val ds = m) (hk : Small k m) : n ≤ k := by
  subst hv; rw [← hr.len]; exact Small.len ht hk

theorem neg_ref {w0 : World} {v : Value} {x : Int} (h : NumAt w0 v x) (w : World) (hw : Below w0.heap.size w0 w) :
    Calls Try.prog 99 #[v] w fun e w' => ∃ v', e = .returned v' ∧ NumAt w' v' (-x) ∧ Below w.heap.size w w' := by
  obtain ⟨b, A, n, c, ds, rfl, hs, hr, ht, hv⟩ := num_open (h.below hw)
  clear h hw
  go_enter Try.func99, Try.ntmps99
  go_wp2_with fail
  refine (open_mag (trimmed_any hr _ _ (by go_grown))).mono ?_
  rintro e w1 ⟨b1, A1, m1, k1, e1, rfl, hs1, hr1, ht1, hv1, hb_w1⟩
  obtain ⟨hc_w1, hf_w1⟩ := bcell hb_w1
  have hz_w1 := hb_w1.size
  try simp at hz_w1
  have hB_w1 : Below w.heap.size w w1 := Below.trans (by go_grown) (hb_w1.mono (by go_size))
  have hs_w1_0 : w.heap.size < w1.heap.size := by omega
  have hs_w1_1 : w.heap.size + 1 < w1.heap.size := by omega
  have vR : Var w1 (w.heap.size + 1) 64 #[.bool false, .slice none 0 0] := (Var.new' _ _ _ (by simp)).keep hb_w1
  go_wp2_with fail
  refine bodyPost_ret (by simp [results, Try.results99, go_sem, *]; try rfl) rfl ?_
  refine ⟨_, rfl, num_mk (hr1.over vR _ _) ht1 ?_ ?_, by go_grown⟩
  · rw [hs1.out, hs.out, hv.out]
    rw [Bool.eq_iff_iff]; simp; omega
  · rw [hv1.out, hv.out]; omega

set_option maxHeartbeats 1600000 in
theorem add_ref {w0 : World} {v v' : Value} {x y : Int} {k : Nat} (h : NumAt w0 v x) (h' : NumAt w0 v' y) (hk : Small k x.natAbs) (hk' : Small k y.natAbs) (hk9 : k ≤ 90000) (w : World) (hw : Below w0.heap.size w0 w) :
    Calls Try.prog 97 #[v, v'] w fun e w' => ∃ u, e = .returned u ∧ NumAt w' u (x + y) ∧ Below w.heap.size w w' := by
  obtain ⟨b, A, n, c, ds, rfl, hs, hr, ht, hv⟩ := num_open (h.below hw)
  obtain ⟨b', A', n', c', ds', rfl, hs', hr', ht', hv'⟩ := num_open (h'.below hw)
  have l1 := num_len hr ht hv.out hk
  have l2 := num_len hr' ht' hv'.out hk'
  clear h h' hw hk hk'
  by_cases hx : x < 0
  all_goals by_cases hy : y < 0
  · obtain rfl : b = true := by rw [hs.out]; simp [hx]
    obtain rfl : b' = true := by rw [hs'.out]; simp [hy]
    clear hs hs'
    go_enter Try.func97, Try.ntmps97
    go_wp2_with fail
    refine (open_mag (size_any hr hr' _ _ (by omega) (by omega) _ (by go_grown))).mono ?_
    rintro e w3 ⟨b3, A3, m3, k3, e3, rfl, hs3, hr3, ht3, hv3, hb_w3⟩
    obtain ⟨hc_w3, hf_w3⟩ := bcell hb_w3
    have hz_w3 := hb_w3.size
    try simp at hz_w3
    have hB_w3 : Below w.heap.size w w3 := Below.trans (by go_grown) (hb_w3.mono (by go_size))
    have hs_w3_0 : w.heap.size < w3.heap.size := by omega
    have hs_w3_1 : w.heap.size + 1 < w3.heap.size := by omega
    have hs_w3_2 : w.heap.size + 1 + 1 < w3.heap.size := by omega
    go_wp2_with fail
    refine (open_mag (trimmed_any hr3 _ _ (by go_grown))).mono ?_
    rintro e w4 ⟨b4, A4, m4, k4, e4, rfl, hs4, hr4, ht4, hv4, hb_w4⟩
    obtain ⟨hc_w4, hf_w4⟩ := bcell hb_w4
    have hz_w4 := hb_w4.size
    try simp at hz_w4
    have hB_w4 : Below w.heap.size w w4 := Below.trans (by go_grown) (hb_w4.mono (by go_size))
    have hs_w4_0 : w.heap.size < w4.heap.size := by omega
    have hs_w4_1 : w.heap.size + 1 < w4.heap.size := by omega
    have hs_w4_2 : w.heap.size + 1 + 1 < w4.heap.size := by omega
    have vR : Var w4 (w.heap.size + 1 + 1) 64 #[.bool false, .slice none 0 0] := (((Var.new' _ _ _ (by simp)).keep hb_w3).alloc _).keep hb_w4
    go_wp2_with fail
    refine bodyPost_ret (by simp [results, Try.results97, go_sem, *]; try rfl) rfl ?_
    refine ⟨_, rfl, num_mk (hr4.over vR _ _) ht4 ?_ ?_, by go_grown⟩
    · have p1 := hv.out
      have p2 := hv'.out
      rw [hs4.out, hv3.out]
      rw [Bool.eq_iff_iff]; simp; omega
    · have p1 := hv.out
      have p2 := hv'.out
      rw [hv4.out, hv3.out]; omega
  · obtain rfl : b = true := by rw [hs.out]; simp [hx]
    obtain rfl : b' = false := by rw [hs'.out]; simp [hy]
    clear hs hs'
    rcases Nat.lt_or_ge (val ds) (val ds') with hc | hc
    · have hcm : cmpI (val ds) (val ds') < 0 := by unfold cmpI; rw [if_pos (by omega)]; omega
      go_enter Try.func97, Try.ntmps97
      go_wp2_with fail
      refine (cmpSize_any hr hr' _ _ (by omega) (by omega) _ (by go_grown)).mono ?_
      rintro e w1 ⟨rfl, hb_w1⟩
      obtain ⟨hc_w1, hf_w1⟩ := bcell hb_w1
      have hz_w1 := hb_w1.size
      try simp at hz_w1
      have hB_w1 : Below w.heap.size w w1 := Below.trans (by go_grown) (hb_w1.mono (by go_size))
      have hs_w1_0 : w.heap.size < w1.heap.size := by omega
      have hs_w1_1 : w.heap.size + 1 < w1.heap.size := by omega
      have hs_w1_2 : w.heap.size + 1 + 1 < w1.heap.size := by omega
      go_wp2_with fail
      refine (open_mag (less_any hr' hr _ _ (by omega) (by omega) _ (by go_grown))).mono ?_
      rintro e w3 ⟨b3, A3, m3, k3, e3, rfl, hs3, hr3, ht3, hv3, hb_w3⟩
      obtain ⟨hc_w3, hf_w3⟩ := bcell hb_w3
      have hz_w3 := hb_w3.size
      try simp at hz_w3
      have hB_w3 : Below w.heap.size w w3 := Below.trans (by go_grown) (hb_w3.mono (by go_size))
      have hs_w3_0 : w.heap.size < w3.heap.size := by omega
      have hs_w3_1 : w.heap.size + 1 < w3.heap.size := by omega
      have hs_w3_2 : w.heap.size + 1 + 1 < w3.heap.size := by omega
      go_wp2_with fail
      refine (open_mag (trimmed_any hr3 _ _ (by go_grown))).mono ?_
      rintro e w4 ⟨b4, A4, m4, k4, e4, rfl, hs4, hr4, ht4, hv4, hb_w4⟩
      obtain ⟨hc_w4, hf_w4⟩ := bcell hb_w4
      have hz_w4 := hb_w4.size
      try simp at hz_w4
      have hB_w4 : Below w.heap.size w w4 := Below.trans (by go_grown) (hb_w4.mono (by go_size))
      have hs_w4_0 : w.heap.size < w4.heap.size := by omega
      have hs_w4_1 : w.heap.size + 1 < w4.heap.size := by omega
      have hs_w4_2 : w.heap.size + 1 + 1 < w4.heap.size := by omega
      have vR : Var w4 (w.heap.size + 1 + 1) 64 #[.bool false, .slice none 0 0] := ((((Var.new' _ _ _ (by simp)).keep hb_w1).keep hb_w3).alloc _).keep hb_w4
      go_wp2_with fail
      refine bodyPost_ret (by simp [results, Try.results97, go_sem, *]; try rfl) rfl ?_
      refine ⟨_, rfl, num_mk (hr4.over vR _ _) ht4 ?_ ?_, by go_grown⟩
      · have p1 := hv.out
        have p2 := hv'.out
        rw [hs4.out, hv3.out]
        rw [Bool.eq_iff_iff]; simp; omega
      · have p1 := hv.out
        have p2 := hv'.out
        rw [hv4.out, hv3.out]; omega
    · have hcm : 0 ≤ cmpI (val ds) (val ds') := by unfold cmpI; rw [if_neg (by omega)]; split <;> omega
      go_enter Try.func97, Try.ntmps97
      go_wp2_with fail
      refine (cmpSize_any hr hr' _ _ (by omega) (by omega) _ (by go_grown)).mono ?_
      rintro e w1 ⟨rfl, hb_w1⟩
      obtain ⟨hc_w1, hf_w1⟩ := bcell hb_w1
      have hz_w1 := hb_w1.size
      try simp at hz_w1
      have hB_w1 : Below w.heap.size w w1 := Below.trans (by go_grown) (hb_w1.mono (by go_size))
      have hs_w1_0 : w.heap.size < w1.heap.size := by omega
      have hs_w1_1 : w.heap.size + 1 < w1.heap.size := by omega
      have hs_w1_2 : w.heap.size + 1 + 1 < w1.heap.size := by omega
      go_wp2_with fail
      refine (open_mag (less_any hr hr' _ _ (by omega) (by omega) _ (by go_grown))).mono ?_
      rintro e w3 ⟨b3, A3, m3, k3, e3, rfl, hs3, hr3, ht3, hv3, hb_w3⟩
      obtain ⟨hc_w3, hf_w3⟩ := bcell hb_w3
      have hz_w3 := hb_w3.size
      try simp at hz_w3
      have hB_w3 : Below w.heap.size w w3 := Below.trans (by go_grown) (hb_w3.mono (by go_size))
      have hs_w3_0 : w.heap.size < w3.heap.size := by omega
      have hs_w3_1 : w.heap.size + 1 < w3.heap.size := by omega
      have hs_w3_2 : w.heap.size + 1 + 1 < w3.heap.size := by omega
      go_wp2_with fail
      refine (open_mag (trimmed_any hr3 _ _ (by go_grown))).mono ?_
      rintro e w4 ⟨b4, A4, m4, k4, e4, rfl, hs4, hr4, ht4, hv4, hb_w4⟩
      obtain ⟨hc_w4, hf_w4⟩ := bcell hb_w4
      have hz_w4 := hb_w4.size
      try simp at hz_w4
      have hB_w4 : Below w.heap.size w w4 := Below.trans (by go_grown) (hb_w4.mono (by go_size))
      have hs_w4_0 : w.heap.size < w4.heap.size := by omega
      have hs_w4_1 : w.heap.size + 1 < w4.heap.size := by omega
      have hs_w4_2 : w.heap.size + 1 + 1 < w4.heap.size := by omega
      have vR : Var w4 (w.heap.size + 1 + 1) 64 #[.bool false, .slice none 0 0] := ((((Var.new' _ _ _ (by simp)).keep hb_w1).keep hb_w3).alloc _).keep hb_w4
      go_wp2_with fail
      refine bodyPost_ret (by simp [results, Try.results97, go_sem, *]; try rfl) rfl ?_
      refine ⟨_, rfl, num_mk (hr4.over vR _ _) ht4 ?_ ?_, by go_grown⟩
      · have p1 := hv.out
        have p2 := hv'.out
        rw [hs4.out, hv3.out]
        rw [Bool.eq_iff_iff]; simp; omega
      · have p1 := hv.out
        have p2 := hv'.out
        rw [hv4.out, hv3.out]; omega
  · obtain rfl : b = false := by rw [hs.out]; simp [hx]
    obtain rfl : b' = true := by rw [hs'.out]; simp [hy]
    clear hs hs'
    rcases Nat.lt_or_ge (val ds) (val ds') with hc | hc
    · have hcm : cmpI (val ds) (val ds') < 0 := by unfold cmpI; rw [if_pos (by omega)]; omega
      go_enter Try.func97, Try.ntmps97
      go_wp2_with fail
      refine (cmpSize_any hr hr' _ _ (by omega) (by omega) _ (by go_grown)).mono ?_
      rintro e w1 ⟨rfl, hb_w1⟩
      obtain ⟨hc_w1, hf_w1⟩ := bcell hb_w1
      have hz_w1 := hb_w1.size
      try simp at hz_w1
      have hB_w1 : Below w.heap.size w w1 := Below.trans (by go_grown) (hb_w1.mono (by go_size))
      have hs_w1_0 : w.heap.size < w1.heap.size := by omega
      have hs_w1_1 : w.heap.size + 1 < w1.heap.size := by omega
      have hs_w1_2 : w.heap.size + 1 + 1 < w1.heap.size := by omega
      go_wp2_with fail
      refine (open_mag (less_any hr' hr _ _ (by omega) (by omega) _ (by go_grown))).mono ?_
      rintro e w3 ⟨b3, A3, m3, k3, e3, rfl, hs3, hr3, ht3, hv3, hb_w3⟩
      obtain ⟨hc_w3, hf_w3⟩ := bcell hb_w3
      have hz_w3 := hb_w3.size
      try simp at hz_w3
      have hB_w3 : Below w.heap.size w w3 := Below.trans (by go_grown) (hb_w3.mono (by go_size))
      have hs_w3_0 : w.heap.size < w3.heap.size := by omega
      have hs_w3_1 : w.heap.size + 1 < w3.heap.size := by omega
      have hs_w3_2 : w.heap.size + 1 + 1 < w3.heap.size := by omega
      go_wp2_with fail
      refine (open_mag (trimmed_any hr3 _ _ (by go_grown))).mono ?_
      rintro e w4 ⟨b4, A4, m4, k4, e4, rfl, hs4, hr4, ht4, hv4, hb_w4⟩
      obtain ⟨hc_w4, hf_w4⟩ := bcell hb_w4
      have hz_w4 := hb_w4.size
      try simp at hz_w4
      have hB_w4 : Below w.heap.size w w4 := Below.trans (by go_grown) (hb_w4.mono (by go_size))
      have hs_w4_0 : w.heap.size < w4.heap.size := by omega
      have hs_w4_1 : w.heap.size + 1 < w4.heap.size := by omega
      have hs_w4_2 : w.heap.size + 1 + 1 < w4.heap.size := by omega
      have vR : Var w4 (w.heap.size + 1 + 1) 64 #[.bool false, .slice none 0 0] := ((((Var.new' _ _ _ (by simp)).keep hb_w1).keep hb_w3).alloc _).keep hb_w4
      go_wp2_with fail
      refine bodyPost_ret (by simp [results, Try.results97, go_sem, *]; try rfl) rfl ?_
      refine ⟨_, rfl, num_mk (hr4.over vR _ _) ht4 ?_ ?_, by go_grown⟩
      · have p1 := hv.out
        have p2 := hv'.out
        rw [hs4.out, hv3.out]
        rw [Bool.eq_iff_iff]; simp; omega
      · have p1 := hv.out
        have p2 := hv'.out
        rw [hv4.out, hv3.out]; omega
    · have hcm : 0 ≤ cmpI (val ds) (val ds') := by unfold cmpI; rw [if_neg (by omega)]; split <;> omega
      go_enter Try.func97, Try.ntmps97
      go_wp2_with fail
      refine (cmpSize_any hr hr' _ _ (by omega) (by omega) _ (by go_grown)).mono ?_
      rintro e w1 ⟨rfl, hb_w1⟩
      obtain ⟨hc_w1, hf_w1⟩ := bcell hb_w1
      have hz_w1 := hb_w1.size
      try simp at hz_w1
      have hB_w1 : Below w.heap.size w w1 := Below.trans (by go_grown) (hb_w1.mono (by go_size))
      have hs_w1_0 : w.heap.size < w1.heap.size := by omega
      have hs_w1_1 : w.heap.size + 1 < w1.heap.size := by omega
      have hs_w1_2 : w.heap.size + 1 + 1 < w1.heap.size := by omega
      go_wp2_with fail
      refine (open_mag (less_any hr hr' _ _ (by omega) (by omega) _ (by go_grown))).mono ?_
      rintro e w3 ⟨b3, A3, m3, k3, e3, rfl, hs3, hr3, ht3, hv3, hb_w3⟩
      obtain ⟨hc_w3, hf_w3⟩ := bcell hb_w3
      have hz_w3 := hb_w3.size
      try simp at hz_w3
      have hB_w3 : Below w.heap.size w w3 := Below.trans (by go_grown) (hb_w3.mono (by go_size))
      have hs_w3_0 : w.heap.size < w3.heap.size := by omega
      have hs_w3_1 : w.heap.size + 1 < w3.heap.size := by omega
      have hs_w3_2 : w.heap.size + 1 + 1 < w3.heap.size := by omega
      go_wp2_with fail
      refine (open_mag (trimmed_any hr3 _ _ (by go_grown))).mono ?_
      rintro e w4 ⟨b4, A4, m4, k4, e4, rfl, hs4, hr4, ht4, hv4, hb_w4⟩
      obtain ⟨hc_w4, hf_w4⟩ := bcell hb_w4
      have hz_w4 := hb_w4.size
      try simp at hz_w4
      have hB_w4 : Below w.heap.size w w4 := Below.trans (by go_grown) (hb_w4.mono (by go_size))
      have hs_w4_0 : w.heap.size < w4.heap.size := by omega
      have hs_w4_1 : w.heap.size + 1 < w4.heap.size := by omega
      have hs_w4_2 : w.heap.size + 1 + 1 < w4.heap.size := by omega
      have vR : Var w4 (w.heap.size + 1 + 1) 64 #[.bool false, .slice none 0 0] := ((((Var.new' _ _ _ (by simp)).keep hb_w1).keep hb_w3).alloc _).keep hb_w4
      go_wp2_with fail
      refine bodyPost_ret (by simp [results, Try.results97, go_sem, *]; try rfl) rfl ?_
      refine ⟨_, rfl, num_mk (hr4.over vR _ _) ht4 ?_ ?_, by go_grown⟩
      · have p1 := hv.out
        have p2 := hv'.out
        rw [hs4.out, hv3.out]
        rw [Bool.eq_iff_iff]; simp; omega
      · have p1 := hv.out
        have p2 := hv'.out
        rw [hv4.out, hv3.out]; omega
  · obtain rfl : b = false := by rw [hs.out]; simp [hx]
    obtain rfl : b' = false := by rw [hs'.out]; simp [hy]
    clear hs hs'
    go_enter Try.func97, Try.ntmps97
    go_wp2_with fail
    refine (open_mag (size_any hr hr' _ _ (by omega) (by omega) _ (by go_grown))).mono ?_
    rintro e w3 ⟨b3, A3, m3, k3, e3, rfl, hs3, hr3, ht3, hv3, hb_w3⟩
    obtain ⟨hc_w3, hf_w3⟩ := bcell hb_w3
    have hz_w3 := hb_w3.size
    try simp at hz_w3
    have hB_w3 : Below w.heap.size w w3 := Below.trans (by go_grown) (hb_w3.mono (by go_size))
    have hs_w3_0 : w.heap.size < w3.heap.size := by omega
    have hs_w3_1 : w.heap.size + 1 < w3.heap.size := by omega
    have hs_w3_2 : w.heap.size + 1 + 1 < w3.heap.size := by omega
    go_wp2_with fail
    refine (open_mag (trimmed_any hr3 _ _ (by go_grown))).mono ?_
    rintro e w4 ⟨b4, A4, m4, k4, e4, rfl, hs4, hr4, ht4, hv4, hb_w4⟩
    obtain ⟨hc_w4, hf_w4⟩ := bcell hb_w4
    have hz_w4 := hb_w4.size
    try simp at hz_w4
    have hB_w4 : Below w.heap.size w w4 := Below.trans (by go_grown) (hb_w4.mono (by go_size))
    have hs_w4_0 : w.heap.size < w4.heap.size := by omega
    have hs_w4_1 : w.heap.size + 1 < w4.heap.size := by omega
    have hs_w4_2 : w.heap.size + 1 + 1 < w4.heap.size := by omega
    have vR : Var w4 (w.heap.size + 1 + 1) 64 #[.bool false, .slice none 0 0] := (((Var.new' _ _ _ (by simp)).keep hb_w3).alloc _).keep hb_w4
    go_wp2_with fail
    refine bodyPost_ret (by simp [results, Try.results97, go_sem, *]; try rfl) rfl ?_
    refine ⟨_, rfl, num_mk (hr4.over vR _ _) ht4 ?_ ?_, by go_grown⟩
    · have p1 := hv.out
      have p2 := hv'.out
      rw [hs4.out, hv3.out]
      rw [Bool.eq_iff_iff]; simp; omega
    · have p1 := hv.out
      have p2 := hv'.out
      rw [hv4.out, hv3.out]; omega

end Go.Proofs.Ytcpojadinkonnaa
