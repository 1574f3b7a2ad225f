/-
  hull.off, hull.bound: how far a point is off a segment.
-/
import Derived.Test.YtcpojadinkonnaaThinM
import Derived.Test.YtcpojadinkonnaaTurnC
namespace Go.Proofs.Ytcpojadinkonnaa
open Go.RowKit

/-- A point of the lattice. -/
def IL (p : Pt) : Prop := (-1073741823 ≤ p.1 ∧ p.1 ≤ 1073741823) ∧ -1073741823 ≤ p.2 ∧ p.2 ≤ 1073741823
theorem IL.x {p : Pt} (h : IL p) : I32 p.1 := by unfold IL at h; unfold I32; omega
theorem IL.y {p : Pt} (h : IL p) : I32 p.2 := by unfold IL at h; unfold I32; omega
theorem prod_sq {x y B : Int} (h1 : -B ≤ x) (h2 : x ≤ B) (h3 : -B ≤ y) (h4 : y ≤ B) : -(B * B) ≤ x * y ∧ x * y ≤ B * B := by
  have hx : x.natAbs ≤ B.natAbs := by omega
  have hy : y.natAbs ≤ B.natAbs := by omega
  have h := Nat.mul_le_mul hx hy
  rw [← Int.natAbs_mul, ← Int.natAbs_mul] at h
  have hB : 0 ≤ B * B := Int.mul_nonneg (by omega) (by omega)
  omega
theorem way_bd {a b : Int} (ha : -1073741823 ≤ a ∧ a ≤ 1073741823) (hb : -1073741823 ≤ b ∧ b ≤ 1073741823) : -2147483646 ≤ a - b ∧ a - b ≤ 2147483646 := by omega
theorem way_prod {a b c d : Int} (ha : -1073741823 ≤ a ∧ a ≤ 1073741823) (hb : -1073741823 ≤ b ∧ b ≤ 1073741823) (hc : -1073741823 ≤ c ∧ c ≤ 1073741823) (hd : -1073741823 ≤ d ∧ d ≤ 1073741823) :
    -4611686009837453316 ≤ (a - b) * (c - d) ∧ (a - b) * (c - d) ≤ 4611686009837453316 := by
  have h1 := way_bd ha hb
  have h2 := way_bd hc hd
  have h := prod_sq h1.1 h1.2 h2.1 h2.2
  have e : (2147483646 : Int) * 2147483646 = 4611686009837453316 := by decide +kernel
  rw [e] at h
  exact h
theorem lng_bd {a b : Pt} (ha : IL a) (hb : IL b) : 0 ≤ lng a b ∧ lng a b ≤ 9223372019674906632 := by
  refine ⟨lng_nonneg a b, ?_⟩
  have h1 := way_prod hb.1 ha.1 hb.1 ha.1
  have h2 := way_prod hb.2 ha.2 hb.2 ha.2
  unfold lng
  omega
theorem dtt_bd {o a b : Pt} (ho : IL o) (ha : IL a) (hb : IL b) : -9223372019674906632 ≤ dtt o a b ∧ dtt o a b ≤ 9223372019674906632 := by
  have h1 := way_prod ha.1 ho.1 hb.1 ho.1
  have h2 := way_prod ha.2 ho.2 hb.2 ho.2
  unfold dtt
  omega
theorem crz_bd {o a b : Pt} (ho : IL o) (ha : IL a) (hb : IL b) : -9223372019674906632 ≤ crz o a b ∧ crz o a b ≤ 9223372019674906632 := by
  have h1 := way_prod ha.1 ho.1 hb.2 ho.2
  have h2 := way_prod ha.2 ho.2 hb.1 ho.1
  unfold crz crs
  omega
theorem wrap_id {x : Int} (h : -9223372036854775808 ≤ x ∧ x ≤ 9223372036854775807) : wrap64 x = x := by unfold wrap64; omega
theorem big_in {x y : Int} (hx : -9223372024852248004 ≤ x ∧ x ≤ 9223372024852248004) (hy : -9223372024852248004 ≤ y ∧ y ≤ 9223372024852248004) : In128 (x * y) := by
  have h := prod_sq hx.1 hx.2 hy.1 hy.2
  have e : (9223372024852248004 : Int) * 9223372024852248004 = 85070591508827057371933206852321984016 := by decide +kernel
  rw [e] at h
  unfold In128
  omega
theorem offP_in {a b p : Pt} (ha : IL a) (hb : IL b) (hp : IL p) : In128 (offP a b p) := by
  have h1 := lng_bd ha hb
  have h2 := lng_bd ha hp
  have h3 := lng_bd hb hp
  have h4 := crz_bd ha hb hp
  unfold offP
  split
  · unfold In128; omega
  · split
    · exact big_in (by omega) (by omega)
    · split
      · exact big_in (by omega) (by omega)
      · exact big_in (by omega) (by omega)

section
variable {a b o : Pt}
theorem dist_l (ha : IL a) (hb : IL b) (w : World) : Calls Try.prog 52 #[(Value.agg #[.int .i32 (a.1), .int .i32 (a.2)]), (Value.agg #[.int .i32 (b.1), .int .i32 (b.2)])] w fun e w' => e = .returned (.int .i64 (lng a b)) ∧ Below w.heap.size w w' :=
  (dist_any a.1 a.2 b.1 b.2 ha.x ha.y hb.x hb.y w).mono fun e w' ⟨he, hw⟩ => ⟨by rw [he]; exact ret_intw (wrap_id (by have := lng_bd ha hb; unfold lng at this; omega)), hw⟩
theorem dot_l (ho : IL o) (ha : IL a) (hb : IL b) (w : World) : Calls Try.prog 61 #[(Value.agg #[.int .i32 (o.1), .int .i32 (o.2)]), (Value.agg #[.int .i32 (a.1), .int .i32 (a.2)]), (Value.agg #[.int .i32 (b.1), .int .i32 (b.2)])] w fun e w' => e = .returned (.int .i64 (dtt o a b)) ∧ Below w.heap.size w w' :=
  (dot_any o.1 o.2 a.1 a.2 b.1 b.2 ho.x ho.y ha.x ha.y hb.x hb.y w).mono fun e w' ⟨he, hw⟩ => ⟨by rw [he]; exact ret_intw (wrap_id (by have := dtt_bd ho ha hb; unfold dtt at this; omega)), hw⟩
theorem cross_l (ho : IL o) (ha : IL a) (hb : IL b) (w : World) : Calls Try.prog 62 #[(Value.agg #[.int .i32 (o.1), .int .i32 (o.2)]), (Value.agg #[.int .i32 (a.1), .int .i32 (a.2)]), (Value.agg #[.int .i32 (b.1), .int .i32 (b.2)])] w fun e w' => e = .returned (.int .i64 (crz o a b)) ∧ Below w.heap.size w w' :=
  (cross_any o.1 o.2 a.1 a.2 b.1 b.2 ho.x ho.y ha.x ha.y hb.x hb.y w).mono fun e w' ⟨he, hw⟩ => ⟨by rw [he]; exact ret_intw (wrap_id (by have := crz_bd ho ha hb; unfold crz at this; omega)), hw⟩
end

theorem off_any {a b p : Pt} (ha : IL a) (hb : IL b) (hp : IL p) (w : World) :
    Calls Try.prog 33 #[(Value.agg #[.int .i32 (a.1), .int .i32 (a.2)]), (Value.agg #[.int .i32 (b.1), .int .i32 (b.2)]), (Value.agg #[.int .i32 (p.1), .int .i32 (p.2)])] w fun e w' => e = .returned (.agg #[.int .i64 (hi64 (offP a b p)), .int .u64 (lo64 (offP a b p))]) ∧ Below w.heap.size w w' := by
  have D0 := Lib.hid (fun W => dist_l ha hb W)
  have D1 := Lib.hid (fun W => dist_l ha hp W)
  have D2 := Lib.hid (fun W => dist_l hb hp W)
  have T1 := Lib.hid (fun W => dot_l ha hb hp W)
  have T2 := Lib.hid (fun W => dot_l hb ha hp W)
  have C1 := Lib.hid (fun W => cross_l ha hb hp W)
  have l0 := lng_bd ha hb
  have l1 := lng_bd ha hp
  have l2 := lng_bd hb hp
  have l3 := crz_bd ha hb hp
  have O1 := Lib.hid (fun W => of_any (lng a p) (by omega) W)
  have M1 := Lib.hid (fun W => mul_any (lng a p) (lng a b) (by unfold I64; omega) (by unfold I64; omega) W)
  have M2 := Lib.hid (fun W => mul_any (lng b p) (lng a b) (by unfold I64; omega) (by unfold I64; omega) W)
  have M3 := Lib.hid (fun W => mul_any (crz a b p) (crz a b p) (by unfold I64; omega) (by unfold I64; omega) W)
  clear l1 l2 l3 ha hb hp
  obtain ⟨x, hx⟩ : ∃ z, lng a b = z := ⟨_, rfl⟩
  obtain ⟨y, hy⟩ : ∃ z, dtt a b p = z := ⟨_, rfl⟩
  obtain ⟨v, hv⟩ : ∃ z, dtt b a p = z := ⟨_, rfl⟩
  unfold offP
  rw [hx] at D0 M1 M2 l0
  rw [hx]
  rw [hy] at T1
  rw [hy]
  rw [hv] at T2
  rw [hv]
  clear hx hy hv
  rcases Decidable.em (x = 0) with h0 | h0
  · rw [if_pos h0]
    subst h0
    go_enter Try.func33, Try.ntmps33
    go_wp2_with fail
    refine (D0.out _).mono ?_
    rintro e w1 ⟨rfl, hb_w1⟩
    obtain ⟨hc_w1, hf_w1⟩ := bcell hb_w1
    have hz_w1 := hb_w1.size
    try simp at hz_w1
    have hB_w1 : Below w.heap.size w w1 := Below.trans (by go_grown) (hb_w1.mono (by go_size))
    have hs_w1_0 : w.heap.size < w1.heap.size := by omega
    have hs_w1_1 : w.heap.size + 1 < w1.heap.size := by omega
    have hs_w1_2 : w.heap.size + 1 + 1 < w1.heap.size := by omega
    have hs_w1_3 : w.heap.size + 1 + 1 + 1 < w1.heap.size := by omega
    have v1 : Var w1 (w.heap.size + 1 + 1 + 1) 51 #[.int .i64 0, .int .u64 0] := Var.keep (Var.new' _ _ _ (by simp)) hb_w1
    go_wp2_with fail
    refine (D1.out _).mono ?_
    rintro e w2 ⟨rfl, hb_w2⟩
    obtain ⟨hc_w2, hf_w2⟩ := bcell hb_w2
    have hz_w2 := hb_w2.size
    try simp at hz_w2
    have hB_w2 : Below w.heap.size w w2 := Below.trans (by go_grown) (hb_w2.mono (by go_size))
    have hs_w2_0 : w.heap.size < w2.heap.size := by omega
    have hs_w2_1 : w.heap.size + 1 < w2.heap.size := by omega
    have hs_w2_2 : w.heap.size + 1 + 1 < w2.heap.size := by omega
    have hs_w2_3 : w.heap.size + 1 + 1 + 1 < w2.heap.size := by omega
    have v2 := v1.keep hb_w2
    go_wp2_with fail
    refine (O1.out _).mono ?_
    rintro e w3 ⟨rfl, hb_w3⟩
    obtain ⟨hc_w3, hf_w3⟩ := bcell hb_w3
    have hz_w3 := hb_w3.size
    try simp at hz_w3
    have hB_w3 : Below w.heap.size w w3 := Below.trans (by go_grown) (hb_w3.mono (by go_size))
    have hs_w3_0 : w.heap.size < w3.heap.size := by omega
    have hs_w3_1 : w.heap.size + 1 < w3.heap.size := by omega
    have hs_w3_2 : w.heap.size + 1 + 1 < w3.heap.size := by omega
    have hs_w3_3 : w.heap.size + 1 + 1 + 1 < w3.heap.size := by omega
    have v3 := v2.keep hb_w3
    go_wp2_with fail
    have hv := (v3.store 0 (.int .i64 (hi64 (lng a p)))).store 1 (.int .u64 (lo64 (lng a p)))
    exact bodyPost_ret (v := .agg #[.int .i64 (hi64 (lng a p)), .int .u64 (lo64 (lng a p))]) (results_cell_row Try.results33 _ _ _ _ _ _ _ rfl hv Try.underlying51 rfl (by kernel_rfl)) rfl ⟨rfl, by go_grown⟩
  · rw [if_neg h0]
    rcases Int.lt_or_le 0 y with h1 | h1
    · rw [if_neg (by omega)]
      have h1' : ¬ y ≤ 0 := by omega
      rcases Int.lt_or_le 0 v with h2 | h2
      · rw [if_neg (by omega)]
        have h2' : ¬ v ≤ 0 := by omega
        go_enter Try.func33, Try.ntmps33
        go_wp2_with fail
        refine (D0.out _).mono ?_
        rintro e w1 ⟨rfl, hb_w1⟩
        obtain ⟨hc_w1, hf_w1⟩ := bcell hb_w1
        have hz_w1 := hb_w1.size
        try simp at hz_w1
        have hB_w1 : Below w.heap.size w w1 := Below.trans (by go_grown) (hb_w1.mono (by go_size))
        have hs_w1_0 : w.heap.size < w1.heap.size := by omega
        have hs_w1_1 : w.heap.size + 1 < w1.heap.size := by omega
        have hs_w1_2 : w.heap.size + 1 + 1 < w1.heap.size := by omega
        have hs_w1_3 : w.heap.size + 1 + 1 + 1 < w1.heap.size := by omega
        have v1 : Var w1 (w.heap.size + 1 + 1 + 1) 51 #[.int .i64 0, .int .u64 0] := Var.keep (Var.new' _ _ _ (by simp)) hb_w1
        go_wp2_with fail
        refine (T1.out _).mono ?_
        rintro e w2 ⟨rfl, hb_w2⟩
        obtain ⟨hc_w2, hf_w2⟩ := bcell hb_w2
        have hz_w2 := hb_w2.size
        try simp at hz_w2
        have hB_w2 : Below w.heap.size w w2 := Below.trans (by go_grown) (hb_w2.mono (by go_size))
        have hs_w2_0 : w.heap.size < w2.heap.size := by omega
        have hs_w2_1 : w.heap.size + 1 < w2.heap.size := by omega
        have hs_w2_2 : w.heap.size + 1 + 1 < w2.heap.size := by omega
        have hs_w2_3 : w.heap.size + 1 + 1 + 1 < w2.heap.size := by omega
        have v2 := v1.keep hb_w2
        go_wp2_with fail
        refine (T2.out _).mono ?_
        rintro e w3 ⟨rfl, hb_w3⟩
        obtain ⟨hc_w3, hf_w3⟩ := bcell hb_w3
        have hz_w3 := hb_w3.size
        try simp at hz_w3
        have hB_w3 : Below w.heap.size w w3 := Below.trans (by go_grown) (hb_w3.mono (by go_size))
        have hs_w3_0 : w.heap.size < w3.heap.size := by omega
        have hs_w3_1 : w.heap.size + 1 < w3.heap.size := by omega
        have hs_w3_2 : w.heap.size + 1 + 1 < w3.heap.size := by omega
        have hs_w3_3 : w.heap.size + 1 + 1 + 1 < w3.heap.size := by omega
        have v3 := v2.keep hb_w3
        go_wp2_with fail
        refine (C1.out _).mono ?_
        rintro e w4 ⟨rfl, hb_w4⟩
        obtain ⟨hc_w4, hf_w4⟩ := bcell hb_w4
        have hz_w4 := hb_w4.size
        try simp at hz_w4
        have hB_w4 : Below w.heap.size w w4 := Below.trans (by go_grown) (hb_w4.mono (by go_size))
        have hs_w4_0 : w.heap.size < w4.heap.size := by omega
        have hs_w4_1 : w.heap.size + 1 < w4.heap.size := by omega
        have hs_w4_2 : w.heap.size + 1 + 1 < w4.heap.size := by omega
        have hs_w4_3 : w.heap.size + 1 + 1 + 1 < w4.heap.size := by omega
        have v4 := v3.keep hb_w4
        go_wp2_with fail
        refine (M3.out _).mono ?_
        rintro e w5 ⟨rfl, hb_w5⟩
        obtain ⟨hc_w5, hf_w5⟩ := bcell hb_w5
        have hz_w5 := hb_w5.size
        try simp at hz_w5
        have hB_w5 : Below w.heap.size w w5 := Below.trans (by go_grown) (hb_w5.mono (by go_size))
        have hs_w5_0 : w.heap.size < w5.heap.size := by omega
        have hs_w5_1 : w.heap.size + 1 < w5.heap.size := by omega
        have hs_w5_2 : w.heap.size + 1 + 1 < w5.heap.size := by omega
        have hs_w5_3 : w.heap.size + 1 + 1 + 1 < w5.heap.size := by omega
        have v5 := v4.keep hb_w5
        go_wp2_with fail
        have hv := (v5.store 0 (.int .i64 (hi64 (crz a b p * crz a b p)))).store 1 (.int .u64 (lo64 (crz a b p * crz a b p)))
        exact bodyPost_ret (v := .agg #[.int .i64 (hi64 (crz a b p * crz a b p)), .int .u64 (lo64 (crz a b p * crz a b p))]) (results_cell_row Try.results33 _ _ _ _ _ _ _ rfl hv Try.underlying51 rfl (by kernel_rfl)) rfl ⟨rfl, by go_grown⟩
      · rw [if_pos h2]
        go_enter Try.func33, Try.ntmps33
        go_wp2_with fail
        refine (D0.out _).mono ?_
        rintro e w1 ⟨rfl, hb_w1⟩
        obtain ⟨hc_w1, hf_w1⟩ := bcell hb_w1
        have hz_w1 := hb_w1.size
        try simp at hz_w1
        have hB_w1 : Below w.heap.size w w1 := Below.trans (by go_grown) (hb_w1.mono (by go_size))
        have hs_w1_0 : w.heap.size < w1.heap.size := by omega
        have hs_w1_1 : w.heap.size + 1 < w1.heap.size := by omega
        have hs_w1_2 : w.heap.size + 1 + 1 < w1.heap.size := by omega
        have hs_w1_3 : w.heap.size + 1 + 1 + 1 < w1.heap.size := by omega
        have v1 : Var w1 (w.heap.size + 1 + 1 + 1) 51 #[.int .i64 0, .int .u64 0] := Var.keep (Var.new' _ _ _ (by simp)) hb_w1
        go_wp2_with fail
        refine (T1.out _).mono ?_
        rintro e w2 ⟨rfl, hb_w2⟩
        obtain ⟨hc_w2, hf_w2⟩ := bcell hb_w2
        have hz_w2 := hb_w2.size
        try simp at hz_w2
        have hB_w2 : Below w.heap.size w w2 := Below.trans (by go_grown) (hb_w2.mono (by go_size))
        have hs_w2_0 : w.heap.size < w2.heap.size := by omega
        have hs_w2_1 : w.heap.size + 1 < w2.heap.size := by omega
        have hs_w2_2 : w.heap.size + 1 + 1 < w2.heap.size := by omega
        have hs_w2_3 : w.heap.size + 1 + 1 + 1 < w2.heap.size := by omega
        have v2 := v1.keep hb_w2
        go_wp2_with fail
        refine (T2.out _).mono ?_
        rintro e w3 ⟨rfl, hb_w3⟩
        obtain ⟨hc_w3, hf_w3⟩ := bcell hb_w3
        have hz_w3 := hb_w3.size
        try simp at hz_w3
        have hB_w3 : Below w.heap.size w w3 := Below.trans (by go_grown) (hb_w3.mono (by go_size))
        have hs_w3_0 : w.heap.size < w3.heap.size := by omega
        have hs_w3_1 : w.heap.size + 1 < w3.heap.size := by omega
        have hs_w3_2 : w.heap.size + 1 + 1 < w3.heap.size := by omega
        have hs_w3_3 : w.heap.size + 1 + 1 + 1 < w3.heap.size := by omega
        have v3 := v2.keep hb_w3
        go_wp2_with fail
        refine (D2.out _).mono ?_
        rintro e w4 ⟨rfl, hb_w4⟩
        obtain ⟨hc_w4, hf_w4⟩ := bcell hb_w4
        have hz_w4 := hb_w4.size
        try simp at hz_w4
        have hB_w4 : Below w.heap.size w w4 := Below.trans (by go_grown) (hb_w4.mono (by go_size))
        have hs_w4_0 : w.heap.size < w4.heap.size := by omega
        have hs_w4_1 : w.heap.size + 1 < w4.heap.size := by omega
        have hs_w4_2 : w.heap.size + 1 + 1 < w4.heap.size := by omega
        have hs_w4_3 : w.heap.size + 1 + 1 + 1 < w4.heap.size := by omega
        have v4 := v3.keep hb_w4
        go_wp2_with fail
        refine (M2.out _).mono ?_
        rintro e w5 ⟨rfl, hb_w5⟩
        obtain ⟨hc_w5, hf_w5⟩ := bcell hb_w5
        have hz_w5 := hb_w5.size
        try simp at hz_w5
        have hB_w5 : Below w.heap.size w w5 := Below.trans (by go_grown) (hb_w5.mono (by go_size))
        have hs_w5_0 : w.heap.size < w5.heap.size := by omega
        have hs_w5_1 : w.heap.size + 1 < w5.heap.size := by omega
        have hs_w5_2 : w.heap.size + 1 + 1 < w5.heap.size := by omega
        have hs_w5_3 : w.heap.size + 1 + 1 + 1 < w5.heap.size := by omega
        have v5 := v4.keep hb_w5
        go_wp2_with fail
        have hv := (v5.store 0 (.int .i64 (hi64 (lng b p * x)))).store 1 (.int .u64 (lo64 (lng b p * x)))
        exact bodyPost_ret (v := .agg #[.int .i64 (hi64 (lng b p * x)), .int .u64 (lo64 (lng b p * x))]) (results_cell_row Try.results33 _ _ _ _ _ _ _ rfl hv Try.underlying51 rfl (by kernel_rfl)) rfl ⟨rfl, by go_grown⟩
    · rw [if_pos h1]
      go_enter Try.func33, Try.ntmps33
      go_wp2_with fail
      refine (D0.out _).mono ?_
      rintro e w1 ⟨rfl, hb_w1⟩
      obtain ⟨hc_w1, hf_w1⟩ := bcell hb_w1
      have hz_w1 := hb_w1.size
      try simp at hz_w1
      have hB_w1 : Below w.heap.size w w1 := Below.trans (by go_grown) (hb_w1.mono (by go_size))
      have hs_w1_0 : w.heap.size < w1.heap.size := by omega
      have hs_w1_1 : w.heap.size + 1 < w1.heap.size := by omega
      have hs_w1_2 : w.heap.size + 1 + 1 < w1.heap.size := by omega
      have hs_w1_3 : w.heap.size + 1 + 1 + 1 < w1.heap.size := by omega
      have v1 : Var w1 (w.heap.size + 1 + 1 + 1) 51 #[.int .i64 0, .int .u64 0] := Var.keep (Var.new' _ _ _ (by simp)) hb_w1
      go_wp2_with fail
      refine (T1.out _).mono ?_
      rintro e w2 ⟨rfl, hb_w2⟩
      obtain ⟨hc_w2, hf_w2⟩ := bcell hb_w2
      have hz_w2 := hb_w2.size
      try simp at hz_w2
      have hB_w2 : Below w.heap.size w w2 := Below.trans (by go_grown) (hb_w2.mono (by go_size))
      have hs_w2_0 : w.heap.size < w2.heap.size := by omega
      have hs_w2_1 : w.heap.size + 1 < w2.heap.size := by omega
      have hs_w2_2 : w.heap.size + 1 + 1 < w2.heap.size := by omega
      have hs_w2_3 : w.heap.size + 1 + 1 + 1 < w2.heap.size := by omega
      have v2 := v1.keep hb_w2
      go_wp2_with fail
      refine (D1.out _).mono ?_
      rintro e w3 ⟨rfl, hb_w3⟩
      obtain ⟨hc_w3, hf_w3⟩ := bcell hb_w3
      have hz_w3 := hb_w3.size
      try simp at hz_w3
      have hB_w3 : Below w.heap.size w w3 := Below.trans (by go_grown) (hb_w3.mono (by go_size))
      have hs_w3_0 : w.heap.size < w3.heap.size := by omega
      have hs_w3_1 : w.heap.size + 1 < w3.heap.size := by omega
      have hs_w3_2 : w.heap.size + 1 + 1 < w3.heap.size := by omega
      have hs_w3_3 : w.heap.size + 1 + 1 + 1 < w3.heap.size := by omega
      have v3 := v2.keep hb_w3
      go_wp2_with fail
      refine (M1.out _).mono ?_
      rintro e w4 ⟨rfl, hb_w4⟩
      obtain ⟨hc_w4, hf_w4⟩ := bcell hb_w4
      have hz_w4 := hb_w4.size
      try simp at hz_w4
      have hB_w4 : Below w.heap.size w w4 := Below.trans (by go_grown) (hb_w4.mono (by go_size))
      have hs_w4_0 : w.heap.size < w4.heap.size := by omega
      have hs_w4_1 : w.heap.size + 1 < w4.heap.size := by omega
      have hs_w4_2 : w.heap.size + 1 + 1 < w4.heap.size := by omega
      have hs_w4_3 : w.heap.size + 1 + 1 + 1 < w4.heap.size := by omega
      have v4 := v3.keep hb_w4
      go_wp2_with fail
      have hv := (v4.store 0 (.int .i64 (hi64 (lng a p * x)))).store 1 (.int .u64 (lo64 (lng a p * x)))
      exact bodyPost_ret (v := .agg #[.int .i64 (hi64 (lng a p * x)), .int .u64 (lo64 (lng a p * x))]) (results_cell_row Try.results33 _ _ _ _ _ _ _ rfl hv Try.underlying51 rfl (by kernel_rfl)) rfl ⟨rfl, by go_grown⟩

/-- A tolerance. -/
def Tol (t : Int) : Prop := 0 ≤ t ∧ t ≤ 3037000498
theorem tol_sq {t : Int} (h : Tol t) : 0 ≤ t * t ∧ t * t ≤ 9223372024852248004 := by
  have h1 := prod_sq (x := t) (y := t) (B := 3037000498) (by have := h.1; omega) h.2 (by have := h.1; omega) h.2
  have e : (3037000498 : Int) * 3037000498 = 9223372024852248004 := by decide +kernel
  rw [e] at h1
  exact ⟨Int.mul_nonneg h.1 h.1, h1.2⟩
theorem mx1_bd {x : Int} (h : 0 ≤ x ∧ x ≤ 9223372019674906632) : 1 ≤ mx1 x ∧ mx1 x ≤ 9223372019674906632 := by unfold mx1; split <;> omega
theorem bound_in {a b : Pt} {t : Int} (ha : IL a) (hb : IL b) (ht : Tol t) : In128 (t * t * mx1 (lng a b)) := by
  have h1 := tol_sq ht
  have h2 := mx1_bd (lng_bd ha hb)
  exact big_in (by omega) (by omega)
theorem bound_any {a b : Pt} {t : Int} (ha : IL a) (hb : IL b) (ht : Tol t) (w : World) :
    Calls Try.prog 32 #[(Value.agg #[.int .i32 (a.1), .int .i32 (a.2)]), (Value.agg #[.int .i32 (b.1), .int .i32 (b.2)]), .int .i64 t] w fun e w' => e = .returned (.agg #[.int .i64 (hi64 (t * t * mx1 (lng a b))), .int .u64 (lo64 (t * t * mx1 (lng a b)))]) ∧ Below w.heap.size w w' := by
  have D0 := Lib.hid (fun W => dist_l ha hb W)
  have h1 := tol_sq ht
  have h2 := mx1_bd (lng_bd ha hb)
  have M1 := Lib.hid (fun W => mul_any (t * t) (mx1 (lng a b)) (by unfold I64; omega) (by unfold I64; omega) W)
  have hw : IntKind.i64.wrap (t * t) = t * t := by
    obtain ⟨z, hz⟩ : ∃ z, t * t = z := ⟨_, rfl⟩
    rw [hz] at h1 ⊢
    simp only [IntKind.wrap, IntKind.signed, IntKind.bits]
    simp
    omega
  obtain ⟨x, hx⟩ : ∃ z, lng a b = z := ⟨_, rfl⟩
  obtain ⟨s, hs⟩ : ∃ z, t * t = z := ⟨_, rfl⟩
  rw [hx, hs] at M1
  rw [hx] at D0
  rw [hs] at hw
  rw [hx, hs]
  clear h1 h2 ha hb hx
  rcases Int.lt_or_le 1 x with h | h
  · have hm : mx1 x = x := by unfold mx1; rw [if_neg (by omega)]
    have h' : ¬ x ≤ 1 := by omega
    rw [hm] at M1 ⊢
    clear hm
    go_enter Try.func32, Try.ntmps32
    go_wp2_with fail
    refine (D0.out _).mono ?_
    rintro e w1 ⟨rfl, hb_w1⟩
    obtain ⟨hc_w1, hf_w1⟩ := bcell hb_w1
    have hz_w1 := hb_w1.size
    try simp at hz_w1
    have hB_w1 : Below w.heap.size w w1 := Below.trans (by go_grown) (hb_w1.mono (by go_size))
    have hs_w1_0 : w.heap.size < w1.heap.size := by omega
    have hs_w1_1 : w.heap.size + 1 < w1.heap.size := by omega
    have hs_w1_2 : w.heap.size + 1 + 1 < w1.heap.size := by omega
    have v1 : Var w1 (w.heap.size + 1 + 1) 51 #[.int .i64 0, .int .u64 0] := Var.keep (Var.new' _ _ _ (by simp)) hb_w1
    go_wp2_with fail
    refine (M1.out _).mono ?_
    rintro e w2 ⟨rfl, hb_w2⟩
    obtain ⟨hc_w2, hf_w2⟩ := bcell hb_w2
    have hz_w2 := hb_w2.size
    try simp at hz_w2
    have hB_w2 : Below w.heap.size w w2 := Below.trans (by go_grown) (hb_w2.mono (by go_size))
    have hs_w2_0 : w.heap.size < w2.heap.size := by omega
    have hs_w2_1 : w.heap.size + 1 < w2.heap.size := by omega
    have hs_w2_2 : w.heap.size + 1 + 1 < w2.heap.size := by omega
    have v2 := v1.keep hb_w2
    go_wp2_with fail
    have hv := (v2.store 0 (.int .i64 (hi64 (s * x)))).store 1 (.int .u64 (lo64 (s * x)))
    exact bodyPost_ret (v := .agg #[.int .i64 (hi64 (s * x)), .int .u64 (lo64 (s * x))]) (results_cell_row Try.results32 _ _ _ _ _ _ _ rfl hv Try.underlying51 rfl (by kernel_rfl)) rfl ⟨rfl, by go_grown⟩
  · have hm : mx1 x = 1 := by unfold mx1; rw [if_pos (by omega)]
    rw [hm, Int.mul_one] at M1 ⊢
    clear hm
    go_enter Try.func32, Try.ntmps32
    go_wp2_with fail
    refine (D0.out _).mono ?_
    rintro e w1 ⟨rfl, hb_w1⟩
    obtain ⟨hc_w1, hf_w1⟩ := bcell hb_w1
    have hz_w1 := hb_w1.size
    try simp at hz_w1
    have hB_w1 : Below w.heap.size w w1 := Below.trans (by go_grown) (hb_w1.mono (by go_size))
    have hs_w1_0 : w.heap.size < w1.heap.size := by omega
    have hs_w1_1 : w.heap.size + 1 < w1.heap.size := by omega
    have hs_w1_2 : w.heap.size + 1 + 1 < w1.heap.size := by omega
    have v1 : Var w1 (w.heap.size + 1 + 1) 51 #[.int .i64 0, .int .u64 0] := Var.keep (Var.new' _ _ _ (by simp)) hb_w1
    go_wp2_with fail
    refine (M1.out _).mono ?_
    rintro e w2 ⟨rfl, hb_w2⟩
    obtain ⟨hc_w2, hf_w2⟩ := bcell hb_w2
    have hz_w2 := hb_w2.size
    try simp at hz_w2
    have hB_w2 : Below w.heap.size w w2 := Below.trans (by go_grown) (hb_w2.mono (by go_size))
    have hs_w2_0 : w.heap.size < w2.heap.size := by omega
    have hs_w2_1 : w.heap.size + 1 < w2.heap.size := by omega
    have hs_w2_2 : w.heap.size + 1 + 1 < w2.heap.size := by omega
    have v2 := v1.keep hb_w2
    go_wp2_with fail
    have hv := (v2.store 0 (.int .i64 (hi64 s))).store 1 (.int .u64 (lo64 s))
    exact bodyPost_ret (v := .agg #[.int .i64 (hi64 s), .int .u64 (lo64 s)]) (results_cell_row Try.results32 _ _ _ _ _ _ _ rfl hv Try.underlying51 rfl (by kernel_rfl)) rfl ⟨rfl, by go_grown⟩

end Go.Proofs.Ytcpojadinkonnaa
