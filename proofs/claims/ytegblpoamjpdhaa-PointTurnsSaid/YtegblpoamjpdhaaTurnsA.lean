/-
  PointTurns' walk, part A.
-/
import Derived.Test.YtegblpoamjpdhaaTurnsM
namespace Go.Proofs.Ytegblpoamjpdhaa
open Go.RowKit

set_option maxHeartbeats 1000000 in
set_option maxRecDepth 100000 in
theorem pointTurns_A (ox oy ax ay bx by_ px py x y : Int) (h1 : I32 ox) (h2 : I32 oy) (h3 : I32 ax) (h4 : I32 ay) (h5 : I32 bx) (h6 : I32 by_) (h7 : I32 px) (h8 : I32 py) (h9 : I32 x) (h10 : I32 y) (hz : trn ax ay bx by_ px py = 0) (w : World) :
    Calls Try.prog 5 #[.agg #[.int .i32 ox, .int .i32 oy, .int .i32 ax, .int .i32 ay, .int .i32 bx, .int .i32 by_, .int .i32 px, .int .i32 py], (Value.agg #[.int .i32 (x), .int .i32 (y)])] w fun e w' => e = .returned (.bool true) ∧ Below w.heap.size w w' := by
  have c1 := fun W => turn_any ox oy ax ay bx by_ h1 h2 h3 h4 h5 h6 W
  have c2 := fun W => turn_any ax ay bx by_ ox oy h3 h4 h5 h6 h1 h2 W
  have c3 := fun W => turn_any ox oy bx by_ ax ay h1 h2 h5 h6 h3 h4 W
  have c4 := fun W => turn_any ox oy ox oy ax ay h1 h2 h1 h2 h3 h4 W
  have c5 := fun W => turn_any ox oy ax ay ax ay h1 h2 h3 h4 h3 h4 W
  rw [trn_round] at c2
  rw [trn_back] at c3
  rw [trn_same] at c4
  rw [trn_twice] at c5
  obtain ⟨t, ht⟩ : ∃ z, trn ox oy ax ay bx by_ = z := ⟨_, rfl⟩
  rw [ht] at c1 c2 c3
  have bt := trn_bd ox oy ax ay bx by_
  rw [ht] at bt
  have hng : wrap64 (-t) = -t := by unfold wrap64; omega
  have C1 := Lib.hid c1
  have C2 := Lib.hid c2
  have C3 := Lib.hid c3
  have C4 := Lib.hid c4
  have C5 := Lib.hid c5
  clear c1 c2 c3 c4 c5
  have c6 := fun b W hb => bounds_two ax ay bx by_ b W hb
  have CB := Lib.hid c6
  have o1 := fun W => on_any px py ax ay bx by_ h7 h8 h3 h4 h5 h6 W
  have o2 := fun W => on_any ax ay ax ay bx by_ h3 h4 h3 h4 h5 h6 W
  have o3 := fun W => on_any bx by_ ax ay bx by_ h5 h6 h3 h4 h5 h6 W
  rw [on_first] at o2
  rw [on_last] at o3
  have p1 := fun W => turn_any ax ay bx by_ px py h3 h4 h5 h6 h7 h8 W
  have q1 := fun W => has_any (min ax bx) (min ay by_) (max ax bx) (max ay by_) px py W
  have O2 := Lib.hid o2
  have O3 := Lib.hid o3
  clear c6 o2 o3
  unfold onB at o1
  obtain ⟨tp, htp⟩ : ∃ z, trn ax ay bx by_ px py = z := ⟨_, rfl⟩
  obtain ⟨hs, hhs⟩ : ∃ z, hasB (min ax bx) (min ay by_) (max ax bx) (max ay by_) px py = z := ⟨_, rfl⟩
  rw [htp] at o1 p1 hz
  rw [hhs] at o1 q1
  clear htp hhs
  have i1 := fun W => in_any ox oy W
  have i2 := fun W => in_any ax ay W
  have i3 := fun W => in_any bx by_ W
  have I1 := Lib.hid i1
  have I2 := Lib.hid i2
  have I3 := Lib.hid i3
  clear i1 i2 i3
  have HK := Lib.hid (fun a b c d e f W => cross_any ox oy ax ay bx by_ a b c d e f W)
  have HD := Lib.hid (fun a b c d W => dist_any ox oy ax ay a b c d W)
  obtain ⟨X1, hX1⟩ : ∃ z, wrap32 (ox + x) = z := ⟨_, rfl⟩
  obtain ⟨Y1, hY1⟩ : ∃ z, wrap32 (oy + y) = z := ⟨_, rfl⟩
  obtain ⟨X2, hX2⟩ : ∃ z, wrap32 (ax + x) = z := ⟨_, rfl⟩
  obtain ⟨Y2, hY2⟩ : ∃ z, wrap32 (ay + y) = z := ⟨_, rfl⟩
  obtain ⟨X3, hX3⟩ : ∃ z, wrap32 (bx + x) = z := ⟨_, rfl⟩
  obtain ⟨Y3, hY3⟩ : ∃ z, wrap32 (by_ + y) = z := ⟨_, rfl⟩
  have u1 := fun W => shifted_any ox oy x y h1 h2 h9 h10 W
  have u2 := fun W => shifted_any ax ay x y h3 h4 h9 h10 W
  have u3 := fun W => shifted_any bx by_ x y h5 h6 h9 h10 W
  rw [hX1, hY1] at u1
  rw [hX2, hY2] at u2
  rw [hX3, hY3] at u3
  have g1 : I32 X1 ∧ I32 Y1 := by rw [← hX1, ← hY1]; exact ⟨wrap32_bd _, wrap32_bd _⟩
  have g2 : I32 X2 ∧ I32 Y2 := by rw [← hX2, ← hY2]; exact ⟨wrap32_bd _, wrap32_bd _⟩
  have g3 : I32 X3 ∧ I32 Y3 := by rw [← hX3, ← hY3]; exact ⟨wrap32_bd _, wrap32_bd _⟩
  have v1 := fun W => turn_any X1 Y1 X2 Y2 X3 Y3 g1.1 g1.2 g2.1 g2.2 g3.1 g3.2 W
  obtain ⟨d1, hd1⟩ : ∃ z, decide (X1 = ox + x ∧ Y1 = oy + y) = z := ⟨_, rfl⟩
  obtain ⟨d2, hd2⟩ : ∃ z, decide (X2 = ax + x ∧ Y2 = ay + y) = z := ⟨_, rfl⟩
  obtain ⟨d3, hd3⟩ : ∃ z, decide (X3 = bx + x ∧ Y3 = by_ + y) = z := ⟨_, rfl⟩
  have hv : d1 = true → d2 = true → d3 = true → trn X1 Y1 X2 Y2 X3 Y3 = t := by
    intro a b c
    rw [a] at hd1
    rw [b] at hd2
    rw [c] at hd3
    obtain ⟨rfl, rfl⟩ := of_decide_eq_true hd1
    obtain ⟨rfl, rfl⟩ := of_decide_eq_true hd2
    obtain ⟨rfl, rfl⟩ := of_decide_eq_true hd3
    rw [trn_move]
    exact ht
  rw [hd1] at u1
  rw [hd2] at u2
  rw [hd3] at u3
  have U1 := Lib.hid u1
  have U2 := Lib.hid u2
  have U3 := Lib.hid u3
  have V1 := Lib.hid (And.intro hv v1)
  clear hX1 hX2 hX3 hY1 hY2 hY3 u1 u2 u3 g1 g2 g3 v1 hd1 hd2 hd3 hv
  have HI := Lib.hid (And.intro h1 (And.intro h2 (And.intro h3 (And.intro h4 (And.intro h5 (And.intro h6 (And.intro h7 h8)))))))
  clear h1 h2 h3 h4 h5 h6 h7 h8 h9 h10
  subst hz
  have P1 := Lib.hid p1
  have Q1 := Lib.hid q1
  rw [show (hs && decide ((0 : Int) = 0)) = hs by simp] at o1
  have O1 := Lib.hid o1
  clear o1 p1 q1
  go_enter Try.func5, Try.ntmps5
  go_wp2_with fail
  refine (C1.out _).mono ?_
  rintro e w1 ⟨rfl, hb_w1⟩
  obtain ⟨hc_w1, hf_w1⟩ := bcell hb_w1
  have hz_w1 := hb_w1.size
  try simp at hz_w1
  have hB_w1 : Below w.heap.size w w1 := Below.trans (by go_grown) (hb_w1.mono (by go_size))
  have hs_w1_0 : w.heap.size < w1.heap.size := by omega
  have hs_w1_1 : w.heap.size + 1 < w1.heap.size := by omega
  go_wp2_with fail
  refine (C2.out _).mono ?_
  rintro e w2 ⟨rfl, hb_w2⟩
  obtain ⟨hc_w2, hf_w2⟩ := bcell hb_w2
  have hz_w2 := hb_w2.size
  try simp at hz_w2
  have hB_w2 : Below w.heap.size w w2 := Below.trans (by go_grown) (hb_w2.mono (by go_size))
  have hs_w2_0 : w.heap.size < w2.heap.size := by omega
  have hs_w2_1 : w.heap.size + 1 < w2.heap.size := by omega
  go_wp2_with fail
  refine (C3.out _).mono ?_
  rintro e w3 ⟨rfl, hb_w3⟩
  obtain ⟨hc_w3, hf_w3⟩ := bcell hb_w3
  have hz_w3 := hb_w3.size
  try simp at hz_w3
  have hB_w3 : Below w.heap.size w w3 := Below.trans (by go_grown) (hb_w3.mono (by go_size))
  have hs_w3_0 : w.heap.size < w3.heap.size := by omega
  have hs_w3_1 : w.heap.size + 1 < w3.heap.size := by omega
  go_wp2_with fail
  refine (C4.out _).mono ?_
  rintro e w4 ⟨rfl, hb_w4⟩
  obtain ⟨hc_w4, hf_w4⟩ := bcell hb_w4
  have hz_w4 := hb_w4.size
  try simp at hz_w4
  have hB_w4 : Below w.heap.size w w4 := Below.trans (by go_grown) (hb_w4.mono (by go_size))
  have hs_w4_0 : w.heap.size < w4.heap.size := by omega
  have hs_w4_1 : w.heap.size + 1 < w4.heap.size := by omega
  go_wp2_with fail
  refine (C5.out _).mono ?_
  rintro e w5 ⟨rfl, hb_w5⟩
  obtain ⟨hc_w5, hf_w5⟩ := bcell hb_w5
  have hz_w5 := hb_w5.size
  try simp at hz_w5
  have hB_w5 : Below w.heap.size w w5 := Below.trans (by go_grown) (hb_w5.mono (by go_size))
  have hs_w5_0 : w.heap.size < w5.heap.size := by omega
  have hs_w5_1 : w.heap.size + 1 < w5.heap.size := by omega
  go_wp2_with fail
  refine (CB.out w5.heap.size _ (by go_size) (by go_simp) (by go_simp) (by go_simp) (by go_simp)).mono ?_
  rintro e w6 ⟨rfl, hb_w6⟩
  obtain ⟨hc_w6, hf_w6⟩ := bcell hb_w6
  have hz_w6 := hb_w6.size
  try simp at hz_w6
  have hB_w6 : Below w.heap.size w w6 := Below.trans (by go_grown) (hb_w6.mono (by go_size))
  have hs_w6_0 : w.heap.size < w6.heap.size := by omega
  have hs_w6_1 : w.heap.size + 1 < w6.heap.size := by omega
  go_wp2_with fail
  refine wp_gen (fun Qw7 hW0 => ?_)
  have hB_Qw7 : Below w.heap.size w Qw7 := by rw [hW0]; go_grown
  have hs_Qw7_0 : w.heap.size < Qw7.heap.size := by rw [hW0]; first | omega | (simp; done) | (simp; omega)
  have hs_Qw7_1 : w.heap.size + 1 < Qw7.heap.size := by rw [hW0]; first | omega | (simp; done) | (simp; omega)
  have hs_Qw7_2 : w6.heap.size < Qw7.heap.size := by rw [hW0]; first | omega | (simp; done) | (simp; omega)
  have hg_Qw7_0 : Qw7.cell? ⟨w.heap.size, 0, none⟩ = some (.int .i32 ox) := by rw [hW0]; first | (go_simp; done) | (simp [*]; done)
  have hg_Qw7_1 : Qw7.cell? ⟨w.heap.size, 1, none⟩ = some (.int .i32 oy) := by rw [hW0]; first | (go_simp; done) | (simp [*]; done)
  have hg_Qw7_2 : Qw7.cell? ⟨w.heap.size, 2, none⟩ = some (.int .i32 ax) := by rw [hW0]; first | (go_simp; done) | (simp [*]; done)
  have hg_Qw7_3 : Qw7.cell? ⟨w.heap.size, 3, none⟩ = some (.int .i32 ay) := by rw [hW0]; first | (go_simp; done) | (simp [*]; done)
  have hg_Qw7_4 : Qw7.cell? ⟨w.heap.size, 4, none⟩ = some (.int .i32 bx) := by rw [hW0]; first | (go_simp; done) | (simp [*]; done)
  have hg_Qw7_5 : Qw7.cell? ⟨w.heap.size, 5, none⟩ = some (.int .i32 by_) := by rw [hW0]; first | (go_simp; done) | (simp [*]; done)
  have hg_Qw7_6 : Qw7.cell? ⟨w.heap.size, 6, none⟩ = some (.int .i32 px) := by rw [hW0]; first | (go_simp; done) | (simp [*]; done)
  have hg_Qw7_7 : Qw7.cell? ⟨w.heap.size, 7, none⟩ = some (.int .i32 py) := by rw [hW0]; first | (go_simp; done) | (simp [*]; done)
  have hg_Qw7_8 : Qw7.cell? ⟨w.heap.size + 1, 0, none⟩ = some (.int .i32 x) := by rw [hW0]; first | (go_simp; done) | (simp [*]; done)
  have hg_Qw7_9 : Qw7.cell? ⟨w.heap.size + 1, 1, none⟩ = some (.int .i32 y) := by rw [hW0]; first | (go_simp; done) | (simp [*]; done)
  have hg_Qw7_10 : Qw7.cell? ⟨w6.heap.size, 0, none⟩ = some (.int .i32 (min ax bx)) := by rw [hW0]; first | (go_simp; done) | (simp [*]; done)
  have hg_Qw7_11 : Qw7.cell? ⟨w6.heap.size, 1, none⟩ = some (.int .i32 (min ay by_)) := by rw [hW0]; first | (go_simp; done) | (simp [*]; done)
  have hg_Qw7_12 : Qw7.cell? ⟨w6.heap.size, 2, none⟩ = some (.int .i32 (max ax bx)) := by rw [hW0]; first | (go_simp; done) | (simp [*]; done)
  have hg_Qw7_13 : Qw7.cell? ⟨w6.heap.size, 3, none⟩ = some (.int .i32 (max ay by_)) := by rw [hW0]; first | (go_simp; done) | (simp [*]; done)
  clear hW0
  have hq_Qw7 := @wd_cell Qw7
  refine wp_region_wd (by kernel_rfl) (by kernel_rfl) ?_
  repeat (go_big_quiet_step ((first | (go_at_call 20; with_reducible exact quiet_wd (O1.out _)) | (go_at_call 20; with_reducible exact quiet_wd (O2.out _)) | (go_at_call 20; with_reducible exact quiet_wd (O3.out _)) | (go_at_call 18; with_reducible exact quiet_wd (P1.out _)) | (go_at_call 12; with_reducible exact quiet_wd (Q1.out _)))))
  refine wpQuiet_nil ?_
  rintro w7 ⟨⟨wx, hb_w7⟩, hwx⟩
  obtain rfl : w7 = wx := hwx
  clear hq_Qw7
  obtain ⟨hc_w7, hf_w7⟩ := bcell hb_w7
  have hB_w7 : Below w.heap.size w w7 := Below.trans (by go_grown) (hb_w7.mono (by go_size))
  have hs_w7_0 : w.heap.size < w7.heap.size := Nat.lt_of_lt_of_le hs_Qw7_0 hb_w7.size
  have hs_w7_1 : w.heap.size + 1 < w7.heap.size := Nat.lt_of_lt_of_le hs_Qw7_1 hb_w7.size
  have hs_w7_2 : w6.heap.size < w7.heap.size := Nat.lt_of_lt_of_le hs_Qw7_2 hb_w7.size
  go_wp2_with fail
  cases hO : inB ox oy with
  | false =>
    have ii := I1.out
    rw [hO] at ii
    refine (ii _).mono ?_
    rintro e w8 ⟨rfl, hb_w8⟩
    obtain ⟨hc_w8, hf_w8⟩ := bcell hb_w8
    have hz_w8 := hb_w8.size
    try simp at hz_w8
    have hB_w8 : Below w.heap.size w w8 := Below.trans (by go_grown) (hb_w8.mono (by go_size))
    have hs_w8_0 : w.heap.size < w8.heap.size := by omega
    have hs_w8_1 : w.heap.size + 1 < w8.heap.size := by omega
    clear ii
    go_wp2_with fail
    refine (U1.out _).mono ?_
    rintro e z1 ⟨rfl, hb_z1⟩
    obtain ⟨hc_z1, hf_z1⟩ := bcell hb_z1
    have hz_z1 := hb_z1.size
    try simp at hz_z1
    have hB_z1 : Below w.heap.size w z1 := Below.trans (by go_grown) (hb_z1.mono (by go_size))
    have hs_z1_0 : w.heap.size < z1.heap.size := by omega
    have hs_z1_1 : w.heap.size + 1 < z1.heap.size := by omega
    go_wp2_with fail
    refine (U2.out _).mono ?_
    rintro e z2 ⟨rfl, hb_z2⟩
    obtain ⟨hc_z2, hf_z2⟩ := bcell hb_z2
    have hz_z2 := hb_z2.size
    try simp at hz_z2
    have hB_z2 : Below w.heap.size w z2 := Below.trans (by go_grown) (hb_z2.mono (by go_size))
    have hs_z2_0 : w.heap.size < z2.heap.size := by omega
    have hs_z2_1 : w.heap.size + 1 < z2.heap.size := by omega
    have hs_z2_2 : z1.heap.size < z2.heap.size := by omega
    go_wp2_with fail
    refine (U3.out _).mono ?_
    rintro e z3 ⟨rfl, hb_z3⟩
    obtain ⟨hc_z3, hf_z3⟩ := bcell hb_z3
    have hz_z3 := hb_z3.size
    try simp at hz_z3
    have hB_z3 : Below w.heap.size w z3 := Below.trans (by go_grown) (hb_z3.mono (by go_size))
    have hs_z3_0 : w.heap.size < z3.heap.size := by omega
    have hs_z3_1 : w.heap.size + 1 < z3.heap.size := by omega
    have hs_z3_2 : z1.heap.size < z3.heap.size := by omega
    have hs_z3_3 : z2.heap.size < z3.heap.size := by omega
    go_wp2_with fail
    all_goals first | (go_ret; exact ⟨rfl, by go_grown⟩) | skip
    have vv := V1.out.2
    rw [V1.out.1 (by assumption) (by assumption) (by assumption)] at vv
    refine (vv _).mono ?_
    rintro e z4 ⟨rfl, hb_z4⟩
    obtain ⟨hc_z4, hf_z4⟩ := bcell hb_z4
    have hz_z4 := hb_z4.size
    try simp at hz_z4
    have hB_z4 : Below w.heap.size w z4 := Below.trans (by go_grown) (hb_z4.mono (by go_size))
    go_wp2_with fail
    go_ret
    exact ⟨rfl, by go_grown⟩
  | true =>
    have ii := I1.out
    rw [hO] at ii
    refine (ii _).mono ?_
    rintro e w8 ⟨rfl, hb_w8⟩
    obtain ⟨hc_w8, hf_w8⟩ := bcell hb_w8
    have hz_w8 := hb_w8.size
    try simp at hz_w8
    have hB_w8 : Below w.heap.size w w8 := Below.trans (by go_grown) (hb_w8.mono (by go_size))
    have hs_w8_0 : w.heap.size < w8.heap.size := by omega
    have hs_w8_1 : w.heap.size + 1 < w8.heap.size := by omega
    clear ii
    go_wp2_with fail
    cases hA : inB ax ay with
    | false =>
      have ii := I2.out
      rw [hA] at ii
      refine (ii _).mono ?_
      rintro e w9 ⟨rfl, hb_w9⟩
      obtain ⟨hc_w9, hf_w9⟩ := bcell hb_w9
      have hz_w9 := hb_w9.size
      try simp at hz_w9
      have hB_w9 : Below w.heap.size w w9 := Below.trans (by go_grown) (hb_w9.mono (by go_size))
      have hs_w9_0 : w.heap.size < w9.heap.size := by omega
      have hs_w9_1 : w.heap.size + 1 < w9.heap.size := by omega
      clear ii
      go_wp2_with fail
      refine (U1.out _).mono ?_
      rintro e z1 ⟨rfl, hb_z1⟩
      obtain ⟨hc_z1, hf_z1⟩ := bcell hb_z1
      have hz_z1 := hb_z1.size
      try simp at hz_z1
      have hB_z1 : Below w.heap.size w z1 := Below.trans (by go_grown) (hb_z1.mono (by go_size))
      have hs_z1_0 : w.heap.size < z1.heap.size := by omega
      have hs_z1_1 : w.heap.size + 1 < z1.heap.size := by omega
      go_wp2_with fail
      refine (U2.out _).mono ?_
      rintro e z2 ⟨rfl, hb_z2⟩
      obtain ⟨hc_z2, hf_z2⟩ := bcell hb_z2
      have hz_z2 := hb_z2.size
      try simp at hz_z2
      have hB_z2 : Below w.heap.size w z2 := Below.trans (by go_grown) (hb_z2.mono (by go_size))
      have hs_z2_0 : w.heap.size < z2.heap.size := by omega
      have hs_z2_1 : w.heap.size + 1 < z2.heap.size := by omega
      have hs_z2_2 : z1.heap.size < z2.heap.size := by omega
      go_wp2_with fail
      refine (U3.out _).mono ?_
      rintro e z3 ⟨rfl, hb_z3⟩
      obtain ⟨hc_z3, hf_z3⟩ := bcell hb_z3
      have hz_z3 := hb_z3.size
      try simp at hz_z3
      have hB_z3 : Below w.heap.size w z3 := Below.trans (by go_grown) (hb_z3.mono (by go_size))
      have hs_z3_0 : w.heap.size < z3.heap.size := by omega
      have hs_z3_1 : w.heap.size + 1 < z3.heap.size := by omega
      have hs_z3_2 : z1.heap.size < z3.heap.size := by omega
      have hs_z3_3 : z2.heap.size < z3.heap.size := by omega
      go_wp2_with fail
      all_goals first | (go_ret; exact ⟨rfl, by go_grown⟩) | skip
      have vv := V1.out.2
      rw [V1.out.1 (by assumption) (by assumption) (by assumption)] at vv
      refine (vv _).mono ?_
      rintro e z4 ⟨rfl, hb_z4⟩
      obtain ⟨hc_z4, hf_z4⟩ := bcell hb_z4
      have hz_z4 := hb_z4.size
      try simp at hz_z4
      have hB_z4 : Below w.heap.size w z4 := Below.trans (by go_grown) (hb_z4.mono (by go_size))
      go_wp2_with fail
      go_ret
      exact ⟨rfl, by go_grown⟩
    | true =>
      have ii := I2.out
      rw [hA] at ii
      refine (ii _).mono ?_
      rintro e w9 ⟨rfl, hb_w9⟩
      obtain ⟨hc_w9, hf_w9⟩ := bcell hb_w9
      have hz_w9 := hb_w9.size
      try simp at hz_w9
      have hB_w9 : Below w.heap.size w w9 := Below.trans (by go_grown) (hb_w9.mono (by go_size))
      have hs_w9_0 : w.heap.size < w9.heap.size := by omega
      have hs_w9_1 : w.heap.size + 1 < w9.heap.size := by omega
      clear ii
      go_wp2_with fail
      cases hB : inB bx by_ with
      | false =>
        have ii := I3.out
        rw [hB] at ii
        refine (ii _).mono ?_
        rintro e w10 ⟨rfl, hb_w10⟩
        obtain ⟨hc_w10, hf_w10⟩ := bcell hb_w10
        have hz_w10 := hb_w10.size
        try simp at hz_w10
        have hB_w10 : Below w.heap.size w w10 := Below.trans (by go_grown) (hb_w10.mono (by go_size))
        have hs_w10_0 : w.heap.size < w10.heap.size := by omega
        have hs_w10_1 : w.heap.size + 1 < w10.heap.size := by omega
        clear ii
        go_wp2_with fail
        refine (U1.out _).mono ?_
        rintro e z1 ⟨rfl, hb_z1⟩
        obtain ⟨hc_z1, hf_z1⟩ := bcell hb_z1
        have hz_z1 := hb_z1.size
        try simp at hz_z1
        have hB_z1 : Below w.heap.size w z1 := Below.trans (by go_grown) (hb_z1.mono (by go_size))
        have hs_z1_0 : w.heap.size < z1.heap.size := by omega
        have hs_z1_1 : w.heap.size + 1 < z1.heap.size := by omega
        go_wp2_with fail
        refine (U2.out _).mono ?_
        rintro e z2 ⟨rfl, hb_z2⟩
        obtain ⟨hc_z2, hf_z2⟩ := bcell hb_z2
        have hz_z2 := hb_z2.size
        try simp at hz_z2
        have hB_z2 : Below w.heap.size w z2 := Below.trans (by go_grown) (hb_z2.mono (by go_size))
        have hs_z2_0 : w.heap.size < z2.heap.size := by omega
        have hs_z2_1 : w.heap.size + 1 < z2.heap.size := by omega
        have hs_z2_2 : z1.heap.size < z2.heap.size := by omega
        go_wp2_with fail
        refine (U3.out _).mono ?_
        rintro e z3 ⟨rfl, hb_z3⟩
        obtain ⟨hc_z3, hf_z3⟩ := bcell hb_z3
        have hz_z3 := hb_z3.size
        try simp at hz_z3
        have hB_z3 : Below w.heap.size w z3 := Below.trans (by go_grown) (hb_z3.mono (by go_size))
        have hs_z3_0 : w.heap.size < z3.heap.size := by omega
        have hs_z3_1 : w.heap.size + 1 < z3.heap.size := by omega
        have hs_z3_2 : z1.heap.size < z3.heap.size := by omega
        have hs_z3_3 : z2.heap.size < z3.heap.size := by omega
        go_wp2_with fail
        all_goals first | (go_ret; exact ⟨rfl, by go_grown⟩) | skip
        have vv := V1.out.2
        rw [V1.out.1 (by assumption) (by assumption) (by assumption)] at vv
        refine (vv _).mono ?_
        rintro e z4 ⟨rfl, hb_z4⟩
        obtain ⟨hc_z4, hf_z4⟩ := bcell hb_z4
        have hz_z4 := hb_z4.size
        try simp at hz_z4
        have hB_z4 : Below w.heap.size w z4 := Below.trans (by go_grown) (hb_z4.mono (by go_size))
        go_wp2_with fail
        go_ret
        exact ⟨rfl, by go_grown⟩
      | true =>
        have ii := I3.out
        rw [hB] at ii
        refine (ii _).mono ?_
        rintro e w10 ⟨rfl, hb_w10⟩
        obtain ⟨hc_w10, hf_w10⟩ := bcell hb_w10
        have hz_w10 := hb_w10.size
        try simp at hz_w10
        have hB_w10 : Below w.heap.size w w10 := Below.trans (by go_grown) (hb_w10.mono (by go_size))
        have hs_w10_0 : w.heap.size < w10.heap.size := by omega
        have hs_w10_1 : w.heap.size + 1 < w10.heap.size := by omega
        clear ii
        go_wp2_with fail
        have cc := HK.out HI.out.1 HI.out.2.1 HI.out.2.2.1 HI.out.2.2.2.1 HI.out.2.2.2.2.1 HI.out.2.2.2.2.2.1
        rw [crs_val hO hA hB] at cc
        have dd := HD.out HI.out.1 HI.out.2.1 HI.out.2.2.1 HI.out.2.2.2.1
        rw [dist_val hO hA] at dd
        have s1 := crs_pos ox oy ax ay bx by_
        have s2 := crs_neg ox oy ax ay bx by_
        rw [ht] at s1 s2
        have s3 := dist_nonneg (ax - ox) (ay - oy)
        have s4 := @dist_nought (ax - ox) (ay - oy)
        obtain ⟨c, hc⟩ : ∃ z, crs ox oy ax ay bx by_ = z := ⟨_, rfl⟩
        obtain ⟨d, hd⟩ : ∃ z, (ax - ox) * (ax - ox) + (ay - oy) * (ay - oy) = z := ⟨_, rfl⟩
        rw [hc] at cc s1 s2
        rw [hd] at dd s3 s4
        have e1 : decide (0 < c) = decide (0 < t) := by rw [Bool.eq_iff_iff]; simp; omega
        have e2 : decide (c < 0) = decide (t < 0) := by rw [Bool.eq_iff_iff]; simp; omega
        have e3 : (d == 0) = (ox == ax && oy == ay) := by rw [Bool.eq_iff_iff]; simp; omega
        have e4 : decide (d < 0) = false := by simp; omega
        clear s1 s2 s3 s4 hc hd ht
        refine (cc _).mono ?_
        rintro e w11 ⟨rfl, hb_w11⟩
        obtain ⟨hc_w11, hf_w11⟩ := bcell hb_w11
        have hz_w11 := hb_w11.size
        try simp at hz_w11
        have hB_w11 : Below w.heap.size w w11 := Below.trans (by go_grown) (hb_w11.mono (by go_size))
        have hs_w11_0 : w.heap.size < w11.heap.size := by omega
        have hs_w11_1 : w.heap.size + 1 < w11.heap.size := by omega
        have hs_w11_2 : w6.heap.size < w11.heap.size := by omega
        clear cc
        go_wp2_with fail
        have DD := Lib.hid dd
        clear dd
        have HX : (ox = ax ∧ oy = ay ∧ (d == 0) = true) ∨ ((ox == ax) = false ∧ (d == 0) = false) ∨ (ox = ax ∧ (oy == ay) = false ∧ (d == 0) = false) := by
          rcases Decidable.em (ox = ax) with h | h
          · rcases Decidable.em (oy = ay) with h' | h'
            · exact .inl ⟨h, h', by rw [e3]; simp [h, h']⟩
            · exact .inr (.inr ⟨h, by simp [h'], by rw [e3]; simp [h']⟩)
          · exact .inr (.inl ⟨by simp [h], by rw [e3]; simp [h]⟩)
        clear e3
        rcases HX with ⟨rfl, rfl, e3⟩ | ⟨hne, e3⟩ | ⟨rfl, hne, e3⟩
        · refine wp_gen (fun Qw12 hW0 => ?_)
          have hB_Qw12 : Below w.heap.size w Qw12 := by rw [hW0]; go_grown
          have hs_Qw12_0 : w.heap.size < Qw12.heap.size := by rw [hW0]; first | omega | (simp; done) | (simp; omega)
          have hs_Qw12_1 : w.heap.size + 1 < Qw12.heap.size := by rw [hW0]; first | omega | (simp; done) | (simp; omega)
          have hg_Qw12_0 : Qw12.cell? ⟨w.heap.size, 0, none⟩ = some (.int .i32 ox) := by rw [hW0]; first | (go_simp; done) | (simp [*]; done)
          have hg_Qw12_1 : Qw12.cell? ⟨w.heap.size, 1, none⟩ = some (.int .i32 oy) := by rw [hW0]; first | (go_simp; done) | (simp [*]; done)
          have hg_Qw12_2 : Qw12.cell? ⟨w.heap.size, 2, none⟩ = some (.int .i32 ox) := by rw [hW0]; first | (go_simp; done) | (simp [*]; done)
          have hg_Qw12_3 : Qw12.cell? ⟨w.heap.size, 3, none⟩ = some (.int .i32 oy) := by rw [hW0]; first | (go_simp; done) | (simp [*]; done)
          have hg_Qw12_4 : Qw12.cell? ⟨w.heap.size, 4, none⟩ = some (.int .i32 bx) := by rw [hW0]; first | (go_simp; done) | (simp [*]; done)
          have hg_Qw12_5 : Qw12.cell? ⟨w.heap.size, 5, none⟩ = some (.int .i32 by_) := by rw [hW0]; first | (go_simp; done) | (simp [*]; done)
          have hg_Qw12_6 : Qw12.cell? ⟨w.heap.size, 6, none⟩ = some (.int .i32 px) := by rw [hW0]; first | (go_simp; done) | (simp [*]; done)
          have hg_Qw12_7 : Qw12.cell? ⟨w.heap.size, 7, none⟩ = some (.int .i32 py) := by rw [hW0]; first | (go_simp; done) | (simp [*]; done)
          have hg_Qw12_8 : Qw12.cell? ⟨w.heap.size + 1, 0, none⟩ = some (.int .i32 x) := by rw [hW0]; first | (go_simp; done) | (simp [*]; done)
          have hg_Qw12_9 : Qw12.cell? ⟨w.heap.size + 1, 1, none⟩ = some (.int .i32 y) := by rw [hW0]; first | (go_simp; done) | (simp [*]; done)
          clear hW0
          have hq_Qw12 := @wd_cell Qw12
          refine wp_region_wd (by kernel_rfl) (by kernel_rfl) ?_
          repeat (go_big_quiet_step ((first | (go_at_call 22; with_reducible exact quiet_wd (DD.out _)))))
          refine wpQuiet_nil ?_
          rintro w12 ⟨⟨wx, hb_w12⟩, hwx⟩
          obtain rfl : w12 = wx := hwx
          clear hq_Qw12
          obtain ⟨hc_w12, hf_w12⟩ := bcell hb_w12
          have hB_w12 : Below w.heap.size w w12 := Below.trans (by go_grown) (hb_w12.mono (by go_size))
          have hs_w12_0 : w.heap.size < w12.heap.size := Nat.lt_of_lt_of_le hs_Qw12_0 hb_w12.size
          have hs_w12_1 : w.heap.size + 1 < w12.heap.size := Nat.lt_of_lt_of_le hs_Qw12_1 hb_w12.size
          go_wp2_with fail
          refine (U1.out _).mono ?_
          rintro e z1 ⟨rfl, hb_z1⟩
          obtain ⟨hc_z1, hf_z1⟩ := bcell hb_z1
          have hz_z1 := hb_z1.size
          try simp at hz_z1
          have hB_z1 : Below w.heap.size w z1 := Below.trans (by go_grown) (hb_z1.mono (by go_size))
          have hs_z1_0 : w.heap.size < z1.heap.size := by omega
          have hs_z1_1 : w.heap.size + 1 < z1.heap.size := by omega
          go_wp2_with fail
          refine (U2.out _).mono ?_
          rintro e z2 ⟨rfl, hb_z2⟩
          obtain ⟨hc_z2, hf_z2⟩ := bcell hb_z2
          have hz_z2 := hb_z2.size
          try simp at hz_z2
          have hB_z2 : Below w.heap.size w z2 := Below.trans (by go_grown) (hb_z2.mono (by go_size))
          have hs_z2_0 : w.heap.size < z2.heap.size := by omega
          have hs_z2_1 : w.heap.size + 1 < z2.heap.size := by omega
          have hs_z2_2 : z1.heap.size < z2.heap.size := by omega
          go_wp2_with fail
          refine (U3.out _).mono ?_
          rintro e z3 ⟨rfl, hb_z3⟩
          obtain ⟨hc_z3, hf_z3⟩ := bcell hb_z3
          have hz_z3 := hb_z3.size
          try simp at hz_z3
          have hB_z3 : Below w.heap.size w z3 := Below.trans (by go_grown) (hb_z3.mono (by go_size))
          have hs_z3_0 : w.heap.size < z3.heap.size := by omega
          have hs_z3_1 : w.heap.size + 1 < z3.heap.size := by omega
          have hs_z3_2 : z1.heap.size < z3.heap.size := by omega
          have hs_z3_3 : z2.heap.size < z3.heap.size := by omega
          go_wp2_with fail
          all_goals first | (go_ret; exact ⟨rfl, by go_grown⟩) | skip
          have vv := V1.out.2
          rw [V1.out.1 (by assumption) (by assumption) (by assumption)] at vv
          refine (vv _).mono ?_
          rintro e z4 ⟨rfl, hb_z4⟩
          obtain ⟨hc_z4, hf_z4⟩ := bcell hb_z4
          have hz_z4 := hb_z4.size
          try simp at hz_z4
          have hB_z4 : Below w.heap.size w z4 := Below.trans (by go_grown) (hb_z4.mono (by go_size))
          go_wp2_with fail
          go_ret
          exact ⟨rfl, by go_grown⟩
        · refine wp_gen (fun Qw12 hW0 => ?_)
          have hB_Qw12 : Below w.heap.size w Qw12 := by rw [hW0]; go_grown
          have hs_Qw12_0 : w.heap.size < Qw12.heap.size := by rw [hW0]; first | omega | (simp; done) | (simp; omega)
          have hs_Qw12_1 : w.heap.size + 1 < Qw12.heap.size := by rw [hW0]; first | omega | (simp; done) | (simp; omega)
          have hg_Qw12_0 : Qw12.cell? ⟨w.heap.size, 0, none⟩ = some (.int .i32 ox) := by rw [hW0]; first | (go_simp; done) | (simp [*]; done)
          have hg_Qw12_1 : Qw12.cell? ⟨w.heap.size, 1, none⟩ = some (.int .i32 oy) := by rw [hW0]; first | (go_simp; done) | (simp [*]; done)
          have hg_Qw12_2 : Qw12.cell? ⟨w.heap.size, 2, none⟩ = some (.int .i32 ax) := by rw [hW0]; first | (go_simp; done) | (simp [*]; done)
          have hg_Qw12_3 : Qw12.cell? ⟨w.heap.size, 3, none⟩ = some (.int .i32 ay) := by rw [hW0]; first | (go_simp; done) | (simp [*]; done)
          have hg_Qw12_4 : Qw12.cell? ⟨w.heap.size, 4, none⟩ = some (.int .i32 bx) := by rw [hW0]; first | (go_simp; done) | (simp [*]; done)
          have hg_Qw12_5 : Qw12.cell? ⟨w.heap.size, 5, none⟩ = some (.int .i32 by_) := by rw [hW0]; first | (go_simp; done) | (simp [*]; done)
          have hg_Qw12_6 : Qw12.cell? ⟨w.heap.size, 6, none⟩ = some (.int .i32 px) := by rw [hW0]; first | (go_simp; done) | (simp [*]; done)
          have hg_Qw12_7 : Qw12.cell? ⟨w.heap.size, 7, none⟩ = some (.int .i32 py) := by rw [hW0]; first | (go_simp; done) | (simp [*]; done)
          have hg_Qw12_8 : Qw12.cell? ⟨w.heap.size + 1, 0, none⟩ = some (.int .i32 x) := by rw [hW0]; first | (go_simp; done) | (simp [*]; done)
          have hg_Qw12_9 : Qw12.cell? ⟨w.heap.size + 1, 1, none⟩ = some (.int .i32 y) := by rw [hW0]; first | (go_simp; done) | (simp [*]; done)
          clear hW0
          have hq_Qw12 := @wd_cell Qw12
          refine wp_region_wd (by kernel_rfl) (by kernel_rfl) ?_
          repeat (go_big_quiet_step ((first | (go_at_call 22; with_reducible exact quiet_wd (DD.out _)))))
          refine wpQuiet_nil ?_
          rintro w12 ⟨⟨wx, hb_w12⟩, hwx⟩
          obtain rfl : w12 = wx := hwx
          clear hq_Qw12
          obtain ⟨hc_w12, hf_w12⟩ := bcell hb_w12
          have hB_w12 : Below w.heap.size w w12 := Below.trans (by go_grown) (hb_w12.mono (by go_size))
          have hs_w12_0 : w.heap.size < w12.heap.size := Nat.lt_of_lt_of_le hs_Qw12_0 hb_w12.size
          have hs_w12_1 : w.heap.size + 1 < w12.heap.size := Nat.lt_of_lt_of_le hs_Qw12_1 hb_w12.size
          go_wp2_with fail
          refine (U1.out _).mono ?_
          rintro e z1 ⟨rfl, hb_z1⟩
          obtain ⟨hc_z1, hf_z1⟩ := bcell hb_z1
          have hz_z1 := hb_z1.size
          try simp at hz_z1
          have hB_z1 : Below w.heap.size w z1 := Below.trans (by go_grown) (hb_z1.mono (by go_size))
          have hs_z1_0 : w.heap.size < z1.heap.size := by omega
          have hs_z1_1 : w.heap.size + 1 < z1.heap.size := by omega
          go_wp2_with fail
          refine (U2.out _).mono ?_
          rintro e z2 ⟨rfl, hb_z2⟩
          obtain ⟨hc_z2, hf_z2⟩ := bcell hb_z2
          have hz_z2 := hb_z2.size
          try simp at hz_z2
          have hB_z2 : Below w.heap.size w z2 := Below.trans (by go_grown) (hb_z2.mono (by go_size))
          have hs_z2_0 : w.heap.size < z2.heap.size := by omega
          have hs_z2_1 : w.heap.size + 1 < z2.heap.size := by omega
          have hs_z2_2 : z1.heap.size < z2.heap.size := by omega
          go_wp2_with fail
          refine (U3.out _).mono ?_
          rintro e z3 ⟨rfl, hb_z3⟩
          obtain ⟨hc_z3, hf_z3⟩ := bcell hb_z3
          have hz_z3 := hb_z3.size
          try simp at hz_z3
          have hB_z3 : Below w.heap.size w z3 := Below.trans (by go_grown) (hb_z3.mono (by go_size))
          have hs_z3_0 : w.heap.size < z3.heap.size := by omega
          have hs_z3_1 : w.heap.size + 1 < z3.heap.size := by omega
          have hs_z3_2 : z1.heap.size < z3.heap.size := by omega
          have hs_z3_3 : z2.heap.size < z3.heap.size := by omega
          go_wp2_with fail
          all_goals first | (go_ret; exact ⟨rfl, by go_grown⟩) | skip
          have vv := V1.out.2
          rw [V1.out.1 (by assumption) (by assumption) (by assumption)] at vv
          refine (vv _).mono ?_
          rintro e z4 ⟨rfl, hb_z4⟩
          obtain ⟨hc_z4, hf_z4⟩ := bcell hb_z4
          have hz_z4 := hb_z4.size
          try simp at hz_z4
          have hB_z4 : Below w.heap.size w z4 := Below.trans (by go_grown) (hb_z4.mono (by go_size))
          go_wp2_with fail
          go_ret
          exact ⟨rfl, by go_grown⟩
        · refine wp_gen (fun Qw12 hW0 => ?_)
          have hB_Qw12 : Below w.heap.size w Qw12 := by rw [hW0]; go_grown
          have hs_Qw12_0 : w.heap.size < Qw12.heap.size := by rw [hW0]; first | omega | (simp; done) | (simp; omega)
          have hs_Qw12_1 : w.heap.size + 1 < Qw12.heap.size := by rw [hW0]; first | omega | (simp; done) | (simp; omega)
          have hg_Qw12_0 : Qw12.cell? ⟨w.heap.size, 0, none⟩ = some (.int .i32 ox) := by rw [hW0]; first | (go_simp; done) | (simp [*]; done)
          have hg_Qw12_1 : Qw12.cell? ⟨w.heap.size, 1, none⟩ = some (.int .i32 oy) := by rw [hW0]; first | (go_simp; done) | (simp [*]; done)
          have hg_Qw12_2 : Qw12.cell? ⟨w.heap.size, 2, none⟩ = some (.int .i32 ox) := by rw [hW0]; first | (go_simp; done) | (simp [*]; done)
          have hg_Qw12_3 : Qw12.cell? ⟨w.heap.size, 3, none⟩ = some (.int .i32 ay) := by rw [hW0]; first | (go_simp; done) | (simp [*]; done)
          have hg_Qw12_4 : Qw12.cell? ⟨w.heap.size, 4, none⟩ = some (.int .i32 bx) := by rw [hW0]; first | (go_simp; done) | (simp [*]; done)
          have hg_Qw12_5 : Qw12.cell? ⟨w.heap.size, 5, none⟩ = some (.int .i32 by_) := by rw [hW0]; first | (go_simp; done) | (simp [*]; done)
          have hg_Qw12_6 : Qw12.cell? ⟨w.heap.size, 6, none⟩ = some (.int .i32 px) := by rw [hW0]; first | (go_simp; done) | (simp [*]; done)
          have hg_Qw12_7 : Qw12.cell? ⟨w.heap.size, 7, none⟩ = some (.int .i32 py) := by rw [hW0]; first | (go_simp; done) | (simp [*]; done)
          have hg_Qw12_8 : Qw12.cell? ⟨w.heap.size + 1, 0, none⟩ = some (.int .i32 x) := by rw [hW0]; first | (go_simp; done) | (simp [*]; done)
          have hg_Qw12_9 : Qw12.cell? ⟨w.heap.size + 1, 1, none⟩ = some (.int .i32 y) := by rw [hW0]; first | (go_simp; done) | (simp [*]; done)
          clear hW0
          have hq_Qw12 := @wd_cell Qw12
          refine wp_region_wd (by kernel_rfl) (by kernel_rfl) ?_
          repeat (go_big_quiet_step ((first | (go_at_call 22; with_reducible exact quiet_wd (DD.out _)))))
          refine wpQuiet_nil ?_
          rintro w12 ⟨⟨wx, hb_w12⟩, hwx⟩
          obtain rfl : w12 = wx := hwx
          clear hq_Qw12
          obtain ⟨hc_w12, hf_w12⟩ := bcell hb_w12
          have hB_w12 : Below w.heap.size w w12 := Below.trans (by go_grown) (hb_w12.mono (by go_size))
          have hs_w12_0 : w.heap.size < w12.heap.size := Nat.lt_of_lt_of_le hs_Qw12_0 hb_w12.size
          have hs_w12_1 : w.heap.size + 1 < w12.heap.size := Nat.lt_of_lt_of_le hs_Qw12_1 hb_w12.size
          go_wp2_with fail
          refine (U1.out _).mono ?_
          rintro e z1 ⟨rfl, hb_z1⟩
          obtain ⟨hc_z1, hf_z1⟩ := bcell hb_z1
          have hz_z1 := hb_z1.size
          try simp at hz_z1
          have hB_z1 : Below w.heap.size w z1 := Below.trans (by go_grown) (hb_z1.mono (by go_size))
          have hs_z1_0 : w.heap.size < z1.heap.size := by omega
          have hs_z1_1 : w.heap.size + 1 < z1.heap.size := by omega
          go_wp2_with fail
          refine (U2.out _).mono ?_
          rintro e z2 ⟨rfl, hb_z2⟩
          obtain ⟨hc_z2, hf_z2⟩ := bcell hb_z2
          have hz_z2 := hb_z2.size
          try simp at hz_z2
          have hB_z2 : Below w.heap.size w z2 := Below.trans (by go_grown) (hb_z2.mono (by go_size))
          have hs_z2_0 : w.heap.size < z2.heap.size := by omega
          have hs_z2_1 : w.heap.size + 1 < z2.heap.size := by omega
          have hs_z2_2 : z1.heap.size < z2.heap.size := by omega
          go_wp2_with fail
          refine (U3.out _).mono ?_
          rintro e z3 ⟨rfl, hb_z3⟩
          obtain ⟨hc_z3, hf_z3⟩ := bcell hb_z3
          have hz_z3 := hb_z3.size
          try simp at hz_z3
          have hB_z3 : Below w.heap.size w z3 := Below.trans (by go_grown) (hb_z3.mono (by go_size))
          have hs_z3_0 : w.heap.size < z3.heap.size := by omega
          have hs_z3_1 : w.heap.size + 1 < z3.heap.size := by omega
          have hs_z3_2 : z1.heap.size < z3.heap.size := by omega
          have hs_z3_3 : z2.heap.size < z3.heap.size := by omega
          go_wp2_with fail
          all_goals first | (go_ret; exact ⟨rfl, by go_grown⟩) | skip
          have vv := V1.out.2
          rw [V1.out.1 (by assumption) (by assumption) (by assumption)] at vv
          refine (vv _).mono ?_
          rintro e z4 ⟨rfl, hb_z4⟩
          obtain ⟨hc_z4, hf_z4⟩ := bcell hb_z4
          have hz_z4 := hb_z4.size
          try simp at hz_z4
          have hB_z4 : Below w.heap.size w z4 := Below.trans (by go_grown) (hb_z4.mono (by go_size))
          go_wp2_with fail
          go_ret
          exact ⟨rfl, by go_grown⟩

end Go.Proofs.Ytegblpoamjpdhaa
