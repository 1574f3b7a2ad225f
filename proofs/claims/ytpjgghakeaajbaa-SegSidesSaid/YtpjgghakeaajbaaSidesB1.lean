/-
  SegSides: the walk, part B1 (printed by gen_sides.py).
-/
import Derived.Test.YtpjgghakeaajbaaSidesM
namespace Go.Proofs.Ytpjgghakeaajbaa
open Go.RowKit

set_option maxHeartbeats 4000000 in
set_option maxRecDepth 100000 in
theorem segSides_no1 (H : MeetSays) (a1 a2 b1 b2 : Int) (c d : Pt) (r more : Int) (hr : I64 r) (hm : I64 more) (hk : (meet (a1, a2) (b1, b2) c d).k = 0) (hne : ¬ a1 = b1) (w : World) :
    Calls Try.prog 4 #[.agg #[.int .i32 a1, .int .i32 a2, .int .i32 b1, .int .i32 b2, .int .i32 c.1, .int .i32 c.2, .int .i32 d.1, .int .i32 d.2], .int .i64 r, .int .i64 more] w fun e w' => e = .returned (.bool true) ∧ Below w.heap.size w w' := by
  have m1 := fun W => H (a1, a2) (b1, b2) c d W
  have m2 := fun W => H (a1, a2) (b1, b2) d c W
  have m3 := fun W => H (b1, b2) (a1, a2) c d W
  rw [meet_flip] at m2
  have ht : touches (a1, a2) (b1, b2) c d = false := by unfold touches; rw [decide_eq_false_iff_not]; exact fun h => h hk
  obtain ⟨m, hm'⟩ : ∃ m, meet (a1, a2) (b1, b2) c d = m := ⟨_, rfl⟩
  rw [hm'] at m1 m2 hk
  clear hm'
  obtain ⟨k, i, ⟨f1, f2⟩, ⟨t1, t2⟩⟩ := m
  obtain ⟨m', hm'⟩ : ∃ m, meet (b1, b2) (a1, a2) c d = m := ⟨_, rfl⟩
  rw [hm'] at m3
  clear hm'
  obtain ⟨k', i', ⟨f1', f2'⟩, ⟨t1', t2'⟩⟩ := m'
  simp only [] at m1 m2 m3 hk
  have M1 := Lib.hid m1
  have M2 := Lib.hid m2
  have M3 := Lib.hid m3
  clear m1 m2 m3
  have t5' := fun W => touch_of H c d (a1, a2) (b1, b2) W
  rw [touches_swap, ht] at t5'
  have T1 := Lib.hid t5'
  clear t5'
  have t6' := fun W => touch_of H (a1, a2) (b1, b2) c d W
  rw [ht] at t6'
  have T2 := Lib.hid t6'
  clear t6'
  have t7' := fun W => touch_of H (b1, b2) (a1, a2) c d W
  rw [touches_back, ht] at t7'
  have T3 := Lib.hid t7'
  clear t7'
  obtain ⟨n, hn⟩ : ∃ n, nearSeg (a1, a2) (b1, b2) c d r = n := ⟨_, rfl⟩
  obtain ⟨p, hp⟩ : ∃ p, near (a1, a2) c d r = p := ⟨_, rfl⟩
  have n1 := fun W => nearSeg_of H (a1, a2) (b1, b2) c d r hr W
  rw [hn] at n1
  have N1 := Lib.hid n1
  have n2 := fun W => nearSeg_of H c d (a1, a2) (b1, b2) r hr W
  rw [nearSeg_swap, hn] at n2
  have N2 := Lib.hid n2
  have n3 := fun W => nearSeg_of H (b1, b2) (a1, a2) d c r hr W
  rw [nearSeg_both, hn] at n3
  have N3 := Lib.hid n3
  have n4 := fun W => nearSeg_of H (b1, b2) (a1, a2) c d r hr W
  rw [nearSeg_back, hn] at n4
  have N4 := Lib.hid n4
  have n5 := fun W => near_any (a1, a2) c d r hr W
  rw [hp] at n5
  have n6 := fun W => near_any (a1, a2) d c r hr W
  rw [near_comm, hp] at n6
  have n7 := fun W => nearSeg_of H (a1, a2) (a1, a2) c d r hr W
  rw [near_point, hp] at n7
  have n8 := fun W => nearSeg_of H (a1, a2) (b1, b2) c d 0 (by unfold I64; omega) W
  rw [nearSeg_zero, ht] at n8
  have N5 := Lib.hid n5
  have N6 := Lib.hid n6
  have N7 := Lib.hid n7
  have N8 := Lib.hid n8
  have q1 : r < more → p = true → ∀ W, Calls Try.prog 13 #[.agg #[.int .i32 a1, .int .i32 a2], .agg #[.int .i32 c.1, .int .i32 c.2], .agg #[.int .i32 d.1, .int .i32 d.2], .int .i64 more] W fun e w' => e = .returned (.bool true) ∧ Below W.heap.size W w' := by
    intro h1 h2 W
    have h := near_any (a1, a2) c d more hm W
    rw [near_more (Int.le_of_lt h1) (hp.trans h2)] at h
    exact h
  have q2 : r < more → n = true → ∀ W, Calls Try.prog 12 #[.agg #[.int .i32 a1, .int .i32 a2], .agg #[.int .i32 b1, .int .i32 b2], .agg #[.int .i32 c.1, .int .i32 c.2], .agg #[.int .i32 d.1, .int .i32 d.2], .int .i64 more] W fun e w' => e = .returned (.bool true) ∧ Below W.heap.size W w' := by
    intro h1 h2 W
    have h := nearSeg_of H (a1, a2) (b1, b2) c d more hm W
    rw [nearSeg_more (Int.le_of_lt h1) (hn.trans h2)] at h
    exact h
  have Q1 := Lib.hid q1
  have Q2 := Lib.hid q2
  clear n1 n2 n3 n4 n5 n6 n7 n8 q1 q2 hn hp ht
  have far := @near_far (a1, a2) (b1, b2) c d
  have r_ia := fun W => rin_any (a1, a2) W
  obtain ⟨ia, hia⟩ : ∃ z, inP (a1, a2) = z := ⟨_, rfl⟩
  rw [hia] at r_ia far
  have Ria := Lib.hid r_ia
  have r_ib := fun W => rin_any (b1, b2) W
  obtain ⟨ib, hib⟩ : ∃ z, inP (b1, b2) = z := ⟨_, rfl⟩
  rw [hib] at r_ib far
  have Rib := Lib.hid r_ib
  have r_ic := fun W => rin_any c W
  obtain ⟨ic, hic⟩ : ∃ z, inP c = z := ⟨_, rfl⟩
  rw [hic] at r_ic far
  have Ric := Lib.hid r_ic
  have r_iz := fun W => rin_any d W
  obtain ⟨iz, hiz⟩ : ∃ z, inP d = z := ⟨_, rfl⟩
  rw [hiz] at r_iz far
  have Riz := Lib.hid r_iz
  have z1 : (ia && ib && ic && iz) = true → ∀ W, Calls Try.prog 13 #[.agg #[.int .i32 a1, .int .i32 a2], .agg #[.int .i32 c.1, .int .i32 c.2], .agg #[.int .i32 d.1, .int .i32 d.2], .int .i64 3037000498] W fun e w' => e = .returned (.bool true) ∧ Below W.heap.size W w' := by
    intro h1 W
    have h := near_any (a1, a2) c d 3037000498 (by unfold I64; omega) W
    rw [(far h1).1] at h
    exact h
  have z2 : (ia && ib && ic && iz) = true → ∀ W, Calls Try.prog 12 #[.agg #[.int .i32 a1, .int .i32 a2], .agg #[.int .i32 b1, .int .i32 b2], .agg #[.int .i32 c.1, .int .i32 c.2], .agg #[.int .i32 d.1, .int .i32 d.2], .int .i64 3037000498] W fun e w' => e = .returned (.bool true) ∧ Below W.heap.size W w' := by
    intro h1 W
    have h := nearSeg_of H (a1, a2) (b1, b2) c d 3037000498 (by unfold I64; omega) W
    rw [(far h1).2] at h
    exact h
  have Z1 := Lib.hid z1
  have Z2 := Lib.hid z2
  have LV := Lib.hid (fun W => lives_of H W)
  have hi5 := five ia ib ic iz
  have HI5 := Lib.hid hi5
  clear far z1 z2 r_ia r_ib r_ic r_iz hia hib hic hiz hi5 hr hm H
  have hk1 : (k != 0) = false := by simp [hk]
  have hne0 : (a1 == b1) = false := by simp [hne]
  clear hne
  clear hk
  go_enter Try.func4, Try.ntmps4
  go_wp2_with fail
  refine (M1.out _).mono ?_
  rintro e w1 ⟨rfl, hb_w1⟩
  obtain ⟨hc_w1, hf_w1⟩ := bcell hb_w1
  have hz_w1 := hb_w1.size
  try simp at hz_w1
  have hB_w1 : Below w.heap.size w w1 := Below.trans (by go_grown) (hb_w1.mono (by go_size))
  have hs_w1_0 : w.heap.size < w1.heap.size := by omega
  go_wp2_with fail
  refine wp_gen (fun Qw2 hW0 => ?_)
  have hB_Qw2 : Below w.heap.size w Qw2 := by rw [hW0]; go_grown
  have hs_Qw2_0 : w.heap.size < Qw2.heap.size := by rw [hW0]; first | omega | (simp; done) | (simp; omega)
  have hs_Qw2_1 : w1.heap.size < Qw2.heap.size := by rw [hW0]; first | omega | (simp; done) | (simp; omega)
  have hg_Qw2_0 : Qw2.cell? ⟨w.heap.size, 0, none⟩ = some (.int .i32 a1) := by rw [hW0]; first | (go_simp; done) | (simp [*]; done)
  have hg_Qw2_1 : Qw2.cell? ⟨w.heap.size, 1, none⟩ = some (.int .i32 a2) := by rw [hW0]; first | (go_simp; done) | (simp [*]; done)
  have hg_Qw2_2 : Qw2.cell? ⟨w.heap.size, 2, none⟩ = some (.int .i32 b1) := by rw [hW0]; first | (go_simp; done) | (simp [*]; done)
  have hg_Qw2_3 : Qw2.cell? ⟨w.heap.size, 3, none⟩ = some (.int .i32 b2) := by rw [hW0]; first | (go_simp; done) | (simp [*]; done)
  have hg_Qw2_4 : Qw2.cell? ⟨w.heap.size, 4, none⟩ = some (.int .i32 c.1) := by rw [hW0]; first | (go_simp; done) | (simp [*]; done)
  have hg_Qw2_5 : Qw2.cell? ⟨w.heap.size, 5, none⟩ = some (.int .i32 c.2) := by rw [hW0]; first | (go_simp; done) | (simp [*]; done)
  have hg_Qw2_6 : Qw2.cell? ⟨w.heap.size, 6, none⟩ = some (.int .i32 d.1) := by rw [hW0]; first | (go_simp; done) | (simp [*]; done)
  have hg_Qw2_7 : Qw2.cell? ⟨w.heap.size, 7, none⟩ = some (.int .i32 d.2) := by rw [hW0]; first | (go_simp; done) | (simp [*]; done)
  have hg_Qw2_8 : Qw2.cell? ⟨w1.heap.size, 0, none⟩ = some (.int .u8 k) := by rw [hW0]; first | (go_simp; done) | (simp [*]; done)
  have hg_Qw2_9 : Qw2.cell? ⟨w1.heap.size, 1, none⟩ = some (.bool i) := by rw [hW0]; first | (go_simp; done) | (simp [*]; done)
  have hg_Qw2_10 : Qw2.cell? ⟨w1.heap.size, 2, none⟩ = some (.int .i64 f1) := by rw [hW0]; first | (go_simp; done) | (simp [*]; done)
  have hg_Qw2_11 : Qw2.cell? ⟨w1.heap.size, 3, none⟩ = some (.int .i64 f2) := by rw [hW0]; first | (go_simp; done) | (simp [*]; done)
  have hg_Qw2_12 : Qw2.cell? ⟨w1.heap.size, 4, none⟩ = some (.int .i64 t1) := by rw [hW0]; first | (go_simp; done) | (simp [*]; done)
  have hg_Qw2_13 : Qw2.cell? ⟨w1.heap.size, 5, none⟩ = some (.int .i64 t2) := by rw [hW0]; first | (go_simp; done) | (simp [*]; done)
  clear hW0
  have hq_Qw2 := @wd_cell Qw2
  refine wp_region_wd (by kernel_rfl) (by kernel_rfl) ?_
  repeat (go_big_quiet_step ((first | (go_at_call 8; with_reducible exact quiet_wd (M2.out _)) | (go_at_call 9; with_reducible exact quiet_wd (T1.out _)) | (go_at_call 9; with_reducible exact quiet_wd (T2.out _)) | (go_at_call 9; with_reducible exact quiet_wd (T3.out _)))))
  refine wpQuiet_nil ?_
  rintro w2 ⟨⟨wx, hb_w2⟩, hwx⟩
  obtain rfl : w2 = wx := hwx
  clear hq_Qw2
  obtain ⟨hc_w2, hf_w2⟩ := bcell hb_w2
  have hB_w2 : Below w.heap.size w w2 := Below.trans (by go_grown) (hb_w2.mono (by go_size))
  have hs_w2_0 : w.heap.size < w2.heap.size := Nat.lt_of_lt_of_le hs_Qw2_0 hb_w2.size
  have hs_w2_1 : w1.heap.size < w2.heap.size := Nat.lt_of_lt_of_le hs_Qw2_1 hb_w2.size
  go_wp2_with fail
  refine (M3.out _).mono ?_
  rintro e w3 ⟨rfl, hb_w3⟩
  obtain ⟨hc_w3, hf_w3⟩ := bcell hb_w3
  have hz_w3 := hb_w3.size
  try simp at hz_w3
  have hB_w3 : Below w.heap.size w w3 := Below.trans (by go_grown) (hb_w3.mono (by go_size))
  have hs_w3_0 : w.heap.size < w3.heap.size := by omega
  have hs_w3_1 : w1.heap.size < w3.heap.size := by omega
  go_wp2_with fail
  refine wp_gen (fun Qw4 hW0 => ?_)
  have hB_Qw4 : Below w.heap.size w Qw4 := by rw [hW0]; go_grown
  have hs_Qw4_0 : w.heap.size < Qw4.heap.size := by rw [hW0]; first | omega | (simp; done) | (simp; omega)
  have hs_Qw4_1 : w1.heap.size < Qw4.heap.size := by rw [hW0]; first | omega | (simp; done) | (simp; omega)
  have hs_Qw4_2 : w3.heap.size < Qw4.heap.size := by rw [hW0]; first | omega | (simp; done) | (simp; omega)
  have hg_Qw4_0 : Qw4.cell? ⟨w.heap.size, 0, none⟩ = some (.int .i32 a1) := by rw [hW0]; first | (go_simp; done) | (simp [*]; done)
  have hg_Qw4_1 : Qw4.cell? ⟨w.heap.size, 1, none⟩ = some (.int .i32 a2) := by rw [hW0]; first | (go_simp; done) | (simp [*]; done)
  have hg_Qw4_2 : Qw4.cell? ⟨w.heap.size, 2, none⟩ = some (.int .i32 b1) := by rw [hW0]; first | (go_simp; done) | (simp [*]; done)
  have hg_Qw4_3 : Qw4.cell? ⟨w.heap.size, 3, none⟩ = some (.int .i32 b2) := by rw [hW0]; first | (go_simp; done) | (simp [*]; done)
  have hg_Qw4_4 : Qw4.cell? ⟨w.heap.size, 4, none⟩ = some (.int .i32 c.1) := by rw [hW0]; first | (go_simp; done) | (simp [*]; done)
  have hg_Qw4_5 : Qw4.cell? ⟨w.heap.size, 5, none⟩ = some (.int .i32 c.2) := by rw [hW0]; first | (go_simp; done) | (simp [*]; done)
  have hg_Qw4_6 : Qw4.cell? ⟨w.heap.size, 6, none⟩ = some (.int .i32 d.1) := by rw [hW0]; first | (go_simp; done) | (simp [*]; done)
  have hg_Qw4_7 : Qw4.cell? ⟨w.heap.size, 7, none⟩ = some (.int .i32 d.2) := by rw [hW0]; first | (go_simp; done) | (simp [*]; done)
  have hg_Qw4_8 : Qw4.cell? ⟨w1.heap.size, 0, none⟩ = some (.int .u8 k) := by rw [hW0]; first | (go_simp; done) | (simp [*]; done)
  have hg_Qw4_9 : Qw4.cell? ⟨w1.heap.size, 1, none⟩ = some (.bool i) := by rw [hW0]; first | (go_simp; done) | (simp [*]; done)
  have hg_Qw4_10 : Qw4.cell? ⟨w1.heap.size, 2, none⟩ = some (.int .i64 f1) := by rw [hW0]; first | (go_simp; done) | (simp [*]; done)
  have hg_Qw4_11 : Qw4.cell? ⟨w1.heap.size, 3, none⟩ = some (.int .i64 f2) := by rw [hW0]; first | (go_simp; done) | (simp [*]; done)
  have hg_Qw4_12 : Qw4.cell? ⟨w1.heap.size, 4, none⟩ = some (.int .i64 t1) := by rw [hW0]; first | (go_simp; done) | (simp [*]; done)
  have hg_Qw4_13 : Qw4.cell? ⟨w1.heap.size, 5, none⟩ = some (.int .i64 t2) := by rw [hW0]; first | (go_simp; done) | (simp [*]; done)
  have hg_Qw4_14 : Qw4.cell? ⟨w3.heap.size, 0, none⟩ = some (.int .u8 k') := by rw [hW0]; first | (go_simp; done) | (simp [*]; done)
  have hg_Qw4_15 : Qw4.cell? ⟨w3.heap.size, 1, none⟩ = some (.bool i') := by rw [hW0]; first | (go_simp; done) | (simp [*]; done)
  have hg_Qw4_16 : Qw4.cell? ⟨w3.heap.size, 2, none⟩ = some (.int .i64 f1') := by rw [hW0]; first | (go_simp; done) | (simp [*]; done)
  have hg_Qw4_17 : Qw4.cell? ⟨w3.heap.size, 3, none⟩ = some (.int .i64 f2') := by rw [hW0]; first | (go_simp; done) | (simp [*]; done)
  have hg_Qw4_18 : Qw4.cell? ⟨w3.heap.size, 4, none⟩ = some (.int .i64 t1') := by rw [hW0]; first | (go_simp; done) | (simp [*]; done)
  have hg_Qw4_19 : Qw4.cell? ⟨w3.heap.size, 5, none⟩ = some (.int .i64 t2') := by rw [hW0]; first | (go_simp; done) | (simp [*]; done)
  clear hW0
  have hq_Qw4 := @wd_cell Qw4
  refine wp_region_wd (by kernel_rfl) (by kernel_rfl) ?_
  repeat (go_big_quiet_step ((first | (fail))))
  refine wpQuiet_nil ?_
  rintro w4 ⟨⟨wx, hb_w4⟩, hwx⟩
  obtain rfl : w4 = wx := hwx
  clear hq_Qw4
  obtain ⟨hc_w4, hf_w4⟩ := bcell hb_w4
  have hB_w4 : Below w.heap.size w w4 := Below.trans (by go_grown) (hb_w4.mono (by go_size))
  have hs_w4_0 : w.heap.size < w4.heap.size := Nat.lt_of_lt_of_le hs_Qw4_0 hb_w4.size
  have hs_w4_1 : w1.heap.size < w4.heap.size := Nat.lt_of_lt_of_le hs_Qw4_1 hb_w4.size
  have hs_w4_2 : w3.heap.size < w4.heap.size := Nat.lt_of_lt_of_le hs_Qw4_2 hb_w4.size
  go_wp2_with fail
  refine (N1.out _).mono ?_
  rintro e w5 ⟨rfl, hb_w5⟩
  obtain ⟨hc_w5, hf_w5⟩ := bcell hb_w5
  have hz_w5 := hb_w5.size
  try simp at hz_w5
  have hB_w5 : Below w.heap.size w w5 := Below.trans (by go_grown) (hb_w5.mono (by go_size))
  have hs_w5_0 : w.heap.size < w5.heap.size := by omega
  have hs_w5_1 : w1.heap.size < w5.heap.size := by omega
  go_wp2_with fail
  refine (N2.out _).mono ?_
  rintro e v2 ⟨rfl, hb_v2⟩
  obtain ⟨hc_v2, hf_v2⟩ := bcell hb_v2
  have hz_v2 := hb_v2.size
  try simp at hz_v2
  have hB_v2 : Below w.heap.size w v2 := Below.trans (by go_grown) (hb_v2.mono (by go_size))
  have hs_v2_0 : w.heap.size < v2.heap.size := by omega
  have hs_v2_1 : w1.heap.size < v2.heap.size := by omega
  go_wp2_with fail
  refine (N3.out _).mono ?_
  rintro e v3 ⟨rfl, hb_v3⟩
  obtain ⟨hc_v3, hf_v3⟩ := bcell hb_v3
  have hz_v3 := hb_v3.size
  try simp at hz_v3
  have hB_v3 : Below w.heap.size w v3 := Below.trans (by go_grown) (hb_v3.mono (by go_size))
  have hs_v3_0 : w.heap.size < v3.heap.size := by omega
  have hs_v3_1 : w1.heap.size < v3.heap.size := by omega
  go_wp2_with fail
  refine (N4.out _).mono ?_
  rintro e v4 ⟨rfl, hb_v4⟩
  obtain ⟨hc_v4, hf_v4⟩ := bcell hb_v4
  have hz_v4 := hb_v4.size
  try simp at hz_v4
  have hB_v4 : Below w.heap.size w v4 := Below.trans (by go_grown) (hb_v4.mono (by go_size))
  have hs_v4_0 : w.heap.size < v4.heap.size := by omega
  have hs_v4_1 : w1.heap.size < v4.heap.size := by omega
  go_wp2_with fail
  refine (N5.out _).mono ?_
  rintro e w7 ⟨rfl, hb_w7⟩
  obtain ⟨hc_w7, hf_w7⟩ := bcell hb_w7
  have hz_w7 := hb_w7.size
  try simp at hz_w7
  have hB_w7 : Below w.heap.size w w7 := Below.trans (by go_grown) (hb_w7.mono (by go_size))
  have hs_w7_0 : w.heap.size < w7.heap.size := by omega
  have hs_w7_1 : w1.heap.size < w7.heap.size := by omega
  go_wp2_with fail
  refine wp_gen (fun Qw8 hW0 => ?_)
  have hB_Qw8 : Below w.heap.size w Qw8 := by rw [hW0]; go_grown
  have hs_Qw8_0 : w.heap.size < Qw8.heap.size := by rw [hW0]; first | omega | (simp; done) | (simp; omega)
  have hs_Qw8_1 : w1.heap.size < Qw8.heap.size := by rw [hW0]; first | omega | (simp; done) | (simp; omega)
  have hg_Qw8_0 : Qw8.cell? ⟨w.heap.size, 0, none⟩ = some (.int .i32 a1) := by rw [hW0]; first | (go_simp; done) | (simp [*]; done)
  have hg_Qw8_1 : Qw8.cell? ⟨w.heap.size, 1, none⟩ = some (.int .i32 a2) := by rw [hW0]; first | (go_simp; done) | (simp [*]; done)
  have hg_Qw8_2 : Qw8.cell? ⟨w.heap.size, 2, none⟩ = some (.int .i32 b1) := by rw [hW0]; first | (go_simp; done) | (simp [*]; done)
  have hg_Qw8_3 : Qw8.cell? ⟨w.heap.size, 3, none⟩ = some (.int .i32 b2) := by rw [hW0]; first | (go_simp; done) | (simp [*]; done)
  have hg_Qw8_4 : Qw8.cell? ⟨w.heap.size, 4, none⟩ = some (.int .i32 c.1) := by rw [hW0]; first | (go_simp; done) | (simp [*]; done)
  have hg_Qw8_5 : Qw8.cell? ⟨w.heap.size, 5, none⟩ = some (.int .i32 c.2) := by rw [hW0]; first | (go_simp; done) | (simp [*]; done)
  have hg_Qw8_6 : Qw8.cell? ⟨w.heap.size, 6, none⟩ = some (.int .i32 d.1) := by rw [hW0]; first | (go_simp; done) | (simp [*]; done)
  have hg_Qw8_7 : Qw8.cell? ⟨w.heap.size, 7, none⟩ = some (.int .i32 d.2) := by rw [hW0]; first | (go_simp; done) | (simp [*]; done)
  have hg_Qw8_8 : Qw8.cell? ⟨w1.heap.size, 0, none⟩ = some (.int .u8 k) := by rw [hW0]; first | (go_simp; done) | (simp [*]; done)
  have hg_Qw8_9 : Qw8.cell? ⟨w1.heap.size, 1, none⟩ = some (.bool i) := by rw [hW0]; first | (go_simp; done) | (simp [*]; done)
  have hg_Qw8_10 : Qw8.cell? ⟨w1.heap.size, 2, none⟩ = some (.int .i64 f1) := by rw [hW0]; first | (go_simp; done) | (simp [*]; done)
  have hg_Qw8_11 : Qw8.cell? ⟨w1.heap.size, 3, none⟩ = some (.int .i64 f2) := by rw [hW0]; first | (go_simp; done) | (simp [*]; done)
  have hg_Qw8_12 : Qw8.cell? ⟨w1.heap.size, 4, none⟩ = some (.int .i64 t1) := by rw [hW0]; first | (go_simp; done) | (simp [*]; done)
  have hg_Qw8_13 : Qw8.cell? ⟨w1.heap.size, 5, none⟩ = some (.int .i64 t2) := by rw [hW0]; first | (go_simp; done) | (simp [*]; done)
  clear hW0
  have hq_Qw8 := @wd_cell Qw8
  refine wp_region_wd (by kernel_rfl) (by kernel_rfl) ?_
  repeat (go_big_quiet_step ((first | (go_at_call 13; with_reducible exact quiet_wd (N6.out _)) | (go_at_call 12; with_reducible exact quiet_wd (N7.out _)) | (go_at_call 12; with_reducible exact quiet_wd (N8.out _)))))
  refine wpQuiet_nil ?_
  rintro w8 ⟨⟨wx, hb_w8⟩, hwx⟩
  obtain rfl : w8 = wx := hwx
  clear hq_Qw8
  obtain ⟨hc_w8, hf_w8⟩ := bcell hb_w8
  have hB_w8 : Below w.heap.size w w8 := Below.trans (by go_grown) (hb_w8.mono (by go_size))
  have hs_w8_0 : w.heap.size < w8.heap.size := Nat.lt_of_lt_of_le hs_Qw8_0 hb_w8.size
  have hs_w8_1 : w1.heap.size < w8.heap.size := Nat.lt_of_lt_of_le hs_Qw8_1 hb_w8.size
  have h5 := more5 r more p n
  clear M1 M2 M3 T1 T2 T3 N1 N2 N3 N4 N5 N6 N7 N8
  rcases h5 with h5 | ⟨h5, rfl, rfl⟩ | ⟨h5, rfl, rfl⟩ | ⟨h5, rfl, rfl⟩ | ⟨h5, rfl, rfl⟩
  · go_wp2_with fail
    clear Q1 Q2 h5
    have hi5 := HI5.out
    clear HI5
    rcases hi5 with rfl | ⟨rfl, rfl⟩ | ⟨rfl, rfl, rfl⟩ | ⟨rfl, rfl, rfl, rfl⟩ | ⟨rfl, rfl, rfl, rfl⟩
    · refine (Ria.out _).mono ?_
      rintro e via ⟨rfl, hb_via⟩
      obtain ⟨hc_via, hf_via⟩ := bcell hb_via
      have hz_via := hb_via.size
      try simp at hz_via
      have hB_via : Below w.heap.size w via := Below.trans (by go_grown) (hb_via.mono (by go_size))
      have hs_via_0 : w.heap.size < via.heap.size := by omega
      have hs_via_1 : w1.heap.size < via.heap.size := by omega
      go_wp2_with fail
      refine (LV.out _).mono ?_
      rintro e w11 ⟨rfl, hb_w11⟩
      obtain ⟨hc_w11, hf_w11⟩ := bcell hb_w11
      have hz_w11 := hb_w11.size
      try simp at hz_w11
      have hB_w11 : Below w.heap.size w w11 := Below.trans (by go_grown) (hb_w11.mono (by go_size))
      go_wp2_with fail
      refine bodyPost_ret (by simp [results, Try.results4, go_sem, *]; try rfl) rfl ?_
      exact ⟨rfl, by go_grown⟩
    · refine (Ria.out _).mono ?_
      rintro e via ⟨rfl, hb_via⟩
      obtain ⟨hc_via, hf_via⟩ := bcell hb_via
      have hz_via := hb_via.size
      try simp at hz_via
      have hB_via : Below w.heap.size w via := Below.trans (by go_grown) (hb_via.mono (by go_size))
      have hs_via_0 : w.heap.size < via.heap.size := by omega
      have hs_via_1 : w1.heap.size < via.heap.size := by omega
      go_wp2_with fail
      refine (Rib.out _).mono ?_
      rintro e vib ⟨rfl, hb_vib⟩
      obtain ⟨hc_vib, hf_vib⟩ := bcell hb_vib
      have hz_vib := hb_vib.size
      try simp at hz_vib
      have hB_vib : Below w.heap.size w vib := Below.trans (by go_grown) (hb_vib.mono (by go_size))
      have hs_vib_0 : w.heap.size < vib.heap.size := by omega
      have hs_vib_1 : w1.heap.size < vib.heap.size := by omega
      go_wp2_with fail
      refine (LV.out _).mono ?_
      rintro e w11 ⟨rfl, hb_w11⟩
      obtain ⟨hc_w11, hf_w11⟩ := bcell hb_w11
      have hz_w11 := hb_w11.size
      try simp at hz_w11
      have hB_w11 : Below w.heap.size w w11 := Below.trans (by go_grown) (hb_w11.mono (by go_size))
      go_wp2_with fail
      refine bodyPost_ret (by simp [results, Try.results4, go_sem, *]; try rfl) rfl ?_
      exact ⟨rfl, by go_grown⟩
    · refine (Ria.out _).mono ?_
      rintro e via ⟨rfl, hb_via⟩
      obtain ⟨hc_via, hf_via⟩ := bcell hb_via
      have hz_via := hb_via.size
      try simp at hz_via
      have hB_via : Below w.heap.size w via := Below.trans (by go_grown) (hb_via.mono (by go_size))
      have hs_via_0 : w.heap.size < via.heap.size := by omega
      have hs_via_1 : w1.heap.size < via.heap.size := by omega
      go_wp2_with fail
      refine (Rib.out _).mono ?_
      rintro e vib ⟨rfl, hb_vib⟩
      obtain ⟨hc_vib, hf_vib⟩ := bcell hb_vib
      have hz_vib := hb_vib.size
      try simp at hz_vib
      have hB_vib : Below w.heap.size w vib := Below.trans (by go_grown) (hb_vib.mono (by go_size))
      have hs_vib_0 : w.heap.size < vib.heap.size := by omega
      have hs_vib_1 : w1.heap.size < vib.heap.size := by omega
      go_wp2_with fail
      refine (Ric.out _).mono ?_
      rintro e vic ⟨rfl, hb_vic⟩
      obtain ⟨hc_vic, hf_vic⟩ := bcell hb_vic
      have hz_vic := hb_vic.size
      try simp at hz_vic
      have hB_vic : Below w.heap.size w vic := Below.trans (by go_grown) (hb_vic.mono (by go_size))
      have hs_vic_0 : w.heap.size < vic.heap.size := by omega
      have hs_vic_1 : w1.heap.size < vic.heap.size := by omega
      go_wp2_with fail
      refine (LV.out _).mono ?_
      rintro e w11 ⟨rfl, hb_w11⟩
      obtain ⟨hc_w11, hf_w11⟩ := bcell hb_w11
      have hz_w11 := hb_w11.size
      try simp at hz_w11
      have hB_w11 : Below w.heap.size w w11 := Below.trans (by go_grown) (hb_w11.mono (by go_size))
      go_wp2_with fail
      refine bodyPost_ret (by simp [results, Try.results4, go_sem, *]; try rfl) rfl ?_
      exact ⟨rfl, by go_grown⟩
    · refine (Ria.out _).mono ?_
      rintro e via ⟨rfl, hb_via⟩
      obtain ⟨hc_via, hf_via⟩ := bcell hb_via
      have hz_via := hb_via.size
      try simp at hz_via
      have hB_via : Below w.heap.size w via := Below.trans (by go_grown) (hb_via.mono (by go_size))
      have hs_via_0 : w.heap.size < via.heap.size := by omega
      have hs_via_1 : w1.heap.size < via.heap.size := by omega
      go_wp2_with fail
      refine (Rib.out _).mono ?_
      rintro e vib ⟨rfl, hb_vib⟩
      obtain ⟨hc_vib, hf_vib⟩ := bcell hb_vib
      have hz_vib := hb_vib.size
      try simp at hz_vib
      have hB_vib : Below w.heap.size w vib := Below.trans (by go_grown) (hb_vib.mono (by go_size))
      have hs_vib_0 : w.heap.size < vib.heap.size := by omega
      have hs_vib_1 : w1.heap.size < vib.heap.size := by omega
      go_wp2_with fail
      refine (Ric.out _).mono ?_
      rintro e vic ⟨rfl, hb_vic⟩
      obtain ⟨hc_vic, hf_vic⟩ := bcell hb_vic
      have hz_vic := hb_vic.size
      try simp at hz_vic
      have hB_vic : Below w.heap.size w vic := Below.trans (by go_grown) (hb_vic.mono (by go_size))
      have hs_vic_0 : w.heap.size < vic.heap.size := by omega
      have hs_vic_1 : w1.heap.size < vic.heap.size := by omega
      go_wp2_with fail
      refine (Riz.out _).mono ?_
      rintro e viz ⟨rfl, hb_viz⟩
      obtain ⟨hc_viz, hf_viz⟩ := bcell hb_viz
      have hz_viz := hb_viz.size
      try simp at hz_viz
      have hB_viz : Below w.heap.size w viz := Below.trans (by go_grown) (hb_viz.mono (by go_size))
      have hs_viz_0 : w.heap.size < viz.heap.size := by omega
      have hs_viz_1 : w1.heap.size < viz.heap.size := by omega
      go_wp2_with fail
      refine (LV.out _).mono ?_
      rintro e w11 ⟨rfl, hb_w11⟩
      obtain ⟨hc_w11, hf_w11⟩ := bcell hb_w11
      have hz_w11 := hb_w11.size
      try simp at hz_w11
      have hB_w11 : Below w.heap.size w w11 := Below.trans (by go_grown) (hb_w11.mono (by go_size))
      go_wp2_with fail
      refine bodyPost_ret (by simp [results, Try.results4, go_sem, *]; try rfl) rfl ?_
      exact ⟨rfl, by go_grown⟩
    · refine (Ria.out _).mono ?_
      rintro e via ⟨rfl, hb_via⟩
      obtain ⟨hc_via, hf_via⟩ := bcell hb_via
      have hz_via := hb_via.size
      try simp at hz_via
      have hB_via : Below w.heap.size w via := Below.trans (by go_grown) (hb_via.mono (by go_size))
      have hs_via_0 : w.heap.size < via.heap.size := by omega
      have hs_via_1 : w1.heap.size < via.heap.size := by omega
      go_wp2_with fail
      refine (Rib.out _).mono ?_
      rintro e vib ⟨rfl, hb_vib⟩
      obtain ⟨hc_vib, hf_vib⟩ := bcell hb_vib
      have hz_vib := hb_vib.size
      try simp at hz_vib
      have hB_vib : Below w.heap.size w vib := Below.trans (by go_grown) (hb_vib.mono (by go_size))
      have hs_vib_0 : w.heap.size < vib.heap.size := by omega
      have hs_vib_1 : w1.heap.size < vib.heap.size := by omega
      go_wp2_with fail
      refine (Ric.out _).mono ?_
      rintro e vic ⟨rfl, hb_vic⟩
      obtain ⟨hc_vic, hf_vic⟩ := bcell hb_vic
      have hz_vic := hb_vic.size
      try simp at hz_vic
      have hB_vic : Below w.heap.size w vic := Below.trans (by go_grown) (hb_vic.mono (by go_size))
      have hs_vic_0 : w.heap.size < vic.heap.size := by omega
      have hs_vic_1 : w1.heap.size < vic.heap.size := by omega
      go_wp2_with fail
      refine (Riz.out _).mono ?_
      rintro e viz ⟨rfl, hb_viz⟩
      obtain ⟨hc_viz, hf_viz⟩ := bcell hb_viz
      have hz_viz := hb_viz.size
      try simp at hz_viz
      have hB_viz : Below w.heap.size w viz := Below.trans (by go_grown) (hb_viz.mono (by go_size))
      have hs_viz_0 : w.heap.size < viz.heap.size := by omega
      have hs_viz_1 : w1.heap.size < viz.heap.size := by omega
      go_wp2_with fail
      refine (Z1.out (by trivial) _).mono ?_
      rintro e vZ1 ⟨rfl, hb_vZ1⟩
      obtain ⟨hc_vZ1, hf_vZ1⟩ := bcell hb_vZ1
      have hz_vZ1 := hb_vZ1.size
      try simp at hz_vZ1
      have hB_vZ1 : Below w.heap.size w vZ1 := Below.trans (by go_grown) (hb_vZ1.mono (by go_size))
      have hs_vZ1_0 : w.heap.size < vZ1.heap.size := by omega
      have hs_vZ1_1 : w1.heap.size < vZ1.heap.size := by omega
      go_wp2_with fail
      refine (Z2.out (by trivial) _).mono ?_
      rintro e vZ2 ⟨rfl, hb_vZ2⟩
      obtain ⟨hc_vZ2, hf_vZ2⟩ := bcell hb_vZ2
      have hz_vZ2 := hb_vZ2.size
      try simp at hz_vZ2
      have hB_vZ2 : Below w.heap.size w vZ2 := Below.trans (by go_grown) (hb_vZ2.mono (by go_size))
      have hs_vZ2_0 : w.heap.size < vZ2.heap.size := by omega
      have hs_vZ2_1 : w1.heap.size < vZ2.heap.size := by omega
      go_wp2_with fail
      refine (LV.out _).mono ?_
      rintro e w11 ⟨rfl, hb_w11⟩
      obtain ⟨hc_w11, hf_w11⟩ := bcell hb_w11
      have hz_w11 := hb_w11.size
      try simp at hz_w11
      have hB_w11 : Below w.heap.size w w11 := Below.trans (by go_grown) (hb_w11.mono (by go_size))
      go_wp2_with fail
      refine bodyPost_ret (by simp [results, Try.results4, go_sem, *]; try rfl) rfl ?_
      exact ⟨rfl, by go_grown⟩
  · go_wp2_with fail
    clear Q1 Q2 h5
    have hi5 := HI5.out
    clear HI5
    rcases hi5 with rfl | ⟨rfl, rfl⟩ | ⟨rfl, rfl, rfl⟩ | ⟨rfl, rfl, rfl, rfl⟩ | ⟨rfl, rfl, rfl, rfl⟩
    · refine (Ria.out _).mono ?_
      rintro e via ⟨rfl, hb_via⟩
      obtain ⟨hc_via, hf_via⟩ := bcell hb_via
      have hz_via := hb_via.size
      try simp at hz_via
      have hB_via : Below w.heap.size w via := Below.trans (by go_grown) (hb_via.mono (by go_size))
      have hs_via_0 : w.heap.size < via.heap.size := by omega
      have hs_via_1 : w1.heap.size < via.heap.size := by omega
      go_wp2_with fail
      refine (LV.out _).mono ?_
      rintro e w11 ⟨rfl, hb_w11⟩
      obtain ⟨hc_w11, hf_w11⟩ := bcell hb_w11
      have hz_w11 := hb_w11.size
      try simp at hz_w11
      have hB_w11 : Below w.heap.size w w11 := Below.trans (by go_grown) (hb_w11.mono (by go_size))
      go_wp2_with fail
      refine bodyPost_ret (by simp [results, Try.results4, go_sem, *]; try rfl) rfl ?_
      exact ⟨rfl, by go_grown⟩
    · refine (Ria.out _).mono ?_
      rintro e via ⟨rfl, hb_via⟩
      obtain ⟨hc_via, hf_via⟩ := bcell hb_via
      have hz_via := hb_via.size
      try simp at hz_via
      have hB_via : Below w.heap.size w via := Below.trans (by go_grown) (hb_via.mono (by go_size))
      have hs_via_0 : w.heap.size < via.heap.size := by omega
      have hs_via_1 : w1.heap.size < via.heap.size := by omega
      go_wp2_with fail
      refine (Rib.out _).mono ?_
      rintro e vib ⟨rfl, hb_vib⟩
      obtain ⟨hc_vib, hf_vib⟩ := bcell hb_vib
      have hz_vib := hb_vib.size
      try simp at hz_vib
      have hB_vib : Below w.heap.size w vib := Below.trans (by go_grown) (hb_vib.mono (by go_size))
      have hs_vib_0 : w.heap.size < vib.heap.size := by omega
      have hs_vib_1 : w1.heap.size < vib.heap.size := by omega
      go_wp2_with fail
      refine (LV.out _).mono ?_
      rintro e w11 ⟨rfl, hb_w11⟩
      obtain ⟨hc_w11, hf_w11⟩ := bcell hb_w11
      have hz_w11 := hb_w11.size
      try simp at hz_w11
      have hB_w11 : Below w.heap.size w w11 := Below.trans (by go_grown) (hb_w11.mono (by go_size))
      go_wp2_with fail
      refine bodyPost_ret (by simp [results, Try.results4, go_sem, *]; try rfl) rfl ?_
      exact ⟨rfl, by go_grown⟩
    · refine (Ria.out _).mono ?_
      rintro e via ⟨rfl, hb_via⟩
      obtain ⟨hc_via, hf_via⟩ := bcell hb_via
      have hz_via := hb_via.size
      try simp at hz_via
      have hB_via : Below w.heap.size w via := Below.trans (by go_grown) (hb_via.mono (by go_size))
      have hs_via_0 : w.heap.size < via.heap.size := by omega
      have hs_via_1 : w1.heap.size < via.heap.size := by omega
      go_wp2_with fail
      refine (Rib.out _).mono ?_
      rintro e vib ⟨rfl, hb_vib⟩
      obtain ⟨hc_vib, hf_vib⟩ := bcell hb_vib
      have hz_vib := hb_vib.size
      try simp at hz_vib
      have hB_vib : Below w.heap.size w vib := Below.trans (by go_grown) (hb_vib.mono (by go_size))
      have hs_vib_0 : w.heap.size < vib.heap.size := by omega
      have hs_vib_1 : w1.heap.size < vib.heap.size := by omega
      go_wp2_with fail
      refine (Ric.out _).mono ?_
      rintro e vic ⟨rfl, hb_vic⟩
      obtain ⟨hc_vic, hf_vic⟩ := bcell hb_vic
      have hz_vic := hb_vic.size
      try simp at hz_vic
      have hB_vic : Below w.heap.size w vic := Below.trans (by go_grown) (hb_vic.mono (by go_size))
      have hs_vic_0 : w.heap.size < vic.heap.size := by omega
      have hs_vic_1 : w1.heap.size < vic.heap.size := by omega
      go_wp2_with fail
      refine (LV.out _).mono ?_
      rintro e w11 ⟨rfl, hb_w11⟩
      obtain ⟨hc_w11, hf_w11⟩ := bcell hb_w11
      have hz_w11 := hb_w11.size
      try simp at hz_w11
      have hB_w11 : Below w.heap.size w w11 := Below.trans (by go_grown) (hb_w11.mono (by go_size))
      go_wp2_with fail
      refine bodyPost_ret (by simp [results, Try.results4, go_sem, *]; try rfl) rfl ?_
      exact ⟨rfl, by go_grown⟩
    · refine (Ria.out _).mono ?_
      rintro e via ⟨rfl, hb_via⟩
      obtain ⟨hc_via, hf_via⟩ := bcell hb_via
      have hz_via := hb_via.size
      try simp at hz_via
      have hB_via : Below w.heap.size w via := Below.trans (by go_grown) (hb_via.mono (by go_size))
      have hs_via_0 : w.heap.size < via.heap.size := by omega
      have hs_via_1 : w1.heap.size < via.heap.size := by omega
      go_wp2_with fail
      refine (Rib.out _).mono ?_
      rintro e vib ⟨rfl, hb_vib⟩
      obtain ⟨hc_vib, hf_vib⟩ := bcell hb_vib
      have hz_vib := hb_vib.size
      try simp at hz_vib
      have hB_vib : Below w.heap.size w vib := Below.trans (by go_grown) (hb_vib.mono (by go_size))
      have hs_vib_0 : w.heap.size < vib.heap.size := by omega
      have hs_vib_1 : w1.heap.size < vib.heap.size := by omega
      go_wp2_with fail
      refine (Ric.out _).mono ?_
      rintro e vic ⟨rfl, hb_vic⟩
      obtain ⟨hc_vic, hf_vic⟩ := bcell hb_vic
      have hz_vic := hb_vic.size
      try simp at hz_vic
      have hB_vic : Below w.heap.size w vic := Below.trans (by go_grown) (hb_vic.mono (by go_size))
      have hs_vic_0 : w.heap.size < vic.heap.size := by omega
      have hs_vic_1 : w1.heap.size < vic.heap.size := by omega
      go_wp2_with fail
      refine (Riz.out _).mono ?_
      rintro e viz ⟨rfl, hb_viz⟩
      obtain ⟨hc_viz, hf_viz⟩ := bcell hb_viz
      have hz_viz := hb_viz.size
      try simp at hz_viz
      have hB_viz : Below w.heap.size w viz := Below.trans (by go_grown) (hb_viz.mono (by go_size))
      have hs_viz_0 : w.heap.size < viz.heap.size := by omega
      have hs_viz_1 : w1.heap.size < viz.heap.size := by omega
      go_wp2_with fail
      refine (LV.out _).mono ?_
      rintro e w11 ⟨rfl, hb_w11⟩
      obtain ⟨hc_w11, hf_w11⟩ := bcell hb_w11
      have hz_w11 := hb_w11.size
      try simp at hz_w11
      have hB_w11 : Below w.heap.size w w11 := Below.trans (by go_grown) (hb_w11.mono (by go_size))
      go_wp2_with fail
      refine bodyPost_ret (by simp [results, Try.results4, go_sem, *]; try rfl) rfl ?_
      exact ⟨rfl, by go_grown⟩
    · refine (Ria.out _).mono ?_
      rintro e via ⟨rfl, hb_via⟩
      obtain ⟨hc_via, hf_via⟩ := bcell hb_via
      have hz_via := hb_via.size
      try simp at hz_via
      have hB_via : Below w.heap.size w via := Below.trans (by go_grown) (hb_via.mono (by go_size))
      have hs_via_0 : w.heap.size < via.heap.size := by omega
      have hs_via_1 : w1.heap.size < via.heap.size := by omega
      go_wp2_with fail
      refine (Rib.out _).mono ?_
      rintro e vib ⟨rfl, hb_vib⟩
      obtain ⟨hc_vib, hf_vib⟩ := bcell hb_vib
      have hz_vib := hb_vib.size
      try simp at hz_vib
      have hB_vib : Below w.heap.size w vib := Below.trans (by go_grown) (hb_vib.mono (by go_size))
      have hs_vib_0 : w.heap.size < vib.heap.size := by omega
      have hs_vib_1 : w1.heap.size < vib.heap.size := by omega
      go_wp2_with fail
      refine (Ric.out _).mono ?_
      rintro e vic ⟨rfl, hb_vic⟩
      obtain ⟨hc_vic, hf_vic⟩ := bcell hb_vic
      have hz_vic := hb_vic.size
      try simp at hz_vic
      have hB_vic : Below w.heap.size w vic := Below.trans (by go_grown) (hb_vic.mono (by go_size))
      have hs_vic_0 : w.heap.size < vic.heap.size := by omega
      have hs_vic_1 : w1.heap.size < vic.heap.size := by omega
      go_wp2_with fail
      refine (Riz.out _).mono ?_
      rintro e viz ⟨rfl, hb_viz⟩
      obtain ⟨hc_viz, hf_viz⟩ := bcell hb_viz
      have hz_viz := hb_viz.size
      try simp at hz_viz
      have hB_viz : Below w.heap.size w viz := Below.trans (by go_grown) (hb_viz.mono (by go_size))
      have hs_viz_0 : w.heap.size < viz.heap.size := by omega
      have hs_viz_1 : w1.heap.size < viz.heap.size := by omega
      go_wp2_with fail
      refine (Z1.out (by trivial) _).mono ?_
      rintro e vZ1 ⟨rfl, hb_vZ1⟩
      obtain ⟨hc_vZ1, hf_vZ1⟩ := bcell hb_vZ1
      have hz_vZ1 := hb_vZ1.size
      try simp at hz_vZ1
      have hB_vZ1 : Below w.heap.size w vZ1 := Below.trans (by go_grown) (hb_vZ1.mono (by go_size))
      have hs_vZ1_0 : w.heap.size < vZ1.heap.size := by omega
      have hs_vZ1_1 : w1.heap.size < vZ1.heap.size := by omega
      go_wp2_with fail
      refine (Z2.out (by trivial) _).mono ?_
      rintro e vZ2 ⟨rfl, hb_vZ2⟩
      obtain ⟨hc_vZ2, hf_vZ2⟩ := bcell hb_vZ2
      have hz_vZ2 := hb_vZ2.size
      try simp at hz_vZ2
      have hB_vZ2 : Below w.heap.size w vZ2 := Below.trans (by go_grown) (hb_vZ2.mono (by go_size))
      have hs_vZ2_0 : w.heap.size < vZ2.heap.size := by omega
      have hs_vZ2_1 : w1.heap.size < vZ2.heap.size := by omega
      go_wp2_with fail
      refine (LV.out _).mono ?_
      rintro e w11 ⟨rfl, hb_w11⟩
      obtain ⟨hc_w11, hf_w11⟩ := bcell hb_w11
      have hz_w11 := hb_w11.size
      try simp at hz_w11
      have hB_w11 : Below w.heap.size w w11 := Below.trans (by go_grown) (hb_w11.mono (by go_size))
      go_wp2_with fail
      refine bodyPost_ret (by simp [results, Try.results4, go_sem, *]; try rfl) rfl ?_
      exact ⟨rfl, by go_grown⟩
  · go_wp2_with fail
    refine (Q2.out h5 (by trivial) _).mono ?_
    rintro e u1 ⟨rfl, hb_u1⟩
    obtain ⟨hc_u1, hf_u1⟩ := bcell hb_u1
    have hz_u1 := hb_u1.size
    try simp at hz_u1
    have hB_u1 : Below w.heap.size w u1 := Below.trans (by go_grown) (hb_u1.mono (by go_size))
    have hs_u1_0 : w.heap.size < u1.heap.size := by omega
    have hs_u1_1 : w1.heap.size < u1.heap.size := by omega
    go_wp2_with fail
    clear Q1 Q2 h5
    have hi5 := HI5.out
    clear HI5
    rcases hi5 with rfl | ⟨rfl, rfl⟩ | ⟨rfl, rfl, rfl⟩ | ⟨rfl, rfl, rfl, rfl⟩ | ⟨rfl, rfl, rfl, rfl⟩
    · refine (Ria.out _).mono ?_
      rintro e via ⟨rfl, hb_via⟩
      obtain ⟨hc_via, hf_via⟩ := bcell hb_via
      have hz_via := hb_via.size
      try simp at hz_via
      have hB_via : Below w.heap.size w via := Below.trans (by go_grown) (hb_via.mono (by go_size))
      have hs_via_0 : w.heap.size < via.heap.size := by omega
      have hs_via_1 : w1.heap.size < via.heap.size := by omega
      go_wp2_with fail
      refine (LV.out _).mono ?_
      rintro e w11 ⟨rfl, hb_w11⟩
      obtain ⟨hc_w11, hf_w11⟩ := bcell hb_w11
      have hz_w11 := hb_w11.size
      try simp at hz_w11
      have hB_w11 : Below w.heap.size w w11 := Below.trans (by go_grown) (hb_w11.mono (by go_size))
      go_wp2_with fail
      refine bodyPost_ret (by simp [results, Try.results4, go_sem, *]; try rfl) rfl ?_
      exact ⟨rfl, by go_grown⟩
    · refine (Ria.out _).mono ?_
      rintro e via ⟨rfl, hb_via⟩
      obtain ⟨hc_via, hf_via⟩ := bcell hb_via
      have hz_via := hb_via.size
      try simp at hz_via
      have hB_via : Below w.heap.size w via := Below.trans (by go_grown) (hb_via.mono (by go_size))
      have hs_via_0 : w.heap.size < via.heap.size := by omega
      have hs_via_1 : w1.heap.size < via.heap.size := by omega
      go_wp2_with fail
      refine (Rib.out _).mono ?_
      rintro e vib ⟨rfl, hb_vib⟩
      obtain ⟨hc_vib, hf_vib⟩ := bcell hb_vib
      have hz_vib := hb_vib.size
      try simp at hz_vib
      have hB_vib : Below w.heap.size w vib := Below.trans (by go_grown) (hb_vib.mono (by go_size))
      have hs_vib_0 : w.heap.size < vib.heap.size := by omega
      have hs_vib_1 : w1.heap.size < vib.heap.size := by omega
      go_wp2_with fail
      refine (LV.out _).mono ?_
      rintro e w11 ⟨rfl, hb_w11⟩
      obtain ⟨hc_w11, hf_w11⟩ := bcell hb_w11
      have hz_w11 := hb_w11.size
      try simp at hz_w11
      have hB_w11 : Below w.heap.size w w11 := Below.trans (by go_grown) (hb_w11.mono (by go_size))
      go_wp2_with fail
      refine bodyPost_ret (by simp [results, Try.results4, go_sem, *]; try rfl) rfl ?_
      exact ⟨rfl, by go_grown⟩
    · refine (Ria.out _).mono ?_
      rintro e via ⟨rfl, hb_via⟩
      obtain ⟨hc_via, hf_via⟩ := bcell hb_via
      have hz_via := hb_via.size
      try simp at hz_via
      have hB_via : Below w.heap.size w via := Below.trans (by go_grown) (hb_via.mono (by go_size))
      have hs_via_0 : w.heap.size < via.heap.size := by omega
      have hs_via_1 : w1.heap.size < via.heap.size := by omega
      go_wp2_with fail
      refine (Rib.out _).mono ?_
      rintro e vib ⟨rfl, hb_vib⟩
      obtain ⟨hc_vib, hf_vib⟩ := bcell hb_vib
      have hz_vib := hb_vib.size
      try simp at hz_vib
      have hB_vib : Below w.heap.size w vib := Below.trans (by go_grown) (hb_vib.mono (by go_size))
      have hs_vib_0 : w.heap.size < vib.heap.size := by omega
      have hs_vib_1 : w1.heap.size < vib.heap.size := by omega
      go_wp2_with fail
      refine (Ric.out _).mono ?_
      rintro e vic ⟨rfl, hb_vic⟩
      obtain ⟨hc_vic, hf_vic⟩ := bcell hb_vic
      have hz_vic := hb_vic.size
      try simp at hz_vic
      have hB_vic : Below w.heap.size w vic := Below.trans (by go_grown) (hb_vic.mono (by go_size))
      have hs_vic_0 : w.heap.size < vic.heap.size := by omega
      have hs_vic_1 : w1.heap.size < vic.heap.size := by omega
      go_wp2_with fail
      refine (LV.out _).mono ?_
      rintro e w11 ⟨rfl, hb_w11⟩
      obtain ⟨hc_w11, hf_w11⟩ := bcell hb_w11
      have hz_w11 := hb_w11.size
      try simp at hz_w11
      have hB_w11 : Below w.heap.size w w11 := Below.trans (by go_grown) (hb_w11.mono (by go_size))
      go_wp2_with fail
      refine bodyPost_ret (by simp [results, Try.results4, go_sem, *]; try rfl) rfl ?_
      exact ⟨rfl, by go_grown⟩
    · refine (Ria.out _).mono ?_
      rintro e via ⟨rfl, hb_via⟩
      obtain ⟨hc_via, hf_via⟩ := bcell hb_via
      have hz_via := hb_via.size
      try simp at hz_via
      have hB_via : Below w.heap.size w via := Below.trans (by go_grown) (hb_via.mono (by go_size))
      have hs_via_0 : w.heap.size < via.heap.size := by omega
      have hs_via_1 : w1.heap.size < via.heap.size := by omega
      go_wp2_with fail
      refine (Rib.out _).mono ?_
      rintro e vib ⟨rfl, hb_vib⟩
      obtain ⟨hc_vib, hf_vib⟩ := bcell hb_vib
      have hz_vib := hb_vib.size
      try simp at hz_vib
      have hB_vib : Below w.heap.size w vib := Below.trans (by go_grown) (hb_vib.mono (by go_size))
      have hs_vib_0 : w.heap.size < vib.heap.size := by omega
      have hs_vib_1 : w1.heap.size < vib.heap.size := by omega
      go_wp2_with fail
      refine (Ric.out _).mono ?_
      rintro e vic ⟨rfl, hb_vic⟩
      obtain ⟨hc_vic, hf_vic⟩ := bcell hb_vic
      have hz_vic := hb_vic.size
      try simp at hz_vic
      have hB_vic : Below w.heap.size w vic := Below.trans (by go_grown) (hb_vic.mono (by go_size))
      have hs_vic_0 : w.heap.size < vic.heap.size := by omega
      have hs_vic_1 : w1.heap.size < vic.heap.size := by omega
      go_wp2_with fail
      refine (Riz.out _).mono ?_
      rintro e viz ⟨rfl, hb_viz⟩
      obtain ⟨hc_viz, hf_viz⟩ := bcell hb_viz
      have hz_viz := hb_viz.size
      try simp at hz_viz
      have hB_viz : Below w.heap.size w viz := Below.trans (by go_grown) (hb_viz.mono (by go_size))
      have hs_viz_0 : w.heap.size < viz.heap.size := by omega
      have hs_viz_1 : w1.heap.size < viz.heap.size := by omega
      go_wp2_with fail
      refine (LV.out _).mono ?_
      rintro e w11 ⟨rfl, hb_w11⟩
      obtain ⟨hc_w11, hf_w11⟩ := bcell hb_w11
      have hz_w11 := hb_w11.size
      try simp at hz_w11
      have hB_w11 : Below w.heap.size w w11 := Below.trans (by go_grown) (hb_w11.mono (by go_size))
      go_wp2_with fail
      refine bodyPost_ret (by simp [results, Try.results4, go_sem, *]; try rfl) rfl ?_
      exact ⟨rfl, by go_grown⟩
    · refine (Ria.out _).mono ?_
      rintro e via ⟨rfl, hb_via⟩
      obtain ⟨hc_via, hf_via⟩ := bcell hb_via
      have hz_via := hb_via.size
      try simp at hz_via
      have hB_via : Below w.heap.size w via := Below.trans (by go_grown) (hb_via.mono (by go_size))
      have hs_via_0 : w.heap.size < via.heap.size := by omega
      have hs_via_1 : w1.heap.size < via.heap.size := by omega
      go_wp2_with fail
      refine (Rib.out _).mono ?_
      rintro e vib ⟨rfl, hb_vib⟩
      obtain ⟨hc_vib, hf_vib⟩ := bcell hb_vib
      have hz_vib := hb_vib.size
      try simp at hz_vib
      have hB_vib : Below w.heap.size w vib := Below.trans (by go_grown) (hb_vib.mono (by go_size))
      have hs_vib_0 : w.heap.size < vib.heap.size := by omega
      have hs_vib_1 : w1.heap.size < vib.heap.size := by omega
      go_wp2_with fail
      refine (Ric.out _).mono ?_
      rintro e vic ⟨rfl, hb_vic⟩
      obtain ⟨hc_vic, hf_vic⟩ := bcell hb_vic
      have hz_vic := hb_vic.size
      try simp at hz_vic
      have hB_vic : Below w.heap.size w vic := Below.trans (by go_grown) (hb_vic.mono (by go_size))
      have hs_vic_0 : w.heap.size < vic.heap.size := by omega
      have hs_vic_1 : w1.heap.size < vic.heap.size := by omega
      go_wp2_with fail
      refine (Riz.out _).mono ?_
      rintro e viz ⟨rfl, hb_viz⟩
      obtain ⟨hc_viz, hf_viz⟩ := bcell hb_viz
      have hz_viz := hb_viz.size
      try simp at hz_viz
      have hB_viz : Below w.heap.size w viz := Below.trans (by go_grown) (hb_viz.mono (by go_size))
      have hs_viz_0 : w.heap.size < viz.heap.size := by omega
      have hs_viz_1 : w1.heap.size < viz.heap.size := by omega
      go_wp2_with fail
      refine (Z1.out (by trivial) _).mono ?_
      rintro e vZ1 ⟨rfl, hb_vZ1⟩
      obtain ⟨hc_vZ1, hf_vZ1⟩ := bcell hb_vZ1
      have hz_vZ1 := hb_vZ1.size
      try simp at hz_vZ1
      have hB_vZ1 : Below w.heap.size w vZ1 := Below.trans (by go_grown) (hb_vZ1.mono (by go_size))
      have hs_vZ1_0 : w.heap.size < vZ1.heap.size := by omega
      have hs_vZ1_1 : w1.heap.size < vZ1.heap.size := by omega
      go_wp2_with fail
      refine (Z2.out (by trivial) _).mono ?_
      rintro e vZ2 ⟨rfl, hb_vZ2⟩
      obtain ⟨hc_vZ2, hf_vZ2⟩ := bcell hb_vZ2
      have hz_vZ2 := hb_vZ2.size
      try simp at hz_vZ2
      have hB_vZ2 : Below w.heap.size w vZ2 := Below.trans (by go_grown) (hb_vZ2.mono (by go_size))
      have hs_vZ2_0 : w.heap.size < vZ2.heap.size := by omega
      have hs_vZ2_1 : w1.heap.size < vZ2.heap.size := by omega
      go_wp2_with fail
      refine (LV.out _).mono ?_
      rintro e w11 ⟨rfl, hb_w11⟩
      obtain ⟨hc_w11, hf_w11⟩ := bcell hb_w11
      have hz_w11 := hb_w11.size
      try simp at hz_w11
      have hB_w11 : Below w.heap.size w w11 := Below.trans (by go_grown) (hb_w11.mono (by go_size))
      go_wp2_with fail
      refine bodyPost_ret (by simp [results, Try.results4, go_sem, *]; try rfl) rfl ?_
      exact ⟨rfl, by go_grown⟩
  · go_wp2_with fail
    refine (Q1.out h5 (by trivial) _).mono ?_
    rintro e u0 ⟨rfl, hb_u0⟩
    obtain ⟨hc_u0, hf_u0⟩ := bcell hb_u0
    have hz_u0 := hb_u0.size
    try simp at hz_u0
    have hB_u0 : Below w.heap.size w u0 := Below.trans (by go_grown) (hb_u0.mono (by go_size))
    have hs_u0_0 : w.heap.size < u0.heap.size := by omega
    have hs_u0_1 : w1.heap.size < u0.heap.size := by omega
    go_wp2_with fail
    clear Q1 Q2 h5
    have hi5 := HI5.out
    clear HI5
    rcases hi5 with rfl | ⟨rfl, rfl⟩ | ⟨rfl, rfl, rfl⟩ | ⟨rfl, rfl, rfl, rfl⟩ | ⟨rfl, rfl, rfl, rfl⟩
    · refine (Ria.out _).mono ?_
      rintro e via ⟨rfl, hb_via⟩
      obtain ⟨hc_via, hf_via⟩ := bcell hb_via
      have hz_via := hb_via.size
      try simp at hz_via
      have hB_via : Below w.heap.size w via := Below.trans (by go_grown) (hb_via.mono (by go_size))
      have hs_via_0 : w.heap.size < via.heap.size := by omega
      have hs_via_1 : w1.heap.size < via.heap.size := by omega
      go_wp2_with fail
      refine (LV.out _).mono ?_
      rintro e w11 ⟨rfl, hb_w11⟩
      obtain ⟨hc_w11, hf_w11⟩ := bcell hb_w11
      have hz_w11 := hb_w11.size
      try simp at hz_w11
      have hB_w11 : Below w.heap.size w w11 := Below.trans (by go_grown) (hb_w11.mono (by go_size))
      go_wp2_with fail
      refine bodyPost_ret (by simp [results, Try.results4, go_sem, *]; try rfl) rfl ?_
      exact ⟨rfl, by go_grown⟩
    · refine (Ria.out _).mono ?_
      rintro e via ⟨rfl, hb_via⟩
      obtain ⟨hc_via, hf_via⟩ := bcell hb_via
      have hz_via := hb_via.size
      try simp at hz_via
      have hB_via : Below w.heap.size w via := Below.trans (by go_grown) (hb_via.mono (by go_size))
      have hs_via_0 : w.heap.size < via.heap.size := by omega
      have hs_via_1 : w1.heap.size < via.heap.size := by omega
      go_wp2_with fail
      refine (Rib.out _).mono ?_
      rintro e vib ⟨rfl, hb_vib⟩
      obtain ⟨hc_vib, hf_vib⟩ := bcell hb_vib
      have hz_vib := hb_vib.size
      try simp at hz_vib
      have hB_vib : Below w.heap.size w vib := Below.trans (by go_grown) (hb_vib.mono (by go_size))
      have hs_vib_0 : w.heap.size < vib.heap.size := by omega
      have hs_vib_1 : w1.heap.size < vib.heap.size := by omega
      go_wp2_with fail
      refine (LV.out _).mono ?_
      rintro e w11 ⟨rfl, hb_w11⟩
      obtain ⟨hc_w11, hf_w11⟩ := bcell hb_w11
      have hz_w11 := hb_w11.size
      try simp at hz_w11
      have hB_w11 : Below w.heap.size w w11 := Below.trans (by go_grown) (hb_w11.mono (by go_size))
      go_wp2_with fail
      refine bodyPost_ret (by simp [results, Try.results4, go_sem, *]; try rfl) rfl ?_
      exact ⟨rfl, by go_grown⟩
    · refine (Ria.out _).mono ?_
      rintro e via ⟨rfl, hb_via⟩
      obtain ⟨hc_via, hf_via⟩ := bcell hb_via
      have hz_via := hb_via.size
      try simp at hz_via
      have hB_via : Below w.heap.size w via := Below.trans (by go_grown) (hb_via.mono (by go_size))
      have hs_via_0 : w.heap.size < via.heap.size := by omega
      have hs_via_1 : w1.heap.size < via.heap.size := by omega
      go_wp2_with fail
      refine (Rib.out _).mono ?_
      rintro e vib ⟨rfl, hb_vib⟩
      obtain ⟨hc_vib, hf_vib⟩ := bcell hb_vib
      have hz_vib := hb_vib.size
      try simp at hz_vib
      have hB_vib : Below w.heap.size w vib := Below.trans (by go_grown) (hb_vib.mono (by go_size))
      have hs_vib_0 : w.heap.size < vib.heap.size := by omega
      have hs_vib_1 : w1.heap.size < vib.heap.size := by omega
      go_wp2_with fail
      refine (Ric.out _).mono ?_
      rintro e vic ⟨rfl, hb_vic⟩
      obtain ⟨hc_vic, hf_vic⟩ := bcell hb_vic
      have hz_vic := hb_vic.size
      try simp at hz_vic
      have hB_vic : Below w.heap.size w vic := Below.trans (by go_grown) (hb_vic.mono (by go_size))
      have hs_vic_0 : w.heap.size < vic.heap.size := by omega
      have hs_vic_1 : w1.heap.size < vic.heap.size := by omega
      go_wp2_with fail
      refine (LV.out _).mono ?_
      rintro e w11 ⟨rfl, hb_w11⟩
      obtain ⟨hc_w11, hf_w11⟩ := bcell hb_w11
      have hz_w11 := hb_w11.size
      try simp at hz_w11
      have hB_w11 : Below w.heap.size w w11 := Below.trans (by go_grown) (hb_w11.mono (by go_size))
      go_wp2_with fail
      refine bodyPost_ret (by simp [results, Try.results4, go_sem, *]; try rfl) rfl ?_
      exact ⟨rfl, by go_grown⟩
    · refine (Ria.out _).mono ?_
      rintro e via ⟨rfl, hb_via⟩
      obtain ⟨hc_via, hf_via⟩ := bcell hb_via
      have hz_via := hb_via.size
      try simp at hz_via
      have hB_via : Below w.heap.size w via := Below.trans (by go_grown) (hb_via.mono (by go_size))
      have hs_via_0 : w.heap.size < via.heap.size := by omega
      have hs_via_1 : w1.heap.size < via.heap.size := by omega
      go_wp2_with fail
      refine (Rib.out _).mono ?_
      rintro e vib ⟨rfl, hb_vib⟩
      obtain ⟨hc_vib, hf_vib⟩ := bcell hb_vib
      have hz_vib := hb_vib.size
      try simp at hz_vib
      have hB_vib : Below w.heap.size w vib := Below.trans (by go_grown) (hb_vib.mono (by go_size))
      have hs_vib_0 : w.heap.size < vib.heap.size := by omega
      have hs_vib_1 : w1.heap.size < vib.heap.size := by omega
      go_wp2_with fail
      refine (Ric.out _).mono ?_
      rintro e vic ⟨rfl, hb_vic⟩
      obtain ⟨hc_vic, hf_vic⟩ := bcell hb_vic
      have hz_vic := hb_vic.size
      try simp at hz_vic
      have hB_vic : Below w.heap.size w vic := Below.trans (by go_grown) (hb_vic.mono (by go_size))
      have hs_vic_0 : w.heap.size < vic.heap.size := by omega
      have hs_vic_1 : w1.heap.size < vic.heap.size := by omega
      go_wp2_with fail
      refine (Riz.out _).mono ?_
      rintro e viz ⟨rfl, hb_viz⟩
      obtain ⟨hc_viz, hf_viz⟩ := bcell hb_viz
      have hz_viz := hb_viz.size
      try simp at hz_viz
      have hB_viz : Below w.heap.size w viz := Below.trans (by go_grown) (hb_viz.mono (by go_size))
      have hs_viz_0 : w.heap.size < viz.heap.size := by omega
      have hs_viz_1 : w1.heap.size < viz.heap.size := by omega
      go_wp2_with fail
      refine (LV.out _).mono ?_
      rintro e w11 ⟨rfl, hb_w11⟩
      obtain ⟨hc_w11, hf_w11⟩ := bcell hb_w11
      have hz_w11 := hb_w11.size
      try simp at hz_w11
      have hB_w11 : Below w.heap.size w w11 := Below.trans (by go_grown) (hb_w11.mono (by go_size))
      go_wp2_with fail
      refine bodyPost_ret (by simp [results, Try.results4, go_sem, *]; try rfl) rfl ?_
      exact ⟨rfl, by go_grown⟩
    · refine (Ria.out _).mono ?_
      rintro e via ⟨rfl, hb_via⟩
      obtain ⟨hc_via, hf_via⟩ := bcell hb_via
      have hz_via := hb_via.size
      try simp at hz_via
      have hB_via : Below w.heap.size w via := Below.trans (by go_grown) (hb_via.mono (by go_size))
      have hs_via_0 : w.heap.size < via.heap.size := by omega
      have hs_via_1 : w1.heap.size < via.heap.size := by omega
      go_wp2_with fail
      refine (Rib.out _).mono ?_
      rintro e vib ⟨rfl, hb_vib⟩
      obtain ⟨hc_vib, hf_vib⟩ := bcell hb_vib
      have hz_vib := hb_vib.size
      try simp at hz_vib
      have hB_vib : Below w.heap.size w vib := Below.trans (by go_grown) (hb_vib.mono (by go_size))
      have hs_vib_0 : w.heap.size < vib.heap.size := by omega
      have hs_vib_1 : w1.heap.size < vib.heap.size := by omega
      go_wp2_with fail
      refine (Ric.out _).mono ?_
      rintro e vic ⟨rfl, hb_vic⟩
      obtain ⟨hc_vic, hf_vic⟩ := bcell hb_vic
      have hz_vic := hb_vic.size
      try simp at hz_vic
      have hB_vic : Below w.heap.size w vic := Below.trans (by go_grown) (hb_vic.mono (by go_size))
      have hs_vic_0 : w.heap.size < vic.heap.size := by omega
      have hs_vic_1 : w1.heap.size < vic.heap.size := by omega
      go_wp2_with fail
      refine (Riz.out _).mono ?_
      rintro e viz ⟨rfl, hb_viz⟩
      obtain ⟨hc_viz, hf_viz⟩ := bcell hb_viz
      have hz_viz := hb_viz.size
      try simp at hz_viz
      have hB_viz : Below w.heap.size w viz := Below.trans (by go_grown) (hb_viz.mono (by go_size))
      have hs_viz_0 : w.heap.size < viz.heap.size := by omega
      have hs_viz_1 : w1.heap.size < viz.heap.size := by omega
      go_wp2_with fail
      refine (Z1.out (by trivial) _).mono ?_
      rintro e vZ1 ⟨rfl, hb_vZ1⟩
      obtain ⟨hc_vZ1, hf_vZ1⟩ := bcell hb_vZ1
      have hz_vZ1 := hb_vZ1.size
      try simp at hz_vZ1
      have hB_vZ1 : Below w.heap.size w vZ1 := Below.trans (by go_grown) (hb_vZ1.mono (by go_size))
      have hs_vZ1_0 : w.heap.size < vZ1.heap.size := by omega
      have hs_vZ1_1 : w1.heap.size < vZ1.heap.size := by omega
      go_wp2_with fail
      refine (Z2.out (by trivial) _).mono ?_
      rintro e vZ2 ⟨rfl, hb_vZ2⟩
      obtain ⟨hc_vZ2, hf_vZ2⟩ := bcell hb_vZ2
      have hz_vZ2 := hb_vZ2.size
      try simp at hz_vZ2
      have hB_vZ2 : Below w.heap.size w vZ2 := Below.trans (by go_grown) (hb_vZ2.mono (by go_size))
      have hs_vZ2_0 : w.heap.size < vZ2.heap.size := by omega
      have hs_vZ2_1 : w1.heap.size < vZ2.heap.size := by omega
      go_wp2_with fail
      refine (LV.out _).mono ?_
      rintro e w11 ⟨rfl, hb_w11⟩
      obtain ⟨hc_w11, hf_w11⟩ := bcell hb_w11
      have hz_w11 := hb_w11.size
      try simp at hz_w11
      have hB_w11 : Below w.heap.size w w11 := Below.trans (by go_grown) (hb_w11.mono (by go_size))
      go_wp2_with fail
      refine bodyPost_ret (by simp [results, Try.results4, go_sem, *]; try rfl) rfl ?_
      exact ⟨rfl, by go_grown⟩
  · go_wp2_with fail
    refine (Q1.out h5 (by trivial) _).mono ?_
    rintro e u0 ⟨rfl, hb_u0⟩
    obtain ⟨hc_u0, hf_u0⟩ := bcell hb_u0
    have hz_u0 := hb_u0.size
    try simp at hz_u0
    have hB_u0 : Below w.heap.size w u0 := Below.trans (by go_grown) (hb_u0.mono (by go_size))
    have hs_u0_0 : w.heap.size < u0.heap.size := by omega
    have hs_u0_1 : w1.heap.size < u0.heap.size := by omega
    go_wp2_with fail
    refine (Q2.out h5 (by trivial) _).mono ?_
    rintro e u1 ⟨rfl, hb_u1⟩
    obtain ⟨hc_u1, hf_u1⟩ := bcell hb_u1
    have hz_u1 := hb_u1.size
    try simp at hz_u1
    have hB_u1 : Below w.heap.size w u1 := Below.trans (by go_grown) (hb_u1.mono (by go_size))
    have hs_u1_0 : w.heap.size < u1.heap.size := by omega
    have hs_u1_1 : w1.heap.size < u1.heap.size := by omega
    go_wp2_with fail
    clear Q1 Q2 h5
    have hi5 := HI5.out
    clear HI5
    rcases hi5 with rfl | ⟨rfl, rfl⟩ | ⟨rfl, rfl, rfl⟩ | ⟨rfl, rfl, rfl, rfl⟩ | ⟨rfl, rfl, rfl, rfl⟩
    · refine (Ria.out _).mono ?_
      rintro e via ⟨rfl, hb_via⟩
      obtain ⟨hc_via, hf_via⟩ := bcell hb_via
      have hz_via := hb_via.size
      try simp at hz_via
      have hB_via : Below w.heap.size w via := Below.trans (by go_grown) (hb_via.mono (by go_size))
      have hs_via_0 : w.heap.size < via.heap.size := by omega
      have hs_via_1 : w1.heap.size < via.heap.size := by omega
      go_wp2_with fail
      refine (LV.out _).mono ?_
      rintro e w11 ⟨rfl, hb_w11⟩
      obtain ⟨hc_w11, hf_w11⟩ := bcell hb_w11
      have hz_w11 := hb_w11.size
      try simp at hz_w11
      have hB_w11 : Below w.heap.size w w11 := Below.trans (by go_grown) (hb_w11.mono (by go_size))
      go_wp2_with fail
      refine bodyPost_ret (by simp [results, Try.results4, go_sem, *]; try rfl) rfl ?_
      exact ⟨rfl, by go_grown⟩
    · refine (Ria.out _).mono ?_
      rintro e via ⟨rfl, hb_via⟩
      obtain ⟨hc_via, hf_via⟩ := bcell hb_via
      have hz_via := hb_via.size
      try simp at hz_via
      have hB_via : Below w.heap.size w via := Below.trans (by go_grown) (hb_via.mono (by go_size))
      have hs_via_0 : w.heap.size < via.heap.size := by omega
      have hs_via_1 : w1.heap.size < via.heap.size := by omega
      go_wp2_with fail
      refine (Rib.out _).mono ?_
      rintro e vib ⟨rfl, hb_vib⟩
      obtain ⟨hc_vib, hf_vib⟩ := bcell hb_vib
      have hz_vib := hb_vib.size
      try simp at hz_vib
      have hB_vib : Below w.heap.size w vib := Below.trans (by go_grown) (hb_vib.mono (by go_size))
      have hs_vib_0 : w.heap.size < vib.heap.size := by omega
      have hs_vib_1 : w1.heap.size < vib.heap.size := by omega
      go_wp2_with fail
      refine (LV.out _).mono ?_
      rintro e w11 ⟨rfl, hb_w11⟩
      obtain ⟨hc_w11, hf_w11⟩ := bcell hb_w11
      have hz_w11 := hb_w11.size
      try simp at hz_w11
      have hB_w11 : Below w.heap.size w w11 := Below.trans (by go_grown) (hb_w11.mono (by go_size))
      go_wp2_with fail
      refine bodyPost_ret (by simp [results, Try.results4, go_sem, *]; try rfl) rfl ?_
      exact ⟨rfl, by go_grown⟩
    · refine (Ria.out _).mono ?_
      rintro e via ⟨rfl, hb_via⟩
      obtain ⟨hc_via, hf_via⟩ := bcell hb_via
      have hz_via := hb_via.size
      try simp at hz_via
      have hB_via : Below w.heap.size w via := Below.trans (by go_grown) (hb_via.mono (by go_size))
      have hs_via_0 : w.heap.size < via.heap.size := by omega
      have hs_via_1 : w1.heap.size < via.heap.size := by omega
      go_wp2_with fail
      refine (Rib.out _).mono ?_
      rintro e vib ⟨rfl, hb_vib⟩
      obtain ⟨hc_vib, hf_vib⟩ := bcell hb_vib
      have hz_vib := hb_vib.size
      try simp at hz_vib
      have hB_vib : Below w.heap.size w vib := Below.trans (by go_grown) (hb_vib.mono (by go_size))
      have hs_vib_0 : w.heap.size < vib.heap.size := by omega
      have hs_vib_1 : w1.heap.size < vib.heap.size := by omega
      go_wp2_with fail
      refine (Ric.out _).mono ?_
      rintro e vic ⟨rfl, hb_vic⟩
      obtain ⟨hc_vic, hf_vic⟩ := bcell hb_vic
      have hz_vic := hb_vic.size
      try simp at hz_vic
      have hB_vic : Below w.heap.size w vic := Below.trans (by go_grown) (hb_vic.mono (by go_size))
      have hs_vic_0 : w.heap.size < vic.heap.size := by omega
      have hs_vic_1 : w1.heap.size < vic.heap.size := by omega
      go_wp2_with fail
      refine (LV.out _).mono ?_
      rintro e w11 ⟨rfl, hb_w11⟩
      obtain ⟨hc_w11, hf_w11⟩ := bcell hb_w11
      have hz_w11 := hb_w11.size
      try simp at hz_w11
      have hB_w11 : Below w.heap.size w w11 := Below.trans (by go_grown) (hb_w11.mono (by go_size))
      go_wp2_with fail
      refine bodyPost_ret (by simp [results, Try.results4, go_sem, *]; try rfl) rfl ?_
      exact ⟨rfl, by go_grown⟩
    · refine (Ria.out _).mono ?_
      rintro e via ⟨rfl, hb_via⟩
      obtain ⟨hc_via, hf_via⟩ := bcell hb_via
      have hz_via := hb_via.size
      try simp at hz_via
      have hB_via : Below w.heap.size w via := Below.trans (by go_grown) (hb_via.mono (by go_size))
      have hs_via_0 : w.heap.size < via.heap.size := by omega
      have hs_via_1 : w1.heap.size < via.heap.size := by omega
      go_wp2_with fail
      refine (Rib.out _).mono ?_
      rintro e vib ⟨rfl, hb_vib⟩
      obtain ⟨hc_vib, hf_vib⟩ := bcell hb_vib
      have hz_vib := hb_vib.size
      try simp at hz_vib
      have hB_vib : Below w.heap.size w vib := Below.trans (by go_grown) (hb_vib.mono (by go_size))
      have hs_vib_0 : w.heap.size < vib.heap.size := by omega
      have hs_vib_1 : w1.heap.size < vib.heap.size := by omega
      go_wp2_with fail
      refine (Ric.out _).mono ?_
      rintro e vic ⟨rfl, hb_vic⟩
      obtain ⟨hc_vic, hf_vic⟩ := bcell hb_vic
      have hz_vic := hb_vic.size
      try simp at hz_vic
      have hB_vic : Below w.heap.size w vic := Below.trans (by go_grown) (hb_vic.mono (by go_size))
      have hs_vic_0 : w.heap.size < vic.heap.size := by omega
      have hs_vic_1 : w1.heap.size < vic.heap.size := by omega
      go_wp2_with fail
      refine (Riz.out _).mono ?_
      rintro e viz ⟨rfl, hb_viz⟩
      obtain ⟨hc_viz, hf_viz⟩ := bcell hb_viz
      have hz_viz := hb_viz.size
      try simp at hz_viz
      have hB_viz : Below w.heap.size w viz := Below.trans (by go_grown) (hb_viz.mono (by go_size))
      have hs_viz_0 : w.heap.size < viz.heap.size := by omega
      have hs_viz_1 : w1.heap.size < viz.heap.size := by omega
      go_wp2_with fail
      refine (LV.out _).mono ?_
      rintro e w11 ⟨rfl, hb_w11⟩
      obtain ⟨hc_w11, hf_w11⟩ := bcell hb_w11
      have hz_w11 := hb_w11.size
      try simp at hz_w11
      have hB_w11 : Below w.heap.size w w11 := Below.trans (by go_grown) (hb_w11.mono (by go_size))
      go_wp2_with fail
      refine bodyPost_ret (by simp [results, Try.results4, go_sem, *]; try rfl) rfl ?_
      exact ⟨rfl, by go_grown⟩
    · refine (Ria.out _).mono ?_
      rintro e via ⟨rfl, hb_via⟩
      obtain ⟨hc_via, hf_via⟩ := bcell hb_via
      have hz_via := hb_via.size
      try simp at hz_via
      have hB_via : Below w.heap.size w via := Below.trans (by go_grown) (hb_via.mono (by go_size))
      have hs_via_0 : w.heap.size < via.heap.size := by omega
      have hs_via_1 : w1.heap.size < via.heap.size := by omega
      go_wp2_with fail
      refine (Rib.out _).mono ?_
      rintro e vib ⟨rfl, hb_vib⟩
      obtain ⟨hc_vib, hf_vib⟩ := bcell hb_vib
      have hz_vib := hb_vib.size
      try simp at hz_vib
      have hB_vib : Below w.heap.size w vib := Below.trans (by go_grown) (hb_vib.mono (by go_size))
      have hs_vib_0 : w.heap.size < vib.heap.size := by omega
      have hs_vib_1 : w1.heap.size < vib.heap.size := by omega
      go_wp2_with fail
      refine (Ric.out _).mono ?_
      rintro e vic ⟨rfl, hb_vic⟩
      obtain ⟨hc_vic, hf_vic⟩ := bcell hb_vic
      have hz_vic := hb_vic.size
      try simp at hz_vic
      have hB_vic : Below w.heap.size w vic := Below.trans (by go_grown) (hb_vic.mono (by go_size))
      have hs_vic_0 : w.heap.size < vic.heap.size := by omega
      have hs_vic_1 : w1.heap.size < vic.heap.size := by omega
      go_wp2_with fail
      refine (Riz.out _).mono ?_
      rintro e viz ⟨rfl, hb_viz⟩
      obtain ⟨hc_viz, hf_viz⟩ := bcell hb_viz
      have hz_viz := hb_viz.size
      try simp at hz_viz
      have hB_viz : Below w.heap.size w viz := Below.trans (by go_grown) (hb_viz.mono (by go_size))
      have hs_viz_0 : w.heap.size < viz.heap.size := by omega
      have hs_viz_1 : w1.heap.size < viz.heap.size := by omega
      go_wp2_with fail
      refine (Z1.out (by trivial) _).mono ?_
      rintro e vZ1 ⟨rfl, hb_vZ1⟩
      obtain ⟨hc_vZ1, hf_vZ1⟩ := bcell hb_vZ1
      have hz_vZ1 := hb_vZ1.size
      try simp at hz_vZ1
      have hB_vZ1 : Below w.heap.size w vZ1 := Below.trans (by go_grown) (hb_vZ1.mono (by go_size))
      have hs_vZ1_0 : w.heap.size < vZ1.heap.size := by omega
      have hs_vZ1_1 : w1.heap.size < vZ1.heap.size := by omega
      go_wp2_with fail
      refine (Z2.out (by trivial) _).mono ?_
      rintro e vZ2 ⟨rfl, hb_vZ2⟩
      obtain ⟨hc_vZ2, hf_vZ2⟩ := bcell hb_vZ2
      have hz_vZ2 := hb_vZ2.size
      try simp at hz_vZ2
      have hB_vZ2 : Below w.heap.size w vZ2 := Below.trans (by go_grown) (hb_vZ2.mono (by go_size))
      have hs_vZ2_0 : w.heap.size < vZ2.heap.size := by omega
      have hs_vZ2_1 : w1.heap.size < vZ2.heap.size := by omega
      go_wp2_with fail
      refine (LV.out _).mono ?_
      rintro e w11 ⟨rfl, hb_w11⟩
      obtain ⟨hc_w11, hf_w11⟩ := bcell hb_w11
      have hz_w11 := hb_w11.size
      try simp at hz_w11
      have hB_w11 : Below w.heap.size w w11 := Below.trans (by go_grown) (hb_w11.mono (by go_size))
      go_wp2_with fail
      refine bodyPost_ret (by simp [results, Try.results4, go_sem, *]; try rfl) rfl ?_
      exact ⟨rfl, by go_grown⟩


end Go.Proofs.Ytpjgghakeaajbaa
