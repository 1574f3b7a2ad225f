/-
  SegMoved: the walk.
-/
import Derived.Test.YtpjgghakeaajbaaMovedP
import Derived.Test.YtpjgghakeaajbaaOpenQuad
import Derived.Laws.Bits128
namespace Go.Proofs.Ytpjgghakeaajbaa
open Go.RowKit

theorem i64_and3 (n : Int) : bits .and .i64 n 3 = n % 4 := by
  have h3 : (BitVec.ofInt 64 3).toNat = 2 ^ 2 - 1 := by decide
  have key : (BitVec.ofInt 64 n &&& BitVec.ofInt 64 3).toNat = (n % ((2 ^ 64 : Nat) : Int)).toNat % 2 ^ 2 := by
    rw [BitVec.toNat_and, BitVec.toNat_ofInt, h3, Nat.and_two_pow_sub_one_eq_mod]
  show IntKind.i64.wrap ((BitVec.ofInt 64 n &&& BitVec.ofInt 64 3).toNat : Nat) = n % 4
  rw [key, IntKind.wrap_i64]
  omega

/-- moved, at one point: a point and whether it is told. -/
def MovedAt (m : Bool) (K : Nat) (d p p' : Pt) (i : Bool) : Prop :=
  (∀ W, Calls Try.prog 19 #[.agg #[.int .i32 p.1, .int .i32 p.2], .bool m, .int .i64 (K : Int), .int .i64 d.1, .int .i64 d.2] W fun e w' => e = .returned (.tuple #[.agg #[.int .i32 p'.1, .int .i32 p'.2], .bool i]) ∧ Below W.heap.size W w') ∧ (i = true → p' = mvq m K d p ∧ inP p' = true)
theorem moved_at (m : Bool) (K : Nat) (d p : Pt) (hp : I32 p.1 ∧ I32 p.2) (hK : K ≤ 3) (hd : I64 d.1 ∧ I64 d.2) : ∃ p' i, MovedAt m K d p p' i := by
  refine ⟨if mvOk m K d p then mvq m K d p else p, mvOk m K d p, fun W => moved_any p m K d hp hK hd W, fun h => ?_⟩
  rw [if_pos h]
  unfold mvOk at h
  simp only [Bool.and_eq_true] at h
  exact ⟨rfl, h.2⟩

theorem nine (a b c d e f g h : Bool) : a = false ∨ (a = true ∧ b = false) ∨ (a = true ∧ b = true ∧ c = false) ∨ (a = true ∧ b = true ∧ c = true ∧ d = false) ∨
    (a = true ∧ b = true ∧ c = true ∧ d = true ∧ e = false) ∨ (a = true ∧ b = true ∧ c = true ∧ d = true ∧ e = true ∧ f = false) ∨ (a = true ∧ b = true ∧ c = true ∧ d = true ∧ e = true ∧ f = true ∧ g = false) ∨
    (a = true ∧ b = true ∧ c = true ∧ d = true ∧ e = true ∧ f = true ∧ g = true ∧ h = false) ∨ (a = true ∧ b = true ∧ c = true ∧ d = true ∧ e = true ∧ f = true ∧ g = true ∧ h = true) := by
  cases a <;> cases b <;> cases c <;> cases d <;> cases e <;> cases f <;> cases g <;> cases h <;> simp

set_option maxHeartbeats 1600000 in
set_option maxRecDepth 100000 in
theorem segMoved_core (H : MeetSays) (a b c d : Pt) (m : Bool) (q x y r : Int) (ha : I32 a.1 ∧ I32 a.2) (hb : I32 b.1 ∧ I32 b.2) (hc : I32 c.1 ∧ I32 c.2) (hd : I32 d.1 ∧ I32 d.2) (hx : I64 x) (hy : I64 y) (hr : I64 r) (w : World) :
    Calls Try.prog 6 #[.agg #[.int .i32 a.1, .int .i32 a.2, .int .i32 b.1, .int .i32 b.2, .int .i32 c.1, .int .i32 c.2, .int .i32 d.1, .int .i32 d.2], .agg #[.bool m, .int .i64 q, .int .i64 x, .int .i64 y], .int .i64 r] w fun e w' => e = .returned (.bool true) ∧ Below w.heap.size w w' := by
  obtain ⟨K, hK⟩ : ∃ K : Nat, q % 4 = (K : Int) := ⟨(q % 4).toNat, by omega⟩
  have hK3 : K ≤ 3 := by omega
  have hbits : bits .and .i64 q 3 = (K : Int) := (i64_and3 q).trans hK
  clear hK
  obtain ⟨a', i, MA, ka⟩ := moved_at m K (x, y) a ha hK3 ⟨hx, hy⟩
  obtain ⟨b', j, MB, kb⟩ := moved_at m K (x, y) b hb hK3 ⟨hx, hy⟩
  obtain ⟨c', k, MC, kc⟩ := moved_at m K (x, y) c hc hK3 ⟨hx, hy⟩
  obtain ⟨d', n, MD, kd⟩ := moved_at m K (x, y) d hd hK3 ⟨hx, hy⟩
  have ra := fun W => rin_any a W
  have rb := fun W => rin_any b W
  have rc := fun W => rin_any c W
  have rd' := fun W => rin_any d W
  have LV := Lib.hid (fun W => lives_of H W)
  have MA' := Lib.hid MA
  have MB' := Lib.hid MB
  have MC' := Lib.hid MC
  have MD' := Lib.hid MD
  clear MA MB MC MD ha hb hc hd hx hy hK3
  obtain ⟨ia, hia⟩ : ∃ z, inP a = z := ⟨_, rfl⟩
  obtain ⟨ib, hib⟩ : ∃ z, inP b = z := ⟨_, rfl⟩
  obtain ⟨ic, hic⟩ : ∃ z, inP c = z := ⟨_, rfl⟩
  obtain ⟨iz, hiz⟩ : ∃ z, inP d = z := ⟨_, rfl⟩
  have hall : (i = true ∧ j = true ∧ k = true ∧ n = true ∧ ia = true ∧ ib = true ∧ ic = true ∧ iz = true) → meet a' b' c' d' = meet a b c d ∧ foot a' c' d' = foot a c d ∧ near a' c' d' r = near a c d r ∧ nearSeg a' b' c' d' r = nearSeg a b c d r := by
    rintro ⟨rfl, rfl, rfl, rfl, rfl, rfl, rfl, rfl⟩
    obtain ⟨rfl, ja⟩ := ka rfl
    obtain ⟨rfl, jb⟩ := kb rfl
    obtain ⟨rfl, jc⟩ := kc rfl
    obtain ⟨rfl, jd⟩ := kd rfl
    have hI := iso_mvq m K (x, y)
    exact ⟨hI.meet (by rw [hia, hib, hic, hiz]; rfl) (by rw [ja, jb, jc, jd]; rfl), hI.foot (by rw [hia, hic, hiz]; rfl) (by rw [ja, jc, jd]; rfl), hI.near r (by rw [hia, hic, hiz]; rfl) (by rw [ja, jc, jd]; rfl), hI.nearSeg r (by rw [hia, hib, hic, hiz]; rfl) (by rw [ja, jb, jc, jd]; rfl)⟩
  rw [hia] at ra
  rw [hib] at rb
  rw [hic] at rc
  rw [hiz] at rd'
  have RA := Lib.hid ra
  have RB := Lib.hid rb
  have RC := Lib.hid rc
  have RD := Lib.hid rd'
  obtain ⟨⟨mk, mi, ⟨f1, f2⟩, ⟨g1, g2⟩⟩, hm⟩ : ∃ z, meet a b c d = z := ⟨_, rfl⟩
  obtain ⟨⟨u, v⟩, hf⟩ : ∃ z, foot a c d = z := ⟨_, rfl⟩
  obtain ⟨pn, hp⟩ : ∃ z, near a c d r = z := ⟨_, rfl⟩
  obtain ⟨qn, hq⟩ : ∃ z, nearSeg a b c d r = z := ⟨_, rfl⟩
  have m1 := fun h W => by have z := H a' b' c' d' W; rw [(hall h).1, hm] at z; exact z
  have m2 := fun W => H a b c d W
  rw [hm] at m2
  have f1' := fun h W => by have z := foot_any a' c' d' W; rw [(hall h).2.1, hf] at z; exact z
  have f2' := fun W => foot_any a c d W
  rw [hf] at f2'
  have p1 := fun h W => by have z := near_any a' c' d' r hr W; rw [(hall h).2.2.1, hp] at z; exact z
  have p2 := fun W => near_any a c d r hr W
  rw [hp] at p2
  have q1 := fun h W => by have z := nearSeg_of H a' b' c' d' r hr W; rw [(hall h).2.2.2, hq] at z; exact z
  have q2 := fun W => nearSeg_of H a b c d r hr W
  rw [hq] at q2
  have M1 := Lib.hid m1
  have M2 := Lib.hid m2
  have F1 := Lib.hid f1'
  have F2 := Lib.hid f2'
  have P1 := Lib.hid p1
  have P2 := Lib.hid p2
  have Q1 := Lib.hid q1
  have Q2 := Lib.hid q2
  have H9 := Lib.hid (nine i j k n ia ib ic iz)
  clear ra rb rc rd' hall ka kb kc kd hia hib hic hiz m1 m2 f1' f2' p1 p2 q1 q2 hm hf hp hq hr H
  go_enter Try.func6, Try.ntmps6
  go_wp2_with fail
  refine (MA'.out _).mono ?_
  rintro e w1 ⟨rfl, hb_w1⟩
  obtain ⟨hc_w1, hf_w1⟩ := bcell hb_w1
  have hz_w1 := hb_w1.size
  try simp at hz_w1
  have hB_w1 : Below w.heap.size w w1 := Below.trans (by go_grown) (hb_w1.mono (by go_size))
  have hs_w1_0 : w.heap.size < w1.heap.size := by omega
  have hs_w1_1 : w.heap.size + 1 < w1.heap.size := by omega
  go_wp2_with fail
  refine (MB'.out _).mono ?_
  rintro e w2 ⟨rfl, hb_w2⟩
  obtain ⟨hc_w2, hf_w2⟩ := bcell hb_w2
  have hz_w2 := hb_w2.size
  try simp at hz_w2
  have hB_w2 : Below w.heap.size w w2 := Below.trans (by go_grown) (hb_w2.mono (by go_size))
  have hs_w2_0 : w.heap.size < w2.heap.size := by omega
  have hs_w2_1 : w.heap.size + 1 < w2.heap.size := by omega
  have hs_w2_2 : w1.heap.size < w2.heap.size := by omega
  go_wp2_with fail
  refine (MC'.out _).mono ?_
  rintro e w3 ⟨rfl, hb_w3⟩
  obtain ⟨hc_w3, hf_w3⟩ := bcell hb_w3
  have hz_w3 := hb_w3.size
  try simp at hz_w3
  have hB_w3 : Below w.heap.size w w3 := Below.trans (by go_grown) (hb_w3.mono (by go_size))
  have hs_w3_0 : w.heap.size < w3.heap.size := by omega
  have hs_w3_1 : w.heap.size + 1 < w3.heap.size := by omega
  have hs_w3_2 : w1.heap.size < w3.heap.size := by omega
  have hs_w3_3 : w2.heap.size < w3.heap.size := by omega
  go_wp2_with fail
  refine (MD'.out _).mono ?_
  rintro e w4 ⟨rfl, hb_w4⟩
  obtain ⟨hc_w4, hf_w4⟩ := bcell hb_w4
  have hz_w4 := hb_w4.size
  try simp at hz_w4
  have hB_w4 : Below w.heap.size w w4 := Below.trans (by go_grown) (hb_w4.mono (by go_size))
  have hs_w4_0 : w.heap.size < w4.heap.size := by omega
  have hs_w4_1 : w.heap.size + 1 < w4.heap.size := by omega
  have hs_w4_2 : w1.heap.size < w4.heap.size := by omega
  have hs_w4_3 : w2.heap.size < w4.heap.size := by omega
  have hs_w4_4 : w3.heap.size < w4.heap.size := by omega
  have h9 := H9.out
  clear H9
  rcases h9 with rfl | ⟨rfl, rfl⟩ | ⟨rfl, rfl, rfl⟩ | ⟨rfl, rfl, rfl, rfl⟩ | ⟨rfl, rfl, rfl, rfl, rfl⟩ | ⟨rfl, rfl, rfl, rfl, rfl, rfl⟩ | ⟨rfl, rfl, rfl, rfl, rfl, rfl, rfl⟩ | ⟨rfl, rfl, rfl, rfl, rfl, rfl, rfl, rfl⟩ | ⟨rfl, rfl, rfl, rfl, rfl, rfl, rfl, rfl⟩
  · go_wp2_with fail
    refine (LV.out _).mono ?_
    rintro e w9 ⟨rfl, hb_w9⟩
    obtain ⟨hc_w9, hf_w9⟩ := bcell hb_w9
    have hz_w9 := hb_w9.size
    try simp at hz_w9
    have hB_w9 : Below w.heap.size w w9 := Below.trans (by go_grown) (hb_w9.mono (by go_size))
    have hs_w9_0 : w.heap.size < w9.heap.size := by omega
    have hs_w9_1 : w.heap.size + 1 < w9.heap.size := by omega
    have hs_w9_2 : w1.heap.size < w9.heap.size := by omega
    have hs_w9_3 : w2.heap.size < w9.heap.size := by omega
    have hs_w9_4 : w3.heap.size < w9.heap.size := by omega
    have hs_w9_5 : w4.heap.size < w9.heap.size := by omega
    go_wp2_with fail
    refine bodyPost_ret (by simp [results, Try.results6, go_sem, *]; try rfl) rfl ?_
    exact ⟨rfl, by go_grown⟩
  · go_wp2_with fail
    refine (LV.out _).mono ?_
    rintro e w9 ⟨rfl, hb_w9⟩
    obtain ⟨hc_w9, hf_w9⟩ := bcell hb_w9
    have hz_w9 := hb_w9.size
    try simp at hz_w9
    have hB_w9 : Below w.heap.size w w9 := Below.trans (by go_grown) (hb_w9.mono (by go_size))
    have hs_w9_0 : w.heap.size < w9.heap.size := by omega
    have hs_w9_1 : w.heap.size + 1 < w9.heap.size := by omega
    have hs_w9_2 : w1.heap.size < w9.heap.size := by omega
    have hs_w9_3 : w2.heap.size < w9.heap.size := by omega
    have hs_w9_4 : w3.heap.size < w9.heap.size := by omega
    have hs_w9_5 : w4.heap.size < w9.heap.size := by omega
    go_wp2_with fail
    refine bodyPost_ret (by simp [results, Try.results6, go_sem, *]; try rfl) rfl ?_
    exact ⟨rfl, by go_grown⟩
  · go_wp2_with fail
    refine (LV.out _).mono ?_
    rintro e w9 ⟨rfl, hb_w9⟩
    obtain ⟨hc_w9, hf_w9⟩ := bcell hb_w9
    have hz_w9 := hb_w9.size
    try simp at hz_w9
    have hB_w9 : Below w.heap.size w w9 := Below.trans (by go_grown) (hb_w9.mono (by go_size))
    have hs_w9_0 : w.heap.size < w9.heap.size := by omega
    have hs_w9_1 : w.heap.size + 1 < w9.heap.size := by omega
    have hs_w9_2 : w1.heap.size < w9.heap.size := by omega
    have hs_w9_3 : w2.heap.size < w9.heap.size := by omega
    have hs_w9_4 : w3.heap.size < w9.heap.size := by omega
    have hs_w9_5 : w4.heap.size < w9.heap.size := by omega
    go_wp2_with fail
    refine bodyPost_ret (by simp [results, Try.results6, go_sem, *]; try rfl) rfl ?_
    exact ⟨rfl, by go_grown⟩
  · go_wp2_with fail
    refine (LV.out _).mono ?_
    rintro e w9 ⟨rfl, hb_w9⟩
    obtain ⟨hc_w9, hf_w9⟩ := bcell hb_w9
    have hz_w9 := hb_w9.size
    try simp at hz_w9
    have hB_w9 : Below w.heap.size w w9 := Below.trans (by go_grown) (hb_w9.mono (by go_size))
    have hs_w9_0 : w.heap.size < w9.heap.size := by omega
    have hs_w9_1 : w.heap.size + 1 < w9.heap.size := by omega
    have hs_w9_2 : w1.heap.size < w9.heap.size := by omega
    have hs_w9_3 : w2.heap.size < w9.heap.size := by omega
    have hs_w9_4 : w3.heap.size < w9.heap.size := by omega
    have hs_w9_5 : w4.heap.size < w9.heap.size := by omega
    go_wp2_with fail
    refine bodyPost_ret (by simp [results, Try.results6, go_sem, *]; try rfl) rfl ?_
    exact ⟨rfl, by go_grown⟩
  · go_wp2_with fail
    refine (RA.out _).mono ?_
    rintro e w5 ⟨rfl, hb_w5⟩
    obtain ⟨hc_w5, hf_w5⟩ := bcell hb_w5
    have hz_w5 := hb_w5.size
    try simp at hz_w5
    have hB_w5 : Below w.heap.size w w5 := Below.trans (by go_grown) (hb_w5.mono (by go_size))
    have hs_w5_0 : w.heap.size < w5.heap.size := by omega
    have hs_w5_1 : w.heap.size + 1 < w5.heap.size := by omega
    have hs_w5_2 : w1.heap.size < w5.heap.size := by omega
    have hs_w5_3 : w2.heap.size < w5.heap.size := by omega
    have hs_w5_4 : w3.heap.size < w5.heap.size := by omega
    have hs_w5_5 : w4.heap.size < w5.heap.size := by omega
    go_wp2_with fail
    refine (LV.out _).mono ?_
    rintro e w9 ⟨rfl, hb_w9⟩
    obtain ⟨hc_w9, hf_w9⟩ := bcell hb_w9
    have hz_w9 := hb_w9.size
    try simp at hz_w9
    have hB_w9 : Below w.heap.size w w9 := Below.trans (by go_grown) (hb_w9.mono (by go_size))
    have hs_w9_0 : w.heap.size < w9.heap.size := by omega
    have hs_w9_1 : w.heap.size + 1 < w9.heap.size := by omega
    have hs_w9_2 : w1.heap.size < w9.heap.size := by omega
    have hs_w9_3 : w2.heap.size < w9.heap.size := by omega
    have hs_w9_4 : w3.heap.size < w9.heap.size := by omega
    have hs_w9_5 : w4.heap.size < w9.heap.size := by omega
    go_wp2_with fail
    refine bodyPost_ret (by simp [results, Try.results6, go_sem, *]; try rfl) rfl ?_
    exact ⟨rfl, by go_grown⟩
  · go_wp2_with fail
    refine (RA.out _).mono ?_
    rintro e w5 ⟨rfl, hb_w5⟩
    obtain ⟨hc_w5, hf_w5⟩ := bcell hb_w5
    have hz_w5 := hb_w5.size
    try simp at hz_w5
    have hB_w5 : Below w.heap.size w w5 := Below.trans (by go_grown) (hb_w5.mono (by go_size))
    have hs_w5_0 : w.heap.size < w5.heap.size := by omega
    have hs_w5_1 : w.heap.size + 1 < w5.heap.size := by omega
    have hs_w5_2 : w1.heap.size < w5.heap.size := by omega
    have hs_w5_3 : w2.heap.size < w5.heap.size := by omega
    have hs_w5_4 : w3.heap.size < w5.heap.size := by omega
    have hs_w5_5 : w4.heap.size < w5.heap.size := by omega
    go_wp2_with fail
    refine (RB.out _).mono ?_
    rintro e w6 ⟨rfl, hb_w6⟩
    obtain ⟨hc_w6, hf_w6⟩ := bcell hb_w6
    have hz_w6 := hb_w6.size
    try simp at hz_w6
    have hB_w6 : Below w.heap.size w w6 := Below.trans (by go_grown) (hb_w6.mono (by go_size))
    have hs_w6_0 : w.heap.size < w6.heap.size := by omega
    have hs_w6_1 : w.heap.size + 1 < w6.heap.size := by omega
    have hs_w6_2 : w1.heap.size < w6.heap.size := by omega
    have hs_w6_3 : w2.heap.size < w6.heap.size := by omega
    have hs_w6_4 : w3.heap.size < w6.heap.size := by omega
    have hs_w6_5 : w4.heap.size < w6.heap.size := by omega
    go_wp2_with fail
    refine (LV.out _).mono ?_
    rintro e w9 ⟨rfl, hb_w9⟩
    obtain ⟨hc_w9, hf_w9⟩ := bcell hb_w9
    have hz_w9 := hb_w9.size
    try simp at hz_w9
    have hB_w9 : Below w.heap.size w w9 := Below.trans (by go_grown) (hb_w9.mono (by go_size))
    have hs_w9_0 : w.heap.size < w9.heap.size := by omega
    have hs_w9_1 : w.heap.size + 1 < w9.heap.size := by omega
    have hs_w9_2 : w1.heap.size < w9.heap.size := by omega
    have hs_w9_3 : w2.heap.size < w9.heap.size := by omega
    have hs_w9_4 : w3.heap.size < w9.heap.size := by omega
    have hs_w9_5 : w4.heap.size < w9.heap.size := by omega
    go_wp2_with fail
    refine bodyPost_ret (by simp [results, Try.results6, go_sem, *]; try rfl) rfl ?_
    exact ⟨rfl, by go_grown⟩
  · go_wp2_with fail
    refine (RA.out _).mono ?_
    rintro e w5 ⟨rfl, hb_w5⟩
    obtain ⟨hc_w5, hf_w5⟩ := bcell hb_w5
    have hz_w5 := hb_w5.size
    try simp at hz_w5
    have hB_w5 : Below w.heap.size w w5 := Below.trans (by go_grown) (hb_w5.mono (by go_size))
    have hs_w5_0 : w.heap.size < w5.heap.size := by omega
    have hs_w5_1 : w.heap.size + 1 < w5.heap.size := by omega
    have hs_w5_2 : w1.heap.size < w5.heap.size := by omega
    have hs_w5_3 : w2.heap.size < w5.heap.size := by omega
    have hs_w5_4 : w3.heap.size < w5.heap.size := by omega
    have hs_w5_5 : w4.heap.size < w5.heap.size := by omega
    go_wp2_with fail
    refine (RB.out _).mono ?_
    rintro e w6 ⟨rfl, hb_w6⟩
    obtain ⟨hc_w6, hf_w6⟩ := bcell hb_w6
    have hz_w6 := hb_w6.size
    try simp at hz_w6
    have hB_w6 : Below w.heap.size w w6 := Below.trans (by go_grown) (hb_w6.mono (by go_size))
    have hs_w6_0 : w.heap.size < w6.heap.size := by omega
    have hs_w6_1 : w.heap.size + 1 < w6.heap.size := by omega
    have hs_w6_2 : w1.heap.size < w6.heap.size := by omega
    have hs_w6_3 : w2.heap.size < w6.heap.size := by omega
    have hs_w6_4 : w3.heap.size < w6.heap.size := by omega
    have hs_w6_5 : w4.heap.size < w6.heap.size := by omega
    go_wp2_with fail
    refine (RC.out _).mono ?_
    rintro e w7 ⟨rfl, hb_w7⟩
    obtain ⟨hc_w7, hf_w7⟩ := bcell hb_w7
    have hz_w7 := hb_w7.size
    try simp at hz_w7
    have hB_w7 : Below w.heap.size w w7 := Below.trans (by go_grown) (hb_w7.mono (by go_size))
    have hs_w7_0 : w.heap.size < w7.heap.size := by omega
    have hs_w7_1 : w.heap.size + 1 < w7.heap.size := by omega
    have hs_w7_2 : w1.heap.size < w7.heap.size := by omega
    have hs_w7_3 : w2.heap.size < w7.heap.size := by omega
    have hs_w7_4 : w3.heap.size < w7.heap.size := by omega
    have hs_w7_5 : w4.heap.size < w7.heap.size := by omega
    go_wp2_with fail
    refine (LV.out _).mono ?_
    rintro e w9 ⟨rfl, hb_w9⟩
    obtain ⟨hc_w9, hf_w9⟩ := bcell hb_w9
    have hz_w9 := hb_w9.size
    try simp at hz_w9
    have hB_w9 : Below w.heap.size w w9 := Below.trans (by go_grown) (hb_w9.mono (by go_size))
    have hs_w9_0 : w.heap.size < w9.heap.size := by omega
    have hs_w9_1 : w.heap.size + 1 < w9.heap.size := by omega
    have hs_w9_2 : w1.heap.size < w9.heap.size := by omega
    have hs_w9_3 : w2.heap.size < w9.heap.size := by omega
    have hs_w9_4 : w3.heap.size < w9.heap.size := by omega
    have hs_w9_5 : w4.heap.size < w9.heap.size := by omega
    go_wp2_with fail
    refine bodyPost_ret (by simp [results, Try.results6, go_sem, *]; try rfl) rfl ?_
    exact ⟨rfl, by go_grown⟩
  · go_wp2_with fail
    refine (RA.out _).mono ?_
    rintro e w5 ⟨rfl, hb_w5⟩
    obtain ⟨hc_w5, hf_w5⟩ := bcell hb_w5
    have hz_w5 := hb_w5.size
    try simp at hz_w5
    have hB_w5 : Below w.heap.size w w5 := Below.trans (by go_grown) (hb_w5.mono (by go_size))
    have hs_w5_0 : w.heap.size < w5.heap.size := by omega
    have hs_w5_1 : w.heap.size + 1 < w5.heap.size := by omega
    have hs_w5_2 : w1.heap.size < w5.heap.size := by omega
    have hs_w5_3 : w2.heap.size < w5.heap.size := by omega
    have hs_w5_4 : w3.heap.size < w5.heap.size := by omega
    have hs_w5_5 : w4.heap.size < w5.heap.size := by omega
    go_wp2_with fail
    refine (RB.out _).mono ?_
    rintro e w6 ⟨rfl, hb_w6⟩
    obtain ⟨hc_w6, hf_w6⟩ := bcell hb_w6
    have hz_w6 := hb_w6.size
    try simp at hz_w6
    have hB_w6 : Below w.heap.size w w6 := Below.trans (by go_grown) (hb_w6.mono (by go_size))
    have hs_w6_0 : w.heap.size < w6.heap.size := by omega
    have hs_w6_1 : w.heap.size + 1 < w6.heap.size := by omega
    have hs_w6_2 : w1.heap.size < w6.heap.size := by omega
    have hs_w6_3 : w2.heap.size < w6.heap.size := by omega
    have hs_w6_4 : w3.heap.size < w6.heap.size := by omega
    have hs_w6_5 : w4.heap.size < w6.heap.size := by omega
    go_wp2_with fail
    refine (RC.out _).mono ?_
    rintro e w7 ⟨rfl, hb_w7⟩
    obtain ⟨hc_w7, hf_w7⟩ := bcell hb_w7
    have hz_w7 := hb_w7.size
    try simp at hz_w7
    have hB_w7 : Below w.heap.size w w7 := Below.trans (by go_grown) (hb_w7.mono (by go_size))
    have hs_w7_0 : w.heap.size < w7.heap.size := by omega
    have hs_w7_1 : w.heap.size + 1 < w7.heap.size := by omega
    have hs_w7_2 : w1.heap.size < w7.heap.size := by omega
    have hs_w7_3 : w2.heap.size < w7.heap.size := by omega
    have hs_w7_4 : w3.heap.size < w7.heap.size := by omega
    have hs_w7_5 : w4.heap.size < w7.heap.size := by omega
    go_wp2_with fail
    refine (RD.out _).mono ?_
    rintro e w8 ⟨rfl, hb_w8⟩
    obtain ⟨hc_w8, hf_w8⟩ := bcell hb_w8
    have hz_w8 := hb_w8.size
    try simp at hz_w8
    have hB_w8 : Below w.heap.size w w8 := Below.trans (by go_grown) (hb_w8.mono (by go_size))
    have hs_w8_0 : w.heap.size < w8.heap.size := by omega
    have hs_w8_1 : w.heap.size + 1 < w8.heap.size := by omega
    have hs_w8_2 : w1.heap.size < w8.heap.size := by omega
    have hs_w8_3 : w2.heap.size < w8.heap.size := by omega
    have hs_w8_4 : w3.heap.size < w8.heap.size := by omega
    have hs_w8_5 : w4.heap.size < w8.heap.size := by omega
    go_wp2_with fail
    refine (LV.out _).mono ?_
    rintro e w9 ⟨rfl, hb_w9⟩
    obtain ⟨hc_w9, hf_w9⟩ := bcell hb_w9
    have hz_w9 := hb_w9.size
    try simp at hz_w9
    have hB_w9 : Below w.heap.size w w9 := Below.trans (by go_grown) (hb_w9.mono (by go_size))
    have hs_w9_0 : w.heap.size < w9.heap.size := by omega
    have hs_w9_1 : w.heap.size + 1 < w9.heap.size := by omega
    have hs_w9_2 : w1.heap.size < w9.heap.size := by omega
    have hs_w9_3 : w2.heap.size < w9.heap.size := by omega
    have hs_w9_4 : w3.heap.size < w9.heap.size := by omega
    have hs_w9_5 : w4.heap.size < w9.heap.size := by omega
    go_wp2_with fail
    refine bodyPost_ret (by simp [results, Try.results6, go_sem, *]; try rfl) rfl ?_
    exact ⟨rfl, by go_grown⟩
  · go_wp2_with fail
    refine (RA.out _).mono ?_
    rintro e w5 ⟨rfl, hb_w5⟩
    obtain ⟨hc_w5, hf_w5⟩ := bcell hb_w5
    have hz_w5 := hb_w5.size
    try simp at hz_w5
    have hB_w5 : Below w.heap.size w w5 := Below.trans (by go_grown) (hb_w5.mono (by go_size))
    have hs_w5_0 : w.heap.size < w5.heap.size := by omega
    have hs_w5_1 : w.heap.size + 1 < w5.heap.size := by omega
    have hs_w5_2 : w1.heap.size < w5.heap.size := by omega
    have hs_w5_3 : w2.heap.size < w5.heap.size := by omega
    have hs_w5_4 : w3.heap.size < w5.heap.size := by omega
    have hs_w5_5 : w4.heap.size < w5.heap.size := by omega
    go_wp2_with fail
    refine (RB.out _).mono ?_
    rintro e w6 ⟨rfl, hb_w6⟩
    obtain ⟨hc_w6, hf_w6⟩ := bcell hb_w6
    have hz_w6 := hb_w6.size
    try simp at hz_w6
    have hB_w6 : Below w.heap.size w w6 := Below.trans (by go_grown) (hb_w6.mono (by go_size))
    have hs_w6_0 : w.heap.size < w6.heap.size := by omega
    have hs_w6_1 : w.heap.size + 1 < w6.heap.size := by omega
    have hs_w6_2 : w1.heap.size < w6.heap.size := by omega
    have hs_w6_3 : w2.heap.size < w6.heap.size := by omega
    have hs_w6_4 : w3.heap.size < w6.heap.size := by omega
    have hs_w6_5 : w4.heap.size < w6.heap.size := by omega
    go_wp2_with fail
    refine (RC.out _).mono ?_
    rintro e w7 ⟨rfl, hb_w7⟩
    obtain ⟨hc_w7, hf_w7⟩ := bcell hb_w7
    have hz_w7 := hb_w7.size
    try simp at hz_w7
    have hB_w7 : Below w.heap.size w w7 := Below.trans (by go_grown) (hb_w7.mono (by go_size))
    have hs_w7_0 : w.heap.size < w7.heap.size := by omega
    have hs_w7_1 : w.heap.size + 1 < w7.heap.size := by omega
    have hs_w7_2 : w1.heap.size < w7.heap.size := by omega
    have hs_w7_3 : w2.heap.size < w7.heap.size := by omega
    have hs_w7_4 : w3.heap.size < w7.heap.size := by omega
    have hs_w7_5 : w4.heap.size < w7.heap.size := by omega
    go_wp2_with fail
    refine (RD.out _).mono ?_
    rintro e w8 ⟨rfl, hb_w8⟩
    obtain ⟨hc_w8, hf_w8⟩ := bcell hb_w8
    have hz_w8 := hb_w8.size
    try simp at hz_w8
    have hB_w8 : Below w.heap.size w w8 := Below.trans (by go_grown) (hb_w8.mono (by go_size))
    have hs_w8_0 : w.heap.size < w8.heap.size := by omega
    have hs_w8_1 : w.heap.size + 1 < w8.heap.size := by omega
    have hs_w8_2 : w1.heap.size < w8.heap.size := by omega
    have hs_w8_3 : w2.heap.size < w8.heap.size := by omega
    have hs_w8_4 : w3.heap.size < w8.heap.size := by omega
    have hs_w8_5 : w4.heap.size < w8.heap.size := by omega
    go_wp2_with fail
    have M1 := Lib.hid (M1.out (by simp))
    have F1 := Lib.hid (F1.out (by simp))
    have P1 := Lib.hid (P1.out (by simp))
    have Q1 := Lib.hid (Q1.out (by simp))
    refine wp_gen (fun Qw10 hW0 => ?_)
    have hB_Qw10 : Below w.heap.size w Qw10 := by rw [hW0]; go_grown
    have hs_Qw10_0 : w.heap.size < Qw10.heap.size := by rw [hW0]; first | omega | (simp; done) | (simp; omega)
    have hs_Qw10_1 : w.heap.size + 1 < Qw10.heap.size := by rw [hW0]; first | omega | (simp; done) | (simp; omega)
    have hs_Qw10_2 : w1.heap.size < Qw10.heap.size := by rw [hW0]; first | omega | (simp; done) | (simp; omega)
    have hs_Qw10_3 : w2.heap.size < Qw10.heap.size := by rw [hW0]; first | omega | (simp; done) | (simp; omega)
    have hs_Qw10_4 : w3.heap.size < Qw10.heap.size := by rw [hW0]; first | omega | (simp; done) | (simp; omega)
    have hs_Qw10_5 : w4.heap.size < Qw10.heap.size := by rw [hW0]; first | omega | (simp; done) | (simp; omega)
    have hg_Qw10_0 : Qw10.cell? ⟨w.heap.size, 0, none⟩ = some (.int .i32 a.1) := by rw [hW0]; first | (go_simp; done) | (simp [*]; done)
    have hg_Qw10_1 : Qw10.cell? ⟨w.heap.size, 1, none⟩ = some (.int .i32 a.2) := by rw [hW0]; first | (go_simp; done) | (simp [*]; done)
    have hg_Qw10_2 : Qw10.cell? ⟨w.heap.size, 2, none⟩ = some (.int .i32 b.1) := by rw [hW0]; first | (go_simp; done) | (simp [*]; done)
    have hg_Qw10_3 : Qw10.cell? ⟨w.heap.size, 3, none⟩ = some (.int .i32 b.2) := by rw [hW0]; first | (go_simp; done) | (simp [*]; done)
    have hg_Qw10_4 : Qw10.cell? ⟨w.heap.size, 4, none⟩ = some (.int .i32 c.1) := by rw [hW0]; first | (go_simp; done) | (simp [*]; done)
    have hg_Qw10_5 : Qw10.cell? ⟨w.heap.size, 5, none⟩ = some (.int .i32 c.2) := by rw [hW0]; first | (go_simp; done) | (simp [*]; done)
    have hg_Qw10_6 : Qw10.cell? ⟨w.heap.size, 6, none⟩ = some (.int .i32 d.1) := by rw [hW0]; first | (go_simp; done) | (simp [*]; done)
    have hg_Qw10_7 : Qw10.cell? ⟨w.heap.size, 7, none⟩ = some (.int .i32 d.2) := by rw [hW0]; first | (go_simp; done) | (simp [*]; done)
    have hg_Qw10_8 : Qw10.cell? ⟨w1.heap.size, 0, none⟩ = some (.int .i32 a'.1) := by rw [hW0]; first | (go_simp; done) | (simp [*]; done)
    have hg_Qw10_9 : Qw10.cell? ⟨w1.heap.size, 1, none⟩ = some (.int .i32 a'.2) := by rw [hW0]; first | (go_simp; done) | (simp [*]; done)
    have hg_Qw10_10 : Qw10.cell? ⟨w2.heap.size, 0, none⟩ = some (.int .i32 b'.1) := by rw [hW0]; first | (go_simp; done) | (simp [*]; done)
    have hg_Qw10_11 : Qw10.cell? ⟨w2.heap.size, 1, none⟩ = some (.int .i32 b'.2) := by rw [hW0]; first | (go_simp; done) | (simp [*]; done)
    have hg_Qw10_12 : Qw10.cell? ⟨w3.heap.size, 0, none⟩ = some (.int .i32 c'.1) := by rw [hW0]; first | (go_simp; done) | (simp [*]; done)
    have hg_Qw10_13 : Qw10.cell? ⟨w3.heap.size, 1, none⟩ = some (.int .i32 c'.2) := by rw [hW0]; first | (go_simp; done) | (simp [*]; done)
    have hg_Qw10_14 : Qw10.cell? ⟨w4.heap.size, 0, none⟩ = some (.int .i32 d'.1) := by rw [hW0]; first | (go_simp; done) | (simp [*]; done)
    have hg_Qw10_15 : Qw10.cell? ⟨w4.heap.size, 1, none⟩ = some (.int .i32 d'.2) := by rw [hW0]; first | (go_simp; done) | (simp [*]; done)
    clear hW0
    have hq_Qw10 := @wd_cell Qw10
    refine wp_region_wd (by kernel_rfl) (by kernel_rfl) ?_
    try simp only [List.append_eq, List.cons_append, List.nil_append]
    repeat (go_big_quiet_step ((first | (go_at_call 8; with_reducible exact quiet_wd (M1.out _)) | (go_at_call 8; with_reducible exact quiet_wd (M2.out _)) | (go_at_call 15; with_reducible exact quiet_wd (F1.out _)) | (go_at_call 15; with_reducible exact quiet_wd (F2.out _)) | (go_at_call 13; with_reducible exact quiet_wd (P1.out _)) | (go_at_call 13; with_reducible exact quiet_wd (P2.out _)) | (go_at_call 12; with_reducible exact quiet_wd (Q1.out _)) | (go_at_call 12; with_reducible exact quiet_wd (Q2.out _)) | (go_at_call 10; with_reducible exact quiet_wd (LV.out _)))))
    refine wpQuiet_nil ?_
    rintro w10 ⟨⟨wx, hb_w10⟩, hwx⟩
    obtain rfl : w10 = wx := hwx
    clear hq_Qw10
    obtain ⟨hc_w10, hf_w10⟩ := bcell hb_w10
    have hB_w10 : Below w.heap.size w w10 := Below.trans (by go_grown) (hb_w10.mono (by go_size))
    have hs_w10_0 : w.heap.size < w10.heap.size := Nat.lt_of_lt_of_le hs_Qw10_0 hb_w10.size
    have hs_w10_1 : w.heap.size + 1 < w10.heap.size := Nat.lt_of_lt_of_le hs_Qw10_1 hb_w10.size
    have hs_w10_2 : w1.heap.size < w10.heap.size := Nat.lt_of_lt_of_le hs_Qw10_2 hb_w10.size
    have hs_w10_3 : w2.heap.size < w10.heap.size := Nat.lt_of_lt_of_le hs_Qw10_3 hb_w10.size
    have hs_w10_4 : w3.heap.size < w10.heap.size := Nat.lt_of_lt_of_le hs_Qw10_4 hb_w10.size
    have hs_w10_5 : w4.heap.size < w10.heap.size := Nat.lt_of_lt_of_le hs_Qw10_5 hb_w10.size
    go_wp2_with fail
    refine bodyPost_ret (by simp [results, Try.results6, go_sem, *]; try rfl) rfl ?_
    exact ⟨rfl, by go_grown⟩

theorem cell_bool {P : Program} {W : World} {base : Nat} {t : TypeId} {v : Value} (ht : P.underlying t = some .bool) (h : Cell.okWide P W .any base t v) : ∃ b : Bool, v = Value.bool b := by
  unfold Cell.okWide at h
  rw [ht] at h
  unfold Cell.ok at h
  rw [ht] at h
  cases v <;> simp_all

set_option maxRecDepth 100000 in
theorem open_move {W : World} {base : Nat} {v : Value} (hv : Value.okWide Try.prog W .any base 43 v) : ∃ (m : Bool) (q x y : Int), I64 q ∧ I64 x ∧ I64 y ∧ v = .agg #[.bool m, .int .i64 q, .int .i64 x, .int .i64 y] := by
  obtain ⟨cs, rfl, hl, hall⟩ := open_cells (ts := [4, 3, 2, 2]) Try.underlying43 (by kernel_rfl) (by kernel_rfl) hv
  match cs, hl with
  | [c0, c1, c2, c3], _ =>
    obtain ⟨t0, e0, h0⟩ := hall 0 c0 rfl
    obtain ⟨t1, e1, h1⟩ := hall 1 c1 rfl
    obtain ⟨t2, e2, h2⟩ := hall 2 c2 rfl
    obtain ⟨t3, e3, h3⟩ := hall 3 c3 rfl
    injection e0 with e0
    injection e1 with e1
    injection e2 with e2
    injection e3 with e3
    subst e0 e1 e2 e3
    obtain ⟨x0, rfl⟩ := cell_bool Try.underlying4 h0
    obtain ⟨x1, rfl, k1⟩ := cell_int Try.underlying3 h1
    obtain ⟨x2, rfl, k2⟩ := cell_int Try.underlying2 h2
    obtain ⟨x3, rfl, k3⟩ := cell_int Try.underlying2 h3
    exact ⟨x0, x1, x2, x3, has_i64 k1, has_i64 k2, has_i64 k3, rfl⟩

end Go.Proofs.Ytpjgghakeaajbaa
