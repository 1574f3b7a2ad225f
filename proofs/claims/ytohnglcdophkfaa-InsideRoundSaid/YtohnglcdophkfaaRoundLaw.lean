/-
  The law InsideRound, walked: a ring told from another point on, backwards, shifted.
-/
import Derived.Test.YtohnglcdophkfaaAwake
namespace Go.Proofs.Ytohnglcdophkfaa
open Go.RowKit Go.Shelf

theorem tot_far {f : Pt × Pt → Int} (hf : ∀ s, -1 ≤ f s ∧ f s ≤ 1) {ps : List Pt} (hreach : ps.length * 8 ≤ 140737488355328) : -17592186044416 ≤ tot f (sides ps) ∧ tot f (sides ps) ≤ 17592186044416 := by
  have := tot_bd f hf (sides ps)
  rw [sides_length] at this
  omega

theorem ptsAt_one (W : World) (p : Pt) : PtsAt (W.heap.size + 1) (W.alloc (.cells #[.int .i32 p.1, .int .i32 p.2] 25)) (.slice (some ⟨W.heap.size, 0, none⟩) 1 1) [p] := by
  refine .inr ⟨W.heap.size, 0, 1, rfl, Nat.lt_succ_self _, fun j hj => ?_⟩
  have hj' : j < 1 := hj
  obtain rfl : j = 0 := by omega
  constructor <;> simp [gp]

set_option maxRecDepth 100000 in
set_option maxHeartbeats 400000 in
theorem insideRound_core (w : World) (sA hA : Option Addr) (sl sc hl hc : Nat) (ps : List Pt) (p d : Pt) (n : Int) (hp : IPt p) (hd : IPt d) (hps : ∀ p ∈ ps, IPt p) (hreach : ps.length * 8 ≤ 140737488355328) (hI : PtsAt w.heap.size w (.slice sA sl sc) ps) :
    Calls Try.prog 3 #[.agg #[.slice sA sl sc, .slice hA hl hc, .int .i32 p.1, .int .i32 p.2], .int .i64 n, .agg #[.int .i32 d.1, .int .i32 d.2]] w fun e w' => e = .returned (.bool true) ∧ Below w.heap.size w w' := by
  have HAW := Lib.hid awake_any
  have HE := Lib.hid (fun W' (h : Below w.heap.size w W') => edge_any W' _ ps p hp hps hreach ((hI.below h).up h.size))
  have HC := Lib.hid (fun W' (h : Below w.heap.size w W') => covers_any _ ps p w.heap.size hp hps hreach W' h.size (hI.below h))
  have HW := Lib.hid (fun W' (h : Below w.heap.size w W') => winding_any _ ps p w.heap.size hp hps hreach W' h.size (hI.below h))
  have HX := Lib.hid (fun W' (h : Below w.heap.size w W') => crossings_any _ ps p w.heap.size hp hps hreach W' h.size (hI.below h))
  have HT := Lib.hid (fun W' back (h : Below w.heap.size w W') => turned_any _ ps n back w.heap.size hps hreach W' h.size (hI.below h))
  have HM := Lib.hid (fun W' (h : Below w.heap.size w W') => moved_any _ ps d hd w.heap.size hps hreach W' h.size (hI.below h))
  obtain ⟨E, hE⟩ : ∃ E, edge ps p = E := ⟨_, rfl⟩
  obtain ⟨C, hC⟩ : ∃ C, covers ps p = C := ⟨_, rfl⟩
  obtain ⟨V, hV⟩ : ∃ V, winding ps p = V := ⟨_, rfl⟩
  obtain ⟨X, hX⟩ : ∃ X, crossings ps p = X := ⟨_, rfl⟩
  have hVb := tot_far (fw_bd p) hreach
  rw [show tot (fw p) (sides ps) = winding ps p from rfl, hV] at hVb
  rw [hE] at HE
  rw [hC] at HC
  rw [hV] at HW
  rw [hX] at HX
  go_enter Try.func3, Try.ntmps3
  go_wp2_with fail
  refine (HAW.out _).mono ?_
  rintro e w1 ⟨rfl, hb_w1⟩
  obtain ⟨hc_w1, hf_w1⟩ := bcell hb_w1
  have hz_w1 := hb_w1.size
  try simp at hz_w1
  have hB_w1 : Below w.heap.size w w1 := Below.trans (by go_grown) (hb_w1.mono (by go_size))
  have hs_w1_w_0 : w.heap.size < w1.heap.size := by omega
  have hs_w1_w_1 : w.heap.size + 1 < w1.heap.size := by omega
  go_wp2_with fail
  refine (HE.out _ (by go_grown)).mono ?_
  rintro e w2 ⟨rfl, hb_w2⟩
  obtain ⟨hc_w2, hf_w2⟩ := bcell hb_w2
  have hz_w2 := hb_w2.size
  try simp at hz_w2
  have hB_w2 : Below w.heap.size w w2 := Below.trans (by go_grown) (hb_w2.mono (by go_size))
  have hs_w2_w_0 : w.heap.size < w2.heap.size := by omega
  have hs_w2_w_1 : w.heap.size + 1 < w2.heap.size := by omega
  have hs_w2_w1_0 : w1.heap.size < w2.heap.size := by omega
  go_wp2_with fail
  refine (HC.out _ (by go_grown)).mono ?_
  rintro e w3 ⟨rfl, hb_w3⟩
  obtain ⟨hc_w3, hf_w3⟩ := bcell hb_w3
  have hz_w3 := hb_w3.size
  try simp at hz_w3
  have hB_w3 : Below w.heap.size w w3 := Below.trans (by go_grown) (hb_w3.mono (by go_size))
  have hs_w3_w_0 : w.heap.size < w3.heap.size := by omega
  have hs_w3_w_1 : w.heap.size + 1 < w3.heap.size := by omega
  have hs_w3_w1_0 : w1.heap.size < w3.heap.size := by omega
  go_wp2_with fail
  refine (HW.out _ (by go_grown)).mono ?_
  rintro e w4 ⟨rfl, hb_w4⟩
  obtain ⟨hc_w4, hf_w4⟩ := bcell hb_w4
  have hz_w4 := hb_w4.size
  try simp at hz_w4
  have hB_w4 : Below w.heap.size w w4 := Below.trans (by go_grown) (hb_w4.mono (by go_size))
  have hs_w4_w_0 : w.heap.size < w4.heap.size := by omega
  have hs_w4_w_1 : w.heap.size + 1 < w4.heap.size := by omega
  have hs_w4_w1_0 : w1.heap.size < w4.heap.size := by omega
  go_wp2_with fail
  have P0 : w4.cell? ⟨w1.heap.size, 0, none⟩ = some (.int .i32 p.1) := by first | (go_simp; done) | (simp [*]; done)
  have P1 : w4.cell? ⟨w1.heap.size, 1, none⟩ = some (.int .i32 p.2) := by first | (go_simp; done) | (simp [*]; done)
  have D0 : w4.cell? ⟨w.heap.size + 1, 0, none⟩ = some (.int .i32 d.1) := by first | (go_simp; done) | (simp [*]; done)
  have D1 : w4.cell? ⟨w.heap.size + 1, 1, none⟩ = some (.int .i32 d.2) := by first | (go_simp; done) | (simp [*]; done)
  clear hb_w1 hc_w1 hf_w1 hz_w1 hB_w1 hs_w1_w_0 hs_w1_w_1 hb_w2 hc_w2 hf_w2 hz_w2 hB_w2 hs_w2_w_0 hs_w2_w_1 hs_w2_w1_0 hb_w3 hc_w3 hf_w3 hz_w3 hB_w3 hs_w3_w_0 hs_w3_w_1 hs_w3_w1_0 hb_w4 hc_w4 hf_w4 hz_w4
  go_loopw [12] (fun i wr => ∃ k : Nat, i = .int .i64 (k : Int) ∧ k ≤ 2 ∧ Below w4.heap.size w4 wr)
    (fun i _ => 2 - (intOf i).toNat)
  case atStart => exact ⟨0, rfl, by omega, Below.refl _ _⟩
  case round =>
    obtain ⟨k, rfl, hk, hbel⟩ := hrel
    have P0' := (hbel.cell (p := ⟨w1.heap.size, 0, none⟩) hs_w4_w1_0).trans P0
    have P1' := (hbel.cell (p := ⟨w1.heap.size, 1, none⟩) hs_w4_w1_0).trans P1
    have D0' := (hbel.cell (p := ⟨w.heap.size + 1, 0, none⟩) hs_w4_w_1).trans D0
    have D1' := (hbel.cell (p := ⟨w.heap.size + 1, 1, none⟩) hs_w4_w_1).trans D1
    have hB_wr : Below w.heap.size w wr := hB_w4.trans (hbel.mono hB_w4.size)
    have hz_wr := hbel.size
    have hs_wr : w1.heap.size < wr.heap.size := by omega
    have hs_wr1 : w.heap.size + 1 < wr.heap.size := by omega
    clear P0 P1 D0 D1
    match k, hk with
    | 0, _ =>
      go_wp2_with fail
      refine (HT.out _ false (by go_grown)).mono ?_
      rintro e w5 ⟨sv', qs, r, rfl, hql, hqs, hqi, hPT, hb_w5⟩
      obtain ⟨hc_w5, hf_w5⟩ := bcell hb_w5
      have hz_w5 := hb_w5.size
      try simp at hz_w5
      have hB_w5 : Below w.heap.size w w5 := Below.trans (by go_grown) (hb_w5.mono (by go_size))
      have hs_w5_0 : w1.heap.size < w5.heap.size := by omega
      have hs_w5_1 : w.heap.size + 1 < w5.heap.size := by omega
      have ht := told_rot p (sides_rot r hql (fun i hi => hqs i hi))
      have hq8 : qs.length * 8 ≤ 140737488355328 := by omega
      have H2E := Lib.hid (fun W' (h : Below w5.heap.size w5 W') => edge_any W' _ qs p hp hqi hq8 ((hPT.below h).up h.size))
      have H2C := Lib.hid (fun W' (h : Below w5.heap.size w5 W') => covers_any _ qs p w5.heap.size hp hqi hq8 W' h.size (hPT.below h))
      have H2W := Lib.hid (fun W' (h : Below w5.heap.size w5 W') => winding_any _ qs p w5.heap.size hp hqi hq8 W' h.size (hPT.below h))
      rw [ht.1, hE] at H2E
      rw [ht.2.2.2, hC] at H2C
      rw [ht.2.2.1, hV] at H2W
      clear hqs hqi ht
      go_wp2_with fail
      refine (H2E.out _ (Below.refl _ _)).mono ?_
      rintro e w6 ⟨rfl, hb_w6⟩
      obtain ⟨hc_w6, hf_w6⟩ := bcell hb_w6
      have hz_w6 := hb_w6.size
      try simp at hz_w6
      have hB_w6 : Below w.heap.size w w6 := Below.trans (by go_grown) (hb_w6.mono (by go_size))
      have hs_w6_0 : w1.heap.size < w6.heap.size := by omega
      have hs_w6_1 : w.heap.size + 1 < w6.heap.size := by omega
      go_wp2_with fail
      refine (H2C.out _ hb_w6).mono ?_
      rintro e w7 ⟨rfl, hb_w7⟩
      obtain ⟨hc_w7, hf_w7⟩ := bcell hb_w7
      have hz_w7 := hb_w7.size
      try simp at hz_w7
      have hB_w7 : Below w.heap.size w w7 := Below.trans (by go_grown) (hb_w7.mono (by go_size))
      have hs_w7_0 : w1.heap.size < w7.heap.size := by omega
      have hs_w7_1 : w.heap.size + 1 < w7.heap.size := by omega
      go_wp2_with fail
      refine (H2W.out _ (hb_w6.trans (hb_w7.mono hb_w6.size))).mono ?_
      rintro e w8 ⟨rfl, hb_w8⟩
      obtain ⟨hc_w8, hf_w8⟩ := bcell hb_w8
      have hz_w8 := hb_w8.size
      try simp at hz_w8
      have hB_w8 : Below w.heap.size w w8 := Below.trans (by go_grown) (hb_w8.mono (by go_size))
      have hs_w8_0 : w1.heap.size < w8.heap.size := by omega
      have hs_w8_1 : w.heap.size + 1 < w8.heap.size := by omega
      go_wp2_with fail
      go_roundw
      case rel => exact ⟨1, rfl, by omega, hbel.trans ((hb_w5.mono (by omega)).trans ((hb_w6.mono (by omega)).trans ((hb_w7.mono (by omega)).trans (hb_w8.mono (by omega)))))⟩
      case measure => simp [intOf]
    | 1, _ =>
      go_wp2_with fail
      refine (HT.out _ true (by go_grown)).mono ?_
      rintro e w5 ⟨sv', qs, r, rfl, hql, hqs, hqi, hPT, hb_w5⟩
      obtain ⟨hc_w5, hf_w5⟩ := bcell hb_w5
      have hz_w5 := hb_w5.size
      try simp at hz_w5
      have hB_w5 : Below w.heap.size w w5 := Below.trans (by go_grown) (hb_w5.mono (by go_size))
      have hs_w5_0 : w1.heap.size < w5.heap.size := by omega
      have hs_w5_1 : w.heap.size + 1 < w5.heap.size := by omega
      have ht := told_back p (sides_back r hql (fun i hi => hqs i hi))
      have hq8 : qs.length * 8 ≤ 140737488355328 := by omega
      have H2E := Lib.hid (fun W' (h : Below w5.heap.size w5 W') => edge_any W' _ qs p hp hqi hq8 ((hPT.below h).up h.size))
      have H2C := Lib.hid (fun W' (h : Below w5.heap.size w5 W') => covers_any _ qs p w5.heap.size hp hqi hq8 W' h.size (hPT.below h))
      have H2W := Lib.hid (fun W' (h : Below w5.heap.size w5 W') => winding_any _ qs p w5.heap.size hp hqi hq8 W' h.size (hPT.below h))
      rw [ht.1, hE] at H2E
      rw [ht.2.2.2, hC] at H2C
      rw [ht.2.2.1, hV] at H2W
      obtain ⟨U, hU⟩ : ∃ U, -V = U := ⟨_, rfl⟩
      rw [hU] at H2W
      have hUw : wrap64 (-V) = U := by rw [← hU]; unfold wrap64; omega
      clear hE hC hX
      rcases Decidable.em (U = V) with huv | huv
      · have hVV : V = 0 := by omega
        have hUV : U = 0 := by omega
        subst hVV
        subst hUV
        cases E
        · clear hqs hqi ht
          go_wp2_with fail
          refine (H2E.out _ (Below.refl _ _)).mono ?_
          rintro e w6 ⟨rfl, hb_w6⟩
          obtain ⟨hc_w6, hf_w6⟩ := bcell hb_w6
          have hz_w6 := hb_w6.size
          try simp at hz_w6
          have hB_w6 : Below w.heap.size w w6 := Below.trans (by go_grown) (hb_w6.mono (by go_size))
          have hs_w6_0 : w1.heap.size < w6.heap.size := by omega
          have hs_w6_1 : w.heap.size + 1 < w6.heap.size := by omega
          go_wp2_with fail
          refine (H2C.out _ hb_w6).mono ?_
          rintro e w7 ⟨rfl, hb_w7⟩
          obtain ⟨hc_w7, hf_w7⟩ := bcell hb_w7
          have hz_w7 := hb_w7.size
          try simp at hz_w7
          have hB_w7 : Below w.heap.size w w7 := Below.trans (by go_grown) (hb_w7.mono (by go_size))
          have hs_w7_0 : w1.heap.size < w7.heap.size := by omega
          have hs_w7_1 : w.heap.size + 1 < w7.heap.size := by omega
          go_wp2_with fail
          refine (H2W.out _ (hb_w6.trans (hb_w7.mono hb_w6.size))).mono ?_
          rintro e w8 ⟨rfl, hb_w8⟩
          obtain ⟨hc_w8, hf_w8⟩ := bcell hb_w8
          have hz_w8 := hb_w8.size
          try simp at hz_w8
          have hB_w8 : Below w.heap.size w w8 := Below.trans (by go_grown) (hb_w8.mono (by go_size))
          have hs_w8_0 : w1.heap.size < w8.heap.size := by omega
          have hs_w8_1 : w.heap.size + 1 < w8.heap.size := by omega
          go_wp2_with fail
          go_roundw
          case rel => exact ⟨2, rfl, by omega, hbel.trans ((hb_w5.mono (by omega)).trans ((hb_w6.mono (by omega)).trans ((hb_w7.mono (by omega)).trans (hb_w8.mono (by omega)))))⟩
          case measure => simp [intOf]
        · clear hqs hqi ht
          go_wp2_with fail
          refine (H2E.out _ (Below.refl _ _)).mono ?_
          rintro e w6 ⟨rfl, hb_w6⟩
          obtain ⟨hc_w6, hf_w6⟩ := bcell hb_w6
          have hz_w6 := hb_w6.size
          try simp at hz_w6
          have hB_w6 : Below w.heap.size w w6 := Below.trans (by go_grown) (hb_w6.mono (by go_size))
          have hs_w6_0 : w1.heap.size < w6.heap.size := by omega
          have hs_w6_1 : w.heap.size + 1 < w6.heap.size := by omega
          go_wp2_with fail
          refine (H2C.out _ hb_w6).mono ?_
          rintro e w7 ⟨rfl, hb_w7⟩
          obtain ⟨hc_w7, hf_w7⟩ := bcell hb_w7
          have hz_w7 := hb_w7.size
          try simp at hz_w7
          have hB_w7 : Below w.heap.size w w7 := Below.trans (by go_grown) (hb_w7.mono (by go_size))
          have hs_w7_0 : w1.heap.size < w7.heap.size := by omega
          have hs_w7_1 : w.heap.size + 1 < w7.heap.size := by omega
          go_wp2_with fail
          refine (H2W.out _ (hb_w6.trans (hb_w7.mono hb_w6.size))).mono ?_
          rintro e w8 ⟨rfl, hb_w8⟩
          obtain ⟨hc_w8, hf_w8⟩ := bcell hb_w8
          have hz_w8 := hb_w8.size
          try simp at hz_w8
          have hB_w8 : Below w.heap.size w w8 := Below.trans (by go_grown) (hb_w8.mono (by go_size))
          have hs_w8_0 : w1.heap.size < w8.heap.size := by omega
          have hs_w8_1 : w.heap.size + 1 < w8.heap.size := by omega
          go_wp2_with fail
          go_roundw
          case rel => exact ⟨2, rfl, by omega, hbel.trans ((hb_w5.mono (by omega)).trans ((hb_w6.mono (by omega)).trans ((hb_w7.mono (by omega)).trans (hb_w8.mono (by omega)))))⟩
          case measure => simp [intOf]
      · have hk1 : (U == V) = false := by simp; exact huv
        cases E
        · clear hqs hqi ht
          go_wp2_with fail
          refine (H2E.out _ (Below.refl _ _)).mono ?_
          rintro e w6 ⟨rfl, hb_w6⟩
          obtain ⟨hc_w6, hf_w6⟩ := bcell hb_w6
          have hz_w6 := hb_w6.size
          try simp at hz_w6
          have hB_w6 : Below w.heap.size w w6 := Below.trans (by go_grown) (hb_w6.mono (by go_size))
          have hs_w6_0 : w1.heap.size < w6.heap.size := by omega
          have hs_w6_1 : w.heap.size + 1 < w6.heap.size := by omega
          go_wp2_with fail
          refine (H2C.out _ hb_w6).mono ?_
          rintro e w7 ⟨rfl, hb_w7⟩
          obtain ⟨hc_w7, hf_w7⟩ := bcell hb_w7
          have hz_w7 := hb_w7.size
          try simp at hz_w7
          have hB_w7 : Below w.heap.size w w7 := Below.trans (by go_grown) (hb_w7.mono (by go_size))
          have hs_w7_0 : w1.heap.size < w7.heap.size := by omega
          have hs_w7_1 : w.heap.size + 1 < w7.heap.size := by omega
          go_wp2_with fail
          refine (H2W.out _ (hb_w6.trans (hb_w7.mono hb_w6.size))).mono ?_
          rintro e w8 ⟨rfl, hb_w8⟩
          obtain ⟨hc_w8, hf_w8⟩ := bcell hb_w8
          have hz_w8 := hb_w8.size
          try simp at hz_w8
          have hB_w8 : Below w.heap.size w w8 := Below.trans (by go_grown) (hb_w8.mono (by go_size))
          have hs_w8_0 : w1.heap.size < w8.heap.size := by omega
          have hs_w8_1 : w.heap.size + 1 < w8.heap.size := by omega
          go_wp2_with fail
          go_roundw
          case rel => exact ⟨2, rfl, by omega, hbel.trans ((hb_w5.mono (by omega)).trans ((hb_w6.mono (by omega)).trans ((hb_w7.mono (by omega)).trans (hb_w8.mono (by omega)))))⟩
          case measure => simp [intOf]
        · clear hqs hqi ht
          go_wp2_with fail
          refine (H2E.out _ (Below.refl _ _)).mono ?_
          rintro e w6 ⟨rfl, hb_w6⟩
          obtain ⟨hc_w6, hf_w6⟩ := bcell hb_w6
          have hz_w6 := hb_w6.size
          try simp at hz_w6
          have hB_w6 : Below w.heap.size w w6 := Below.trans (by go_grown) (hb_w6.mono (by go_size))
          have hs_w6_0 : w1.heap.size < w6.heap.size := by omega
          have hs_w6_1 : w.heap.size + 1 < w6.heap.size := by omega
          go_wp2_with fail
          refine (H2C.out _ hb_w6).mono ?_
          rintro e w7 ⟨rfl, hb_w7⟩
          obtain ⟨hc_w7, hf_w7⟩ := bcell hb_w7
          have hz_w7 := hb_w7.size
          try simp at hz_w7
          have hB_w7 : Below w.heap.size w w7 := Below.trans (by go_grown) (hb_w7.mono (by go_size))
          have hs_w7_0 : w1.heap.size < w7.heap.size := by omega
          have hs_w7_1 : w.heap.size + 1 < w7.heap.size := by omega
          go_wp2_with fail
          refine (H2W.out _ (hb_w6.trans (hb_w7.mono hb_w6.size))).mono ?_
          rintro e w8 ⟨rfl, hb_w8⟩
          obtain ⟨hc_w8, hf_w8⟩ := bcell hb_w8
          have hz_w8 := hb_w8.size
          try simp at hz_w8
          have hB_w8 : Below w.heap.size w w8 := Below.trans (by go_grown) (hb_w8.mono (by go_size))
          have hs_w8_0 : w1.heap.size < w8.heap.size := by omega
          have hs_w8_1 : w.heap.size + 1 < w8.heap.size := by omega
          go_wp2_with fail
          go_roundw
          case rel => exact ⟨2, rfl, by omega, hbel.trans ((hb_w5.mono (by omega)).trans ((hb_w6.mono (by omega)).trans ((hb_w7.mono (by omega)).trans (hb_w8.mono (by omega)))))⟩
          case measure => simp [intOf]
    | 2, _ =>
      go_wp2_with fail
      refine (HM.out _ (by go_grown)).mono ?_
      rintro e w5 ⟨hmv, hb_w5⟩
      obtain ⟨hc_w5, hf_w5⟩ := bcell hb_w5
      have hz_w5 := hb_w5.size
      try simp at hz_w5
      have hB_w5 : Below w.heap.size w w5 := Below.trans (by go_grown) (hb_w5.mono (by go_size))
      have hs_w5_0 : w1.heap.size < w5.heap.size := by omega
      have hs_w5_1 : w.heap.size + 1 < w5.heap.size := by omega
      have h1p : ∀ q ∈ [p], IPt q := fun q hq => by rw [List.mem_singleton.1 hq]; exact hp
      have HM1 := Lib.hid (moved_any _ [p] d hd (w5.heap.size + 1) h1p (by simp) _ (by simp) (ptsAt_one w5 p))
      rcases hmv with rfl | ⟨sv1, qs1, rfl, hql, hqs, hqi, hPT⟩
      · go_wp2_with fail
        refine (HM1.out).mono ?_
        rintro e w6 ⟨hmv2, hb_w6⟩
        have hB_w6 : Below w.heap.size w w6 := Below.trans (by go_grown) (hb_w6.mono (by go_size))
        rcases hmv2 with rfl | ⟨sv2, qs2, rfl, _⟩
        · go_wp2_with fail
          go_ret
          exact ⟨rfl, hB_w6⟩
        · go_wp2_with fail
          go_ret
          exact ⟨rfl, hB_w6⟩
      · have ht := told_move p d hql hqs
        have hq8 : qs1.length * 8 ≤ 140737488355328 := by omega
        go_wp2_with fail
        refine (HM1.out).mono ?_
        rintro e w6 ⟨hmv2, hb_w6⟩
        have hB_w6 : Below w.heap.size w w6 := Below.trans (by go_grown) (hb_w6.mono (by go_size))
        have hz_w6 := hb_w6.size
        rw [World.size_alloc] at hz_w6
        have hk6 : Below w5.heap.size w5 w6 := ((Below.refl _ _).alloc (Nat.le_refl _) _).trans (hb_w6.mono (by simp))
        rcases hmv2 with rfl | ⟨sv2, qs2, rfl, hql2, hqs2, hqi2, hPT2⟩
        · go_wp2_with fail
          go_ret
          exact ⟨rfl, hB_w6⟩
        · rcases hPT2 with ⟨_, h0⟩ | ⟨b2, off2, cap2, rfl, hb2, hc2⟩
          · rw [h0] at hql2
            cases hql2
          · have hl1 : qs2.length = 1 := hql2
            rw [hl1] at hc2 ⊢
            have hc0 := hc2 0 (by omega)
            have hq0 : gp qs2 0 = mv d p := hqs2 0 (by simp)
            rw [hq0, Nat.zero_mul, Nat.add_zero] at hc0
            obtain ⟨q, hq⟩ : ∃ q, mv d p = q := ⟨_, rfl⟩
            have hqI : IPt q := by rw [← hq, ← hq0]; exact gp_i hqi2 0
            rw [hq] at hc0 ht
            obtain ⟨q0, q1⟩ := hc0
            have H3E := Lib.hid (fun W' (h : Below w6.heap.size w6 W') => edge_any W' _ qs1 q hqI hqi hq8 ((hPT.below (hk6.trans (h.mono hk6.size))).up (Nat.le_trans hk6.size h.size)))
            have H3C := Lib.hid (fun W' (h : Below w6.heap.size w6 W') => covers_any _ qs1 q w5.heap.size hqI hqi hq8 W' (Nat.le_trans hk6.size h.size) (hPT.below (hk6.trans (h.mono hk6.size))))
            have H3W := Lib.hid (fun W' (h : Below w6.heap.size w6 W') => winding_any _ qs1 q w5.heap.size hqI hqi hq8 W' (Nat.le_trans hk6.size h.size) (hPT.below (hk6.trans (h.mono hk6.size))))
            have H3X := Lib.hid (fun W' (h : Below w6.heap.size w6 W') => crossings_any _ qs1 q w5.heap.size hqI hqi hq8 W' (Nat.le_trans hk6.size h.size) (hPT.below (hk6.trans (h.mono hk6.size))))
            have HX3 := Lib.hid (fun W' (h : Below w6.heap.size w6 W') => HX.out W' (hB_w6.trans (h.mono hB_w6.size)))
            rw [ht.1, hE] at H3E
            rw [ht.2.2.2, hC] at H3C
            rw [ht.2.2.1, hV] at H3W
            rw [ht.2.1, hX] at H3X
            have P06 := (hk6.cell (p := ⟨w1.heap.size, 0, none⟩) (by show w1.heap.size < _; omega)).trans (((hb_w5.cell (p := ⟨w1.heap.size, 0, none⟩) hs_wr)).trans P0')
            have P16 := (hk6.cell (p := ⟨w1.heap.size, 1, none⟩) (by show w1.heap.size < _; omega)).trans (((hb_w5.cell (p := ⟨w1.heap.size, 1, none⟩) hs_wr)).trans P1')
            have hs6 : w1.heap.size < w6.heap.size := by omega
            clear ht hqs hqs2 hqi hqi2 HM1 hq0 hc2 hql hql2 hPT hk6 h1p hb_w6
            go_wp2_with fail
            have hq_w6 := @wd_cell w6
            refine wp_region_wd (by kernel_rfl) (by kernel_rfl) ?_
            repeat (go_big_quiet_step ((first | (go_at_call 10; with_reducible exact quiet_wd (H3E.out _ (Wd.h _))) | (go_at_call 11; with_reducible exact quiet_wd (H3C.out _ (Wd.h _))) | (go_at_call 12; with_reducible exact quiet_wd (H3W.out _ (Wd.h _))) | (go_at_call_of 15 (Value.slice sA sl sc); with_reducible exact quiet_wd (HX3.out _ (Wd.h _))) | (go_at_call 15; with_reducible exact quiet_wd (H3X.out _ (Wd.h _))))))
            refine wpQuiet_nil ?_
            rintro w7 ⟨⟨wx, hb_w7⟩, hwx⟩
            obtain rfl : w7 = wx := hwx
            clear hq_w6
            obtain ⟨hc_w7, hf_w7⟩ := bcell hb_w7
            have hB_w7 : Below w.heap.size w w7 := Below.trans (by go_grown) (hb_w7.mono (by go_size))
            have hs_w7_0 : b2 < w7.heap.size := Nat.lt_of_lt_of_le (by assumption) hb_w7.size
            have hs_w7_1 : w1.heap.size < w7.heap.size := Nat.lt_of_lt_of_le (by assumption) hb_w7.size
            go_wp2_with fail
            go_ret
            exact ⟨rfl, by go_grown⟩

end Go.Proofs.Ytohnglcdophkfaa
