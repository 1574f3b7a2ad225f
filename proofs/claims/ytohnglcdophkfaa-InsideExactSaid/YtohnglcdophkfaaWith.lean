/-
  inside.With, and the document's With.
-/
import Derived.Test.YtohnglcdophkfaaRef7
namespace Go.Proofs.Ytohnglcdophkfaa
open Go.RowKit Go.Shelf

/-- A slice of n slices of points: the j-th is sv j, it holds h j. -/
structure HolesAt (m : Nat) (W : World) (hv : Value) (n : Nat) (sv : Nat → Value) (h : Nat → List Pt) : Prop where
  shape : (n = 0 ∧ ∃ A c, hv = .slice A 0 c) ∨ ∃ b off cap, hv = .slice (some ⟨b, off, none⟩) n cap ∧ b < m ∧ ∀ j, j < n → W.cell? ⟨b, off + j, none⟩ = some (sv j)
  pts : ∀ j, j < n → PtsAt m W (sv j) (h j)
theorem HolesAt.below {m : Nat} {W W' : World} {hv : Value} {n : Nat} {sv : Nat → Value} {h : Nat → List Pt} (hb : Below m W W') (H : HolesAt m W hv n sv h) : HolesAt m W' hv n sv h := by
  refine ⟨?_, fun j hj => (H.pts j hj).below hb⟩
  rcases H.shape with h0 | ⟨b, off, cap, e, hbm, hc⟩
  · exact .inl h0
  · exact .inr ⟨b, off, cap, e, hbm, fun j hj => (hb.cell (p := ⟨b, off + j, none⟩) hbm).trans (hc j hj)⟩
def HolesOk (n : Nat) (h : Nat → List Pt) : Prop := ∀ j, j < n → (∀ p ∈ h j, IPt p) ∧ (h j).length * 8 ≤ 140737488355328
/-- Inside a hole, and not on its edge. -/
def bad (p : Pt) (ps : List Pt) : Bool := covers ps p && !edge ps p
def withB (ps : List Pt) (n : Nat) (h : Nat → List Pt) (p : Pt) : Bool := covers ps p && !(List.range n).any (fun j => bad p (h j))
theorem any_none {n : Nat} {f : Nat → Bool} (h : ∀ j, j < n → f j = false) : (List.range n).any f = false := by
  rw [List.any_eq_false]
  intro j hj
  rw [List.mem_range] at hj
  rw [h j hj]
  exact Bool.false_ne_true
theorem all_step {k : Nat} {f : Nat → Bool} (h : ∀ j, j < k → f j = false) (hk : f k = false) : ∀ j, j < k + 1 → f j = false := fun j hj => by
  rcases Nat.lt_or_ge j k with h1 | h1
  · exact h j h1
  · obtain rfl : j = k := by omega
    exact hk
theorem any_some {n j : Nat} {f : Nat → Bool} (hj : j < n) (h : f j = true) : (List.range n).any f = true := by
  rw [List.any_eq_true]
  exact ⟨j, List.mem_range.2 hj, h⟩

set_option maxRecDepth 100000 in
set_option maxHeartbeats 400000 in
theorem with_any (v hv : Value) (ps : List Pt) (n : Nat) (sv : Nat → Value) (h : Nat → List Pt) (p : Pt) (m : Nat) (hp : IPt p) (hps : ∀ p ∈ ps, IPt p) (hreach : ps.length * 8 ≤ 140737488355328) (hok : HolesOk n h) (hn : n ≤ 9223372036854775807) (w : World) (hm : m ≤ w.heap.size) (hI : PtsAt m w v ps) (hH : HolesAt m w hv n sv h) :
    Calls Try.prog 23 #[v, hv, .agg #[.int .i32 p.1, .int .i32 p.2]] w fun e w' => e = .returned (.bool (withB ps n h p)) ∧ Below w.heap.size w w' := by
  have HC := Lib.hid (fun W (hb : Below w.heap.size w W) => covers_any v ps p m hp hps hreach W (Nat.le_trans hm hb.size) (hI.below (hb.mono hm)))
  have HC2 := Lib.hid (fun j (hj : j < n) W (hb : Below w.heap.size w W) => covers_any (sv j) (h j) p m hp (hok j hj).1 (hok j hj).2 W (Nat.le_trans hm hb.size) ((hH.pts j hj).below (hb.mono hm)))
  have HE2 := Lib.hid (fun j (hj : j < n) W (hb : Below w.heap.size w W) => edge_any W (sv j) (h j) p hp (hok j hj).1 (hok j hj).2 (((hH.pts j hj).below (hb.mono hm)).up (Nat.le_trans hm hb.size)))
  obtain ⟨cv, hcv⟩ : ∃ c, covers ps p = c := ⟨_, rfl⟩
  unfold withB
  rw [hcv] at HC ⊢
  clear hcv hI hok
  cases cv
  · rw [Bool.false_and]
    clear hH HC2 HE2
    go_enter Try.func23, Try.ntmps23
    go_wp2_with fail
    refine (HC.out _ (by go_grown)).mono ?_
    rintro e w1 ⟨rfl, hb_w1⟩
    obtain ⟨hc_w1, hf_w1⟩ := bcell hb_w1
    have hz_w1 := hb_w1.size
    try simp at hz_w1
    have hB_w1 : Below w.heap.size w w1 := Below.trans (by go_grown) (hb_w1.mono (by go_size))
    go_wp2_with fail
    go_ret
    exact ⟨rfl, by go_grown⟩
  · rw [Bool.true_and]
    rcases hH.shape with ⟨rfl, A, c, rfl⟩ | ⟨b, off, cap, rfl, hb, hc⟩
    · clear hH HC2 HE2
      go_enter Try.func23, Try.ntmps23
      go_wp2_with fail
      refine (HC.out _ (by go_grown)).mono ?_
      rintro e w1 ⟨rfl, hb_w1⟩
      obtain ⟨hc_w1, hf_w1⟩ := bcell hb_w1
      have hz_w1 := hb_w1.size
      try simp at hz_w1
      have hB_w1 : Below w.heap.size w w1 := Below.trans (by go_grown) (hb_w1.mono (by go_size))
      go_wp2_with fail
      go_loopw [15] (fun i wr => i = .int .i64 0 ∧ Below w.heap.size w wr) (fun _ _ => 0)
      case atStart => exact ⟨rfl, by go_grown⟩
      case round =>
        obtain ⟨rfl, hB⟩ := hrel
        go_wp2_with fail
        go_ret
        exact ⟨rfl, hB⟩
    · clear hH
      go_enter Try.func23, Try.ntmps23
      go_wp2_with fail
      refine (HC.out _ (by go_grown)).mono ?_
      rintro e w1 ⟨rfl, hb_w1⟩
      obtain ⟨hc_w1, hf_w1⟩ := bcell hb_w1
      have hz_w1 := hb_w1.size
      try simp at hz_w1
      have hB_w1 : Below w.heap.size w w1 := Below.trans (by go_grown) (hb_w1.mono (by go_size))
      have hs_w1_0 : w.heap.size < w1.heap.size := by omega
      have P0 : w1.cell? ⟨w.heap.size, 0, none⟩ = some (.int .i32 p.1) := by first | (go_simp; done) | (simp [*]; done)
      have P1 : w1.cell? ⟨w.heap.size, 1, none⟩ = some (.int .i32 p.2) := by first | (go_simp; done) | (simp [*]; done)
      clear hc_w1 hf_w1 hb_w1 hz_w1
      go_wp2_with fail
      go_loopw [15] (fun i wr => ∃ k : Nat, i = .int .i64 (k : Int) ∧ k ≤ n ∧ (∀ j, j < k → bad p (h j) = false) ∧ Below w1.heap.size w1 wr) (fun i _ => n - (intOf i).toNat)
      case atStart => exact ⟨0, rfl, Nat.zero_le _, fun j hj => absurd hj (Nat.not_lt_zero _), Below.refl _ _⟩
      case round =>
        obtain ⟨k, rfl, hk, hno, hbel⟩ := hrel
        have hB_wr : Below w.heap.size w wr := hB_w1.trans (hbel.mono hB_w1.size)
        have hsz := hbel.size
        have hs_wr : w.heap.size < wr.heap.size := by omega
        rcases Nat.lt_or_ge k n with hlt | hge
        · have P0' := (hbel.cell (p := ⟨w.heap.size, 0, none⟩) hs_w1_0).trans P0
          have P1' := (hbel.cell (p := ⟨w.heap.size, 1, none⟩) hs_w1_0).trans P1
          have cc := (hB_wr.cell (p := ⟨b, off + k, none⟩) (by show b < _; omega)).trans (hc k hlt)
          have HC3 := Lib.hid (HC2.out k hlt)
          have HE3 := Lib.hid (HE2.out k hlt)
          obtain ⟨q, hq⟩ : ∃ q, sv k = q := ⟨_, rfl⟩
          obtain ⟨cw, hcw⟩ : ∃ c, covers (h k) p = c := ⟨_, rfl⟩
          obtain ⟨ew, hew⟩ : ∃ c, edge (h k) p = c := ⟨_, rfl⟩
          have hbd : bad p (h k) = (cw && !ew) := by unfold bad; rw [hcw, hew]
          rw [hq] at cc HC3 HE3
          rw [hcw] at HC3
          rw [hew] at HE3
          have HBD := Lib.hid hbd
          have HNO := Lib.hid hno
          clear hq hcw hew hbd hno hc P0 P1
          cases cw
          · go_wp2_with fail
            refine (HC3.out _ hB_wr).mono ?_
            rintro e w5 ⟨rfl, hb_w5⟩
            obtain ⟨hc_w5, hf_w5⟩ := bcell hb_w5
            have hz_w5 := hb_w5.size
            try simp at hz_w5
            have hB_w5 : Below w.heap.size w w5 := Below.trans (by go_grown) (hb_w5.mono (by go_size))
            have hs_w5_0 : w.heap.size < w5.heap.size := by omega
            go_wp2_with fail
            go_roundw
            case rel => exact ⟨k + 1, by simp, hlt, all_step HNO.out HBD.out, hbel.trans (hb_w5.mono hsz)⟩
            case measure => simp [intOf]; omega
          · cases ew
            · go_wp2_with fail
              refine (HC3.out _ hB_wr).mono ?_
              rintro e w5 ⟨rfl, hb_w5⟩
              obtain ⟨hc_w5, hf_w5⟩ := bcell hb_w5
              have hz_w5 := hb_w5.size
              try simp at hz_w5
              have hB_w5 : Below w.heap.size w w5 := Below.trans (by go_grown) (hb_w5.mono (by go_size))
              have hs_w5_0 : w.heap.size < w5.heap.size := by omega
              have hb6 : Below w.heap.size w w5 := hB_wr.trans (hb_w5.mono hB_wr.size)
              go_wp2_with fail
              refine (HE3.out _ hb6).mono ?_
              rintro e w6 ⟨rfl, hb_w6⟩
              obtain ⟨hc_w6, hf_w6⟩ := bcell hb_w6
              have hz_w6 := hb_w6.size
              try simp at hz_w6
              have hB_w6 : Below w.heap.size w w6 := Below.trans (by go_grown) (hb_w6.mono (by go_size))
              have hs_w6_0 : w.heap.size < w6.heap.size := by omega
              go_wp2_with fail
              go_ret
              refine ⟨?_, hB_w6⟩
              rw [any_some hlt HBD.out]
              rfl
            · go_wp2_with fail
              refine (HC3.out _ hB_wr).mono ?_
              rintro e w5 ⟨rfl, hb_w5⟩
              obtain ⟨hc_w5, hf_w5⟩ := bcell hb_w5
              have hz_w5 := hb_w5.size
              try simp at hz_w5
              have hB_w5 : Below w.heap.size w w5 := Below.trans (by go_grown) (hb_w5.mono (by go_size))
              have hs_w5_0 : w.heap.size < w5.heap.size := by omega
              have hb6 : Below w.heap.size w w5 := hB_wr.trans (hb_w5.mono hB_wr.size)
              go_wp2_with fail
              refine (HE3.out _ hb6).mono ?_
              rintro e w6 ⟨rfl, hb_w6⟩
              obtain ⟨hc_w6, hf_w6⟩ := bcell hb_w6
              have hz_w6 := hb_w6.size
              try simp at hz_w6
              have hB_w6 : Below w.heap.size w w6 := Below.trans (by go_grown) (hb_w6.mono (by go_size))
              have hs_w6_0 : w.heap.size < w6.heap.size := by omega
              go_wp2_with fail
              go_roundw
              case rel => exact ⟨k + 1, by simp, hlt, all_step HNO.out HBD.out, hbel.trans ((hb_w5.mono hsz).trans (hb_w6.mono (by omega)))⟩
              case measure => simp [intOf]; omega
        · obtain rfl : k = n := by omega
          go_wp2_with fail
          go_ret
          refine ⟨?_, hB_wr⟩
          rw [any_none hno]
          rfl

set_option maxRecDepth 100000 in
set_option maxHeartbeats 400000 in
theorem with_ref (v hv : Value) (ps : List Pt) (n : Nat) (sv : Nat → Value) (h : Nat → List Pt) (p : Pt) (m : Nat) (hp : IPt p) (hps : ∀ p ∈ ps, IPt p) (hreach : ps.length * 8 ≤ 140737488355328) (hok : HolesOk n h) (hn : n ≤ 9223372036854775807) (w : World) (hm : m ≤ w.heap.size) (hI : PtsAt m w v ps) (hH : HolesAt m w hv n sv h) :
    Calls Try.prog 24 #[v, hv, .agg #[.int .i32 p.1, .int .i32 p.2]] w fun e w' => e = .returned (.bool (withB ps n h p)) ∧ Below w.heap.size w w' := by
  have HC := Lib.hid (fun W (hb : Below w.heap.size w W) => covers_ref v ps p m hp hps hreach W (Nat.le_trans hm hb.size) (hI.below (hb.mono hm)))
  have HC2 := Lib.hid (fun j (hj : j < n) W (hb : Below w.heap.size w W) => covers_ref (sv j) (h j) p m hp (hok j hj).1 (hok j hj).2 W (Nat.le_trans hm hb.size) ((hH.pts j hj).below (hb.mono hm)))
  have HE2 := Lib.hid (fun j (hj : j < n) W (hb : Below w.heap.size w W) => edge_ref (sv j) (h j) p m hp (hok j hj).1 (hok j hj).2 W (Nat.le_trans hm hb.size) ((hH.pts j hj).below (hb.mono hm)))
  obtain ⟨cv, hcv⟩ : ∃ c, covers ps p = c := ⟨_, rfl⟩
  unfold withB
  rw [hcv] at HC ⊢
  clear hcv hI hok
  rcases hH.shape with ⟨rfl, A, c, rfl⟩ | ⟨b, off, cap, rfl, hb, hc⟩
  · clear hH HC2 HE2
    go_enter Try.func24, Try.ntmps24
    go_wp2_with fail
    refine wp_gen (fun W hW => ?_)
    have bD : Two W w.heap.size 25 p := by rw [hW]; exact Two.new w _ p
    have hBW : Below w.heap.size w W := by rw [hW]; go_grown
    have hWs : w.heap.size + 1 ≤ W.heap.size := by rw [hW]; simp
    clear hW
    go_loopw [7] (fun i wr => i = .int .i64 0 ∧ Below W.heap.size W wr) (fun _ _ => 0)
    case atStart => exact ⟨rfl, Below.refl _ _⟩
    case round =>
      obtain ⟨rfl, hbel⟩ := hrel
      have bD1 := bD.below hbel (by omega)
      have d0 := bD1.c0
      have d1 := bD1.c1
      have hB_wr : Below w.heap.size w wr := hBW.trans (hbel.mono (by omega))
      have hs_wr := hB_wr.size
      go_wp2_with fail
      refine (HC.out _ hB_wr).mono ?_
      rintro e w5 ⟨rfl, hb_w5⟩
      obtain ⟨hc_w5, hf_w5⟩ := bcell hb_w5
      have hz_w5 := hb_w5.size
      try simp at hz_w5
      have hB_w5 : Below w.heap.size w w5 := Below.trans (by go_grown) (hb_w5.mono (by go_size))
      go_wp2_with fail
      go_ret
      refine ⟨?_, hB_wr.trans (hb_w5.mono hB_wr.size)⟩
      rw [any_none (fun j hj => absurd hj (Nat.not_lt_zero _)), Bool.not_false, Bool.and_true]
      rfl
  · clear hH
    go_enter Try.func24, Try.ntmps24
    go_wp2_with fail
    refine wp_gen (fun W hW => ?_)
    have bD : Two W w.heap.size 25 p := by rw [hW]; exact Two.new w _ p
    have hBW : Below w.heap.size w W := by rw [hW]; go_grown
    have hWs : w.heap.size + 1 ≤ W.heap.size := by rw [hW]; simp
    clear hW
    go_loopw [7] (fun i wr => ∃ k : Nat, i = .int .i64 (k : Int) ∧ k ≤ n ∧ (∀ j, j < k → bad p (h j) = false) ∧ Below W.heap.size W wr) (fun i _ => n - (intOf i).toNat)
    case atStart => exact ⟨0, rfl, Nat.zero_le _, fun j hj => absurd hj (Nat.not_lt_zero _), Below.refl _ _⟩
    case round =>
      obtain ⟨k, rfl, hk, hno, hbel⟩ := hrel
      have hB_wr : Below w.heap.size w wr := hBW.trans (hbel.mono (by omega))
      have hsz := hbel.size
      have bD1 := bD.below hbel (by omega)
      have d0 := bD1.c0
      have d1 := bD1.c1
      have hs_wr : w.heap.size < wr.heap.size := by omega
      rcases Nat.lt_or_ge k n with hlt | hge
      · have cc := (hB_wr.cell (p := ⟨b, off + k, none⟩) (by show b < _; omega)).trans (hc k hlt)
        have hbr : b < wr.heap.size := by omega
        have HC3 := Lib.hid (fun W' (h : Below wr.heap.size wr W') => HC2.out k hlt W' (hB_wr.trans (h.mono hB_wr.size)))
        have HE3 := Lib.hid (fun W' (h : Below wr.heap.size wr W') => HE2.out k hlt W' (hB_wr.trans (h.mono hB_wr.size)))
        obtain ⟨q, hq⟩ : ∃ q, sv k = q := ⟨_, rfl⟩
        obtain ⟨cw, hcw⟩ : ∃ c, covers (h k) p = c := ⟨_, rfl⟩
        obtain ⟨ew, hew⟩ : ∃ c, edge (h k) p = c := ⟨_, rfl⟩
        have hbd : bad p (h k) = (cw && !ew) := by unfold bad; rw [hcw, hew]
        rw [hq] at cc HC3 HE3
        rw [hcw] at HC3
        rw [hew] at HE3
        have HBD := Lib.hid hbd
        have HNO := Lib.hid hno
        clear hq hcw hew hbd hno hc
        cases cw
        · go_wp2_with fail
          have hq_wr := @wd_cell wr
          refine wp_region_wd (by kernel_rfl) (by kernel_rfl) ?_
          repeat (go_big_quiet_step ((first | (go_at_call 21; with_reducible exact quiet_wd (HC3.out _ (Wd.h _))) | (go_at_call 19; with_reducible exact quiet_wd (HE3.out _ (Wd.h _))))))
          refine wpQuiet_nil ?_
          rintro w5 ⟨⟨wx, hb_w5⟩, hwx⟩
          obtain rfl : w5 = wx := hwx
          clear hq_wr
          obtain ⟨hc_w5, hf_w5⟩ := bcell hb_w5
          have hB_w5 : Below w.heap.size w w5 := Below.trans (by go_grown) (hb_w5.mono (by go_size))
          have hs_w5_0 : b < w5.heap.size := Nat.lt_of_lt_of_le (by assumption) hb_w5.size
          have hs_w5_1 : w.heap.size < w5.heap.size := Nat.lt_of_lt_of_le (by assumption) hb_w5.size
          go_wp2_with fail
          go_roundw
          case rel => exact ⟨k + 1, by simp, hlt, all_step HNO.out HBD.out, hbel.trans (hb_w5.mono hsz)⟩
          case measure => simp [intOf]; omega
        · cases ew
          · go_wp2_with fail
            have hq_wr := @wd_cell wr
            refine wp_region_wd (by kernel_rfl) (by kernel_rfl) ?_
            repeat (go_big_quiet_step ((first | (go_at_call 21; with_reducible exact quiet_wd (HC3.out _ (Wd.h _))) | (go_at_call 19; with_reducible exact quiet_wd (HE3.out _ (Wd.h _))))))
            refine wpQuiet_nil ?_
            rintro w5 ⟨⟨wx, hb_w5⟩, hwx⟩
            obtain rfl : w5 = wx := hwx
            clear hq_wr
            obtain ⟨hc_w5, hf_w5⟩ := bcell hb_w5
            have hB_w5 : Below w.heap.size w w5 := Below.trans (by go_grown) (hb_w5.mono (by go_size))
            have hs_w5_0 : b < w5.heap.size := Nat.lt_of_lt_of_le (by assumption) hb_w5.size
            have hs_w5_1 : w.heap.size < w5.heap.size := Nat.lt_of_lt_of_le (by assumption) hb_w5.size
            go_wp2_with fail
            go_ret
            refine ⟨?_, hB_wr.trans (hb_w5.mono hB_wr.size)⟩
            rw [any_some hlt HBD.out, Bool.not_true, Bool.and_false]
            rfl
          · go_wp2_with fail
            have hq_wr := @wd_cell wr
            refine wp_region_wd (by kernel_rfl) (by kernel_rfl) ?_
            repeat (go_big_quiet_step ((first | (go_at_call 21; with_reducible exact quiet_wd (HC3.out _ (Wd.h _))) | (go_at_call 19; with_reducible exact quiet_wd (HE3.out _ (Wd.h _))))))
            refine wpQuiet_nil ?_
            rintro w5 ⟨⟨wx, hb_w5⟩, hwx⟩
            obtain rfl : w5 = wx := hwx
            clear hq_wr
            obtain ⟨hc_w5, hf_w5⟩ := bcell hb_w5
            have hB_w5 : Below w.heap.size w w5 := Below.trans (by go_grown) (hb_w5.mono (by go_size))
            have hs_w5_0 : b < w5.heap.size := Nat.lt_of_lt_of_le (by assumption) hb_w5.size
            have hs_w5_1 : w.heap.size < w5.heap.size := Nat.lt_of_lt_of_le (by assumption) hb_w5.size
            go_wp2_with fail
            go_roundw
            case rel => exact ⟨k + 1, by simp, hlt, all_step HNO.out HBD.out, hbel.trans (hb_w5.mono hsz)⟩
            case measure => simp [intOf]; omega
      · obtain rfl : k = n := by omega
        go_wp2_with fail
        refine (HC.out _ hB_wr).mono ?_
        rintro e w5 ⟨rfl, hb_w5⟩
        obtain ⟨hc_w5, hf_w5⟩ := bcell hb_w5
        have hz_w5 := hb_w5.size
        try simp at hz_w5
        have hB_w5 : Below w.heap.size w w5 := Below.trans (by go_grown) (hb_w5.mono (by go_size))
        go_wp2_with fail
        go_ret
        refine ⟨?_, hB_wr.trans (hb_w5.mono hB_wr.size)⟩
        rw [any_none hno, Bool.not_false, Bool.and_true]
        rfl

end Go.Proofs.Ytohnglcdophkfaa
