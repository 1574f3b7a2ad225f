/-
  The document's rises, falls, Edge.
-/
import Derived.Test.YtohnglcdophkfaaNext
import Derived.Test.YtohnglcdophkfaaTurn4
namespace Go.Proofs.Ytohnglcdophkfaa
open Go.RowKit Go.Shelf

theorem one_t {b : Bool} (h : b = true) : one b = 1 := by rw [h]; rfl
theorem one_f {b : Bool} (h : b = false) : one b = 0 := by rw [h]; rfl
theorem rise_pt (p : Pt) (s : Pt × Pt) : one (rise p s) ≤ 1 ∧ 0 ≤ one (rise p s) := by have := one_bd (rise p s); omega
theorem tot_step (f : Pt × Pt → Int) (ps : List Pt) (k : Nat) : tot f (upto (sid ps) (k + 1)) = tot f (upto (sid ps) k) + f (sid ps k) := by rw [upto_succ, tot_snoc]
theorem tot_near {f : Pt × Pt → Int} (hf : ∀ s, -1 ≤ f s ∧ f s ≤ 1) (ps : List Pt) (k : Nat) : -(k : Int) ≤ tot f (upto (sid ps) k) ∧ tot f (upto (sid ps) k) ≤ k := by
  have := tot_bd f hf (upto (sid ps) k)
  rw [upto_length] at this
  exact this

set_option maxRecDepth 100000 in
set_option maxHeartbeats 400000 in
theorem rises_ref (sv : Value) (ps : List Pt) (p : Pt) (m : Nat) (hp : IPt p) (hps : ∀ p ∈ ps, IPt p) (hreach : ps.length * 8 ≤ 140737488355328) (w : World) (hm : m ≤ w.heap.size) (hI : PtsAt m w sv ps) :
    Calls Try.prog 37 #[sv, .agg #[.int .i32 p.1, .int .i32 p.2]] w fun e w' => e = .returned (.int .i64 (tot (fun s => one (rise p s)) (sides ps))) ∧ Below w.heap.size w w' := by
  have HN := Lib.hid (fun k (hk : k < ps.length) W (hb : Below w.heap.size w W) => next_ref sv ps k m hk hreach W (Nat.le_trans hm hb.size) (hI.below (hb.mono hm)))
  have hI' := hI
  rcases hI with ⟨⟨A0, c0, rfl⟩, rfl⟩ | ⟨b, off, cap, rfl, hb, hc⟩
  · go_enter Try.func37, Try.ntmps37
    go_wp2_with fail
    go_loopw [5, 6] (fun o i wr => o = .int .i64 0 ∧ i = .int .i64 0 ∧ Below w.heap.size w wr) (fun _ _ _ => 0)
    case atStart => exact ⟨rfl, rfl, by go_grown⟩
    case round =>
      obtain ⟨rfl, rfl, hB⟩ := hrel
      go_wp2_with fail
      go_ret
      exact ⟨rfl, hB⟩
  · obtain ⟨L, hL⟩ : ∃ L, ps.length = L := ⟨_, rfl⟩
    rw [hL] at hreach hc HN ⊢
    go_enter Try.func37, Try.ntmps37
    go_wp2_with fail
    refine wp_gen (fun W hW => ?_)
    have bD : Two W w.heap.size 25 p := by rw [hW]; exact Two.new w _ p
    have hBW : Below w.heap.size w W := by rw [hW]; go_grown
    have hWs : w.heap.size + 1 ≤ W.heap.size := by rw [hW]; simp
    clear hW
    go_loopw [5, 6] (fun o i wr => ∃ k : Nat, o = .int .i64 (tot (fun s => one (rise p s)) (upto (sid ps) k)) ∧ i = .int .i64 (k : Int) ∧ k ≤ L ∧ Below W.heap.size W wr)
      (fun _ i _ => L - (intOf i).toNat)
    case atStart => exact ⟨0, rfl, rfl, Nat.zero_le _, Below.refl _ _⟩
    case round =>
      obtain ⟨k, rfl, rfl, hk, hbel⟩ := hrel
      have hsz := hbel.size
      have hB_wr : Below w.heap.size w wr := hBW.trans (hbel.mono (by omega))
      rcases Nat.lt_or_ge k L with hlt | hge
      · have hstep := tot_step (fun s => one (rise p s)) ps k
        have hnear := tot_near (f := fun s => one (rise p s)) (fun s => by have := rise_pt p s; omega) ps k
        obtain ⟨q, hq⟩ : ∃ q, tot (fun s => one (rise p s)) (upto (sid ps) k) = q := ⟨_, rfl⟩
        rw [hq] at hstep hnear ⊢
        have cc := hc k hlt
        have c1 := (hB_wr.cell (p := ⟨b, off + k * 2, none⟩) (by show b < _; omega)).trans cc.1
        have c2 := (hB_wr.cell (p := ⟨b, off + k * 2 + 1, none⟩) (by show b < _; omega)).trans cc.2
        have bD1 := bD.below hbel (by omega)
        have d1 := bD1.c0
        have d2 := bD1.c1
        have hb1 : b < wr.heap.size := by omega
        have hb2 : w.heap.size < wr.heap.size := by omega
        have hga := gp_i hps k
        have hgb := gp_i hps ((k + 1) % ps.length)
        have hs1 : sid ps k = (gp ps k, gp ps ((k + 1) % ps.length)) := rfl
        obtain ⟨x, hx⟩ : ∃ x, gp ps k = x := ⟨_, rfl⟩
        obtain ⟨y, hy⟩ : ∃ y, gp ps ((k + 1) % ps.length) = y := ⟨_, rfl⟩
        rw [hx] at hga c1 c2
        rw [hy] at hgb
        rw [hx, hy] at hs1
        rw [hs1] at hstep
        have HK := Lib.hid (HN.out k hlt)
        rw [hs1] at HK
        have HT := Lib.hid (fun W' => turn04 x.1 x.2 y.1 y.2 p.1 p.2 hga.1 hga.2 hgb.1 hgb.2 hp.1 hp.2 W')
        obtain ⟨t, ht⟩ : ∃ t, trn x.1 x.2 y.1 y.2 p.1 p.2 = t := ⟨_, rfl⟩
        rw [ht] at HT
        have hr : rise p (x, y) = decide (x.2 ≤ p.2 ∧ p.2 < y.2 ∧ 0 < t) := by unfold rise trP; rw [ht]
        have HS := Lib.hid hstep
        clear hx hy hs1 ht hstep hq cc hc
        have hno : ¬ (x.2 ≤ p.2 ∧ p.2 < y.2 ∧ 0 < t) → q = tot (fun s => one (rise p s)) (upto (sid ps) (k + 1)) := fun h => by rw [HS.out, one_f (by rw [hr]; exact decide_eq_false h), Int.add_zero]
        have hyes : (x.2 ≤ p.2 ∧ p.2 < y.2 ∧ 0 < t) → q + 1 = tot (fun s => one (rise p s)) (upto (sid ps) (k + 1)) := fun h => by rw [HS.out, one_t (by rw [hr]; exact decide_eq_true h)]
        have HNO := Lib.hid hno
        have HYES := Lib.hid hyes
        clear hno hyes hr
        go_wp2_with fail
        refine (HK.out _ (by go_grown)).mono ?_
        rintro e w5 ⟨rfl, hb_w5⟩
        obtain ⟨hc_w5, hf_w5⟩ := bcell hb_w5
        have hz_w5 := hb_w5.size
        try simp at hz_w5
        have hB_w5 : Below w.heap.size w w5 := Below.trans (by go_grown) (hb_w5.mono (by go_size))
        have hs_w5_0 : b < w5.heap.size := by omega
        have hs_w5_1 : w.heap.size < w5.heap.size := by omega
        have hs_w5_2 : wr.heap.size < w5.heap.size := by omega
        have hbb : Below W.heap.size W w5 := hbel.trans ((Below.alloc (Below.refl W.heap.size wr) hsz _).trans (hb_w5.mono (by simp; omega)))
        rcases Int.lt_or_le p.2 x.2 with h1 | h1
        · go_wp2_with fail
          go_roundw
          case rel => exact ⟨k + 1, congrArg (Value.int .i64) (HNO.out (by omega)), by simp, hlt, hbb.alloc (by omega) _⟩
          case measure => simp [intOf]; omega
        · rcases Int.lt_or_le p.2 y.2 with h2 | h2
          · go_wp2_with fail
            refine (HT.out _).mono ?_
            rintro e w6 ⟨rfl, hb_w6⟩
            obtain ⟨hc_w6, hf_w6⟩ := bcell hb_w6
            have hz_w6 := hb_w6.size
            try simp at hz_w6
            have hB_w6 : Below w.heap.size w w6 := Below.trans (by go_grown) (hb_w6.mono (by go_size))
            have hs_w6_0 : b < w6.heap.size := by omega
            have hs_w6_1 : w.heap.size < w6.heap.size := by omega
            have hs_w6_2 : wr.heap.size < w6.heap.size := by omega
            have hbc : Below W.heap.size W w6 := (hbb.alloc (by omega) _).trans (hb_w6.mono (by simp; omega))
            rcases Int.lt_or_le 0 t with h3 | h3
            · go_wp2_with fail
              go_roundw
              case rel => exact ⟨k + 1, congrArg (Value.int .i64) (HYES.out ⟨h1, h2, h3⟩), by simp, hlt, hbc⟩
              case measure => simp [intOf]; omega
            · go_wp2_with fail
              go_roundw
              case rel => exact ⟨k + 1, congrArg (Value.int .i64) (HNO.out (by omega)), by simp, hlt, hbc⟩
              case measure => simp [intOf]; omega
          · go_wp2_with fail
            go_roundw
            case rel => exact ⟨k + 1, congrArg (Value.int .i64) (HNO.out (by omega)), by simp, hlt, hbb.alloc (by omega) _⟩
            case measure => simp [intOf]; omega
      · obtain rfl : k = L := by omega
        go_wp2_with fail
        go_ret
        refine ⟨?_, hB_wr⟩
        rw [← hL]
        rfl

theorem fall_pt (p : Pt) (s : Pt × Pt) : one (fall p s) ≤ 1 ∧ 0 ≤ one (fall p s) := by have := one_bd (fall p s); omega
theorem fall_is {x y p : Pt} {t : Int} (ht : trn y.1 y.2 x.1 x.2 p.1 p.2 = t) : fall p (x, y) = decide (y.2 ≤ p.2 ∧ p.2 < x.2 ∧ 0 < t) := by
  unfold fall trP
  rw [trn_turn] at ht
  rw [decide_eq_decide]
  simp only
  omega

set_option maxRecDepth 100000 in
set_option maxHeartbeats 400000 in
theorem falls_ref (sv : Value) (ps : List Pt) (p : Pt) (m : Nat) (hp : IPt p) (hps : ∀ p ∈ ps, IPt p) (hreach : ps.length * 8 ≤ 140737488355328) (w : World) (hm : m ≤ w.heap.size) (hI : PtsAt m w sv ps) :
    Calls Try.prog 38 #[sv, .agg #[.int .i32 p.1, .int .i32 p.2]] w fun e w' => e = .returned (.int .i64 (tot (fun s => one (fall p s)) (sides ps))) ∧ Below w.heap.size w w' := by
  have HN := Lib.hid (fun k (hk : k < ps.length) W (hb : Below w.heap.size w W) => next_ref sv ps k m hk hreach W (Nat.le_trans hm hb.size) (hI.below (hb.mono hm)))
  have hI' := hI
  rcases hI with ⟨⟨A0, c0, rfl⟩, rfl⟩ | ⟨b, off, cap, rfl, hb, hc⟩
  · go_enter Try.func38, Try.ntmps38
    go_wp2_with fail
    go_loopw [5, 6] (fun o i wr => o = .int .i64 0 ∧ i = .int .i64 0 ∧ Below w.heap.size w wr) (fun _ _ _ => 0)
    case atStart => exact ⟨rfl, rfl, by go_grown⟩
    case round =>
      obtain ⟨rfl, rfl, hB⟩ := hrel
      go_wp2_with fail
      go_ret
      exact ⟨rfl, hB⟩
  · obtain ⟨L, hL⟩ : ∃ L, ps.length = L := ⟨_, rfl⟩
    rw [hL] at hreach hc HN ⊢
    go_enter Try.func38, Try.ntmps38
    go_wp2_with fail
    refine wp_gen (fun W hW => ?_)
    have bD : Two W w.heap.size 25 p := by rw [hW]; exact Two.new w _ p
    have hBW : Below w.heap.size w W := by rw [hW]; go_grown
    have hWs : w.heap.size + 1 ≤ W.heap.size := by rw [hW]; simp
    clear hW
    go_loopw [5, 6] (fun o i wr => ∃ k : Nat, o = .int .i64 (tot (fun s => one (fall p s)) (upto (sid ps) k)) ∧ i = .int .i64 (k : Int) ∧ k ≤ L ∧ Below W.heap.size W wr)
      (fun _ i _ => L - (intOf i).toNat)
    case atStart => exact ⟨0, rfl, rfl, Nat.zero_le _, Below.refl _ _⟩
    case round =>
      obtain ⟨k, rfl, rfl, hk, hbel⟩ := hrel
      have hsz := hbel.size
      have hB_wr : Below w.heap.size w wr := hBW.trans (hbel.mono (by omega))
      rcases Nat.lt_or_ge k L with hlt | hge
      · have hstep := tot_step (fun s => one (fall p s)) ps k
        have hnear := tot_near (f := fun s => one (fall p s)) (fun s => by have := fall_pt p s; omega) ps k
        obtain ⟨q, hq⟩ : ∃ q, tot (fun s => one (fall p s)) (upto (sid ps) k) = q := ⟨_, rfl⟩
        rw [hq] at hstep hnear ⊢
        have cc := hc k hlt
        have c1 := (hB_wr.cell (p := ⟨b, off + k * 2, none⟩) (by show b < _; omega)).trans cc.1
        have c2 := (hB_wr.cell (p := ⟨b, off + k * 2 + 1, none⟩) (by show b < _; omega)).trans cc.2
        have bD1 := bD.below hbel (by omega)
        have d1 := bD1.c0
        have d2 := bD1.c1
        have hb1 : b < wr.heap.size := by omega
        have hb2 : w.heap.size < wr.heap.size := by omega
        have hga := gp_i hps k
        have hgb := gp_i hps ((k + 1) % ps.length)
        have hs1 : sid ps k = (gp ps k, gp ps ((k + 1) % ps.length)) := rfl
        obtain ⟨x, hx⟩ : ∃ x, gp ps k = x := ⟨_, rfl⟩
        obtain ⟨y, hy⟩ : ∃ y, gp ps ((k + 1) % ps.length) = y := ⟨_, rfl⟩
        rw [hx] at hga c1 c2
        rw [hy] at hgb
        rw [hx, hy] at hs1
        rw [hs1] at hstep
        have HK := Lib.hid (HN.out k hlt)
        rw [hs1] at HK
        have HT := Lib.hid (fun W' => turn04 y.1 y.2 x.1 x.2 p.1 p.2 hgb.1 hgb.2 hga.1 hga.2 hp.1 hp.2 W')
        obtain ⟨t, ht⟩ : ∃ t, trn y.1 y.2 x.1 x.2 p.1 p.2 = t := ⟨_, rfl⟩
        rw [ht] at HT
        have hr : fall p (x, y) = decide (y.2 ≤ p.2 ∧ p.2 < x.2 ∧ 0 < t) := fall_is ht
        have HS := Lib.hid hstep
        clear hx hy hs1 ht hstep hq cc hc
        have hno : ¬ (y.2 ≤ p.2 ∧ p.2 < x.2 ∧ 0 < t) → q = tot (fun s => one (fall p s)) (upto (sid ps) (k + 1)) := fun h => by rw [HS.out, one_f (by rw [hr]; exact decide_eq_false h), Int.add_zero]
        have hyes : (y.2 ≤ p.2 ∧ p.2 < x.2 ∧ 0 < t) → q + 1 = tot (fun s => one (fall p s)) (upto (sid ps) (k + 1)) := fun h => by rw [HS.out, one_t (by rw [hr]; exact decide_eq_true h)]
        have HNO := Lib.hid hno
        have HYES := Lib.hid hyes
        clear hno hyes hr
        go_wp2_with fail
        refine (HK.out _ (by go_grown)).mono ?_
        rintro e w5 ⟨rfl, hb_w5⟩
        obtain ⟨hc_w5, hf_w5⟩ := bcell hb_w5
        have hz_w5 := hb_w5.size
        try simp at hz_w5
        have hB_w5 : Below w.heap.size w w5 := Below.trans (by go_grown) (hb_w5.mono (by go_size))
        have hs_w5_0 : b < w5.heap.size := by omega
        have hs_w5_1 : w.heap.size < w5.heap.size := by omega
        have hs_w5_2 : wr.heap.size < w5.heap.size := by omega
        have hbb : Below W.heap.size W w5 := hbel.trans ((Below.alloc (Below.refl W.heap.size wr) hsz _).trans (hb_w5.mono (by simp; omega)))
        rcases Int.lt_or_le p.2 y.2 with h1 | h1
        · go_wp2_with fail
          go_roundw
          case rel => exact ⟨k + 1, congrArg (Value.int .i64) (HNO.out (by omega)), by simp, hlt, hbb.alloc (by omega) _⟩
          case measure => simp [intOf]; omega
        · rcases Int.lt_or_le p.2 x.2 with h2 | h2
          · go_wp2_with fail
            refine (HT.out _).mono ?_
            rintro e w6 ⟨rfl, hb_w6⟩
            obtain ⟨hc_w6, hf_w6⟩ := bcell hb_w6
            have hz_w6 := hb_w6.size
            try simp at hz_w6
            have hB_w6 : Below w.heap.size w w6 := Below.trans (by go_grown) (hb_w6.mono (by go_size))
            have hs_w6_0 : b < w6.heap.size := by omega
            have hs_w6_1 : w.heap.size < w6.heap.size := by omega
            have hs_w6_2 : wr.heap.size < w6.heap.size := by omega
            have hbc : Below W.heap.size W w6 := (hbb.alloc (by omega) _).trans (hb_w6.mono (by simp; omega))
            rcases Int.lt_or_le 0 t with h3 | h3
            · go_wp2_with fail
              go_roundw
              case rel => exact ⟨k + 1, congrArg (Value.int .i64) (HYES.out ⟨h1, h2, h3⟩), by simp, hlt, hbc⟩
              case measure => simp [intOf]; omega
            · go_wp2_with fail
              go_roundw
              case rel => exact ⟨k + 1, congrArg (Value.int .i64) (HNO.out (by omega)), by simp, hlt, hbc⟩
              case measure => simp [intOf]; omega
          · go_wp2_with fail
            go_roundw
            case rel => exact ⟨k + 1, congrArg (Value.int .i64) (HNO.out (by omega)), by simp, hlt, hbb.alloc (by omega) _⟩
            case measure => simp [intOf]; omega
      · obtain rfl : k = L := by omega
        go_wp2_with fail
        go_ret
        refine ⟨?_, hB_wr⟩
        rw [← hL]
        rfl

set_option maxRecDepth 100000 in
set_option maxHeartbeats 400000 in
theorem edge_ref (sv : Value) (ps : List Pt) (p : Pt) (m : Nat) (hp : IPt p) (hps : ∀ p ∈ ps, IPt p) (hreach : ps.length * 8 ≤ 140737488355328) (w : World) (hm : m ≤ w.heap.size) (hI : PtsAt m w sv ps) :
    Calls Try.prog 19 #[sv, .agg #[.int .i32 p.1, .int .i32 p.2]] w fun e w' => e = .returned (.bool (edge ps p)) ∧ Below w.heap.size w w' := by
  have HN := Lib.hid (fun k (hk : k < ps.length) W (hb : Below w.heap.size w W) => next_ref sv ps k m hk hreach W (Nat.le_trans hm hb.size) (hI.below (hb.mono hm)))
  rcases hI with ⟨⟨A0, c0, rfl⟩, rfl⟩ | ⟨b, off, cap, rfl, hb, hc⟩
  · rw [show edge [] p = false from rfl]
    go_enter Try.func19, Try.ntmps19
    go_wp2_with fail
    go_loopw [5] (fun i wr => i = .int .i64 0 ∧ Below w.heap.size w wr) (fun _ _ => 0)
    case atStart => exact ⟨rfl, by go_grown⟩
    case round =>
      obtain ⟨rfl, hB⟩ := hrel
      go_wp2_with fail
      go_ret
      exact ⟨rfl, hB⟩
  · obtain ⟨L, hL⟩ : ∃ L, ps.length = L := ⟨_, rfl⟩
    rw [hL] at hreach hc HN ⊢
    go_enter Try.func19, Try.ntmps19
    go_wp2_with fail
    refine wp_gen (fun W hW => ?_)
    have bD : Two W w.heap.size 25 p := by rw [hW]; exact Two.new w _ p
    have hBW : Below w.heap.size w W := by rw [hW]; go_grown
    have hWs : w.heap.size + 1 ≤ W.heap.size := by rw [hW]; simp
    clear hW
    go_loopw [5] (fun i wr => ∃ k : Nat, (upto (sid ps) k).any (onP p) = false ∧ i = .int .i64 (k : Int) ∧ k ≤ L ∧ Below W.heap.size W wr)
      (fun i _ => L - (intOf i).toNat)
    case atStart => exact ⟨0, rfl, rfl, Nat.zero_le _, Below.refl _ _⟩
    case round =>
      obtain ⟨k, hno, rfl, hk, hbel⟩ := hrel
      have hsz := hbel.size
      have hB_wr : Below w.heap.size w wr := hBW.trans (hbel.mono (by omega))
      rcases Nat.lt_or_ge k L with hlt | hge
      · have cc := hc k hlt
        have c1 := (hB_wr.cell (p := ⟨b, off + k * 2, none⟩) (by show b < _; omega)).trans cc.1
        have c2 := (hB_wr.cell (p := ⟨b, off + k * 2 + 1, none⟩) (by show b < _; omega)).trans cc.2
        have bD1 := bD.below hbel (by omega)
        have d1 := bD1.c0
        have d2 := bD1.c1
        have hb1 : b < wr.heap.size := by omega
        have hb2 : w.heap.size < wr.heap.size := by omega
        have hga := gp_i hps k
        have hgb := gp_i hps ((k + 1) % ps.length)
        have hs1 : sid ps k = (gp ps k, gp ps ((k + 1) % ps.length)) := rfl
        obtain ⟨x, hx⟩ : ∃ x, gp ps k = x := ⟨_, rfl⟩
        obtain ⟨y, hy⟩ : ∃ y, gp ps ((k + 1) % ps.length) = y := ⟨_, rfl⟩
        rw [hx] at hga c1 c2
        rw [hy] at hgb
        rw [hx, hy] at hs1
        have HK := Lib.hid (fun W' (h : Below wr.heap.size wr W') => HN.out k hlt W' (hB_wr.trans (h.mono hB_wr.size)))
        rw [hs1] at HK
        have HO := Lib.hid (fun W' => on04 p.1 p.2 x.1 x.2 y.1 y.2 hp.1 hp.2 hga.1 hga.2 hgb.1 hgb.2 W')
        obtain ⟨t, ht⟩ : ∃ t, onB p.1 p.2 x.1 x.2 y.1 y.2 = t := ⟨_, rfl⟩
        rw [ht] at HO
        have hr : onP p (sid ps k) = t := by rw [hs1]; exact ht
        clear hx hy hs1 ht cc hc
        have HS := Lib.hid hr
        have HNO := Lib.hid hno
        clear hr hno
        cases t
        · go_wp2_with fail
          have hq_wr := @wd_cell wr
          refine wp_region_wd (by kernel_rfl) (by kernel_rfl) ?_
          repeat (go_big_quiet_step ((first | (go_at_call 36; with_reducible exact quiet_wd (HK.out _ (Wd.h _))) | (go_at_call 34; with_reducible exact quiet_wd (HO.out _)))))
          refine wpQuiet_nil ?_
          rintro w5 ⟨⟨wx, hb_w5⟩, hwx⟩
          obtain rfl : w5 = wx := hwx
          clear hq_wr
          obtain ⟨hc_w5, hf_w5⟩ := bcell hb_w5
          have hB_w5 : Below w.heap.size w w5 := Below.trans (by go_grown) (hb_w5.mono (by go_size))
          have hs_w5_0 : b < w5.heap.size := Nat.lt_of_lt_of_le (by assumption) hb_w5.size
          have hs_w5_1 : w.heap.size < w5.heap.size := Nat.lt_of_lt_of_le (by assumption) hb_w5.size
          go_wp2_with fail
          go_roundw
          case rel => exact ⟨k + 1, by rw [upto_succ, List.any_append, HNO.out, List.any_cons, HS.out]; rfl, by simp, hlt, hbel.trans (hb_w5.mono hsz)⟩
          case measure => simp [intOf]; omega
        · go_wp2_with fail
          have hq_wr := @wd_cell wr
          refine wp_region_wd (by kernel_rfl) (by kernel_rfl) ?_
          repeat (go_big_quiet_step ((first | (go_at_call 36; with_reducible exact quiet_wd (HK.out _ (Wd.h _))) | (go_at_call 34; with_reducible exact quiet_wd (HO.out _)))))
          refine wpQuiet_nil ?_
          rintro w5 ⟨⟨wx, hb_w5⟩, hwx⟩
          obtain rfl : w5 = wx := hwx
          clear hq_wr
          obtain ⟨hc_w5, hf_w5⟩ := bcell hb_w5
          have hB_w5 : Below w.heap.size w w5 := Below.trans (by go_grown) (hb_w5.mono (by go_size))
          have hs_w5_0 : b < w5.heap.size := Nat.lt_of_lt_of_le (by assumption) hb_w5.size
          have hs_w5_1 : w.heap.size < w5.heap.size := Nat.lt_of_lt_of_le (by assumption) hb_w5.size
          go_wp2_with fail
          go_ret
          refine ⟨?_, hB_wr.trans (hb_w5.mono (by omega))⟩
          rw [show edge ps p = true from any_upto (k := k + 1) (by omega) (by rw [upto_succ, List.any_append, List.any_cons, HS.out, Bool.true_or, Bool.or_true])]
          rfl
      · obtain rfl : k = L := by omega
        go_wp2_with fail
        go_ret
        refine ⟨?_, hB_wr⟩
        rw [← hL] at hno
        rw [show edge ps p = false from hno]
        rfl

end Go.Proofs.Ytohnglcdophkfaa
