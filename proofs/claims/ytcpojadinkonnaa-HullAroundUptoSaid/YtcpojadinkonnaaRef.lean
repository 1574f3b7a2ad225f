/-
  Contracts of the reference's functions on sizes: digit, Unsigned, trimmed, size, less, cmpSize.
-/
import Derived.Test.YtcpojadinkonnaaNum
import Derived.Test.YtcpojadinkonnaaMem
import Derived.Test.YtcpojadinkonnaaWideMath
import Derived.WalkSpells
import Derived.WalkLawsBesides
import Derived.Lib.Hide
import Derived.Deep.LoopGhost
namespace Go.Proofs.Ytcpojadinkonnaa
open Go.RowKit

theorem elt : Elt Try.prog 62 49 (.int .u64 0) 1 8 := ⟨Try.underlying62, by kernel_rfl, rfl, by omega⟩

/-- Digit number i; 0 behind the last. -/
def dig (ds : List Nat) (i : Nat) : Nat := ds.getD i 0
theorem dig_lt {ds : List Nat} (h : Digs ds) (i : Nat) : dig ds i < 65536 := h.getD i
theorem dig_out {ds : List Nat} {i : Nat} (h : ds.length ≤ i) : dig ds i = 0 := by
  unfold dig; rw [List.getD_eq_getElem?_getD, List.getElem?_eq_none h]; rfl

theorem digit_any {w0 : World} {A : Option Addr} {n c : Nat} {ds : List Nat} (h : RawAt w0 A n c ds) (s : Bool) (k : Nat) (w : World) (hw : Below w0.heap.size w0 w) :
    Calls Try.prog 95 #[.agg #[.bool s, .slice A n c], .int .i64 (k : Int)] w fun e w' => e = .returned (.int .u64 (dig ds k : Int)) ∧ Below w.heap.size w w' := by
  have h1 := h.below hw
  by_cases hlt : k < n
  · obtain ⟨b, o, rfl, hb, hc⟩ := h1.at_ hlt
    have hne : ¬ b = w.heap.size := by omega
    have hc' : w.cell? ⟨b, o + k, none⟩ = some (.int .u64 (dig ds k : Int)) := hc
    clear hc h1
    go_enter Try.func95, Try.ntmps95
    go_wp2
    go_ret
    exact ⟨rfl, by go_grown⟩
  · have h0 : dig ds k = 0 := dig_out (by rw [h.len]; omega)
    rw [h0]
    clear h0 h1
    go_enter Try.func95, Try.ntmps95
    go_wp2
    go_ret
    exact ⟨rfl, by go_grown⟩

/-- What a loop has built: block X holds a number without a sign, its digits ds so far; all below X is as it was in W. -/
structure Built (W wr : World) (X : Nat) (A : Option Addr) (k c : Nat) (ds : List Nat) : Prop where
  var : Var wr X 64 #[.bool false, .slice A k c]
  own : wr.ownsRow (X + 1) 49 1 (.slice A k c) k (ds.map U)
  len : ds.length = k
  digs : Digs ds
  bel : Below X W wr
theorem raw_of_own {wr : World} {base : Nat} {A : Option Addr} {k c : Nat} {ds : List Nat} (h : wr.ownsRow base 49 1 (.slice A k c) k (ds.map U)) (hl : ds.length = k) (hd : Digs ds) : RawAt wr A k c ds := by
  have hcs : k ≤ c ∧ c ≤ 9223372036854775807 := by
    rcases h.2 with ⟨hv, h0⟩ | ⟨g, cap, cur, hv, _, _, hle, hm, _⟩
    · injection hv with _ _ hc; omega
    · injection hv with _ _ hc
      simp only [maxLen] at hm
      omega
  exact ⟨hl, hcs.1, hcs.2, Sl.of_own h, hd⟩
theorem Built.raw {W wr : World} {X : Nat} {A : Option Addr} {k c : Nat} {ds : List Nat} (h : Built W wr X A k c ds) : RawAt wr A k c ds := raw_of_own h.own h.len h.digs
theorem Built.start {W : World} {X : Nat} (h : Var W X 64 #[.bool false, .slice none 0 0]) : Built W W X none 0 0 [] :=
  ⟨h, World.ownsRow_nil _ _ _ _, rfl, Digs.nil, Below.refl _ _⟩
theorem Built.keep {W wr w' : World} {X : Nat} {A : Option Addr} {k c : Nat} {ds : List Nat} (h : Built W wr X A k c ds) (hb : Below wr.heap.size wr w') : Built W w' X A k c ds :=
  ⟨h.var.keep hb, own_keep h.own hb, h.len, h.digs, h.bel.trans (hb.mono (Nat.le_of_lt h.var.lt))⟩
/-- One digit more. -/
theorem Built.more {W wr w' : World} {X : Nat} {A A' : Option Addr} {k c c' d : Nat} {ds : List Nat} (h : Built W wr X A k c ds) (hd : d < 65536)
    (hown : w'.ownsRow (X + 1) 49 1 (.slice A' (k + 1) c') (k + 1) (ds.map U ++ [.int .u64 (d : Int)])) (hg : wr.grownBy w' (Value.slice A k c).ownBlock) :
    Built W (w'.setCell ⟨X, 1, none⟩ (.slice A' (k + 1) c')) X A' (k + 1) c' (ds ++ [d]) := by
  have hv := h.var.push h.own (by omega) hg
  refine ⟨hv.store 1 _, ?_, by simp [h.len], h.digs.snoc hd, ?_⟩
  · rw [List.map_append]
    exact ownsRow_setCell_below hown (by simp) _
  · exact (below_push h.bel h.own (by omega) (Nat.le_of_lt h.var.lt) hg).setCell (by simp) _
/-- What the walk reads behind the append. -/
theorem Built.mid {W wr w' : World} {X : Nat} {A : Option Addr} {k c : Nat} {ds : List Nat} (h : Built W wr X A k c ds) (hg : wr.grownBy w' (Value.slice A k c).ownBlock) :
    w'.cell? ⟨X, 0, none⟩ = some (.bool false) ∧ w'.cell? ⟨X, 1, none⟩ = some (.slice A k c) ∧ w'.frozen? ⟨X, 1, none⟩ = false ∧ wr.heap.size ≤ w'.heap.size := by
  have hv := h.var.push h.own (by omega) hg
  exact ⟨hv.cell 0, hv.cell 1, hv.free 1, hg.size⟩

set_option maxHeartbeats 800000 in
theorem unsigned_ref (m : Nat) (hm : m < 18446744073709551616) (w : World) :
    Calls Try.prog 76 #[.int .u64 (m : Int)] w fun e w' => ∃ v, e = .returned v ∧ MagAt w' v false m ∧ Below w.heap.size w w' := by
  go_enter Try.func76, Try.ntmps76
  go_wp2_with fail
  refine wp_gen (fun W hW => ?_)
  have vX : Var W (w.heap.size + 1) 64 #[.bool false, .slice none 0 0] := by rw [hW]; exact Var.new' _ _ _ (by simp)
  have vR : Var W w.heap.size 64 #[.bool false, .slice none 0 0] := by rw [hW]; exact (Var.new _ _ _).alloc _
  have hBW : Below w.heap.size w W := by rw [hW]; go_grown
  clear hW
  go_loopw [0] (fun t wr => ∃ (q k c : Nat) (A : Option Addr) (ds : List Nat), t = .int .u64 (q : Int) ∧ Built W wr (w.heap.size + 1) A k c ds ∧ k ≤ 4 ∧ (q = 0 → Tight ds) ∧ val ds + 65536 ^ k * q = m)
    (fun t _ => (intOf t).toNat)
  case atStart => exact ⟨m, 0, 0, none, [], rfl, Built.start vX, by omega, fun _ => Tight.nil, by simp [val]⟩
  case round =>
    obtain ⟨q, k, c, A, ds, rfl, hbu, hk, ht, hv⟩ := hrel
    have c0 : wr.cell? ⟨w.heap.size + 1, 0, none⟩ = some (.bool false) := hbu.var.cell 0
    have c1 : wr.cell? ⟨w.heap.size + 1, 1, none⟩ = some (.slice A k c) := hbu.var.cell 1
    have f1 := hbu.var.free 1
    have vR' := vR.below hbu.bel (by omega)
    have r0 : wr.cell? ⟨w.heap.size, 0, none⟩ = some (.bool false) := vR'.cell 0
    have r1 : wr.cell? ⟨w.heap.size, 1, none⟩ = some (.slice none 0 0) := vR'.cell 1
    have g0 := vR'.free 0
    have g1 := vR'.free 1
    have s1 := hbu.var.lt
    have hBr : Below w.heap.size w wr := hBW.trans (hbu.bel.mono (by omega))
    have HV := Lib.hid hv
    clear hv
    rcases Nat.eq_zero_or_pos q with h0 | h0
    · subst h0
      have ht0 := ht rfl
      clear ht
      go_wp2_with fail
      refine bodyPost_ret (by simp [results, Try.results76, go_sem, *]; try rfl) rfl ?_
      refine ⟨_, rfl, ⟨A, k, c, ds, rfl, hbu.raw.over vR' _ _, ht0, ?_⟩, by go_grown⟩
      have := HV.out
      omega
    · have hk1 := unsigned_len HV.out h0 hm hk
      have hqm := unsigned_le HV.out
      have hq64 : (q : Int) ≤ 18446744073709551615 := by omega
      go_wp2_with (at_builtin; refine wpList_push rfl (.tmp 7) (.tmp 10) 62 rfl elt (w.heap.size + 1 + 1) A k c (ds.map U) rfl hbu.own [_] rfl rfl (one_cell rfl) (le_maxLen (by omega)) (by omega) (by omega) ?_; intro A' c' w' hown' hg; obtain ⟨m0, m1, mf, mz⟩ := hbu.mid hg; have mz' : w.heap.size + 1 < w'.heap.size := by omega)
      go_roundw
      case rel =>
        have e1 : ((q : Int) % 65536) = ((q % 65536 : Nat) : Int) := by omega
        rw [e1] at hown'
        have hv := HV.out
        exact ⟨q / 65536, k + 1, c', A', ds ++ [q % 65536], congrArg (Value.int .u64) (by omega), hbu.more (by omega) hown' hg, by omega,
          fun h => Tight.snoc (by omega), by rw [val_snoc, hbu.len, Nat.pow_succ]; exact unsigned_step hv⟩
      case measure => simp [intOf]; omega

/-- The digits without the noughts at the end. -/
theorem tight_take {ds : List Nat} {n : Nat} (hn : n ≤ ds.length) (h : n = 0 ∨ ¬ dig ds (n - 1) = 0) : Tight (ds.take n) := by
  unfold Tight
  rw [List.getLast?_eq_getElem?]
  rw [List.length_take, Nat.min_eq_left hn]
  rcases h with h | h
  · subst h; simp
  · rcases Nat.eq_zero_or_pos n with h0 | h0
    · subst h0; simp
    · rw [List.getElem?_take, if_pos (by omega), List.getElem?_eq_getElem (by omega)]
      intro e
      apply h
      unfold dig
      rw [List.getD_eq_getElem?_getD, List.getElem?_eq_getElem (by omega)]
      simpa using e
theorem drop_zero_step {ds : List Nat} {n : Nat} (hn : 0 < n) (h : val (ds.drop n) = 0) (h0 : dig ds (n - 1) = 0) : val (ds.drop (n - 1)) = 0 := by
  have := val_drop ds (n - 1)
  rw [show n - 1 + 1 = n by omega, h] at this
  unfold dig at h0
  omega

set_option maxHeartbeats 800000 in
theorem trimmed_any {w0 : World} {A : Option Addr} {n c : Nat} {ds : List Nat} (h : RawAt w0 A n c ds) (s : Bool) (w : World) (hw : Below w0.heap.size w0 w) :
    Calls Try.prog 96 #[.agg #[.bool s, .slice A n c]] w fun e w' => ∃ v, e = .returned v ∧ MagAt w' v (s && decide (¬ val ds = 0)) (val ds) ∧ Below w.heap.size w w' := by
  have h1 := h.below hw
  have hcc := h1.cap
  have hbig := h1.big
  go_enter Try.func96, Try.ntmps96
  go_wp2_with fail
  go_loop [3] (fun t => ∃ k : Nat, k ≤ n ∧ t = .int .i64 (k : Int) ∧ val (ds.drop k) = 0) (fun t => (intOf t).toNat)
  case atStart => exact ⟨n, Nat.le_refl _, rfl, by rw [List.drop_of_length_le (by rw [h.len]; omega)]; rfl⟩
  case round =>
    obtain ⟨k, hk, rfl, hv⟩ := hrel
    have HV := Lib.hid hv
    clear hv
    rcases Nat.eq_zero_or_pos k with h0 | h0
    · subst h0
      have HZ := Lib.hid (show val ds = 0 by simpa using HV.out)
      go_wp2_with fail
      refine bodyPost_ret (by simp [results, Try.results96, go_sem, *]; try rfl) rfl ?_
      refine ⟨_, rfl, ⟨A, 0, c, [], by simp [HZ.out], ?_, Tight.nil, by rw [HZ.out]; rfl⟩, by go_grown⟩
      exact ⟨rfl, by omega, hbig, Sl.nil _ _, Digs.nil⟩
    · obtain ⟨b, o, rfl, hb, hc⟩ := h1.at_ (i := k - 1) (by omega)
      have hc' : w.cell? ⟨b, o + (k - 1), none⟩ = some (.int .u64 (dig ds (k - 1) : Int)) := hc
      have hne : ¬ b = w.heap.size := by omega
      have hne2 : ¬ b = w.heap.size + 1 := by omega
      clear hc
      rcases Nat.eq_zero_or_pos (dig ds (k - 1)) with hd | hd
      · rw [hd] at hc'
        go_wp2_with fail
        go_round
        case rel => exact ⟨k - 1, by omega, congrArg (Value.int .i64) (by omega), drop_zero_step h0 HV.out hd⟩
        case measure => simp [intOf]; omega
      · go_wp2_with fail
        refine bodyPost_ret (by simp [results, Try.results96, go_sem, *]; try rfl) rfl ?_
        have hv := HV.out
        have hpos : ¬ val ds = 0 := by
          intro h0
          have h2 := val_take_zeros (ds := ds) (n := k) (by rw [h.len]; exact hk) hv
          have ht := tight_take (ds := ds) (n := k) (by rw [h.len]; exact hk) (.inr (by omega))
          rw [h0, val_eq_zero ht] at h2
          have := congrArg List.length h2
          rw [List.length_take, h.len] at this
          simp at this; omega
        refine ⟨_, rfl, ⟨some ⟨b, o, none⟩, k, c, ds.take k, by simp [hpos], ?_, tight_take (by rw [h.len]; exact hk) (.inr (by omega)), val_take_zeros (by rw [h.len]; exact hk) hv⟩, by go_grown⟩
        exact (h1.take hk).below (by go_grown)

theorem dig_drop (ds : List Nat) (i : Nat) : val (ds.drop i) = dig ds i + 65536 * val (ds.drop (i + 1)) := val_drop ds i
theorem drop_out {ds : List Nat} {i : Nat} (h : ds.length ≤ i) : val (ds.drop i) = 0 := by rw [List.drop_of_length_le h]; rfl

set_option maxHeartbeats 1600000 in
theorem size_any {w0 : World} {A1 A2 : Option Addr} {n1 c1 n2 c2 : Nat} {d1 d2 : List Nat} (h1 : RawAt w0 A1 n1 c1 d1) (h2 : RawAt w0 A2 n2 c2 d2) (s1 s2 : Bool) (hn1 : n1 ≤ 100000) (hn2 : n2 ≤ 100000) (w : World) (hw : Below w0.heap.size w0 w) :
    Calls Try.prog 77 #[.agg #[.bool s1, .slice A1 n1 c1], .agg #[.bool s2, .slice A2 n2 c2]] w fun e w' => ∃ v, e = .returned v ∧ MagAt w' v false (val d1 + val d2) ∧ Below w.heap.size w w' := by
  have r1 := h1.below hw
  have r2 := h2.below hw
  have l1 := h1.len
  have l2 := h2.len
  have g1 := h1.digs
  have g2 := h2.digs
  clear h1 h2 hw
  have HL := Lib.hid (And.intro l1 l2)
  clear l1 l2
  go_enter Try.func77, Try.ntmps77
  go_wp2_with fail
  refine wp_gen (fun W hW => ?_)
  have v0 : Var W w.heap.size 64 #[.bool s1, .slice A1 n1 c1] := by rw [hW]; exact (((Var.new _ _ _).alloc _).alloc _).alloc _
  have v1 : Var W (w.heap.size + 1) 64 #[.bool s2, .slice A2 n2 c2] := by rw [hW]; exact ((Var.new' _ _ _ (by simp)).alloc _).alloc _
  have vR : Var W (w.heap.size + 1 + 1) 64 #[.bool false, .slice none 0 0] := by rw [hW]; exact (Var.new' _ _ _ (by simp)).alloc _
  have vX : Var W (w.heap.size + 1 + 1 + 1) 64 #[.bool false, .slice none 0 0] := by rw [hW]; exact Var.new' _ _ _ (by simp)
  have hBW : Below w.heap.size w W := by rw [hW]; go_grown
  clear hW
  go_loopw [6, 7] (fun cy t wr => ∃ (ca k c : Nat) (A : Option Addr) (ds : List Nat), cy = .int .u64 (ca : Int) ∧ t = .int .i64 (k : Int) ∧ Built W wr (w.heap.size + 1 + 1 + 1) A k c ds ∧
      (ca ≤ 1 ∧ (k ≤ n1 ∨ k ≤ n2 ∨ (ca = 0 ∧ k ≤ n1 + n2 + 1))) ∧ val ds + 65536 ^ k * (ca + val (d1.drop k) + val (d2.drop k)) = val d1 + val d2)
    (fun _ t _ => n1 + n2 + 2 - (intOf t).toNat)
  case atStart => exact ⟨0, 0, 0, none, [], rfl, rfl, Built.start vX, by omega, by simp [val]⟩
  case round =>
    obtain ⟨ca, k, c, A, ds, rfl, rfl, hbu, ⟨hca, hk⟩, hv⟩ := hrel
    have HV := Lib.hid hv
    clear hv
    have x0 : wr.cell? ⟨w.heap.size + 1 + 1 + 1, 0, none⟩ = some (.bool false) := hbu.var.cell 0
    have x1 : wr.cell? ⟨w.heap.size + 1 + 1 + 1, 1, none⟩ = some (.slice A k c) := hbu.var.cell 1
    have f1 := hbu.var.free 1
    have vR' := vR.below hbu.bel (by omega)
    have v0' := v0.below hbu.bel (by omega)
    have v1' := v1.below hbu.bel (by omega)
    have a0 : wr.cell? ⟨w.heap.size, 0, none⟩ = some (.bool s1) := v0'.cell 0
    have a1 : wr.cell? ⟨w.heap.size, 1, none⟩ = some (.slice A1 n1 c1) := v0'.cell 1
    have b0 : wr.cell? ⟨w.heap.size + 1, 0, none⟩ = some (.bool s2) := v1'.cell 0
    have b1 : wr.cell? ⟨w.heap.size + 1, 1, none⟩ = some (.slice A2 n2 c2) := v1'.cell 1
    have q0 : wr.cell? ⟨w.heap.size + 1 + 1, 0, none⟩ = some (.bool false) := vR'.cell 0
    have q1 : wr.cell? ⟨w.heap.size + 1 + 1, 1, none⟩ = some (.slice none 0 0) := vR'.cell 1
    have e0 := vR'.free 0
    have e1 := vR'.free 1
    have z3 := hbu.var.lt
    have z2 := vR'.lt
    have z1 := v1'.lt
    have z0 := v0'.lt
    have hBr : Below w.heap.size w wr := hBW.trans (hbu.bel.mono (by omega))
    by_cases hgo : k < n1 ∨ k < n2 ∨ 0 < ca
    · have hways : k < n1 ∨ (n1 ≤ k ∧ k < n2) ∨ (n1 ≤ k ∧ n2 ≤ k ∧ 0 < ca) := by omega
      clear hgo
      have t1 := dig_lt g1 k
      have t2 := dig_lt g2 k
      have o1 : n1 ≤ k → dig d1 k = 0 := fun h => dig_out (by rw [HL.out.1]; exact h)
      have o2 : n2 ≤ k → dig d2 k = 0 := fun h => dig_out (by rw [HL.out.2]; exact h)
      have HO := Lib.hid (And.intro o1 o2)
      clear o1 o2
      rcases hways with hl | ⟨hl, hl'⟩ | ⟨hl, hl', hl''⟩
      all_goals
        go_wp2_with fail
        have hq_wr := @wd_cell wr
        refine wp_region_wd (by kernel_rfl) (by kernel_rfl) ?_
        repeat (go_big_quiet_step ((first | (go_at_call_of 95 (Value.agg #[.bool s1, .slice A1 n1 c1]); with_reducible exact quiet_wd (digit_any (r1.below hBr) s1 k _ (Wd.h _))) | (go_at_call_of 95 (Value.agg #[.bool s2, .slice A2 n2 c2]); with_reducible exact quiet_wd (digit_any (r2.below hBr) s2 k _ (Wd.h _))))))
        refine wpQuiet_nil ?_
        rintro w8 ⟨⟨wx, hb_w8⟩, hwx⟩
        obtain rfl : w8 = wx := hwx
        clear hq_wr
        have hz_w8 := hb_w8.size
        obtain ⟨hc_w8, hf_w8⟩ := bcell hb_w8
        have hB_w8 : Below w.heap.size w w8 := Below.trans (by go_grown) (hb_w8.mono (by go_size))
        have hb8 := hbu.keep hb_w8
        have y3 := hb8.var.lt
        go_wp2_with (at_builtin; refine wpList_push rfl (.tmp 37) (.tmp 40) 62 rfl elt (w.heap.size + 1 + 1 + 1 + 1) A k c (ds.map U) rfl hb8.own [_] rfl rfl (one_cell rfl) (le_maxLen (by omega)) (by omega) (by omega) ?_; intro A' c' w' hown' hg; obtain ⟨m0, m1, mf, mz⟩ := hb8.mid hg; have mz' : w.heap.size + 1 + 1 + 1 < w'.heap.size := by omega)
        go_roundw
        case rel =>
          have e1 : (((dig d1 k : Nat) : Int) + (dig d2 k : Nat) + (ca : Nat)) % 65536 = (((dig d1 k + dig d2 k + ca) % 65536 : Nat) : Int) := by omega
          rw [e1] at hown'
          have hv := HV.out
          have ho := HO.out
          refine ⟨(dig d1 k + dig d2 k + ca) / 65536, k + 1, c', A', ds ++ [(dig d1 k + dig d2 k + ca) % 65536], congrArg (Value.int .u64) (by omega), congrArg (Value.int .i64) (by omega), hb8.more (by omega) hown' hg, ⟨by omega, ?_⟩, ?_⟩
          · rcases Nat.lt_or_ge k n1 with h | h
            · omega
            · rcases Nat.lt_or_ge k n2 with h' | h'
              · omega
              · have := ho.1 h
                have := ho.2 h'
                omega
          · rw [val_snoc, hbu.len, Nat.pow_succ]
            rw [dig_drop d1 k, dig_drop d2 k] at hv
            exact (size_step rfl).trans hv
        case measure => simp [intOf]; omega
    · have hk1 : n1 ≤ k := by omega
      have hk2 : n2 ≤ k := by omega
      have hc0 : ca = 0 := by omega
      subst hc0
      clear hgo
      have hfin : val ds = val d1 + val d2 := by
        have := HV.out
        rw [drop_out (by rw [HL.out.1]; exact hk1), drop_out (by rw [HL.out.2]; exact hk2)] at this
        simpa using this
      have HF := Lib.hid hfin
      clear hfin
      go_wp2_with fail
      refine (trimmed_any hbu.raw false _ (Below.refl _ _)).mono ?_
      rintro e w9 ⟨v, rfl, ⟨A', n', c', ds', rfl, hraw, ht, hval⟩, hb_w9⟩
      obtain ⟨hc_w9, hf_w9⟩ := bcell hb_w9
      have hz_w9 := hb_w9.size
      try simp at hz_w9
      have hB_w9 : Below w.heap.size w w9 := Below.trans (by go_grown) (hb_w9.mono (by go_size))
      have hs_w9_0 : w.heap.size < w9.heap.size := by omega
      have hs_w9_1 : w.heap.size + 1 < w9.heap.size := by omega
      have hs_w9_2 : w.heap.size + 1 + 1 < w9.heap.size := by omega
      have vR9 := vR'.keep hb_w9
      go_wp2_with fail
      refine bodyPost_ret (by simp [results, Try.results77, go_sem, *]; try rfl) rfl ?_
      refine ⟨_, rfl, ⟨A', n', c', ds', rfl, hraw.over vR9 _ _, ht, hval.trans HF.out⟩, by go_grown⟩

end Go.Proofs.Ytcpojadinkonnaa
