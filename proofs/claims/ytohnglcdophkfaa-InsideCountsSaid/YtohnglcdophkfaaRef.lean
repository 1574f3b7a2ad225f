/-
  Contracts of the reference's functions on sizes: digit, Unsigned, trimmed, size, less, cmpSize.
  Contracts of the reference's functions on sizes: less, cmpSize.
  Contracts of the reference's functions on whole numbers: Neg, Add, Sub, Cmp, Sign.
  Regions that draw their order and end in a store into one block: what holds meanwhile. Plain lemmas.
  Contracts of the reference's functions on whole numbers: Sub, Cmp, Sign.
  Contracts of the reference's functions: word, Power.
  Contracts of the reference's functions: power (small), Of.
  Contract of the reference's Mul: the product of two sizes, of two whole numbers.
  The memory of the reference's Div: what its blocks hold, and what a store makes of it. No walk.
  Contract of the reference's Div: two sizes' quotient and what is left.
  A cut behind a region: what is known of the slots that it fills and of the world is said once, whatever order was picked. Plain lemmas besides: a block through stores, calls and new memory.
-/
import Derived.Test.YtohnglcdophkfaaNum
import Derived.Test.YtohnglcdophkfaaMem
import Derived.Test.YtohnglcdophkfaaWideMath
import Derived.WalkSpells
import Derived.WalkLawsBesides
import Derived.Lib.Hide
import Derived.Deep.LoopGhost
import Derived.Deep.RegionWith
import Derived.Test.YtohnglcdophkfaaNatMore
import Derived.Deep.OwnRows
namespace Go.Proofs.Ytohnglcdophkfaa
open Go.RowKit

theorem elt : Elt Try.prog 65 55 (.int .u64 0) 1 8 := ⟨Try.underlying65, by kernel_rfl, rfl, by omega⟩

/-- Digit number i; 0 behind the last. -/
def dig (ds : List Nat) (i : Nat) : Nat := ds.getD i 0
theorem dig_lt {ds : List Nat} (h : Digs ds) (i : Nat) : dig ds i < 65536 := h.getD i
theorem dig_out {ds : List Nat} {i : Nat} (h : ds.length ≤ i) : dig ds i = 0 := by
  unfold dig; rw [List.getD_eq_getElem?_getD, List.getElem?_eq_none h]; rfl

theorem digit_any {w0 : World} {A : Option Addr} {n c : Nat} {ds : List Nat} (h : RawAt w0 A n c ds) (s : Bool) (k : Nat) (w : World) (hw : Below w0.heap.size w0 w) :
    Calls Try.prog 94 #[.agg #[.bool s, .slice A n c], .int .i64 (k : Int)] w fun e w' => e = .returned (.int .u64 (dig ds k : Int)) ∧ Below w.heap.size w w' := by
  have h1 := h.below hw
  by_cases hlt : k < n
  · obtain ⟨b, o, rfl, hb, hc⟩ := h1.at_ hlt
    have hne : ¬ b = w.heap.size := by omega
    have hc' : w.cell? ⟨b, o + k, none⟩ = some (.int .u64 (dig ds k : Int)) := hc
    clear hc h1
    go_enter Try.func94, Try.ntmps94
    go_wp2
    go_ret
    exact ⟨rfl, by go_grown⟩
  · have h0 : dig ds k = 0 := dig_out (by rw [h.len]; omega)
    rw [h0]
    clear h0 h1
    go_enter Try.func94, Try.ntmps94
    go_wp2
    go_ret
    exact ⟨rfl, by go_grown⟩

/-- What a loop has built: block X holds a number without a sign, its digits ds so far; all below X is as it was in W. -/
structure Built (W wr : World) (X : Nat) (A : Option Addr) (k c : Nat) (ds : List Nat) : Prop where
  var : Var wr X 67 #[.bool false, .slice A k c]
  own : wr.ownsRow (X + 1) 55 1 (.slice A k c) k (ds.map U)
  len : ds.length = k
  digs : Digs ds
  bel : Below X W wr
theorem raw_of_own {wr : World} {base : Nat} {A : Option Addr} {k c : Nat} {ds : List Nat} (h : wr.ownsRow base 55 1 (.slice A k c) k (ds.map U)) (hl : ds.length = k) (hd : Digs ds) : RawAt wr A k c ds := by
  have hcs : k ≤ c ∧ c ≤ 9223372036854775807 := by
    rcases h.2 with ⟨hv, h0⟩ | ⟨g, cap, cur, hv, _, _, hle, hm, _⟩
    · injection hv with _ _ hc; omega
    · injection hv with _ _ hc
      simp only [maxLen] at hm
      omega
  exact ⟨hl, hcs.1, hcs.2, Sl.of_own h, hd⟩
theorem Built.raw {W wr : World} {X : Nat} {A : Option Addr} {k c : Nat} {ds : List Nat} (h : Built W wr X A k c ds) : RawAt wr A k c ds := raw_of_own h.own h.len h.digs
theorem Built.start {W : World} {X : Nat} (h : Var W X 67 #[.bool false, .slice none 0 0]) : Built W W X none 0 0 [] :=
  ⟨h, World.ownsRow_nil _ _ _ _, rfl, Digs.nil, Below.refl _ _⟩
theorem Built.keep {W wr w' : World} {X : Nat} {A : Option Addr} {k c : Nat} {ds : List Nat} (h : Built W wr X A k c ds) (hb : Below wr.heap.size wr w') : Built W w' X A k c ds :=
  ⟨h.var.keep hb, own_keep h.own hb, h.len, h.digs, h.bel.trans (hb.mono (Nat.le_of_lt h.var.lt))⟩
/-- One digit more. -/
theorem Built.more {W wr w' : World} {X : Nat} {A A' : Option Addr} {k c c' d : Nat} {ds : List Nat} (h : Built W wr X A k c ds) (hd : d < 65536)
    (hown : w'.ownsRow (X + 1) 55 1 (.slice A' (k + 1) c') (k + 1) (ds.map U ++ [.int .u64 (d : Int)])) (hg : wr.grownBy w' (Value.slice A k c).ownBlock) :
    Built W (w'.setCell ⟨X, 1, none⟩ (.slice A' (k + 1) c')) X A' (k + 1) c' (ds ++ [d]) := by
  have hv := h.var.push h.own (by omega) hg
  refine ⟨hv.store 1 _, ?_, by simp [h.len], h.digs.snoc hd, ?_⟩
  · rw [List.map_append]
    exact ownsRow_setCell_below hown (by simp) _
  · exact (below_push h.bel h.own (by omega) (Nat.le_of_lt h.var.lt) hg).setCell (by simp) _
/-- What the walk reads behind the append. -/
theorem Built.mid {W wr w' : World} {X : Nat} {A : Option Addr} {k c : Nat} {ds : List Nat} (h : Built W wr X A k c ds) (hg : wr.grownBy w' (Value.slice A k c).ownBlock) :
    w'.cell? ⟨X, 0, none⟩ = some (.bool false) ∧ w'.cell? ⟨X, 1, none⟩ = some (.slice A k c) ∧ w'.frozen? ⟨X, 1, none⟩ = false ∧ wr.heap.size ≤ w'.heap.size := by
  have hv := h.var.push h.own (by omega) hg
  exact ⟨hv.cell 0, hv.cell 1, hv.free 1, hg.size⟩

set_option maxHeartbeats 800000 in
theorem unsigned_ref (m : Nat) (hm : m < 18446744073709551616) (w : World) :
    Calls Try.prog 95 #[.int .u64 (m : Int)] w fun e w' => ∃ v, e = .returned v ∧ MagAt w' v false m ∧ Below w.heap.size w w' := by
  go_enter Try.func95, Try.ntmps95
  go_wp2_with fail
  refine wp_gen (fun W hW => ?_)
  have vX : Var W (w.heap.size + 1) 67 #[.bool false, .slice none 0 0] := by rw [hW]; exact Var.new' _ _ _ (by simp)
  have vR : Var W w.heap.size 67 #[.bool false, .slice none 0 0] := by rw [hW]; exact (Var.new _ _ _).alloc _
  have hBW : Below w.heap.size w W := by rw [hW]; go_grown
  clear hW
  go_loopw [0] (fun t wr => ∃ (q k c : Nat) (A : Option Addr) (ds : List Nat), t = .int .u64 (q : Int) ∧ Built W wr (w.heap.size + 1) A k c ds ∧ k ≤ 4 ∧ (q = 0 → Tight ds) ∧ val ds + 65536 ^ k * q = m)
    (fun t _ => (intOf t).toNat)
  case atStart => exact ⟨m, 0, 0, none, [], rfl, Built.start vX, by omega, fun _ => Tight.nil, by simp [val]⟩
  case round =>
    obtain ⟨q, k, c, A, ds, rfl, hbu, hk, ht, hv⟩ := hrel
    have c0 : wr.cell? ⟨w.heap.size + 1, 0, none⟩ = some (.bool false) := hbu.var.cell 0
    have c1 : wr.cell? ⟨w.heap.size + 1, 1, none⟩ = some (.slice A k c) := hbu.var.cell 1
    have f1 := hbu.var.free 1
    have vR' := vR.below hbu.bel (by omega)
    have r0 : wr.cell? ⟨w.heap.size, 0, none⟩ = some (.bool false) := vR'.cell 0
    have r1 : wr.cell? ⟨w.heap.size, 1, none⟩ = some (.slice none 0 0) := vR'.cell 1
    have g0 := vR'.free 0
    have g1 := vR'.free 1
    have s1 := hbu.var.lt
    have hBr : Below w.heap.size w wr := hBW.trans (hbu.bel.mono (by omega))
    have HV := Lib.hid hv
    clear hv
    rcases Nat.eq_zero_or_pos q with h0 | h0
    · subst h0
      have ht0 := ht rfl
      clear ht
      go_wp2_with fail
      refine bodyPost_ret (by simp [results, Try.results95, go_sem, *]; try rfl) rfl ?_
      refine ⟨_, rfl, ⟨A, k, c, ds, rfl, hbu.raw.over vR' _ _, ht0, ?_⟩, by go_grown⟩
      have := HV.out
      omega
    · have hk1 := unsigned_len HV.out h0 hm hk
      have hqm := unsigned_le HV.out
      have hq64 : (q : Int) ≤ 18446744073709551615 := by omega
      go_wp2_with (at_builtin; refine wpList_push rfl (.tmp 7) (.tmp 10) 65 rfl elt (w.heap.size + 1 + 1) A k c (ds.map U) rfl hbu.own [_] rfl rfl (one_cell rfl) (le_maxLen (by omega)) (by omega) (by omega) ?_; intro A' c' w' hown' hg; obtain ⟨m0, m1, mf, mz⟩ := hbu.mid hg; have mz' : w.heap.size + 1 < w'.heap.size := by omega)
      go_roundw
      case rel =>
        have e1 : ((q : Int) % 65536) = ((q % 65536 : Nat) : Int) := by omega
        rw [e1] at hown'
        have hv := HV.out
        exact ⟨q / 65536, k + 1, c', A', ds ++ [q % 65536], congrArg (Value.int .u64) (by omega), hbu.more (by omega) hown' hg, by omega,
          fun h => Tight.snoc (by omega), by rw [val_snoc, hbu.len, Nat.pow_succ]; exact unsigned_step hv⟩
      case measure => simp [intOf]; omega

/-- The digits without the noughts at the end. -/
theorem tight_take {ds : List Nat} {n : Nat} (hn : n ≤ ds.length) (h : n = 0 ∨ ¬ dig ds (n - 1) = 0) : Tight (ds.take n) := by
  unfold Tight
  rw [List.getLast?_eq_getElem?]
  rw [List.length_take, Nat.min_eq_left hn]
  rcases h with h | h
  · subst h; simp
  · rcases Nat.eq_zero_or_pos n with h0 | h0
    · subst h0; simp
    · rw [List.getElem?_take, if_pos (by omega), List.getElem?_eq_getElem (by omega)]
      intro e
      apply h
      unfold dig
      rw [List.getD_eq_getElem?_getD, List.getElem?_eq_getElem (by omega)]
      simpa using e
theorem drop_zero_step {ds : List Nat} {n : Nat} (hn : 0 < n) (h : val (ds.drop n) = 0) (h0 : dig ds (n - 1) = 0) : val (ds.drop (n - 1)) = 0 := by
  have := val_drop ds (n - 1)
  rw [show n - 1 + 1 = n by omega, h] at this
  unfold dig at h0
  omega

set_option maxHeartbeats 800000 in
theorem trimmed_any {w0 : World} {A : Option Addr} {n c : Nat} {ds : List Nat} (h : RawAt w0 A n c ds) (s : Bool) (w : World) (hw : Below w0.heap.size w0 w) :
    Calls Try.prog 76 #[.agg #[.bool s, .slice A n c]] w fun e w' => ∃ v, e = .returned v ∧ MagAt w' v (s && decide (¬ val ds = 0)) (val ds) ∧ Below w.heap.size w w' := by
  have h1 := h.below hw
  have hcc := h1.cap
  have hbig := h1.big
  go_enter Try.func76, Try.ntmps76
  go_wp2_with fail
  go_loop [3] (fun t => ∃ k : Nat, k ≤ n ∧ t = .int .i64 (k : Int) ∧ val (ds.drop k) = 0) (fun t => (intOf t).toNat)
  case atStart => exact ⟨n, Nat.le_refl _, rfl, by rw [List.drop_of_length_le (by rw [h.len]; omega)]; rfl⟩
  case round =>
    obtain ⟨k, hk, rfl, hv⟩ := hrel
    have HV := Lib.hid hv
    clear hv
    rcases Nat.eq_zero_or_pos k with h0 | h0
    · subst h0
      have HZ := Lib.hid (show val ds = 0 by simpa using HV.out)
      go_wp2_with fail
      refine bodyPost_ret (by simp [results, Try.results76, go_sem, *]; try rfl) rfl ?_
      refine ⟨_, rfl, ⟨A, 0, c, [], by simp [HZ.out], ?_, Tight.nil, by rw [HZ.out]; rfl⟩, by go_grown⟩
      exact ⟨rfl, by omega, hbig, Sl.nil _ _, Digs.nil⟩
    · obtain ⟨b, o, rfl, hb, hc⟩ := h1.at_ (i := k - 1) (by omega)
      have hc' : w.cell? ⟨b, o + (k - 1), none⟩ = some (.int .u64 (dig ds (k - 1) : Int)) := hc
      have hne : ¬ b = w.heap.size := by omega
      have hne2 : ¬ b = w.heap.size + 1 := by omega
      clear hc
      rcases Nat.eq_zero_or_pos (dig ds (k - 1)) with hd | hd
      · rw [hd] at hc'
        go_wp2_with fail
        go_round
        case rel => exact ⟨k - 1, by omega, congrArg (Value.int .i64) (by omega), drop_zero_step h0 HV.out hd⟩
        case measure => simp [intOf]; omega
      · go_wp2_with fail
        refine bodyPost_ret (by simp [results, Try.results76, go_sem, *]; try rfl) rfl ?_
        have hv := HV.out
        have hpos : ¬ val ds = 0 := by
          intro h0
          have h2 := val_take_zeros (ds := ds) (n := k) (by rw [h.len]; exact hk) hv
          have ht := tight_take (ds := ds) (n := k) (by rw [h.len]; exact hk) (.inr (by omega))
          rw [h0, val_eq_zero ht] at h2
          have := congrArg List.length h2
          rw [List.length_take, h.len] at this
          simp at this; omega
        refine ⟨_, rfl, ⟨some ⟨b, o, none⟩, k, c, ds.take k, by simp [hpos], ?_, tight_take (by rw [h.len]; exact hk) (.inr (by omega)), val_take_zeros (by rw [h.len]; exact hk) hv⟩, by go_grown⟩
        exact (h1.take hk).below (by go_grown)

theorem dig_drop (ds : List Nat) (i : Nat) : val (ds.drop i) = dig ds i + 65536 * val (ds.drop (i + 1)) := val_drop ds i
theorem drop_out {ds : List Nat} {i : Nat} (h : ds.length ≤ i) : val (ds.drop i) = 0 := by rw [List.drop_of_length_le h]; rfl

set_option maxHeartbeats 1600000 in
theorem size_any {w0 : World} {A1 A2 : Option Addr} {n1 c1 n2 c2 : Nat} {d1 d2 : List Nat} (h1 : RawAt w0 A1 n1 c1 d1) (h2 : RawAt w0 A2 n2 c2 d2) (s1 s2 : Bool) (hn1 : n1 ≤ 100000) (hn2 : n2 ≤ 100000) (w : World) (hw : Below w0.heap.size w0 w) :
    Calls Try.prog 75 #[.agg #[.bool s1, .slice A1 n1 c1], .agg #[.bool s2, .slice A2 n2 c2]] w fun e w' => ∃ v, e = .returned v ∧ MagAt w' v false (val d1 + val d2) ∧ Below w.heap.size w w' := by
  have r1 := h1.below hw
  have r2 := h2.below hw
  have l1 := h1.len
  have l2 := h2.len
  have g1 := h1.digs
  have g2 := h2.digs
  clear h1 h2 hw
  have HL := Lib.hid (And.intro l1 l2)
  clear l1 l2
  go_enter Try.func75, Try.ntmps75
  go_wp2_with fail
  refine wp_gen (fun W hW => ?_)
  have v0 : Var W w.heap.size 67 #[.bool s1, .slice A1 n1 c1] := by rw [hW]; exact (((Var.new _ _ _).alloc _).alloc _).alloc _
  have v1 : Var W (w.heap.size + 1) 67 #[.bool s2, .slice A2 n2 c2] := by rw [hW]; exact ((Var.new' _ _ _ (by simp)).alloc _).alloc _
  have vR : Var W (w.heap.size + 1 + 1) 67 #[.bool false, .slice none 0 0] := by rw [hW]; exact (Var.new' _ _ _ (by simp)).alloc _
  have vX : Var W (w.heap.size + 1 + 1 + 1) 67 #[.bool false, .slice none 0 0] := by rw [hW]; exact Var.new' _ _ _ (by simp)
  have hBW : Below w.heap.size w W := by rw [hW]; go_grown
  clear hW
  go_loopw [6, 7] (fun cy t wr => ∃ (ca k c : Nat) (A : Option Addr) (ds : List Nat), cy = .int .u64 (ca : Int) ∧ t = .int .i64 (k : Int) ∧ Built W wr (w.heap.size + 1 + 1 + 1) A k c ds ∧
      (ca ≤ 1 ∧ (k ≤ n1 ∨ k ≤ n2 ∨ (ca = 0 ∧ k ≤ n1 + n2 + 1))) ∧ val ds + 65536 ^ k * (ca + val (d1.drop k) + val (d2.drop k)) = val d1 + val d2)
    (fun _ t _ => n1 + n2 + 2 - (intOf t).toNat)
  case atStart => exact ⟨0, 0, 0, none, [], rfl, rfl, Built.start vX, by omega, by simp [val]⟩
  case round =>
    obtain ⟨ca, k, c, A, ds, rfl, rfl, hbu, ⟨hca, hk⟩, hv⟩ := hrel
    have HV := Lib.hid hv
    clear hv
    have x0 : wr.cell? ⟨w.heap.size + 1 + 1 + 1, 0, none⟩ = some (.bool false) := hbu.var.cell 0
    have x1 : wr.cell? ⟨w.heap.size + 1 + 1 + 1, 1, none⟩ = some (.slice A k c) := hbu.var.cell 1
    have f1 := hbu.var.free 1
    have vR' := vR.below hbu.bel (by omega)
    have v0' := v0.below hbu.bel (by omega)
    have v1' := v1.below hbu.bel (by omega)
    have a0 : wr.cell? ⟨w.heap.size, 0, none⟩ = some (.bool s1) := v0'.cell 0
    have a1 : wr.cell? ⟨w.heap.size, 1, none⟩ = some (.slice A1 n1 c1) := v0'.cell 1
    have b0 : wr.cell? ⟨w.heap.size + 1, 0, none⟩ = some (.bool s2) := v1'.cell 0
    have b1 : wr.cell? ⟨w.heap.size + 1, 1, none⟩ = some (.slice A2 n2 c2) := v1'.cell 1
    have q0 : wr.cell? ⟨w.heap.size + 1 + 1, 0, none⟩ = some (.bool false) := vR'.cell 0
    have q1 : wr.cell? ⟨w.heap.size + 1 + 1, 1, none⟩ = some (.slice none 0 0) := vR'.cell 1
    have e0 := vR'.free 0
    have e1 := vR'.free 1
    have z3 := hbu.var.lt
    have z2 := vR'.lt
    have z1 := v1'.lt
    have z0 := v0'.lt
    have hBr : Below w.heap.size w wr := hBW.trans (hbu.bel.mono (by omega))
    by_cases hgo : k < n1 ∨ k < n2 ∨ 0 < ca
    · have hways : k < n1 ∨ (n1 ≤ k ∧ k < n2) ∨ (n1 ≤ k ∧ n2 ≤ k ∧ 0 < ca) := by omega
      clear hgo
      have t1 := dig_lt g1 k
      have t2 := dig_lt g2 k
      have o1 : n1 ≤ k → dig d1 k = 0 := fun h => dig_out (by rw [HL.out.1]; exact h)
      have o2 : n2 ≤ k → dig d2 k = 0 := fun h => dig_out (by rw [HL.out.2]; exact h)
      have HO := Lib.hid (And.intro o1 o2)
      clear o1 o2
      rcases hways with hl | ⟨hl, hl'⟩ | ⟨hl, hl', hl''⟩
      all_goals
        go_wp2_with fail
        have hq_wr := @wd_cell wr
        refine wp_region_wd (by kernel_rfl) (by kernel_rfl) ?_
        repeat (go_big_quiet_step ((first | (go_at_call_of 94 (Value.agg #[.bool s1, .slice A1 n1 c1]); with_reducible exact quiet_wd (digit_any (r1.below hBr) s1 k _ (Wd.h _))) | (go_at_call_of 94 (Value.agg #[.bool s2, .slice A2 n2 c2]); with_reducible exact quiet_wd (digit_any (r2.below hBr) s2 k _ (Wd.h _))))))
        refine wpQuiet_nil ?_
        rintro w8 ⟨⟨wx, hb_w8⟩, hwx⟩
        obtain rfl : w8 = wx := hwx
        clear hq_wr
        have hz_w8 := hb_w8.size
        obtain ⟨hc_w8, hf_w8⟩ := bcell hb_w8
        have hB_w8 : Below w.heap.size w w8 := Below.trans (by go_grown) (hb_w8.mono (by go_size))
        have hb8 := hbu.keep hb_w8
        have y3 := hb8.var.lt
        go_wp2_with (at_builtin; refine wpList_push rfl (.tmp 37) (.tmp 40) 65 rfl elt (w.heap.size + 1 + 1 + 1 + 1) A k c (ds.map U) rfl hb8.own [_] rfl rfl (one_cell rfl) (le_maxLen (by omega)) (by omega) (by omega) ?_; intro A' c' w' hown' hg; obtain ⟨m0, m1, mf, mz⟩ := hb8.mid hg; have mz' : w.heap.size + 1 + 1 + 1 < w'.heap.size := by omega)
        go_roundw
        case rel =>
          have e1 : (((dig d1 k : Nat) : Int) + (dig d2 k : Nat) + (ca : Nat)) % 65536 = (((dig d1 k + dig d2 k + ca) % 65536 : Nat) : Int) := by omega
          rw [e1] at hown'
          have hv := HV.out
          have ho := HO.out
          refine ⟨(dig d1 k + dig d2 k + ca) / 65536, k + 1, c', A', ds ++ [(dig d1 k + dig d2 k + ca) % 65536], congrArg (Value.int .u64) (by omega), congrArg (Value.int .i64) (by omega), hb8.more (by omega) hown' hg, ⟨by omega, ?_⟩, ?_⟩
          · rcases Nat.lt_or_ge k n1 with h | h
            · omega
            · rcases Nat.lt_or_ge k n2 with h' | h'
              · omega
              · have := ho.1 h
                have := ho.2 h'
                omega
          · rw [val_snoc, hbu.len, Nat.pow_succ]
            rw [dig_drop d1 k, dig_drop d2 k] at hv
            exact (size_step rfl).trans hv
        case measure => simp [intOf]; omega
    · have hk1 : n1 ≤ k := by omega
      have hk2 : n2 ≤ k := by omega
      have hc0 : ca = 0 := by omega
      subst hc0
      clear hgo
      have hfin : val ds = val d1 + val d2 := by
        have := HV.out
        rw [drop_out (by rw [HL.out.1]; exact hk1), drop_out (by rw [HL.out.2]; exact hk2)] at this
        simpa using this
      have HF := Lib.hid hfin
      clear hfin
      go_wp2_with fail
      refine (trimmed_any hbu.raw false _ (Below.refl _ _)).mono ?_
      rintro e w9 ⟨v, rfl, ⟨A', n', c', ds', rfl, hraw, ht, hval⟩, hb_w9⟩
      obtain ⟨hc_w9, hf_w9⟩ := bcell hb_w9
      have hz_w9 := hb_w9.size
      try simp at hz_w9
      have hB_w9 : Below w.heap.size w w9 := Below.trans (by go_grown) (hb_w9.mono (by go_size))
      have hs_w9_0 : w.heap.size < w9.heap.size := by omega
      have hs_w9_1 : w.heap.size + 1 < w9.heap.size := by omega
      have hs_w9_2 : w.heap.size + 1 + 1 < w9.heap.size := by omega
      have vR9 := vR'.keep hb_w9
      go_wp2_with fail
      refine bodyPost_ret (by simp [results, Try.results75, go_sem, *]; try rfl) rfl ?_
      refine ⟨_, rfl, ⟨A', n', c', ds', rfl, hraw.over vR9 _ _, ht, hval.trans HF.out⟩, by go_grown⟩

theorem ret_int {k : IntKind} {a b : Int} (h : a = b) : Ending.returned (.int k a) = .returned (.int k b) := by rw [h]
theorem less_end {v a b P x : Nat} (h : v + P * 0 + b = a + P * x) (hv : v < P) (hb : b ≤ a) : v = a - b := by
  rcases Nat.eq_zero_or_pos x with h0 | h0
  · subst h0; simp at h; omega
  · have := Nat.le_mul_of_pos_right P h0
    omega

set_option maxHeartbeats 1600000 in
set_option maxRecDepth 100000 in
theorem less_any {w0 : World} {A1 A2 : Option Addr} {n1 c1 n2 c2 : Nat} {d1 d2 : List Nat} (h1 : RawAt w0 A1 n1 c1 d1) (h2 : RawAt w0 A2 n2 c2 d2) (s1 s2 : Bool) (hn1 : n1 ≤ 100000) (hle : val d2 ≤ val d1) (w : World) (hw : Below w0.heap.size w0 w) :
    Calls Try.prog 78 #[.agg #[.bool s1, .slice A1 n1 c1], .agg #[.bool s2, .slice A2 n2 c2]] w fun e w' => ∃ v, e = .returned v ∧ MagAt w' v false (val d1 - val d2) ∧ Below w.heap.size w w' := by
  have r1 := h1.below hw
  have r2 := h2.below hw
  have l1 := h1.len
  have l2 := h2.len
  have g1 := h1.digs
  have g2 := h2.digs
  clear h1 h2 hw
  have HLE := Lib.hid hle
  clear hle
  have HL := Lib.hid (And.intro l1 l2)
  clear l1 l2
  go_enter Try.func78, Try.ntmps78
  go_wp2_with fail
  refine wp_gen (fun W hW => ?_)
  have v0 : Var W w.heap.size 67 #[.bool s1, .slice A1 n1 c1] := by rw [hW]; exact (((Var.new _ _ _).alloc _).alloc _).alloc _
  have v1 : Var W (w.heap.size + 1) 67 #[.bool s2, .slice A2 n2 c2] := by rw [hW]; exact ((Var.new' _ _ _ (by simp)).alloc _).alloc _
  have vR : Var W (w.heap.size + 1 + 1) 67 #[.bool false, .slice none 0 0] := by rw [hW]; exact (Var.new' _ _ _ (by simp)).alloc _
  have vX : Var W (w.heap.size + 1 + 1 + 1) 67 #[.bool false, .slice none 0 0] := by rw [hW]; exact Var.new' _ _ _ (by simp)
  have hBW : Below w.heap.size w W := by rw [hW]; go_grown
  clear hW
  go_loopw [6, 7] (fun cy t wr => ∃ (ca k c : Nat) (A : Option Addr) (ds : List Nat), cy = .int .u64 (ca : Int) ∧ t = .int .i64 (k : Int) ∧ Built W wr (w.heap.size + 1 + 1 + 1) A k c ds ∧
      (ca ≤ 1 ∧ k ≤ n1) ∧ val ds + 65536 ^ k * val (d1.drop k) + val d2 = val d1 + 65536 ^ k * (ca + val (d2.drop k)))
    (fun _ t _ => n1 - (intOf t).toNat)
  case atStart => exact ⟨0, 0, 0, none, [], rfl, rfl, Built.start vX, by omega, by simp [val]⟩
  case round =>
    obtain ⟨ca, k, c, A, ds, rfl, rfl, hbu, ⟨hca, hk⟩, hv⟩ := hrel
    have HV := Lib.hid hv
    clear hv
    have x0 : wr.cell? ⟨w.heap.size + 1 + 1 + 1, 0, none⟩ = some (.bool false) := hbu.var.cell 0
    have x1 : wr.cell? ⟨w.heap.size + 1 + 1 + 1, 1, none⟩ = some (.slice A k c) := hbu.var.cell 1
    have f1 := hbu.var.free 1
    have vR' := vR.below hbu.bel (by omega)
    have v0' := v0.below hbu.bel (by omega)
    have v1' := v1.below hbu.bel (by omega)
    have a0 : wr.cell? ⟨w.heap.size, 0, none⟩ = some (.bool s1) := v0'.cell 0
    have a1 : wr.cell? ⟨w.heap.size, 1, none⟩ = some (.slice A1 n1 c1) := v0'.cell 1
    have b0 : wr.cell? ⟨w.heap.size + 1, 0, none⟩ = some (.bool s2) := v1'.cell 0
    have b1 : wr.cell? ⟨w.heap.size + 1, 1, none⟩ = some (.slice A2 n2 c2) := v1'.cell 1
    have q0 : wr.cell? ⟨w.heap.size + 1 + 1, 0, none⟩ = some (.bool false) := vR'.cell 0
    have q1 : wr.cell? ⟨w.heap.size + 1 + 1, 1, none⟩ = some (.slice none 0 0) := vR'.cell 1
    have e0 := vR'.free 0
    have e1 := vR'.free 1
    have z3 := hbu.var.lt
    have z2 := vR'.lt
    have z1 := v1'.lt
    have z0 := v0'.lt
    have hBr : Below w.heap.size w wr := hBW.trans (hbu.bel.mono (by omega))
    rcases Nat.lt_or_ge k n1 with hl | hl
    · have t1 := dig_lt g1 k
      have t2 := dig_lt g2 k
      rcases Nat.lt_or_ge 1 0 with hno | hno
      · omega
      · skip
        go_wp2_with fail
        have hq_wr := @wd_cell wr
        refine wp_region_wd (by kernel_rfl) (by kernel_rfl) ?_
        repeat (go_big_quiet_step ((first | (go_at_call_of 94 (Value.agg #[.bool s1, .slice A1 n1 c1]); with_reducible exact quiet_wd (digit_any (r1.below hBr) s1 k _ (Wd.h _))) | (go_at_call_of 94 (Value.agg #[.bool s2, .slice A2 n2 c2]); with_reducible exact quiet_wd (digit_any (r2.below hBr) s2 k _ (Wd.h _))))))
        refine wpQuiet_nil ?_
        rintro w8 ⟨⟨wx, hb_w8⟩, hwx⟩
        obtain rfl : w8 = wx := hwx
        clear hq_wr
        have hz_w8 := hb_w8.size
        obtain ⟨hc_w8, hf_w8⟩ := bcell hb_w8
        have hB_w8 : Below w.heap.size w w8 := Below.trans (by go_grown) (hb_w8.mono (by go_size))
        have hb8 := hbu.keep hb_w8
        have y3 := hb8.var.lt
        go_wp2_with (at_builtin; refine wpList_push rfl (.tmp 27) (.tmp 30) 65 rfl elt (w.heap.size + 1 + 1 + 1 + 1) A k c (ds.map U) rfl hb8.own [_] rfl rfl (one_cell rfl) (le_maxLen (by omega)) (by omega) (by omega) ?_; intro A' c' w' hown' hg; obtain ⟨m0, m1, mf, mz⟩ := hb8.mid hg; have mz' : w.heap.size + 1 + 1 + 1 < w'.heap.size := by omega)
        go_roundw
        case rel =>
          have hs : (dig d1 k + 65536 - dig d2 k - ca) + dig d2 k + ca = dig d1 k + 65536 := by omega
          have e1 : (((dig d1 k : Nat) : Int) + 65536 - (dig d2 k : Nat) - (ca : Nat)) % 65536 = (((dig d1 k + 65536 - dig d2 k - ca) % 65536 : Nat) : Int) := by omega
          rw [e1] at hown'
          have hv := HV.out
          refine ⟨1 - (dig d1 k + 65536 - dig d2 k - ca) / 65536, k + 1, c', A', ds ++ [(dig d1 k + 65536 - dig d2 k - ca) % 65536], congrArg (Value.int .u64) (by omega), congrArg (Value.int .i64) (by omega), hb8.more (by omega) hown' hg, by omega, ?_⟩
          rw [val_snoc, hbu.len, Nat.pow_succ]
          rw [dig_drop d1 k, dig_drop d2 k] at hv
          have st := less_step (P := 65536 ^ k) (A := val (d1.drop (k + 1))) (B := val (d2.drop (k + 1))) hs t1
          omega
        case measure => simp [intOf]; omega
    · skip
      have hfin : val ds = val d1 - val d2 := by
        have := HV.out
        rw [drop_out (ds := d1) (by rw [HL.out.1]; exact hl)] at this
        have hlt := val_lt hbu.digs
        rw [hbu.len] at hlt
        exact less_end this hlt HLE.out
      have HF := Lib.hid hfin
      clear hfin
      go_wp2_with fail
      refine (trimmed_any hbu.raw false _ (Below.refl _ _)).mono ?_
      rintro e w9 ⟨v, rfl, ⟨A', n', c', ds', rfl, hraw, ht, hval⟩, hb_w9⟩
      obtain ⟨hc_w9, hf_w9⟩ := bcell hb_w9
      have hz_w9 := hb_w9.size
      try simp at hz_w9
      have hB_w9 : Below w.heap.size w w9 := Below.trans (by go_grown) (hb_w9.mono (by go_size))
      have hs_w9_0 : w.heap.size < w9.heap.size := by omega
      have hs_w9_1 : w.heap.size + 1 < w9.heap.size := by omega
      have hs_w9_2 : w.heap.size + 1 + 1 < w9.heap.size := by omega
      have vR9 := vR'.keep hb_w9
      go_wp2_with fail
      refine bodyPost_ret (by simp [results, Try.results78, go_sem, *]; try rfl) rfl ?_
      refine ⟨_, rfl, ⟨A', n', c', ds', rfl, hraw.over vR9 _ _, ht, hval.trans HF.out⟩, by go_grown⟩


set_option maxHeartbeats 1600000 in
theorem cmpSize_any {w0 : World} {A1 A2 : Option Addr} {n1 c1 n2 c2 : Nat} {d1 d2 : List Nat} (h1 : RawAt w0 A1 n1 c1 d1) (h2 : RawAt w0 A2 n2 c2 d2) (s1 s2 : Bool) (hn1 : n1 ≤ 100000) (hn2 : n2 ≤ 100000) (w : World) (hw : Below w0.heap.size w0 w) :
    Calls Try.prog 77 #[.agg #[.bool s1, .slice A1 n1 c1], .agg #[.bool s2, .slice A2 n2 c2]] w fun e w' => e = .returned (.int .i64 (cmpI (val d1) (val d2))) ∧ Below w.heap.size w w' := by
  have r1 := h1.below hw
  have r2 := h2.below hw
  have l1 := h1.len
  have l2 := h2.len
  have g1 := h1.digs
  have g2 := h2.digs
  clear h1 h2 hw
  have HL := Lib.hid (And.intro l1 l2)
  clear l1 l2
  by_cases hmx : n1 < n2
  all_goals
    go_enter Try.func77, Try.ntmps77
    go_wp2_with fail
    refine wp_gen (fun W hW => ?_)
    have v0 : Var W w.heap.size 67 #[.bool s1, .slice A1 n1 c1] := by rw [hW]; exact (Var.new _ _ _).alloc _
    have v1 : Var W (w.heap.size + 1) 67 #[.bool s2, .slice A2 n2 c2] := by rw [hW]; exact Var.new' _ _ _ (by simp)
    have hBW : Below w.heap.size w W := by rw [hW]; go_grown
    clear hW
    go_loopw [6] (fun t wr => ∃ (j : Nat) (z : Int), t = .int .i64 z ∧ z = (j : Int) - 1 ∧ j ≤ n1 + n2 ∧ val (d1.drop j) = val (d2.drop j) ∧ Below W.heap.size W wr)
      (fun t _ => (intOf t + 1).toNat)
    case atStart =>
      first
        | exact ⟨n2, _, rfl, rfl, by omega, by rw [drop_out (by rw [HL.out.1]; omega), drop_out (by rw [HL.out.2]; omega)], Below.refl _ _⟩
        | exact ⟨n1, _, rfl, rfl, by omega, by rw [drop_out (by rw [HL.out.1]; omega), drop_out (by rw [HL.out.2]; omega)], Below.refl _ _⟩
    case round =>
      obtain ⟨j, z, rfl, hz, hj, hv, hbel⟩ := hrel
      have HV := Lib.hid hv
      clear hv
      have v0' := v0.keep hbel
      have v1' := v1.keep hbel
      have a0 : wr.cell? ⟨w.heap.size, 0, none⟩ = some (.bool s1) := v0'.cell 0
      have a1 : wr.cell? ⟨w.heap.size, 1, none⟩ = some (.slice A1 n1 c1) := v0'.cell 1
      have b0 : wr.cell? ⟨w.heap.size + 1, 0, none⟩ = some (.bool s2) := v1'.cell 0
      have b1 : wr.cell? ⟨w.heap.size + 1, 1, none⟩ = some (.slice A2 n2 c2) := v1'.cell 1
      have z1 := v1'.lt
      have z0 := v0'.lt
      have hBr : Below w.heap.size w wr := hBW.trans (hbel.mono (Nat.le_trans (Nat.le_of_lt v0.lt) (Nat.le_refl _)))
      rcases Nat.eq_zero_or_pos j with hj0 | hj0
      · subst hj0
        obtain rfl : z = -1 := by omega
        clear hz
        have HC := Lib.hid (show cmpI (val d1) (val d2) = 0 from by
          have h := HV.out
          simp only [List.drop_zero] at h
          rw [h]; exact cmp_self _)
        go_wp2_with fail
        go_ret
        exact ⟨ret_int HC.out.symm, by go_grown⟩
      · obtain ⟨i, rfl⟩ : ∃ i, j = i + 1 := ⟨j - 1, by omega⟩
        obtain rfl : z = (i : Int) := by omega
        clear hz hj0
        rcases Nat.lt_trichotomy (dig d1 i) (dig d2 i) with hd | hd | hd
        · have HC := Lib.hid (show cmpI (val d1) (val d2) = -1 from by
            have h := val_lt_of_drop g1 i (val_drop_lt i hd HV.out)
            unfold cmpI; rw [if_pos (by omega)])
          go_wp2_with fail
          have hq_wr := @wd_cell wr
          refine wp_region_wd (by kernel_rfl) (by kernel_rfl) ?_
          repeat (go_big_quiet_step ((first | (go_at_call_of 94 (Value.agg #[.bool s1, .slice A1 n1 c1]); with_reducible exact quiet_wd (digit_any (r1.below hBr) s1 i _ (Wd.h _))) | (go_at_call_of 94 (Value.agg #[.bool s2, .slice A2 n2 c2]); with_reducible exact quiet_wd (digit_any (r2.below hBr) s2 i _ (Wd.h _))))))
          refine wpQuiet_nil ?_
          rintro w8 ⟨⟨wx, hb_w8⟩, hwx⟩
          obtain rfl : w8 = wx := hwx
          clear hq_wr
          have hz_w8 := hb_w8.size
          obtain ⟨hc_w8, hf_w8⟩ := bcell hb_w8
          have hB_w8 : Below w.heap.size w w8 := Below.trans (by go_grown) (hb_w8.mono (by go_size))
          have hs_w8_0 : w.heap.size < w8.heap.size := Nat.lt_of_lt_of_le (by assumption) hb_w8.size
          have hs_w8_1 : w.heap.size + 1 < w8.heap.size := Nat.lt_of_lt_of_le (by assumption) hb_w8.size
          go_wp2_with fail
          go_ret
          exact ⟨ret_int HC.out.symm, by go_grown⟩
        · have hd' : ¬ dig d1 i < dig d2 i := by omega
          have hd'' : ¬ dig d2 i < dig d1 i := by omega
          have HD := Lib.hid hd
          clear hd
          go_wp2_with fail
          have hq_wr := @wd_cell wr
          refine wp_region_wd (by kernel_rfl) (by kernel_rfl) ?_
          repeat (go_big_quiet_step ((first | (go_at_call_of 94 (Value.agg #[.bool s1, .slice A1 n1 c1]); with_reducible exact quiet_wd (digit_any (r1.below hBr) s1 i _ (Wd.h _))) | (go_at_call_of 94 (Value.agg #[.bool s2, .slice A2 n2 c2]); with_reducible exact quiet_wd (digit_any (r2.below hBr) s2 i _ (Wd.h _))))))
          refine wpQuiet_nil ?_
          rintro w8 ⟨⟨wx, hb_w8⟩, hwx⟩
          obtain rfl : w8 = wx := hwx
          clear hq_wr
          have hz_w8 := hb_w8.size
          obtain ⟨hc_w8, hf_w8⟩ := bcell hb_w8
          have hB_w8 : Below w.heap.size w w8 := Below.trans (by go_grown) (hb_w8.mono (by go_size))
          have hs_w8_0 : w.heap.size < w8.heap.size := Nat.lt_of_lt_of_le (by assumption) hb_w8.size
          have hs_w8_1 : w.heap.size + 1 < w8.heap.size := Nat.lt_of_lt_of_le (by assumption) hb_w8.size
          go_wp2_with fail
          have hq_w8 := @wd_cell w8
          refine wp_region_wd (by kernel_rfl) (by kernel_rfl) ?_
          repeat (go_big_quiet_step ((first | (go_at_call_of 94 (Value.agg #[.bool s1, .slice A1 n1 c1]); with_reducible exact quiet_wd (digit_any (r1.below hB_w8) s1 i _ (Wd.h _))) | (go_at_call_of 94 (Value.agg #[.bool s2, .slice A2 n2 c2]); with_reducible exact quiet_wd (digit_any (r2.below hB_w8) s2 i _ (Wd.h _))))))
          refine wpQuiet_nil ?_
          rintro w9 ⟨⟨wx, hb_w9⟩, hwx⟩
          obtain rfl : w9 = wx := hwx
          clear hq_w8
          have hz_w9 := hb_w9.size
          obtain ⟨hc_w9, hf_w9⟩ := bcell hb_w9
          have hB_w9 : Below w.heap.size w w9 := Below.trans (by go_grown) (hb_w9.mono (by go_size))
          have hs_w9_0 : w.heap.size < w9.heap.size := Nat.lt_of_lt_of_le (by assumption) hb_w9.size
          have hs_w9_1 : w.heap.size + 1 < w9.heap.size := Nat.lt_of_lt_of_le (by assumption) hb_w9.size
          go_wp2_with fail
          go_roundw
          case rel => exact ⟨i, _, rfl, rfl, by omega, val_eq_of_drop i HD.out HV.out, (hbel.trans (hb_w8.mono hbel.size)).trans (hb_w9.mono (Nat.le_trans hbel.size hb_w8.size))⟩
          case measure => simp [intOf]
        · have HC := Lib.hid (show cmpI (val d1) (val d2) = 1 from by
            have h := val_lt_of_drop g2 i (val_drop_lt i hd HV.out.symm)
            unfold cmpI; rw [if_neg (by omega), if_neg (by omega)])
          have hd' : ¬ dig d1 i < dig d2 i := by omega
          go_wp2_with fail
          have hq_wr := @wd_cell wr
          refine wp_region_wd (by kernel_rfl) (by kernel_rfl) ?_
          repeat (go_big_quiet_step ((first | (go_at_call_of 94 (Value.agg #[.bool s1, .slice A1 n1 c1]); with_reducible exact quiet_wd (digit_any (r1.below hBr) s1 i _ (Wd.h _))) | (go_at_call_of 94 (Value.agg #[.bool s2, .slice A2 n2 c2]); with_reducible exact quiet_wd (digit_any (r2.below hBr) s2 i _ (Wd.h _))))))
          refine wpQuiet_nil ?_
          rintro w8 ⟨⟨wx, hb_w8⟩, hwx⟩
          obtain rfl : w8 = wx := hwx
          clear hq_wr
          have hz_w8 := hb_w8.size
          obtain ⟨hc_w8, hf_w8⟩ := bcell hb_w8
          have hB_w8 : Below w.heap.size w w8 := Below.trans (by go_grown) (hb_w8.mono (by go_size))
          have hs_w8_0 : w.heap.size < w8.heap.size := Nat.lt_of_lt_of_le (by assumption) hb_w8.size
          have hs_w8_1 : w.heap.size + 1 < w8.heap.size := Nat.lt_of_lt_of_le (by assumption) hb_w8.size
          go_wp2_with fail
          have hq_w8 := @wd_cell w8
          refine wp_region_wd (by kernel_rfl) (by kernel_rfl) ?_
          repeat (go_big_quiet_step ((first | (go_at_call_of 94 (Value.agg #[.bool s1, .slice A1 n1 c1]); with_reducible exact quiet_wd (digit_any (r1.below hB_w8) s1 i _ (Wd.h _))) | (go_at_call_of 94 (Value.agg #[.bool s2, .slice A2 n2 c2]); with_reducible exact quiet_wd (digit_any (r2.below hB_w8) s2 i _ (Wd.h _))))))
          refine wpQuiet_nil ?_
          rintro w9 ⟨⟨wx, hb_w9⟩, hwx⟩
          obtain rfl : w9 = wx := hwx
          clear hq_w8
          have hz_w9 := hb_w9.size
          obtain ⟨hc_w9, hf_w9⟩ := bcell hb_w9
          have hB_w9 : Below w.heap.size w w9 := Below.trans (by go_grown) (hb_w9.mono (by go_size))
          have hs_w9_0 : w.heap.size < w9.heap.size := Nat.lt_of_lt_of_le (by assumption) hb_w9.size
          have hs_w9_1 : w.heap.size + 1 < w9.heap.size := Nat.lt_of_lt_of_le (by assumption) hb_w9.size
          go_wp2_with fail
          go_ret
          exact ⟨ret_int HC.out.symm, by go_grown⟩

/-- A contract that answers a size, its value laid open; the equations are kept from the walk. -/
theorem open_mag {P : Program} {f : FuncId} {args : Array Value} {w : World} {s : Bool} {m : Nat} (h : Calls P f args w fun e w' => ∃ v, e = .returned v ∧ MagAt w' v s m ∧ Below w.heap.size w w') :
    Calls P f args w fun e w' => ∃ b A n c ds, e = .returned (.agg #[.bool b, .slice A n c]) ∧ Hid (b = s) ∧ RawAt w' A n c ds ∧ Tight ds ∧ Hid (val ds = m) ∧ Below w.heap.size w w' :=
  h.mono fun _ _ ⟨_, he, ⟨A, n, c, ds, hv, hr, ht, hm⟩, hb⟩ => ⟨s, A, n, c, ds, by rw [he, hv], Lib.hid rfl, hr, ht, Lib.hid hm, hb⟩
theorem num_mk {w : World} {b : Bool} {A : Option Addr} {n c : Nat} {ds : List Nat} {z : Int} (hr : RawAt w A n c ds) (ht : Tight ds) (hs : b = decide (z < 0)) (hm : val ds = z.natAbs) :
    NumAt w (.agg #[.bool b, .slice A n c]) z := ⟨A, n, c, ds, by rw [hs], hr, ht, hm⟩
/-- A number as it comes in: its value laid open. -/
theorem num_open {w : World} {v : Value} {z : Int} (h : NumAt w v z) : ∃ b A n c ds, v = .agg #[.bool b, .slice A n c] ∧ Hid (b = decide (z < 0)) ∧ RawAt w A n c ds ∧ Tight ds ∧ Hid (val ds = z.natAbs) := by
  obtain ⟨A, n, c, ds, hv, hr, ht, hm⟩ := h
  exact ⟨_, A, n, c, ds, hv, Lib.hid rfl, hr, ht, Lib.hid hm⟩
theorem num_len {w : World} {A : Option Addr} {n c k : Nat} {ds : List Nat} {m : Nat} (hr : RawAt w A n c ds) (ht : Tight ds) (hv : val ds = m) (hk : Small k m) : n ≤ k := by
  subst hv; rw [← hr.len]; exact Small.len ht hk

theorem neg_ref {w0 : World} {v : Value} {x : Int} (h : NumAt w0 v x) (w : World) (hw : Below w0.heap.size w0 w) :
    Calls Try.prog 81 #[v] w fun e w' => ∃ v', e = .returned v' ∧ NumAt w' v' (-x) ∧ Below w.heap.size w w' := by
  obtain ⟨b, A, n, c, ds, rfl, hs, hr, ht, hv⟩ := num_open (h.below hw)
  clear h hw
  go_enter Try.func81, Try.ntmps81
  go_wp2_with fail
  refine (open_mag (trimmed_any hr _ _ (by go_grown))).mono ?_
  rintro e w1 ⟨b1, A1, m1, k1, e1, rfl, hs1, hr1, ht1, hv1, hb_w1⟩
  obtain ⟨hc_w1, hf_w1⟩ := bcell hb_w1
  have hz_w1 := hb_w1.size
  try simp at hz_w1
  have hB_w1 : Below w.heap.size w w1 := Below.trans (by go_grown) (hb_w1.mono (by go_size))
  have hs_w1_0 : w.heap.size < w1.heap.size := by omega
  have hs_w1_1 : w.heap.size + 1 < w1.heap.size := by omega
  have vR : Var w1 (w.heap.size + 1) 67 #[.bool false, .slice none 0 0] := (Var.new' _ _ _ (by simp)).keep hb_w1
  go_wp2_with fail
  refine bodyPost_ret (by simp [results, Try.results81, go_sem, *]; try rfl) rfl ?_
  refine ⟨_, rfl, num_mk (hr1.over vR _ _) ht1 ?_ ?_, by go_grown⟩
  · rw [hs1.out, hs.out, hv.out]
    rw [Bool.eq_iff_iff]; simp; omega
  · rw [hv1.out, hv.out]; omega

set_option maxHeartbeats 1600000 in
theorem add_ref {w0 : World} {v v' : Value} {x y : Int} {k : Nat} (h : NumAt w0 v x) (h' : NumAt w0 v' y) (hk : Small k x.natAbs) (hk' : Small k y.natAbs) (hk9 : k ≤ 90000) (w : World) (hw : Below w0.heap.size w0 w) :
    Calls Try.prog 49 #[v, v'] w fun e w' => ∃ u, e = .returned u ∧ NumAt w' u (x + y) ∧ Below w.heap.size w w' := by
  obtain ⟨b, A, n, c, ds, rfl, hs, hr, ht, hv⟩ := num_open (h.below hw)
  obtain ⟨b', A', n', c', ds', rfl, hs', hr', ht', hv'⟩ := num_open (h'.below hw)
  have l1 := num_len hr ht hv.out hk
  have l2 := num_len hr' ht' hv'.out hk'
  clear h h' hw hk hk'
  by_cases hx : x < 0
  all_goals by_cases hy : y < 0
  · obtain rfl : b = true := by rw [hs.out]; simp [hx]
    obtain rfl : b' = true := by rw [hs'.out]; simp [hy]
    clear hs hs'
    go_enter Try.func49, Try.ntmps49
    go_wp2_with fail
    refine (open_mag (size_any hr hr' _ _ (by omega) (by omega) _ (by go_grown))).mono ?_
    rintro e w3 ⟨b3, A3, m3, k3, e3, rfl, hs3, hr3, ht3, hv3, hb_w3⟩
    obtain ⟨hc_w3, hf_w3⟩ := bcell hb_w3
    have hz_w3 := hb_w3.size
    try simp at hz_w3
    have hB_w3 : Below w.heap.size w w3 := Below.trans (by go_grown) (hb_w3.mono (by go_size))
    have hs_w3_0 : w.heap.size < w3.heap.size := by omega
    have hs_w3_1 : w.heap.size + 1 < w3.heap.size := by omega
    have hs_w3_2 : w.heap.size + 1 + 1 < w3.heap.size := by omega
    go_wp2_with fail
    refine (open_mag (trimmed_any hr3 _ _ (by go_grown))).mono ?_
    rintro e w4 ⟨b4, A4, m4, k4, e4, rfl, hs4, hr4, ht4, hv4, hb_w4⟩
    obtain ⟨hc_w4, hf_w4⟩ := bcell hb_w4
    have hz_w4 := hb_w4.size
    try simp at hz_w4
    have hB_w4 : Below w.heap.size w w4 := Below.trans (by go_grown) (hb_w4.mono (by go_size))
    have hs_w4_0 : w.heap.size < w4.heap.size := by omega
    have hs_w4_1 : w.heap.size + 1 < w4.heap.size := by omega
    have hs_w4_2 : w.heap.size + 1 + 1 < w4.heap.size := by omega
    have vR : Var w4 (w.heap.size + 1 + 1) 67 #[.bool false, .slice none 0 0] := (((Var.new' _ _ _ (by simp)).keep hb_w3).alloc _).keep hb_w4
    go_wp2_with fail
    refine bodyPost_ret (by simp [results, Try.results49, go_sem, *]; try rfl) rfl ?_
    refine ⟨_, rfl, num_mk (hr4.over vR _ _) ht4 ?_ ?_, by go_grown⟩
    · have p1 := hv.out
      have p2 := hv'.out
      rw [hs4.out, hv3.out]
      rw [Bool.eq_iff_iff]; simp; omega
    · have p1 := hv.out
      have p2 := hv'.out
      rw [hv4.out, hv3.out]; omega
  · obtain rfl : b = true := by rw [hs.out]; simp [hx]
    obtain rfl : b' = false := by rw [hs'.out]; simp [hy]
    clear hs hs'
    rcases Nat.lt_or_ge (val ds) (val ds') with hc | hc
    · have hcm : cmpI (val ds) (val ds') < 0 := by unfold cmpI; rw [if_pos (by omega)]; omega
      go_enter Try.func49, Try.ntmps49
      go_wp2_with fail
      refine (cmpSize_any hr hr' _ _ (by omega) (by omega) _ (by go_grown)).mono ?_
      rintro e w1 ⟨rfl, hb_w1⟩
      obtain ⟨hc_w1, hf_w1⟩ := bcell hb_w1
      have hz_w1 := hb_w1.size
      try simp at hz_w1
      have hB_w1 : Below w.heap.size w w1 := Below.trans (by go_grown) (hb_w1.mono (by go_size))
      have hs_w1_0 : w.heap.size < w1.heap.size := by omega
      have hs_w1_1 : w.heap.size + 1 < w1.heap.size := by omega
      have hs_w1_2 : w.heap.size + 1 + 1 < w1.heap.size := by omega
      go_wp2_with fail
      refine (open_mag (less_any hr' hr _ _ (by omega) (by omega) _ (by go_grown))).mono ?_
      rintro e w3 ⟨b3, A3, m3, k3, e3, rfl, hs3, hr3, ht3, hv3, hb_w3⟩
      obtain ⟨hc_w3, hf_w3⟩ := bcell hb_w3
      have hz_w3 := hb_w3.size
      try simp at hz_w3
      have hB_w3 : Below w.heap.size w w3 := Below.trans (by go_grown) (hb_w3.mono (by go_size))
      have hs_w3_0 : w.heap.size < w3.heap.size := by omega
      have hs_w3_1 : w.heap.size + 1 < w3.heap.size := by omega
      have hs_w3_2 : w.heap.size + 1 + 1 < w3.heap.size := by omega
      go_wp2_with fail
      refine (open_mag (trimmed_any hr3 _ _ (by go_grown))).mono ?_
      rintro e w4 ⟨b4, A4, m4, k4, e4, rfl, hs4, hr4, ht4, hv4, hb_w4⟩
      obtain ⟨hc_w4, hf_w4⟩ := bcell hb_w4
      have hz_w4 := hb_w4.size
      try simp at hz_w4
      have hB_w4 : Below w.heap.size w w4 := Below.trans (by go_grown) (hb_w4.mono (by go_size))
      have hs_w4_0 : w.heap.size < w4.heap.size := by omega
      have hs_w4_1 : w.heap.size + 1 < w4.heap.size := by omega
      have hs_w4_2 : w.heap.size + 1 + 1 < w4.heap.size := by omega
      have vR : Var w4 (w.heap.size + 1 + 1) 67 #[.bool false, .slice none 0 0] := ((((Var.new' _ _ _ (by simp)).keep hb_w1).keep hb_w3).alloc _).keep hb_w4
      go_wp2_with fail
      refine bodyPost_ret (by simp [results, Try.results49, go_sem, *]; try rfl) rfl ?_
      refine ⟨_, rfl, num_mk (hr4.over vR _ _) ht4 ?_ ?_, by go_grown⟩
      · have p1 := hv.out
        have p2 := hv'.out
        rw [hs4.out, hv3.out]
        rw [Bool.eq_iff_iff]; simp; omega
      · have p1 := hv.out
        have p2 := hv'.out
        rw [hv4.out, hv3.out]; omega
    · have hcm : 0 ≤ cmpI (val ds) (val ds') := by unfold cmpI; rw [if_neg (by omega)]; split <;> omega
      go_enter Try.func49, Try.ntmps49
      go_wp2_with fail
      refine (cmpSize_any hr hr' _ _ (by omega) (by omega) _ (by go_grown)).mono ?_
      rintro e w1 ⟨rfl, hb_w1⟩
      obtain ⟨hc_w1, hf_w1⟩ := bcell hb_w1
      have hz_w1 := hb_w1.size
      try simp at hz_w1
      have hB_w1 : Below w.heap.size w w1 := Below.trans (by go_grown) (hb_w1.mono (by go_size))
      have hs_w1_0 : w.heap.size < w1.heap.size := by omega
      have hs_w1_1 : w.heap.size + 1 < w1.heap.size := by omega
      have hs_w1_2 : w.heap.size + 1 + 1 < w1.heap.size := by omega
      go_wp2_with fail
      refine (open_mag (less_any hr hr' _ _ (by omega) (by omega) _ (by go_grown))).mono ?_
      rintro e w3 ⟨b3, A3, m3, k3, e3, rfl, hs3, hr3, ht3, hv3, hb_w3⟩
      obtain ⟨hc_w3, hf_w3⟩ := bcell hb_w3
      have hz_w3 := hb_w3.size
      try simp at hz_w3
      have hB_w3 : Below w.heap.size w w3 := Below.trans (by go_grown) (hb_w3.mono (by go_size))
      have hs_w3_0 : w.heap.size < w3.heap.size := by omega
      have hs_w3_1 : w.heap.size + 1 < w3.heap.size := by omega
      have hs_w3_2 : w.heap.size + 1 + 1 < w3.heap.size := by omega
      go_wp2_with fail
      refine (open_mag (trimmed_any hr3 _ _ (by go_grown))).mono ?_
      rintro e w4 ⟨b4, A4, m4, k4, e4, rfl, hs4, hr4, ht4, hv4, hb_w4⟩
      obtain ⟨hc_w4, hf_w4⟩ := bcell hb_w4
      have hz_w4 := hb_w4.size
      try simp at hz_w4
      have hB_w4 : Below w.heap.size w w4 := Below.trans (by go_grown) (hb_w4.mono (by go_size))
      have hs_w4_0 : w.heap.size < w4.heap.size := by omega
      have hs_w4_1 : w.heap.size + 1 < w4.heap.size := by omega
      have hs_w4_2 : w.heap.size + 1 + 1 < w4.heap.size := by omega
      have vR : Var w4 (w.heap.size + 1 + 1) 67 #[.bool false, .slice none 0 0] := ((((Var.new' _ _ _ (by simp)).keep hb_w1).keep hb_w3).alloc _).keep hb_w4
      go_wp2_with fail
      refine bodyPost_ret (by simp [results, Try.results49, go_sem, *]; try rfl) rfl ?_
      refine ⟨_, rfl, num_mk (hr4.over vR _ _) ht4 ?_ ?_, by go_grown⟩
      · have p1 := hv.out
        have p2 := hv'.out
        rw [hs4.out, hv3.out]
        rw [Bool.eq_iff_iff]; simp; omega
      · have p1 := hv.out
        have p2 := hv'.out
        rw [hv4.out, hv3.out]; omega
  · obtain rfl : b = false := by rw [hs.out]; simp [hx]
    obtain rfl : b' = true := by rw [hs'.out]; simp [hy]
    clear hs hs'
    rcases Nat.lt_or_ge (val ds) (val ds') with hc | hc
    · have hcm : cmpI (val ds) (val ds') < 0 := by unfold cmpI; rw [if_pos (by omega)]; omega
      go_enter Try.func49, Try.ntmps49
      go_wp2_with fail
      refine (cmpSize_any hr hr' _ _ (by omega) (by omega) _ (by go_grown)).mono ?_
      rintro e w1 ⟨rfl, hb_w1⟩
      obtain ⟨hc_w1, hf_w1⟩ := bcell hb_w1
      have hz_w1 := hb_w1.size
      try simp at hz_w1
      have hB_w1 : Below w.heap.size w w1 := Below.trans (by go_grown) (hb_w1.mono (by go_size))
      have hs_w1_0 : w.heap.size < w1.heap.size := by omega
      have hs_w1_1 : w.heap.size + 1 < w1.heap.size := by omega
      have hs_w1_2 : w.heap.size + 1 + 1 < w1.heap.size := by omega
      go_wp2_with fail
      refine (open_mag (less_any hr' hr _ _ (by omega) (by omega) _ (by go_grown))).mono ?_
      rintro e w3 ⟨b3, A3, m3, k3, e3, rfl, hs3, hr3, ht3, hv3, hb_w3⟩
      obtain ⟨hc_w3, hf_w3⟩ := bcell hb_w3
      have hz_w3 := hb_w3.size
      try simp at hz_w3
      have hB_w3 : Below w.heap.size w w3 := Below.trans (by go_grown) (hb_w3.mono (by go_size))
      have hs_w3_0 : w.heap.size < w3.heap.size := by omega
      have hs_w3_1 : w.heap.size + 1 < w3.heap.size := by omega
      have hs_w3_2 : w.heap.size + 1 + 1 < w3.heap.size := by omega
      go_wp2_with fail
      refine (open_mag (trimmed_any hr3 _ _ (by go_grown))).mono ?_
      rintro e w4 ⟨b4, A4, m4, k4, e4, rfl, hs4, hr4, ht4, hv4, hb_w4⟩
      obtain ⟨hc_w4, hf_w4⟩ := bcell hb_w4
      have hz_w4 := hb_w4.size
      try simp at hz_w4
      have hB_w4 : Below w.heap.size w w4 := Below.trans (by go_grown) (hb_w4.mono (by go_size))
      have hs_w4_0 : w.heap.size < w4.heap.size := by omega
      have hs_w4_1 : w.heap.size + 1 < w4.heap.size := by omega
      have hs_w4_2 : w.heap.size + 1 + 1 < w4.heap.size := by omega
      have vR : Var w4 (w.heap.size + 1 + 1) 67 #[.bool false, .slice none 0 0] := ((((Var.new' _ _ _ (by simp)).keep hb_w1).keep hb_w3).alloc _).keep hb_w4
      go_wp2_with fail
      refine bodyPost_ret (by simp [results, Try.results49, go_sem, *]; try rfl) rfl ?_
      refine ⟨_, rfl, num_mk (hr4.over vR _ _) ht4 ?_ ?_, by go_grown⟩
      · have p1 := hv.out
        have p2 := hv'.out
        rw [hs4.out, hv3.out]
        rw [Bool.eq_iff_iff]; simp; omega
      · have p1 := hv.out
        have p2 := hv'.out
        rw [hv4.out, hv3.out]; omega
    · have hcm : 0 ≤ cmpI (val ds) (val ds') := by unfold cmpI; rw [if_neg (by omega)]; split <;> omega
      go_enter Try.func49, Try.ntmps49
      go_wp2_with fail
      refine (cmpSize_any hr hr' _ _ (by omega) (by omega) _ (by go_grown)).mono ?_
      rintro e w1 ⟨rfl, hb_w1⟩
      obtain ⟨hc_w1, hf_w1⟩ := bcell hb_w1
      have hz_w1 := hb_w1.size
      try simp at hz_w1
      have hB_w1 : Below w.heap.size w w1 := Below.trans (by go_grown) (hb_w1.mono (by go_size))
      have hs_w1_0 : w.heap.size < w1.heap.size := by omega
      have hs_w1_1 : w.heap.size + 1 < w1.heap.size := by omega
      have hs_w1_2 : w.heap.size + 1 + 1 < w1.heap.size := by omega
      go_wp2_with fail
      refine (open_mag (less_any hr hr' _ _ (by omega) (by omega) _ (by go_grown))).mono ?_
      rintro e w3 ⟨b3, A3, m3, k3, e3, rfl, hs3, hr3, ht3, hv3, hb_w3⟩
      obtain ⟨hc_w3, hf_w3⟩ := bcell hb_w3
      have hz_w3 := hb_w3.size
      try simp at hz_w3
      have hB_w3 : Below w.heap.size w w3 := Below.trans (by go_grown) (hb_w3.mono (by go_size))
      have hs_w3_0 : w.heap.size < w3.heap.size := by omega
      have hs_w3_1 : w.heap.size + 1 < w3.heap.size := by omega
      have hs_w3_2 : w.heap.size + 1 + 1 < w3.heap.size := by omega
      go_wp2_with fail
      refine (open_mag (trimmed_any hr3 _ _ (by go_grown))).mono ?_
      rintro e w4 ⟨b4, A4, m4, k4, e4, rfl, hs4, hr4, ht4, hv4, hb_w4⟩
      obtain ⟨hc_w4, hf_w4⟩ := bcell hb_w4
      have hz_w4 := hb_w4.size
      try simp at hz_w4
      have hB_w4 : Below w.heap.size w w4 := Below.trans (by go_grown) (hb_w4.mono (by go_size))
      have hs_w4_0 : w.heap.size < w4.heap.size := by omega
      have hs_w4_1 : w.heap.size + 1 < w4.heap.size := by omega
      have hs_w4_2 : w.heap.size + 1 + 1 < w4.heap.size := by omega
      have vR : Var w4 (w.heap.size + 1 + 1) 67 #[.bool false, .slice none 0 0] := ((((Var.new' _ _ _ (by simp)).keep hb_w1).keep hb_w3).alloc _).keep hb_w4
      go_wp2_with fail
      refine bodyPost_ret (by simp [results, Try.results49, go_sem, *]; try rfl) rfl ?_
      refine ⟨_, rfl, num_mk (hr4.over vR _ _) ht4 ?_ ?_, by go_grown⟩
      · have p1 := hv.out
        have p2 := hv'.out
        rw [hs4.out, hv3.out]
        rw [Bool.eq_iff_iff]; simp; omega
      · have p1 := hv.out
        have p2 := hv'.out
        rw [hv4.out, hv3.out]; omega
  · obtain rfl : b = false := by rw [hs.out]; simp [hx]
    obtain rfl : b' = false := by rw [hs'.out]; simp [hy]
    clear hs hs'
    go_enter Try.func49, Try.ntmps49
    go_wp2_with fail
    refine (open_mag (size_any hr hr' _ _ (by omega) (by omega) _ (by go_grown))).mono ?_
    rintro e w3 ⟨b3, A3, m3, k3, e3, rfl, hs3, hr3, ht3, hv3, hb_w3⟩
    obtain ⟨hc_w3, hf_w3⟩ := bcell hb_w3
    have hz_w3 := hb_w3.size
    try simp at hz_w3
    have hB_w3 : Below w.heap.size w w3 := Below.trans (by go_grown) (hb_w3.mono (by go_size))
    have hs_w3_0 : w.heap.size < w3.heap.size := by omega
    have hs_w3_1 : w.heap.size + 1 < w3.heap.size := by omega
    have hs_w3_2 : w.heap.size + 1 + 1 < w3.heap.size := by omega
    go_wp2_with fail
    refine (open_mag (trimmed_any hr3 _ _ (by go_grown))).mono ?_
    rintro e w4 ⟨b4, A4, m4, k4, e4, rfl, hs4, hr4, ht4, hv4, hb_w4⟩
    obtain ⟨hc_w4, hf_w4⟩ := bcell hb_w4
    have hz_w4 := hb_w4.size
    try simp at hz_w4
    have hB_w4 : Below w.heap.size w w4 := Below.trans (by go_grown) (hb_w4.mono (by go_size))
    have hs_w4_0 : w.heap.size < w4.heap.size := by omega
    have hs_w4_1 : w.heap.size + 1 < w4.heap.size := by omega
    have hs_w4_2 : w.heap.size + 1 + 1 < w4.heap.size := by omega
    have vR : Var w4 (w.heap.size + 1 + 1) 67 #[.bool false, .slice none 0 0] := (((Var.new' _ _ _ (by simp)).keep hb_w3).alloc _).keep hb_w4
    go_wp2_with fail
    refine bodyPost_ret (by simp [results, Try.results49, go_sem, *]; try rfl) rfl ?_
    refine ⟨_, rfl, num_mk (hr4.over vR _ _) ht4 ?_ ?_, by go_grown⟩
    · have p1 := hv.out
      have p2 := hv'.out
      rw [hs4.out, hv3.out]
      rw [Bool.eq_iff_iff]; simp; omega
    · have p1 := hv.out
      have p2 := hv'.out
      rw [hv4.out, hv3.out]; omega

/-- All below block R is as it was in W0; block R, of type T, has k cells that may be written. -/
def HeldT (R k : Nat) (T : TypeId) (W0 w' : World) : Prop :=
  Below R W0 w' ∧ R < w'.heap.size ∧ (∀ b o, b < R → w'.cell? ⟨b, o, none⟩ = W0.cell? ⟨b, o, none⟩) ∧ (∀ o, o < k → w'.cell? ⟨R, o, none⟩ = some (rd w' R o)) ∧ (∀ o, w'.frozen? ⟨R, o, none⟩ = false) ∧
    (∃ cs, w'.heap[R]? = some (.cells cs T (0, 0)))
theorem heldT_start {W0 : World} {R : Nat} {t : TypeId} {cs : Array Value} (h : Var W0 R t cs) : HeldT R cs.size t W0 W0.drew :=
  ⟨(Below.refl _ _).drew, h.lt, fun _ _ _ => rfl, fun o ho => rd_eq (w := W0.drew) (u := cs[o]) ((h.cell o).trans (Array.getElem?_eq_getElem ho)), fun o => h.free o, cs, h⟩
theorem heldT_step {W0 W w' : World} {R k : Nat} {T : TypeId} (hb : Below W.heap.size W w') (h : HeldT R k T W0 W) : HeldT R k T W0 w' := by
  obtain ⟨h1, h2, h3, h4, h5, cs, h6⟩ := h
  have hB := h1.trans (hb.mono (Nat.le_of_lt h2))
  refine ⟨hB, Nat.lt_of_lt_of_le h2 hb.size, fun b o hlt => hB.cell (p := ⟨b, o, none⟩) hlt, fun o ho => ?_, fun o => (hb.frozen (p := ⟨R, o, none⟩) h2).trans (h5 o), cs, (hb.block R h2).trans h6⟩
  exact rd_eq ((hb.cell (p := ⟨R, o, none⟩) h2).trans (h4 o ho))
theorem heldT_store {W0 W : World} {R k : Nat} {T : TypeId} (h : HeldT R k T W0 W) (o : Nat) (u : Value) : HeldT R k T W0 (W.setCell ⟨R, o, none⟩ u) := by
  obtain ⟨h1, h2, h3, h4, h5, cs, h6⟩ := h
  have hB := h1.setCell (p := ⟨R, o, none⟩) (Nat.le_refl R) u
  refine ⟨hB, by simpa [World.setCell] using h2, fun b o' hlt => hB.cell (p := ⟨b, o', none⟩) hlt, fun o' ho' => ?_, fun o' => ?_, _, Var.store (t := T) h6 o u⟩
  · obtain ⟨v, hv⟩ := cell?_setCell_some (p := ⟨R, o, none⟩) (x := u) (h4 o' ho')
    exact rd_eq hv
  · rw [World.frozen?_setCell]; exact h5 o'
/-- In the midst: what was below block R is as it was. -/
theorem heldT_bel {W0 W w : World} (R k : Nat) (T : TypeId) (h : HeldT R k T W0 W) (h0 : Below w.heap.size w W0) (hR : w.heap.size ≤ R) : Below w.heap.size w W := h0.trans (h.1.mono hR)
theorem unset {W : World} {R o : Nat} {u : Value} {T : TypeId} {cs : Array Value} (h : (W.setCell ⟨R, o, none⟩ u).heap[R]? = some (.cells cs T (0, 0))) : ∃ cs0, W.heap[R]? = some (.cells cs0 T (0, 0)) := by
  simp only [World.setCell, Array.getElem?_modify, if_true] at h
  cases hh : W.heap[R]? with
  | none => rw [hh] at h; simp at h
  | some x =>
    rw [hh] at h
    cases x with
    | cells c e f =>
      simp at h
      obtain ⟨_, h1, h2⟩ := h
      subst h1 h2
      exact ⟨c, rfl⟩
    | _ => simp at h
/-- A struct of two cells, written: what it reads as. -/
theorem heldT_two {W0 W : World} {R : Nat} {T : TypeId} {a b : Value} (h : HeldT R 2 T W0 ((W.setCell ⟨R, 0, none⟩ a).setCell ⟨R, 1, none⟩ b)) :
    ∃ W', (W.setCell ⟨R, 0, none⟩ a).setCell ⟨R, 1, none⟩ b = W' ∧ Below R W0 W' ∧ W'.cell? ⟨R, 0, none⟩ = some a ∧ W'.cell? ⟨R, 1, none⟩ = some b ∧ ∃ cs, Var W R T cs := by
  obtain ⟨h1, h2, _, h4, _, cs, h6⟩ := h
  have k0 := h4 0 (by omega)
  have k1 := h4 1 (by omega)
  obtain ⟨cs1, h7⟩ := unset h6
  refine ⟨_, rfl, h1, ?_, ?_, unset h7⟩
  · rw [k0]
    rw [World.cell?_setCell_other _ _ _ _ (by simp)] at k0
    rw [set_cell k0]
  · rw [k1]
    rw [set_cell k1]

/-- A contract that answers a number, its value laid open; the equations are kept from the walk. -/
theorem open_num {P : Program} {f : FuncId} {args : Array Value} {w : World} {z : Int} (h : Calls P f args w fun e w' => ∃ v, e = .returned v ∧ NumAt w' v z ∧ Below w.heap.size w w') :
    Calls P f args w fun e w' => ∃ b A n c ds, e = .returned (.agg #[.bool b, .slice A n c]) ∧ Hid (b = decide (z < 0)) ∧ RawAt w' A n c ds ∧ Tight ds ∧ Hid (val ds = z.natAbs) ∧ Below w.heap.size w w' :=
  open_mag h

set_option maxHeartbeats 1600000 in
set_option maxRecDepth 100000 in
theorem sub_ref {w0 : World} {v v' : Value} {x y : Int} {k : Nat} (h : NumAt w0 v x) (h' : NumAt w0 v' y) (hk : Small k x.natAbs) (hk' : Small k y.natAbs) (hk9 : k ≤ 90000) (w : World) (hw : Below w0.heap.size w0 w) :
    Calls Try.prog 96 #[v, v'] w fun e w' => ∃ u, e = .returned u ∧ NumAt w' u (x - y) ∧ Below w.heap.size w w' := by
  obtain ⟨b, A, n, c, ds, rfl, hs, hr, ht, hv⟩ := num_open (h.below hw)
  obtain ⟨b', A', n', c', ds', rfl, hs', hr', ht', hv'⟩ := num_open (h'.below hw)
  have hkn : Small k (-y).natAbs := by rw [Int.natAbs_neg]; exact hk'
  clear h h' hw hk'
  go_enter Try.func96, Try.ntmps96
  go_wp2_with fail
  refine wp_gen (fun W0 hW => ?_)
  have va : Var W0 w.heap.size 67 #[.bool b, .slice A n c] := by rw [hW]; exact ((Var.new _ _ _).alloc _).alloc _
  have vb : Var W0 (w.heap.size + 1) 67 #[.bool b', .slice A' n' c'] := by rw [hW]; exact (Var.new' _ _ _ (by simp)).alloc _
  have vR : Var W0 (w.heap.size + 1 + 1) 67 #[.bool false, .slice none 0 0] := by rw [hW]; exact Var.new' _ _ _ (by simp)
  have hB_W0 : Below w.heap.size w W0 := by rw [hW]; go_grown
  clear hW
  have a0 : W0.cell? ⟨w.heap.size, 0, none⟩ = some (.bool b) := va.cell 0
  have a1 : W0.cell? ⟨w.heap.size, 1, none⟩ = some (.slice A n c) := va.cell 1
  have b0 : W0.cell? ⟨w.heap.size + 1, 0, none⟩ = some (.bool b') := vb.cell 0
  have b1 : W0.cell? ⟨w.heap.size + 1, 1, none⟩ = some (.slice A' n' c') := vb.cell 1
  go_region_held3 (fun w' => Below (w.heap.size + 1 + 1) W0 w' ∧ w.heap.size + 1 + 1 < w'.heap.size ∧ (∀ b o, b < w.heap.size + 1 + 1 → w'.cell? ⟨b, o, none⟩ = W0.cell? ⟨b, o, none⟩) ∧ (∀ o, o < 2 → w'.cell? ⟨w.heap.size + 1 + 1, o, none⟩ = some (rd w' (w.heap.size + 1 + 1) o)) ∧ (∀ o, w'.frozen? ⟨w.heap.size + 1 + 1, o, none⟩ = false) ∧ (∃ cs, w'.heap[w.heap.size + 1 + 1]? = some (.cells cs 67 (0, 0))))
    (first | exact heldT_step hb_wk (by assumption) | exact heldT_start vR | (repeat (refine heldT_store ?_ _ _)); assumption)
    (first | (go_at_call 81; refine (open_num (neg_ref (num_mk hr' ht' hs'.out hv'.out) _ (heldT_bel (W0 := W0) (w.heap.size + 1 + 1) 2 67 (by assumption) hB_W0 (by omega)))).mono ?_; rintro e wk ⟨d1, A1, n1, c1, e1, rfl, hs1, hr1, ht1, hv1, hb_wk⟩) | (go_at_call 49; refine (open_num (add_ref ((num_mk hr ht hs.out hv.out).below (heldT_bel (W0 := W0) (w.heap.size + 1 + 1) 2 67 (by assumption) hB_W0 (by omega))) (num_mk hr1 ht1 hs1.out hv1.out) hk hkn hk9 _ (Below.refl _ _))).mono ?_; rintro e wk ⟨d2, A2, n2, c2, e2, rfl, hs2, hr2, ht2, hv2, hb_wk⟩))
  obtain ⟨W', e', hB', k0, k1, cs, hVR⟩ := heldT_two (T := 67) (by assumption)
  have hraw := hr2.over hVR (.bool d2) (.slice A2 n2 c2)
  rw [e'] at hraw
  rw [e']
  clear e'
  go_wp2_with fail
  refine bodyPost_ret (by simp [results, Try.results96, go_sem, *]; try rfl) rfl ?_
  exact ⟨_, rfl, num_mk hraw ht2 (by rw [hs2.out, Int.sub_eq_add_neg]) (by rw [hv2.out, Int.sub_eq_add_neg]), Below.trans hB_W0 (hB'.mono (by omega))⟩

set_option maxHeartbeats 800000 in
theorem cmp_ref {w0 : World} {v v' : Value} {x y : Int} {k : Nat} (h : NumAt w0 v x) (h' : NumAt w0 v' y) (hk : Small k x.natAbs) (hk' : Small k y.natAbs) (hk9 : k ≤ 90000) (w : World) (hw : Below w0.heap.size w0 w) :
    Calls Try.prog 80 #[v, v'] w fun e w' => e = .returned (.int .i64 (cmpI x y)) ∧ Below w.heap.size w w' := by
  obtain ⟨b, A, n, c, ds, rfl, hs, hr, ht, hv⟩ := num_open (h.below hw)
  obtain ⟨b', A', n', c', ds', rfl, hs', hr', ht', hv'⟩ := num_open (h'.below hw)
  have l1 := num_len hr ht hv.out hk
  have l2 := num_len hr' ht' hv'.out hk'
  clear h h' hw hk hk'
  by_cases hx : x < 0
  all_goals by_cases hy : y < 0
  · obtain rfl : b = true := by rw [hs.out]; simp [hx]
    obtain rfl : b' = true := by rw [hs'.out]; simp [hy]
    have HC := Lib.hid (show cmpI x y = cmpI (val ds') (val ds) by have := hv.out; have := hv'.out; unfold cmpI; split <;> split <;> first | rfl | omega | (split <;> (try split) <;> first | rfl | omega))
    clear hs hs'
    go_enter Try.func80, Try.ntmps80
    go_wp2_with fail
    refine (cmpSize_any hr' hr _ _ (by omega) (by omega) _ (by go_grown)).mono ?_
    rintro e w1 ⟨rfl, hb_w1⟩
    obtain ⟨hc_w1, hf_w1⟩ := bcell hb_w1
    have hz_w1 := hb_w1.size
    try simp at hz_w1
    have hB_w1 : Below w.heap.size w w1 := Below.trans (by go_grown) (hb_w1.mono (by go_size))
    go_wp2_with fail
    go_ret
    exact ⟨ret_int HC.out.symm, by go_grown⟩
  · obtain rfl : b = true := by rw [hs.out]; simp [hx]
    obtain rfl : b' = false := by rw [hs'.out]; simp [hy]
    have HC := Lib.hid (show cmpI x y = -1 by unfold cmpI; rw [if_pos (by omega)])
    clear hs hs'
    go_enter Try.func80, Try.ntmps80
    go_wp2_with fail
    go_ret
    exact ⟨ret_int HC.out.symm, by go_grown⟩
  · obtain rfl : b = false := by rw [hs.out]; simp [hx]
    obtain rfl : b' = true := by rw [hs'.out]; simp [hy]
    have HC := Lib.hid (show cmpI x y = 1 by unfold cmpI; rw [if_neg (by omega), if_neg (by omega)])
    clear hs hs'
    go_enter Try.func80, Try.ntmps80
    go_wp2_with fail
    go_ret
    exact ⟨ret_int HC.out.symm, by go_grown⟩
  · obtain rfl : b = false := by rw [hs.out]; simp [hx]
    obtain rfl : b' = false := by rw [hs'.out]; simp [hy]
    have HC := Lib.hid (show cmpI x y = cmpI (val ds) (val ds') by have := hv.out; have := hv'.out; unfold cmpI; split <;> split <;> first | rfl | omega | (split <;> (try split) <;> first | rfl | omega))
    clear hs hs'
    go_enter Try.func80, Try.ntmps80
    go_wp2_with fail
    refine (cmpSize_any hr hr' _ _ (by omega) (by omega) _ (by go_grown)).mono ?_
    rintro e w1 ⟨rfl, hb_w1⟩
    obtain ⟨hc_w1, hf_w1⟩ := bcell hb_w1
    have hz_w1 := hb_w1.size
    try simp at hz_w1
    have hB_w1 : Below w.heap.size w w1 := Below.trans (by go_grown) (hb_w1.mono (by go_size))
    go_wp2_with fail
    go_ret
    exact ⟨ret_int HC.out.symm, by go_grown⟩

theorem num_zero (w : World) : NumAt w (.agg #[.bool false, .slice none 0 0]) 0 := ⟨none, 0, 0, [], rfl, ⟨rfl, Nat.le_refl _, by omega, Sl.nil _ _, Digs.nil⟩, Tight.nil, rfl⟩
theorem small_zero (k : Nat) : Small k 0 := Nat.pow_pos (by omega)

theorem sign_ref {w0 : World} {v : Value} {x : Int} {k : Nat} (h : NumAt w0 v x) (hk : Small k x.natAbs) (hk9 : k ≤ 90000) (w : World) (hw : Below w0.heap.size w0 w) :
    Calls Try.prog 90 #[v] w fun e w' => e = .returned (.int .i64 (cmpI x 0)) ∧ Below w.heap.size w w' := by
  obtain ⟨b, A, n, c, ds, rfl, hs, hr, ht, hv⟩ := num_open (h.below hw)
  clear h hw
  go_enter Try.func90, Try.ntmps90
  go_wp2_with fail
  refine (cmp_ref ((num_mk hr ht hs.out hv.out).below (by go_grown)) (num_zero _) hk (small_zero k) hk9 _ (Below.refl _ _)).mono ?_
  rintro e w1 ⟨rfl, hb_w1⟩
  obtain ⟨hc_w1, hf_w1⟩ := bcell hb_w1
  have hz_w1 := hb_w1.size
  try simp at hz_w1
  have hB_w1 : Below w.heap.size w w1 := Below.trans (by go_grown) (hb_w1.mono (by go_size))
  go_wp2_with fail
  go_ret
  exact ⟨rfl, by go_grown⟩

theorem drop_step_le (ds : List Nat) (i : Nat) : val (ds.drop (i + 1)) * 65536 + dig ds i = val (ds.drop i) := by rw [dig_drop ds i]; omega
theorem drop_le (ds : List Nat) (i : Nat) : val (ds.drop i) ≤ val ds := by
  induction i with
  | zero => simp
  | succ i ih => have := drop_step_le ds i; omega

set_option maxHeartbeats 800000 in
theorem word_ref {w0 : World} {A : Option Addr} {n c : Nat} {ds : List Nat} (h : RawAt w0 A n c ds) (hn : n ≤ 4) (hm : val ds ≤ 18446744073709551615) (s : Bool) (w : World) (hw : Below w0.heap.size w0 w) :
    Calls Try.prog 73 #[.agg #[.bool s, .slice A n c]] w fun e w' => e = .returned (.int .u64 (val ds : Int)) ∧ Below w.heap.size w w' := by
  have r1 := h.below hw
  have HM := Lib.hid hm
  have HL := Lib.hid h.len
  clear h hw hm
  go_enter Try.func73, Try.ntmps73
  go_wp2_with fail
  refine wp_gen (fun W hW => ?_)
  have v0 : Var W w.heap.size 67 #[.bool s, .slice A n c] := by rw [hW]; exact Var.new _ _ _
  have hBW : Below w.heap.size w W := by rw [hW]; go_grown
  clear hW
  go_loopw [3, 4] (fun v t wr => ∃ (j q : Nat) (z : Int), v = .int .u64 (q : Int) ∧ t = .int .i64 z ∧ z = (j : Int) - 1 ∧ j ≤ 4 ∧ q = val (ds.drop j) ∧ Below W.heap.size W wr)
    (fun _ t _ => (intOf t + 1).toNat)
  case atStart => exact ⟨4, 0, 3, rfl, rfl, rfl, by omega, by rw [drop_out (by rw [HL.out]; exact hn)], Below.refl _ _⟩
  case round =>
    obtain ⟨j, q, z, rfl, rfl, hz, hj, hq, hbel⟩ := hrel
    have HQ := Lib.hid hq
    clear hq
    have v0' := v0.keep hbel
    have a0 : wr.cell? ⟨w.heap.size, 0, none⟩ = some (.bool s) := v0'.cell 0
    have a1 : wr.cell? ⟨w.heap.size, 1, none⟩ = some (.slice A n c) := v0'.cell 1
    have z0 := v0'.lt
    have hBr : Below w.heap.size w wr := hBW.trans (hbel.mono (Nat.le_of_lt v0.lt))
    rcases Nat.eq_zero_or_pos j with hj0 | hj0
    · subst hj0
      obtain rfl : z = -1 := by omega
      clear hz
      go_wp2_with fail
      go_ret
      refine ⟨ret_int ?_, by go_grown⟩
      have := HQ.out
      simp only [List.drop_zero] at this
      omega
    · obtain ⟨i, rfl⟩ : ∃ i, j = i + 1 := ⟨j - 1, by omega⟩
      obtain rfl : z = (i : Int) := by omega
      clear hz hj0
      have hb : (q : Int) * 65536 + (dig ds i : Nat) ≤ 18446744073709551615 := by
        have h1 := drop_step_le ds i
        have h2 := drop_le ds i
        have h3 := HM.out
        have h4 := HQ.out
        rw [← h4] at h1
        omega
      go_wp2_with fail
      refine (digit_any (r1.below hBr) s i _ (Below.refl _ _)).mono ?_
      rintro e w1 ⟨rfl, hb_w1⟩
      obtain ⟨hc_w1, hf_w1⟩ := bcell hb_w1
      have hz_w1 := hb_w1.size
      try simp at hz_w1
      have hB_w1 : Below w.heap.size w w1 := Below.trans (by go_grown) (hb_w1.mono (by go_size))
      have hs_w1_0 : w.heap.size < w1.heap.size := by omega
      go_wp2_with fail
      go_roundw
      case rel =>
        have h1 := drop_step_le ds i
        have h4 := HQ.out
        rw [← h4] at h1
        exact ⟨i, q * 65536 + dig ds i, _, congrArg (Value.int .u64) (by omega), rfl, rfl, by omega, h1, hbel.trans (hb_w1.mono hbel.size)⟩
      case measure => simp [intOf]

theorem two_small (k : Nat) : Small (k + 1) (2 ^ k) := by
  unfold Small
  have h1 : 2 ^ k ≤ 65536 ^ k := Nat.pow_le_pow_left (by omega) k
  have h2 : 65536 ^ k < 65536 ^ (k + 1) := Nat.pow_lt_pow_right (by omega) (by omega)
  omega

set_option maxHeartbeats 1600000 in
theorem power_ref (n : Nat) (hn : n ≤ 1000) (w : World) :
    Calls Try.prog 82 #[.int .i64 (n : Int)] w fun e w' => ∃ v, e = .returned v ∧ NumAt w' v (2 ^ n) ∧ Below w.heap.size w w' := by
  have hu := fun W => unsigned_ref 1 (by omega) W
  have HU := Lib.hid hu
  clear hu
  go_enter Try.func82, Try.ntmps82
  go_wp2_with fail
  refine (open_mag (HU.out _)).mono ?_
  rintro e w1 ⟨b1, A1, n1, c1, e1, rfl, hs1, hr1, ht1, hv1, hb_w1⟩
  obtain ⟨hc_w1, hf_w1⟩ := bcell hb_w1
  have hz_w1 := hb_w1.size
  try simp at hz_w1
  have hB_w1 : Below w.heap.size w w1 := Below.trans (by go_grown) (hb_w1.mono (by go_size))
  have hs_w1_w_0 : w.heap.size < w1.heap.size := by omega
  go_wp2_with fail
  refine wp_gen (fun W hW => ?_)
  have vR : Var W w.heap.size 67 #[.bool false, .slice none 0 0] := by rw [hW]; exact ((Var.new _ _ _).keep hb_w1).alloc _
  have vX : Var W w1.heap.size 67 #[.bool b1, .slice A1 n1 c1] := by rw [hW]; exact Var.new _ _ _
  have hr0 : RawAt W A1 n1 c1 e1 := by rw [hW]; exact hr1.below (by go_grown)
  have hBW : Below w.heap.size w W := by rw [hW]; go_grown
  clear hW
  go_loopw [4] (fun t wr => ∃ (k : Nat) (b : Bool) (A : Option Addr) (m c : Nat) (ds : List Nat), t = .int .i64 (k : Int) ∧ k ≤ n ∧ Hid (b = false) ∧ Var wr w1.heap.size 67 #[.bool b, .slice A m c] ∧ RawAt wr A m c ds ∧ Tight ds ∧ Hid (val ds = 2 ^ k) ∧ Below w1.heap.size W wr)
    (fun t _ => n - (intOf t).toNat)
  case atStart => exact ⟨0, b1, A1, n1, c1, e1, rfl, by omega, hs1, vX, hr0, ht1, hv1, Below.refl _ _⟩
  case round =>
    obtain ⟨k, b, A, m, c, ds, rfl, hk, hb, hVX, hr, ht, hv, hbel⟩ := hrel
    have hm := num_len hr ht hv.out (two_small k)
    have x0 : wr.cell? ⟨w1.heap.size, 0, none⟩ = some (.bool b) := hVX.cell 0
    have x1 : wr.cell? ⟨w1.heap.size, 1, none⟩ = some (.slice A m c) := hVX.cell 1
    have f0 := hVX.free 0
    have f1 := hVX.free 1
    have vR' := vR.below hbel (by omega)
    have r0 : wr.cell? ⟨w.heap.size, 0, none⟩ = some (.bool false) := vR'.cell 0
    have r1 : wr.cell? ⟨w.heap.size, 1, none⟩ = some (.slice none 0 0) := vR'.cell 1
    have g0 := vR'.free 0
    have g1 := vR'.free 1
    have z0 := vR'.lt
    have z1 := hVX.lt
    have hBr : Below w.heap.size w wr := hBW.trans (hbel.mono (by omega))
    rcases Nat.lt_or_ge k n with hlt | hge
    · go_wp2_with fail
      refine (open_mag (size_any hr hr _ _ (by omega) (by omega) _ (Below.refl _ _))).mono ?_
      rintro e w2 ⟨b2, A2, m2, c2, e2, rfl, hs2, hr2, ht2, hv2, hb_w2⟩
      obtain ⟨hc_w2, hf_w2⟩ := bcell hb_w2
      have hz_w2 := hb_w2.size
      try simp at hz_w2
      have hB_w2 : Below w.heap.size w w2 := Below.trans (by go_grown) (hb_w2.mono (by go_size))
      have hs_w2_0 : w.heap.size < w2.heap.size := by omega
      have hs_w2_1 : w1.heap.size < w2.heap.size := by omega
      have hVX2 := hVX.keep hb_w2
      go_wp2_with fail
      go_roundw
      case rel =>
        exact ⟨k + 1, b2, A2, m2, c2, e2, congrArg (Value.int .i64) (by omega), by omega, hs2, (hVX2.store 0 _).store 1 _, hr2.over hVX2 _ _, ht2, Lib.hid (by rw [hv2.out, hv.out, Nat.pow_succ]; omega),
          ((hbel.trans (hb_w2.mono (Nat.le_of_lt z1))).setCell (by simp) _).setCell (by simp) _⟩
      case measure => simp [intOf]; omega
    · obtain rfl : k = n := by omega
      go_wp2_with fail
      refine bodyPost_ret (by simp [results, Try.results82, go_sem, *]; try rfl) rfl ?_
      refine ⟨_, rfl, num_mk (hr.over vR' _ _) ht ?_ ?_, by go_grown⟩
      · have h2 : (0 : Int) < 2 ^ k := Int.pow_pos (by omega)
        rw [hb.out]; symm; simp; omega
      · rw [hv.out, Int.natAbs_pow]; rfl

theorem undrew {W w' : World} (h : Below W.drew.heap.size W.drew w') : Below W.heap.size W w' := ⟨h.os, h.tape, h.output, h.size, h.block⟩
theorem RawAt.away1 {w : World} {A : Option Addr} {n c : Nat} {ds : List Nat} (h : RawAt w A n c ds) {R : Nat} {cs : Array Value} (hV : Var w R 67 cs) (o : Nat) (x : Value) :
    RawAt (w.setCell ⟨R, o, none⟩ x) A n c ds := ⟨h.len, h.cap, h.big, h.sl.away (o' := o) hV (by decide) x, h.digs⟩
theorem small_word {m : Nat} (h : m ≤ 18446744073709551615) : Small 4 m := by
  unfold Small
  have : (65536 : Nat) ^ 4 = 18446744073709551616 := by decide +kernel
  omega

theorem smallpow_ref (n : Nat) (hn : n ≤ 60) (w : World) :
    Calls Try.prog 110 #[.int .i64 (n : Int)] w fun e w' => e = .returned (.int .u64 ((2 ^ n : Nat) : Int)) ∧ w = w' := by
  go_enter Try.func110, Try.ntmps110
  go_wp2_with fail
  go_loop [3, 4] (fun p t => ∃ (k q : Nat), p = .int .u64 (q : Int) ∧ t = .int .i64 (k : Int) ∧ k ≤ n ∧ Hid (q = 2 ^ k)) (fun _ t => n - (intOf t).toNat)
  case atStart => exact ⟨0, 1, rfl, rfl, by omega, Lib.hid rfl⟩
  case round =>
    obtain ⟨k, q, rfl, rfl, hk, hq⟩ := hrel
    rcases Nat.lt_or_ge k n with hlt | hge
    · have hb : (q : Int) * 2 ≤ 18446744073709551615 := by
        have h1 : 2 ^ k ≤ 2 ^ 60 := Nat.pow_le_pow_right (by omega) (by omega)
        have h2 : (2 : Nat) ^ 60 = 1152921504606846976 := by decide +kernel
        have h3 := hq.out
        omega
      go_wp2_with fail
      go_round
      case rel => exact ⟨k + 1, q * 2, congrArg (Value.int .u64) (by omega), congrArg (Value.int .i64) (by omega), by omega, Lib.hid (by rw [hq.out, Nat.pow_succ])⟩
      case measure => simp [intOf]; omega
    · have hkn : Hid (k = n) := by have : k = n := by omega
                                   exact Lib.hid this
      go_wp2_with fail
      go_ret
      exact ⟨ret_int (by rw [hq.out, hkn.out]; simp), rfl⟩

set_option maxHeartbeats 1600000 in
set_option maxRecDepth 100000 in
theorem of_ref (v : Int) (hv : -9223372036854775808 ≤ v ∧ v ≤ 9223372036854775807) (w : World) :
    Calls Try.prog 74 #[.int .i64 v] w fun e w' => ∃ u, e = .returned u ∧ NumAt w' u v ∧ Below w.heap.size w w' := by
  rcases Int.lt_or_le v 0 with hneg | hpos
  · obtain ⟨m, hm⟩ : ∃ m : Nat, (m : Int) = -(v + 1) := ⟨(-(v + 1)).toNat, by omega⟩
    have HU := Lib.hid (fun W => unsigned_ref m (by omega) W)
    have HU1 := Lib.hid (fun W => unsigned_ref 1 (by omega) W)
    have e1 : IntKind.u64.wrap (-(v + 1)) = (m : Int) := by rw [IntKind.wrap_u64]; omega
    have hm64 : m ≤ 18446744073709551615 := by omega
    have HM := Lib.hid hm
    clear hm
    go_enter Try.func74, Try.ntmps74
    go_wp2_with fail
    refine (open_mag (HU.out _)).mono ?_
    rintro e w1 ⟨b1, A1, n1, c1, k1, rfl, hs1, hr1, ht1, hv1, hb_w1⟩
    obtain ⟨hc_w1, hf_w1⟩ := bcell hb_w1
    have hz_w1 := hb_w1.size
    try simp at hz_w1
    have hB_w1 : Below w.heap.size w w1 := Below.trans (by go_grown) (hb_w1.mono (by go_size))
    have hs_w1_0 : w.heap.size < w1.heap.size := by omega
    have l1 := num_len hr1 ht1 hv1.out (small_word (by omega))
    go_wp2_with fail
    refine wp_gen (fun W hW => ?_)
    have vR : Var W w.heap.size 67 #[.bool false, .slice none 0 0] := by rw [hW]; exact ((Var.new _ _ _).keep hb_w1).alloc _
    have vX : Var W w1.heap.size 67 #[.bool b1, .slice A1 n1 c1] := by rw [hW]; exact Var.new _ _ _
    have hr0 : RawAt W A1 n1 c1 k1 := by rw [hW]; exact hr1.below (by go_grown)
    have hB_W : Below w.heap.size w W := by rw [hW]; go_grown
    clear hW
    have x0 : W.cell? ⟨w1.heap.size, 0, none⟩ = some (.bool b1) := vX.cell 0
    have x1 : W.cell? ⟨w1.heap.size, 1, none⟩ = some (.slice A1 n1 c1) := vX.cell 1
    have f0 := vX.free 0
    have f1 := vX.free 1
    have r0 : W.cell? ⟨w.heap.size, 0, none⟩ = some (.bool false) := vR.cell 0
    have r1 : W.cell? ⟨w.heap.size, 1, none⟩ = some (.slice none 0 0) := vR.cell 1
    have g0 := vR.free 0
    have g1 := vR.free 1
    have z0 := vR.lt
    have z1 := vX.lt
    go_region_with (first | (go_at_call 95; refine (open_mag (HU1.out _)).mono ?_; rintro e wk ⟨b2, A2, n2, c2, k2, rfl, hs2, hr2, ht2, hv2, hb_wk⟩; (first | replace hb_wk := undrew hb_wk | skip); obtain ⟨hc_wk, hf_wk⟩ := bcell hb_wk; have hz_wk := hb_wk.size; (try simp at hz_wk); have hB_wk : Below w.heap.size w wk := Below.trans (by go_grown) (hb_wk.mono (by go_size)); have hs_wk_0 : w.heap.size < wk.heap.size := (by omega); have hs_wk_1 : w1.heap.size < wk.heap.size := (by omega); have vk2 := vX.keep hb_wk; have vr2 := vR.keep hb_wk) | (go_at_call 75; refine (open_mag (size_any (hr0.below hb_wk) hr2 _ _ (by omega) (Nat.le_trans (num_len hr2 ht2 hv2.out (small_word (by omega))) (by omega)) _ (Below.refl _ _))).mono ?_; rintro e wk ⟨b3, A3, n3, c3, k3, rfl, hs3, hr3, ht3, hv3, hb_wk⟩; (first | replace hb_wk := undrew hb_wk | skip); obtain ⟨hc_wk, hf_wk⟩ := bcell hb_wk; have hz_wk := hb_wk.size; (try simp at hz_wk); have hB_wk : Below w.heap.size w wk := Below.trans (by go_grown) (hb_wk.mono (by go_size)); have hs_wk_0 : w.heap.size < wk.heap.size := (by omega); have hs_wk_1 : w1.heap.size < wk.heap.size := (by omega); have vk3 := vk2.keep hb_wk; have vr3 := vr2.keep hb_wk; have q0 : wk.cell? ⟨w1.heap.size, 0, none⟩ = some (.bool b1) := vk3.cell 0; have q1 : wk.cell? ⟨w1.heap.size, 1, none⟩ = some (.slice A1 n1 c1) := vk3.cell 1; have q2 := vk3.free 0; have q3 := vk3.free 1; have t0 : wk.cell? ⟨w.heap.size, 0, none⟩ = some (.bool false) := vr3.cell 0; have t1 : wk.cell? ⟨w.heap.size, 1, none⟩ = some (.slice none 0 0) := vr3.cell 1; have t2 := vr3.free 0; have t3 := vr3.free 1))
    all_goals
      go_wp2_with fail
      refine bodyPost_ret (by simp [results, Try.results74, go_sem, *]; try rfl) rfl ?_
      have q1' := ((hr3.away1 vk3 0 (.bool b3)).away1 (vk3.store 0 (.bool b3)) 1 (.slice A3 n3 c3)).away1 ((vk3.store 0 (.bool b3)).store 1 (.slice A3 n3 c3)) 0 (.bool true)
      have q2' := ((vr3.far (p := ⟨w1.heap.size, 0, none⟩) (by simp; omega) (.bool b3)).far (p := ⟨w1.heap.size, 1, none⟩) (by simp; omega) (.slice A3 n3 c3)).far (p := ⟨w1.heap.size, 0, none⟩) (by simp; omega) (.bool true)
      refine ⟨_, rfl, num_mk (q1'.over q2' _ _) ht3 (by simp [hneg]) ?_, by go_grown⟩
      have p1 := hv1.out
      have p2 := hv2.out
      have p3 := hv3.out
      have p4 := HM.out
      omega
  · obtain ⟨m, rfl⟩ := Int.eq_ofNat_of_zero_le hpos
    have HU := Lib.hid (fun W => unsigned_ref m (by omega) W)
    go_enter Try.func74, Try.ntmps74
    go_wp2_with fail
    refine (open_mag (HU.out _)).mono ?_
    rintro e w1 ⟨b1, A1, n1, c1, k1, rfl, hs1, hr1, ht1, hv1, hb_w1⟩
    obtain ⟨hc_w1, hf_w1⟩ := bcell hb_w1
    have hz_w1 := hb_w1.size
    try simp at hz_w1
    have hB_w1 : Below w.heap.size w w1 := Below.trans (by go_grown) (hb_w1.mono (by go_size))
    have hs_w1_0 : w.heap.size < w1.heap.size := by omega
    have vR : Var w1 w.heap.size 67 #[.bool false, .slice none 0 0] := (Var.new _ _ _).keep hb_w1
    go_wp2_with fail
    refine bodyPost_ret (by simp [results, Try.results74, go_sem, *]; try rfl) rfl ?_
    exact ⟨_, rfl, num_mk (hr1.over vR _ _) ht1 (by rw [hs1.out]; simp) (by rw [hv1.out]; omega), by go_grown⟩

theorem prod_small {a b : Nat} (ha : a < 65536) (hb : b < 65536) : (a : Int) * (b : Int) ≤ 4294836225 ∧ 0 ≤ (a : Int) * (b : Int) := by
  have h := Nat.mul_le_mul (Nat.le_of_lt_succ ha) (Nat.le_of_lt_succ hb)
  rw [← Int.natCast_mul]
  omega
theorem mul_cell {y f d ca : Nat} (hy : y < 65536) (hf : f < 65536) (hd : d < 65536) (hc : ca < 65536) :
    (IntKind.u64.wrap (IntKind.u64.wrap ((y : Int) + IntKind.u64.wrap ((f : Int) * (d : Int))) + (ca : Int))).tdiv 65536 = (((y + f * d + ca) / 65536 : Nat) : Int) ∧
    (IntKind.u64.wrap (IntKind.u64.wrap ((y : Int) + IntKind.u64.wrap ((f : Int) * (d : Int))) + (ca : Int))).tmod 65536 = (((y + f * d + ca) % 65536 : Nat) : Int) := by
  have h := Nat.mul_le_mul (Nat.le_of_lt_succ hf) (Nat.le_of_lt_succ hd)
  rw [← Int.natCast_mul]
  generalize f * d = p at *
  have e : IntKind.u64.wrap (IntKind.u64.wrap ((y : Int) + IntKind.u64.wrap (p : Int)) + (ca : Int)) = ((y + p + ca : Nat) : Int) := by
    simp only [IntKind.wrap_u64]; omega
  rw [e]
  exact ⟨by rw [Int.tdiv_eq_ediv_of_nonneg (by omega)]; omega, by rw [Int.tmod_eq_emod_of_nonneg (by omega)]; omega⟩
theorem take_dig {ds : List Nat} {i : Nat} (h : i < ds.length) : ds.take (i + 1) = ds.take i ++ [dig ds i] := by
  rw [List.take_add_one, List.getElem?_eq_getElem h]
  unfold dig
  rw [List.getD_eq_getElem?_getD, List.getElem?_eq_getElem h]; rfl
theorem raw_of_var {w : World} {g L : Nat} {ds : List Nat} (h : Var w g 55 (ds.map U).toArray) (hl : ds.length = L) (hL : L ≤ 9223372036854775807) (hd : Digs ds) : RawAt w (some ⟨g, 0, none⟩) L L ds :=
  ⟨hl, Nat.le_refl _, hL, fun j u hu => ⟨g, 0, _, rfl, h.lt, h, by rw [Nat.zero_add, h.cell j]; simpa using hu⟩, hd⟩
theorem noughts (n : Nat) : madeCells #[.int .u64 0] n = (((List.replicate n 0).map U).toArray : Array Value) := by
  have h := toList_madeCells_one (.int .u64 0) n
  rw [List.map_replicate]
  exact Array.toList_inj.1 (by rw [h]; rfl)

set_option maxHeartbeats 800000 in
set_option maxRecDepth 100000 in
theorem mul_ref {w0 : World} {A1 A2 : Option Addr} {n1 c1 n2 c2 : Nat} {d1 d2 : List Nat} (h1 : RawAt w0 A1 n1 c1 d1) (h2 : RawAt w0 A2 n2 c2 d2) (s1 s2 : Bool) (hn1 : n1 ≤ 40000) (hn2 : n2 ≤ 40000) (w : World) (hw : Below w0.heap.size w0 w) :
    Calls Try.prog 97 #[.agg #[.bool s1, .slice A1 n1 c1], .agg #[.bool s2, .slice A2 n2 c2]] w fun e w' => ∃ v, e = .returned v ∧ MagAt w' v ((!s1 == s2) && decide (¬ val d1 * val d2 = 0)) (val d1 * val d2) ∧ Below w.heap.size w w' := by
  have r1 := h1.below hw
  have r2 := h2.below hw
  have l1 := h1.len
  have l2 := h2.len
  have g1 := h1.digs
  have g2 := h2.digs
  clear h1 h2 hw
  have HL := Lib.hid (And.intro l1 l2)
  clear l1 l2
  obtain ⟨L, hL⟩ : ∃ L, n1 + n2 + 1 = L := ⟨_, rfl⟩
  have hmk := fun W => run_make_row' (P := Try.prog) 65 55 (.int .u64 0) 8 Try.underlying65 (by kernel_rfl) rfl .i64 .i64 L (by omega) (by omega) W
  rw [show ((L : Nat) : Int) = (n1 : Int) + (n2 : Int) + 1 by omega, noughts] at hmk
  have HLL := Lib.hid hL
  clear hL
  go_enter Try.func97, Try.ntmps97
  go_wp2_with fail
  refine wp_gen (fun W hW => ?_)
  have v0 : Var W w.heap.size 67 #[.bool s1, .slice A1 n1 c1] := by rw [hW]; exact ((((Var.new _ _ _).alloc _).alloc _).alloc _).alloc _
  have v1 : Var W (w.heap.size + 1) 67 #[.bool s2, .slice A2 n2 c2] := by rw [hW]; exact (((Var.new' _ _ _ (by simp)).alloc _).alloc _).alloc _
  have vR : Var W (w.heap.size + 1 + 1) 67 #[.bool false, .slice none 0 0] := by rw [hW]; exact ((Var.new' _ _ _ (by simp)).alloc _).alloc _
  have vD : Var W (w.heap.size + 1 + 1 + 1) 55 ((List.replicate L 0).map U).toArray := by
    rw [hW, show (((List.replicate L 0).map U).toArray : Array Value) = Array.replicate L (U 0) by simp]
    exact (Var.new' _ _ _ (by simp)).alloc _
  have vX : Var W (w.heap.size + 1 + 1 + 1 + 1) 67 #[.bool false, .slice (some ⟨w.heap.size + 1 + 1 + 1, 0, none⟩) L L] := by
    rw [hW]
    exact Var.new' _ _ _ (by simp)
  have hBW : Below w.heap.size w W := by rw [hW]; go_grown
  clear hW hmk
  go_loopw [6] (fun t wr => ∃ (i : Nat) (xs : List Nat), i ≤ n1 ∧ t = .int .i64 (i : Int) ∧ Below (w.heap.size + 1 + 1 + 1) W wr ∧ Var wr (w.heap.size + 1 + 1 + 1) 55 (xs.map U).toArray ∧ Var wr (w.heap.size + 1 + 1 + 1 + 1) 67 #[.bool false, .slice (some ⟨w.heap.size + 1 + 1 + 1, 0, none⟩) L L] ∧
      Digs xs ∧ xs.length = L ∧ val xs = val (d1.take i) * val d2 ∧ (∀ q, i + n2 ≤ q → xs.getD q 0 = 0))
    (fun t _ => n1 - (intOf t).toNat)
  case atStart => exact ⟨0, List.replicate L 0, by omega, rfl, Below.refl _ _, vD, vX, digs_replicate _, List.length_replicate, by simp [val_replicate, val], fun q _ => by rw [List.getD_eq_getElem?_getD, List.getElem?_replicate]; split <;> rfl⟩
  case round =>
    obtain ⟨i, xs, hi, rfl, hbel, vD', vX', hdx, hlx, hvx, hzx⟩ := hrel
    have HX := Lib.hid (And.intro hdx (And.intro hlx (And.intro hvx hzx)))
    clear hdx hlx hvx hzx
    have v0' := v0.below hbel (by omega)
    have v1' := v1.below hbel (by omega)
    have vR' := vR.below hbel (by omega)
    have a0 : wr.cell? ⟨w.heap.size, 0, none⟩ = some (.bool s1) := v0'.cell 0
    have a1 : wr.cell? ⟨w.heap.size, 1, none⟩ = some (.slice A1 n1 c1) := v0'.cell 1
    have b0 : wr.cell? ⟨w.heap.size + 1, 0, none⟩ = some (.bool s2) := v1'.cell 0
    have b1 : wr.cell? ⟨w.heap.size + 1, 1, none⟩ = some (.slice A2 n2 c2) := v1'.cell 1
    have q0 : wr.cell? ⟨w.heap.size + 1 + 1, 0, none⟩ = some (.bool false) := vR'.cell 0
    have q1 : wr.cell? ⟨w.heap.size + 1 + 1, 1, none⟩ = some (.slice none 0 0) := vR'.cell 1
    have x0 : wr.cell? ⟨w.heap.size + 1 + 1 + 1 + 1, 0, none⟩ = some (.bool false) := vX'.cell 0
    have x1 : wr.cell? ⟨w.heap.size + 1 + 1 + 1 + 1, 1, none⟩ = some (.slice (some ⟨w.heap.size + 1 + 1 + 1, 0, none⟩) L L) := vX'.cell 1
    have e0 := vR'.free 0
    have e1 := vR'.free 1
    have f0 := vX'.free 0
    have f1 := vX'.free 1
    have z4 := vX'.lt
    have z3 := vD'.lt
    have z2 := vR'.lt
    have z1 := v1'.lt
    have z0 := v0'.lt
    have hBr : Below w.heap.size w wr := hBW.trans (hbel.mono (by omega))
    rcases Nat.lt_or_ge i n1 with hlt | hge
    · go_wp2_with fail
      go_loopw [7, 8] (fun cy t ws => ∃ (ca j : Nat) (ys : List Nat), j ≤ n2 + 1 ∧ cy = .int .u64 (ca : Int) ∧ t = .int .i64 (j : Int) ∧ Below (w.heap.size + 1 + 1 + 1) W ws ∧ Var ws (w.heap.size + 1 + 1 + 1) 55 (ys.map U).toArray ∧ Var ws (w.heap.size + 1 + 1 + 1 + 1) 67 #[.bool false, .slice (some ⟨w.heap.size + 1 + 1 + 1, 0, none⟩) L L] ∧
          Digs ys ∧ ys.length = L ∧ (ca < 65536 ∧ (j = n2 + 1 → ca = 0)) ∧ val ys + 65536 ^ (i + j) * (ca + dig d1 i * val (d2.drop j)) = val (d1.take i) * val d2 + 65536 ^ i * (dig d1 i * val d2) ∧ (∀ q, i + n2 ≤ q → i + j ≤ q → ys.getD q 0 = 0))
        (fun _ t _ => n2 + 1 - (intOf t).toNat)
      case atStart => exact ⟨0, 0, xs, by omega, rfl, rfl, hbel, vD', vX', HX.out.1, HX.out.2.1, ⟨by omega, fun _ => rfl⟩, by rw [HX.out.2.2.1]; simp, fun q h _ => HX.out.2.2.2 q h⟩
      case round =>
        obtain ⟨ca, j, ys, hj, rfl, rfl, hbel2, vD2, vX2, hdy, hly, ⟨hca, hcj⟩, hvy, hzy⟩ := hrel
        have HY := Lib.hid (And.intro hdy (And.intro hly (And.intro hvy hzy)))
        clear hdy hly hvy hzy a0 a1 b0 b1 q0 q1 x0 x1 e0 e1 f0 f1
        have v0' := v0.below hbel2 (by omega)
        have v1' := v1.below hbel2 (by omega)
        have vR' := vR.below hbel2 (by omega)
        have hBs : Below w.heap.size w wr := hBW.trans (hbel2.mono (by omega))
        have a0 : wr.cell? ⟨w.heap.size, 0, none⟩ = some (.bool s1) := v0'.cell 0
        have b0 : wr.cell? ⟨w.heap.size + 1, 0, none⟩ = some (.bool s2) := v1'.cell 0
        have b1 : wr.cell? ⟨w.heap.size + 1, 1, none⟩ = some (.slice A2 n2 c2) := v1'.cell 1
        have x0 : wr.cell? ⟨w.heap.size + 1 + 1 + 1 + 1, 0, none⟩ = some (.bool false) := vX2.cell 0
        have x1 : wr.cell? ⟨w.heap.size + 1 + 1 + 1 + 1, 1, none⟩ = some (.slice (some ⟨w.heap.size + 1 + 1 + 1, 0, none⟩) L L) := vX2.cell 1
        have y4 := vX2.lt
        have y3 := vD2.lt
        have y2 := vR'.lt
        have y1 := v1'.lt
        have y0 := v0'.lt
        by_cases hgo : j < n2 ∨ 0 < ca
        · have hj2 : j ≤ n2 := by omega
          have hways : j < n2 ∨ (n2 ≤ j ∧ 0 < ca) := by omega
          clear hgo
          have hij : i + j < L := by have := HLL.out; omega
          obtain ⟨b, o, rfl, hb, ha⟩ := (r1.below hBs).at_ hlt
          have a1 : wr.cell? ⟨w.heap.size, 1, none⟩ = some (.slice (some ⟨b, o, none⟩) n1 c1) := v0'.cell 1
          have hd : wr.cell? ⟨w.heap.size + 1 + 1 + 1, i + j, none⟩ = some (.int .u64 ((ys.getD (i + j) 0 : Nat) : Int)) := by
            rw [vD2.cell (i + j)]
            have hly := HY.out.2.1
            simp [hly, hij, U]
          have t1 := g1.getD i
          have t2 := dig_lt g2 j
          have t3 := HY.out.1.getD (i + j)
          have hpd := prod_small t1 t2
          have fD := vD2.free (i + j)
          rcases hways with hl | ⟨hl, hl'⟩
          all_goals
            go_wp2_with fail
            have hq_wr := @wd_cell wr
            refine wp_region_wd (by kernel_rfl) (by kernel_rfl) ?_
            repeat (go_big_quiet_step ((first | (go_at_call 94; with_reducible exact quiet_wd (digit_any (r2.below hBs) s2 j _ (Wd.h _))))))
            refine wpQuiet_nil ?_
            rintro w8 ⟨⟨wx, hb_w8⟩, hwx⟩
            obtain rfl : w8 = wx := hwx
            clear hq_wr
            have hz_w8 := hb_w8.size
            obtain ⟨hc_w8, hf_w8⟩ := bcell hb_w8
            have hB_w8 : Below w.heap.size w w8 := Below.trans (by go_grown) (hb_w8.mono (by go_size))
            go_wp2_with fail
            go_roundw
            case measure => simp [intOf]; omega
            case rel =>
              have hY := HY.out
              have hq : d1.getD i 0 * dig d2 j ≤ 4294836225 := Nat.mul_le_mul (Nat.le_of_lt_succ t1) (Nat.le_of_lt_succ t2)
              have hm := mul_cell t3 t1 t2 hca
              rw [List.getD_eq_getElem?_getD, List.getD_eq_getElem?_getD] at hm
              rw [hm.1, hm.2, ← List.getD_eq_getElem?_getD, ← List.getD_eq_getElem?_getD]
              have hb8 : Below (w.heap.size + 1 + 1 + 1) W w8 := hbel2.trans (hb_w8.mono (by omega))
              have hs : ys.getD (i + j) 0 + d1.getD i 0 * dig d2 j + ca ≤ 4294967295 := by omega
              refine ⟨(ys.getD (i + j) 0 + d1.getD i 0 * dig d2 j + ca) / 65536, j + 1, ys.set (i + j) ((ys.getD (i + j) 0 + d1.getD i 0 * dig d2 j + ca) % 65536), by omega, congrArg (Value.int .u64) (by rw [IntKind.wrap_u64]; omega), congrArg (Value.int .i64) (by omega), hb8.setCell (p := ⟨w.heap.size + 1 + 1 + 1, i + j, none⟩) (Nat.le_refl _) _, ?_, (vX2.keep hb_w8).far (p := ⟨w.heap.size + 1 + 1 + 1, i + j, none⟩) (by simp) _, hY.1.set (by omega), by rw [List.length_set]; exact hY.2.1, ⟨by omega, fun h => ?_⟩, ?_, fun q h1 h2 => ?_⟩
              · have hst := (vD2.keep hb_w8).store (i + j) (U ((ys.getD (i + j) 0 + d1.getD i 0 * dig d2 j + ca) % 65536))
                rw [show (ys.map U).toArray.setIfInBounds (i + j) (U ((ys.getD (i + j) 0 + d1.getD i 0 * dig d2 j + ca) % 65536)) = ((ys.set (i + j) ((ys.getD (i + j) 0 + d1.getD i 0 * dig d2 j + ca) % 65536)).map U).toArray by simp [List.map_set]] at hst
                exact hst
              · have h0 : dig d2 j = 0 := dig_out (by rw [HL.out.2]; omega)
                have h1 : ys.getD (i + j) 0 = 0 := hY.2.2.2 (i + j) (by omega) (Nat.le_refl _)
                rw [h0, h1, Nat.mul_zero]
                omega
              · have h3 := hY.2.2.1
                rw [dig_drop d2 j] at h3
                rw [← Nat.add_assoc, Nat.pow_succ]
                exact mul_step rfl (val_set ys (i + j) _ (by rw [hY.2.1]; exact hij)) h3
              · rw [getD_set_ne _ _ _ _ (by omega)]
                exact hY.2.2.2 q h1 (by omega)
        · have hj2 : n2 ≤ j := by omega
          have hc0 : ca = 0 := by omega
          subst hc0
          clear hgo
          have hfin : val ys = val (d1.take (i + 1)) * val d2 := by
            have := HY.out.2.2.1
            rw [drop_out (by rw [HL.out.2]; exact hj2)] at this
            rw [take_dig (by rw [HL.out.1]; exact hlt), val_snoc, List.length_take, HL.out.1, Nat.min_eq_left hi, Nat.add_mul, Nat.mul_assoc, ← this]
            simp
          have HF := Lib.hid hfin
          clear hfin
          go_wp2_with fail
          go_roundw
          case measure => simp [intOf]; omega
          case rel =>
            exact ⟨i + 1, ys, by omega, congrArg (Value.int .i64) (by omega), hbel2, vD2, vX2, HY.out.1, HY.out.2.1, HF.out, fun q hq => HY.out.2.2.2 q (by omega) (by omega)⟩
    · have hin : n1 ≤ i := by omega
      have hfin : val xs = val d1 * val d2 := by
        have := HX.out.2.2.1
        rw [List.take_of_length_le (by rw [HL.out.1]; exact hin)] at this
        exact this
      have hraw : RawAt wr (some ⟨w.heap.size + 1 + 1 + 1, 0, none⟩) L L xs := raw_of_var vD' HX.out.2.1 (by have := HLL.out; omega) HX.out.1
      have HF := Lib.hid hfin
      clear hfin
      go_wp2_with fail
      have hraw2 := hraw.away1 vX' 0 (.bool (!s1 == s2))
      refine (trimmed_any hraw2 (!s1 == s2) _ (Below.refl _ _)).mono ?_
      rintro e w9 ⟨v, rfl, ⟨A', n', c', ds', rfl, hr9, ht, hval⟩, hb_w9⟩
      obtain ⟨hc_w9, hf_w9⟩ := bcell hb_w9
      have hz_w9 := hb_w9.size
      try simp at hz_w9
      have hB_w9 : Below w.heap.size w w9 := Below.trans (by go_grown) (hb_w9.mono (by go_size))
      have hs_w9_0 : w.heap.size < w9.heap.size := by omega
      have hs_w9_1 : w.heap.size + 1 < w9.heap.size := by omega
      have hs_w9_2 : w.heap.size + 1 + 1 < w9.heap.size := by omega
      have vR9 := (vR'.far (p := ⟨w.heap.size + 1 + 1 + 1 + 1, 0, none⟩) (by simp) (.bool (!s1 == s2))).keep hb_w9
      go_wp2_with fail
      refine bodyPost_ret (by simp [results, Try.results97, go_sem, *]; try rfl) rfl ?_
      rw [HF.out] at hval ⊢
      exact ⟨_, rfl, ⟨A', n', c', ds', by simp, hr9.over vR9 _ _, ht, hval⟩, by go_grown⟩

theorem mul_num {w0 : World} {v v' : Value} {x y : Int} {k : Nat} (h : NumAt w0 v x) (h' : NumAt w0 v' y) (hk : Small k x.natAbs) (hk' : Small k y.natAbs) (hk9 : k ≤ 40000) (w : World) (hw : Below w0.heap.size w0 w) :
    Calls Try.prog 97 #[v, v'] w fun e w' => ∃ u, e = .returned u ∧ NumAt w' u (x * y) ∧ Below w.heap.size w w' := by
  obtain ⟨b, A, n, c, ds, rfl, hs, hr, ht, hv⟩ := num_open (h.below hw)
  obtain ⟨b', A', n', c', ds', rfl, hs', hr', ht', hv'⟩ := num_open (h'.below hw)
  have l1 := num_len hr ht hv.out hk
  have l2 := num_len hr' ht' hv'.out hk'
  refine (mul_ref hr hr' b b' (by omega) (by omega) w (Below.refl _ _)).mono ?_
  rintro e w' ⟨u, he, hm, hb⟩
  refine ⟨u, he, ?_, hb⟩
  unfold NumAt
  have e1 : (x * y).natAbs = val ds * val ds' := by rw [Int.natAbs_mul, hv.out, hv'.out]
  have e2 : decide (x * y < 0) = ((!b == b') && decide (¬ val ds * val ds' = 0)) := by
    rw [hs.out, hs'.out, ← e1, Bool.eq_iff_iff]
    simp only [decide_eq_true_eq, Bool.and_eq_true, Bool.not_eq_eq_eq_not, Bool.not_true]
    rcases Int.lt_trichotomy x 0 with hx | hx | hx
    · rcases Int.lt_trichotomy y 0 with hy | hy | hy
      · have := Int.mul_pos_of_neg_of_neg hx hy
        simp [hx, hy]; omega
      · subst hy; simp
      · have := Int.mul_neg_of_neg_of_pos hx hy
        simp [hx]; omega
    · subst hx; simp
    · rcases Int.lt_trichotomy y 0 with hy | hy | hy
      · have := Int.mul_neg_of_pos_of_neg hx hy
        simp [hy]; omega
      · subst hy; simp
      · have := Int.mul_pos hx hy
        simp; omega
  rw [e1, e2]
  exact hm

structure Dv (w wr : World) (s1 s2 : Bool) (A1 A2 : Option Addr) (n1 c1 n2 c2 : Nat) (AQ : Option Addr) (nQ cQ : Nat) (dQ : List Nat) (AL : Option Addr) (nL cL : Nat) (dL : List Nat) : Prop where
  bel : Below w.heap.size w wr
  va : Var wr w.heap.size 67 #[.bool s1, .slice A1 n1 c1]
  vb : Var wr (w.heap.size + 1) 67 #[.bool s2, .slice A2 n2 c2]
  vr : Var wr (w.heap.size + 1 + 1) 67 #[.bool false, .slice none 0 0]
  vs : Var wr (w.heap.size + 1 + 1 + 1) 67 #[.bool false, .slice none 0 0]
  vq : Var wr (w.heap.size + 1 + 1 + 1 + 1) 67 #[.bool false, .slice AQ nQ cQ]
  vl : Var wr (w.heap.size + 1 + 1 + 1 + 1 + 1) 67 #[.bool false, .slice AL nL cL]
  rq : RawAt wr AQ nQ cQ dQ
  rl : RawAt wr AL nL cL dL
  tq : Tight dQ
  tl : Tight dL

section
variable {w wr w' : World} {s1 s2 : Bool} {A1 A2 : Option Addr} {n1 c1 n2 c2 : Nat} {AQ : Option Addr} {nQ cQ : Nat} {dQ : List Nat} {AL : Option Addr} {nL cL : Nat} {dL : List Nat} {A : Option Addr} {n c : Nat} {ds : List Nat}
theorem Dv.keep (h : Dv w wr s1 s2 A1 A2 n1 c1 n2 c2 AQ nQ cQ dQ AL nL cL dL) (hb : Below wr.heap.size wr w') : Dv w w' s1 s2 A1 A2 n1 c1 n2 c2 AQ nQ cQ dQ AL nL cL dL :=
  ⟨h.bel.trans (hb.mono h.bel.size), h.va.keep hb, h.vb.keep hb, h.vr.keep hb, h.vs.keep hb, h.vq.keep hb, h.vl.keep hb, h.rq.below hb, h.rl.below hb, h.tq, h.tl⟩
theorem Dv.setL (h : Dv w wr s1 s2 A1 A2 n1 c1 n2 c2 AQ nQ cQ dQ AL nL cL dL) (hr : RawAt wr A n c ds) (ht : Tight ds) :
    Dv w ((wr.setCell ⟨w.heap.size + 1 + 1 + 1 + 1 + 1, 0, none⟩ (.bool false)).setCell ⟨w.heap.size + 1 + 1 + 1 + 1 + 1, 1, none⟩ (.slice A n c)) s1 s2 A1 A2 n1 c1 n2 c2 AQ nQ cQ dQ A n c ds :=
  ⟨(h.bel.setCell (p := ⟨w.heap.size + 1 + 1 + 1 + 1 + 1, 0, none⟩) (by first | (simp; done) | (simp; omega)) _).setCell (p := ⟨w.heap.size + 1 + 1 + 1 + 1 + 1, 1, none⟩) (by first | (simp; done) | (simp; omega)) _,
    (h.va.far (p := ⟨w.heap.size + 1 + 1 + 1 + 1 + 1, 0, none⟩) (by first | (simp; done) | (simp; omega)) _).far (p := ⟨w.heap.size + 1 + 1 + 1 + 1 + 1, 1, none⟩) (by first | (simp; done) | (simp; omega)) _,
    (h.vb.far (p := ⟨w.heap.size + 1 + 1 + 1 + 1 + 1, 0, none⟩) (by first | (simp; done) | (simp; omega)) _).far (p := ⟨w.heap.size + 1 + 1 + 1 + 1 + 1, 1, none⟩) (by first | (simp; done) | (simp; omega)) _,
    (h.vr.far (p := ⟨w.heap.size + 1 + 1 + 1 + 1 + 1, 0, none⟩) (by first | (simp; done) | (simp; omega)) _).far (p := ⟨w.heap.size + 1 + 1 + 1 + 1 + 1, 1, none⟩) (by first | (simp; done) | (simp; omega)) _,
    (h.vs.far (p := ⟨w.heap.size + 1 + 1 + 1 + 1 + 1, 0, none⟩) (by first | (simp; done) | (simp; omega)) _).far (p := ⟨w.heap.size + 1 + 1 + 1 + 1 + 1, 1, none⟩) (by first | (simp; done) | (simp; omega)) _,
    (h.vq.far (p := ⟨w.heap.size + 1 + 1 + 1 + 1 + 1, 0, none⟩) (by simp) _).far (p := ⟨w.heap.size + 1 + 1 + 1 + 1 + 1, 1, none⟩) (by simp) _,
    (h.vl.store 0 _).store 1 _, h.rq.over h.vl _ _, hr.over h.vl _ _, h.tq, ht⟩
theorem Dv.setQ (h : Dv w wr s1 s2 A1 A2 n1 c1 n2 c2 AQ nQ cQ dQ AL nL cL dL) (hr : RawAt wr A n c ds) (ht : Tight ds) :
    Dv w ((wr.setCell ⟨w.heap.size + 1 + 1 + 1 + 1, 0, none⟩ (.bool false)).setCell ⟨w.heap.size + 1 + 1 + 1 + 1, 1, none⟩ (.slice A n c)) s1 s2 A1 A2 n1 c1 n2 c2 A n c ds AL nL cL dL :=
  ⟨(h.bel.setCell (p := ⟨w.heap.size + 1 + 1 + 1 + 1, 0, none⟩) (by first | (simp; done) | (simp; omega)) _).setCell (p := ⟨w.heap.size + 1 + 1 + 1 + 1, 1, none⟩) (by first | (simp; done) | (simp; omega)) _,
    (h.va.far (p := ⟨w.heap.size + 1 + 1 + 1 + 1, 0, none⟩) (by first | (simp; done) | (simp; omega)) _).far (p := ⟨w.heap.size + 1 + 1 + 1 + 1, 1, none⟩) (by first | (simp; done) | (simp; omega)) _,
    (h.vb.far (p := ⟨w.heap.size + 1 + 1 + 1 + 1, 0, none⟩) (by first | (simp; done) | (simp; omega)) _).far (p := ⟨w.heap.size + 1 + 1 + 1 + 1, 1, none⟩) (by first | (simp; done) | (simp; omega)) _,
    (h.vr.far (p := ⟨w.heap.size + 1 + 1 + 1 + 1, 0, none⟩) (by first | (simp; done) | (simp; omega)) _).far (p := ⟨w.heap.size + 1 + 1 + 1 + 1, 1, none⟩) (by first | (simp; done) | (simp; omega)) _,
    (h.vs.far (p := ⟨w.heap.size + 1 + 1 + 1 + 1, 0, none⟩) (by simp) _).far (p := ⟨w.heap.size + 1 + 1 + 1 + 1, 1, none⟩) (by simp) _,
    (h.vq.store 0 _).store 1 _,
    (h.vl.far (p := ⟨w.heap.size + 1 + 1 + 1 + 1, 0, none⟩) (by simp) _).far (p := ⟨w.heap.size + 1 + 1 + 1 + 1, 1, none⟩) (by simp) _,
    hr.over h.vq _ _, h.rl.over h.vq _ _, ht, h.tl⟩
theorem Dv.cells (h : Dv w wr s1 s2 A1 A2 n1 c1 n2 c2 AQ nQ cQ dQ AL nL cL dL) :
    (wr.cell? ⟨w.heap.size, 0, none⟩ = some (.bool s1) ∧ wr.cell? ⟨w.heap.size, 1, none⟩ = some (.slice A1 n1 c1)) ∧
    (wr.cell? ⟨w.heap.size + 1, 0, none⟩ = some (.bool s2) ∧ wr.cell? ⟨w.heap.size + 1, 1, none⟩ = some (.slice A2 n2 c2)) ∧
    (wr.cell? ⟨w.heap.size + 1 + 1, 0, none⟩ = some (.bool false) ∧ wr.cell? ⟨w.heap.size + 1 + 1, 1, none⟩ = some (.slice none 0 0)) ∧
    (wr.cell? ⟨w.heap.size + 1 + 1 + 1, 0, none⟩ = some (.bool false) ∧ wr.cell? ⟨w.heap.size + 1 + 1 + 1, 1, none⟩ = some (.slice none 0 0)) ∧
    (wr.cell? ⟨w.heap.size + 1 + 1 + 1 + 1, 0, none⟩ = some (.bool false) ∧ wr.cell? ⟨w.heap.size + 1 + 1 + 1 + 1, 1, none⟩ = some (.slice AQ nQ cQ)) ∧
    (wr.cell? ⟨w.heap.size + 1 + 1 + 1 + 1 + 1, 0, none⟩ = some (.bool false) ∧ wr.cell? ⟨w.heap.size + 1 + 1 + 1 + 1 + 1, 1, none⟩ = some (.slice AL nL cL)) :=
  ⟨⟨h.va.cell 0, h.va.cell 1⟩, ⟨h.vb.cell 0, h.vb.cell 1⟩, ⟨h.vr.cell 0, h.vr.cell 1⟩, ⟨h.vs.cell 0, h.vs.cell 1⟩, ⟨h.vq.cell 0, h.vq.cell 1⟩, ⟨h.vl.cell 0, h.vl.cell 1⟩⟩
theorem Dv.frees (h : Dv w wr s1 s2 A1 A2 n1 c1 n2 c2 AQ nQ cQ dQ AL nL cL dL) :
    (wr.frozen? ⟨w.heap.size + 1 + 1, 0, none⟩ = false ∧ wr.frozen? ⟨w.heap.size + 1 + 1, 1, none⟩ = false) ∧ (wr.frozen? ⟨w.heap.size + 1 + 1 + 1, 0, none⟩ = false ∧ wr.frozen? ⟨w.heap.size + 1 + 1 + 1, 1, none⟩ = false) ∧
    (wr.frozen? ⟨w.heap.size + 1 + 1 + 1 + 1, 0, none⟩ = false ∧ wr.frozen? ⟨w.heap.size + 1 + 1 + 1 + 1, 1, none⟩ = false) ∧ (wr.frozen? ⟨w.heap.size + 1 + 1 + 1 + 1 + 1, 0, none⟩ = false ∧ wr.frozen? ⟨w.heap.size + 1 + 1 + 1 + 1 + 1, 1, none⟩ = false) :=
  ⟨⟨h.vr.free 0, h.vr.free 1⟩, ⟨h.vs.free 0, h.vs.free 1⟩, ⟨h.vq.free 0, h.vq.free 1⟩, ⟨h.vl.free 0, h.vl.free 1⟩⟩
theorem Dv.sizes (h : Dv w wr s1 s2 A1 A2 n1 c1 n2 c2 AQ nQ cQ dQ AL nL cL dL) : w.heap.size < wr.heap.size ∧ w.heap.size + 1 < wr.heap.size ∧ w.heap.size + 1 + 1 < wr.heap.size ∧ w.heap.size + 1 + 1 + 1 < wr.heap.size ∧ w.heap.size + 1 + 1 + 1 + 1 < wr.heap.size ∧ w.heap.size + 1 + 1 + 1 + 1 + 1 < wr.heap.size :=
  ⟨h.va.lt, h.vb.lt, h.vr.lt, h.vs.lt, h.vq.lt, h.vl.lt⟩
end

theorem calls_gen {P : Program} {f : FuncId} {args : Array Value} {Q : Ending → World → Prop} {w : World} (h : ∀ W, W = w → Calls P f args W Q) : Calls P f args w Q := h w rfl
theorem one_small : Small 1 1 := by unfold Small; decide
theorem bit_of {d p : Nat} (_ : d < 65536) (_ : 0 < p) : (((IntKind.u64.wrap ((d : Int) / (p : Int))).tmod 2 == 1) = true ↔ d / p % 2 = 1) := by
  have h1 : (d : Int) / (p : Int) = ((d / p : Nat) : Int) := (Int.natCast_ediv d p).symm
  have h2 : d / p ≤ d := Nat.div_le_self d p
  rw [h1, IntKind.wrap_u64, beq_iff_eq, Int.tmod_eq_emod_of_nonneg (by omega)]
  omega
theorem small_two {m k : Nat} (h : m < 65536 ^ k) {b : Nat} (hb : b ≤ 1) : Small (k + 1) (2 * m + b) := by
  unfold Small; rw [Nat.pow_succ]; omega
theorem raw_len {w : World} {A : Option Addr} {n c : Nat} {ds : List Nat} (h : RawAt w A n c ds) (ht : Tight ds) {k : Nat} (hk : Small k (val ds)) : n ≤ k := num_len h ht rfl hk
theorem val_small {ds : List Nat} (h : Digs ds) {n : Nat} (hl : ds.length = n) : val ds < 65536 ^ n := by rw [← hl]; exact val_lt h

set_option maxHeartbeats 4000000 in
set_option maxRecDepth 100000 in
theorem div_ref {w0 : World} {A1 A2 : Option Addr} {n1 c1 n2 c2 : Nat} {d1 d2 : List Nat} (h1 : RawAt w0 A1 n1 c1 d1) (h2 : RawAt w0 A2 n2 c2 d2) (s1 s2 : Bool) (hn1 : n1 ≤ 40000) (hn2 : n2 ≤ 40000) (hpos : 0 < val d2) (w : World) (hw : Below w0.heap.size w0 w) :
    Calls Try.prog 99 #[.agg #[.bool s1, .slice A1 n1 c1], .agg #[.bool s2, .slice A2 n2 c2]] w fun e w' => ∃ v v', e = .returned (.tuple #[v, v']) ∧ MagAt w' v false (val d1 / val d2) ∧ MagAt w' v' false (val d1 % val d2) ∧ Below w.heap.size w w' := by
  have r1 := h1.below hw
  have r2 := h2.below hw
  have g1 := h1.digs
  have HL := Lib.hid (And.intro h1.len (And.intro h2.len (And.intro hpos (And.intro h1.digs h2.digs))))
  clear h1 h2 hw hpos
  go_enter Try.func99, Try.ntmps99
  go_wp2_with fail
  refine wp_gen (fun W hW => ?_)
  have hD : Dv w W s1 s2 A1 A2 n1 c1 n2 c2 none 0 0 [] none 0 0 [] := by
    rw [hW]
    exact ⟨by go_grown, ((((((Var.new _ _ _).alloc _).alloc _).alloc _).alloc _).alloc _), (((((Var.new' _ _ _ (by simp)).alloc _).alloc _).alloc _).alloc _), ((((Var.new' _ _ _ (by simp)).alloc _).alloc _).alloc _), (((Var.new' _ _ _ (by simp)).alloc _).alloc _), ((Var.new' _ _ _ (by simp)).alloc _), Var.new' _ _ _ (by simp),
      ⟨rfl, Nat.le_refl _, by omega, Sl.nil _ _, Digs.nil⟩, ⟨rfl, Nat.le_refl _, by omega, Sl.nil _ _, Digs.nil⟩, Tight.nil, Tight.nil⟩
  clear hW
  go_loopw [8] (fun t wr => ∃ (AQ : Option Addr) (nQ cQ : Nat) (dQ : List Nat) (AL : Option Addr) (nL cL : Nat) (dL : List Nat) (k : Nat), k ≤ n1 * 16 ∧ (t = .int .i64 ((k : Int) - 1)) ∧ Dv w wr s1 s2 A1 A2 n1 c1 n2 c2 AQ nQ cQ dQ AL nL cL dL ∧
      (val dQ * val d2 + val dL = val d1 / 2 ^ k ∧ val dL < val d2))
    (fun t _ => (intOf t + 1).toNat)
  case atStart => exact ⟨none, 0, 0, [], none, 0, 0, [], n1 * 16, Nat.le_refl _, congrArg (Value.int .i64) (by omega), hD, by have hL := HL.out; rw [← hL.1, val_lt_bits hL.2.2.2.1]; simp [val], HL.out.2.2.1⟩
  case round =>
    obtain ⟨AQ, nQ, cQ, dQ, AL, nL, cL, dL, k, hk, rfl, hd, hv⟩ := hrel
    have HV := Lib.hid hv
    clear hv hD
    rcases Nat.eq_zero_or_pos k with hk0 | hk0
    · subst hk0
      rw [show (((0 : Nat) : Int) - 1) = -1 by omega]
      obtain ⟨⟨a0, a1⟩, ⟨b0, b1⟩, ⟨p0, p1⟩, ⟨u0, u1⟩, ⟨q0, q1⟩, ⟨l0, l1⟩⟩ := hd.cells
      obtain ⟨⟨fp0, fp1⟩, ⟨fu0, fu1⟩, _⟩ := hd.frees
      obtain ⟨z0, z1, z2, z3, z4, z5⟩ := hd.sizes
      have hBr := hd.bel
      have hfin := div_done (m := val d1) (by have := HV.out.1; rw [Nat.pow_zero, Nat.div_one] at this; exact this) HV.out.2
      have HF := Lib.hid hfin
      clear hfin
      go_wp2_with fail
      have hdd : Dv w wr.drew s1 s2 A1 A2 n1 c1 n2 c2 AQ nQ cQ dQ AL nL cL dL := hd.keep ((Below.refl _ _).drew)
      obtain ⟨⟨a0', a1'⟩, ⟨b0', b1'⟩, ⟨p0', p1'⟩, ⟨u0', u1'⟩, ⟨q0', q1'⟩, ⟨l0', l1'⟩⟩ := hdd.cells
      obtain ⟨⟨fp0', fp1'⟩, ⟨fu0', fu1'⟩, _⟩ := hdd.frees
      obtain ⟨z0', z1', z2', z3', z4', z5'⟩ := hdd.sizes
      go_region
      all_goals go_wp2_with fail
      refine bodyPost_ret (by simp [results, Try.results99, go_sem, *]; try rfl) rfl ?_
      have vs2 := (hdd.vs.far (p := ⟨w.heap.size + 1 + 1, 0, none⟩) (by simp) (.bool false)).far (p := ⟨w.heap.size + 1 + 1, 1, none⟩) (by simp) (.slice AQ nQ cQ)
      exact ⟨_, _, rfl, ⟨AQ, nQ, cQ, dQ, rfl, (hdd.rq.over hdd.vr _ _).over vs2 _ _, hd.tq, HF.out.1⟩, ⟨AL, nL, cL, dL, rfl, (hdd.rl.over hdd.vr _ _).over vs2 _ _, hd.tl, HF.out.2⟩, by go_grown⟩
    · obtain ⟨k, rfl⟩ : ∃ j, k = j + 1 := ⟨k - 1, by omega⟩
      rw [show (((k + 1 : Nat) : Int) - 1) = (k : Int) by omega]
      have lq : nQ ≤ n1 := by
        refine raw_len hd.rq hd.tq ?_
        have h1 := val_small HL.out.2.2.2.1 HL.out.1
        have h2 := HV.out.1
        have h3 := Nat.div_le_self (val d1) (2 ^ (k + 1))
        have h4 := Nat.le_mul_of_pos_right (val dQ) HL.out.2.2.1
        unfold Small
        omega
      have hqs : val dQ < 65536 ^ n1 := by
        have h1 := val_small HL.out.2.2.2.1 HL.out.1
        have h2 := HV.out.1
        have h3 := Nat.div_le_self (val d1) (2 ^ (k + 1))
        have h4 := Nat.le_mul_of_pos_right (val dQ) HL.out.2.2.1
        omega
      have HQS := Lib.hid hqs
      clear hqs
      have ll : nL ≤ n2 := by
        refine raw_len hd.rl hd.tl ?_
        have h1 := val_small HL.out.2.2.2.2 HL.out.2.1
        have h2 := HV.out.2
        unfold Small
        omega
      obtain ⟨⟨a0, a1⟩, ⟨b0, b1⟩, ⟨p0, p1⟩, ⟨u0, u1⟩, ⟨q0, q1⟩, ⟨l0, l1⟩⟩ := hd.cells
      obtain ⟨_, _, ⟨fq0, fq1⟩, ⟨fl0, fl1⟩⟩ := hd.frees
      obtain ⟨z0, z1, z2, z3, z4, z5⟩ := hd.sizes
      have hBr := hd.bel
      go_wp2_with fail
      refine (size_any hd.rl hd.rl false false (by omega) (by omega) _ (Below.refl _ _)).mono ?_
      rintro e w1 ⟨v, rfl, ⟨Aa, na, ca, da, rfl, ra, ta, ha⟩, hb_w1⟩
      obtain ⟨hc_w1, hf_w1⟩ := bcell hb_w1
      have hz_w1 := hb_w1.size
      try simp at hz_w1
      have hB_w1 : Below w.heap.size w w1 := Below.trans (by go_grown) (hb_w1.mono (by go_size))
      have hs_w1_0 : w.heap.size < w1.heap.size := by omega
      have hs_w1_1 : w.heap.size + 1 < w1.heap.size := by omega
      have hs_w1_2 : w.heap.size + 1 + 1 + 1 + 1 < w1.heap.size := by omega
      have hs_w1_3 : w.heap.size + 1 + 1 + 1 + 1 + 1 < w1.heap.size := by omega
      have ha_v := Lib.hid ha
      clear ha
      have la : na ≤ n2 + 1 := raw_len ra ta (by rw [ha_v.out, show val dL + val dL = 2 * val dL + 0 by omega]; exact small_two (Nat.lt_trans HV.out.2 (val_small HL.out.2.2.2.2 HL.out.2.1)) (by omega))
      have hd1 := (hd.keep hb_w1).setL ra ta
      go_wp2_with fail
      refine (size_any hd1.rq hd1.rq false false (by omega) (by omega) _ (Below.refl _ _)).mono ?_
      rintro e w2 ⟨v, rfl, ⟨Ab, nb, cb, db, rfl, rb, tb, hb⟩, hb_w2⟩
      obtain ⟨hc_w2, hf_w2⟩ := bcell hb_w2
      have hz_w2 := hb_w2.size
      try simp at hz_w2
      have hB_w2 : Below w.heap.size w w2 := Below.trans (by go_grown) (hb_w2.mono (by go_size))
      have hs_w2_0 : w.heap.size < w2.heap.size := by omega
      have hs_w2_1 : w.heap.size + 1 < w2.heap.size := by omega
      have hs_w2_2 : w.heap.size + 1 + 1 + 1 + 1 < w2.heap.size := by omega
      have hs_w2_3 : w.heap.size + 1 + 1 + 1 + 1 + 1 < w2.heap.size := by omega
      have hb_v := Lib.hid hb
      clear hb
      have lb : nb ≤ n1 + 1 := raw_len rb tb (by rw [hb_v.out, show val dQ + val dQ = 2 * val dQ + 0 by omega]; exact small_two HQS.out (by omega))
      have hd2 := (hd1.keep hb_w2).setQ rb tb
      go_wp2_with fail
      refine wp_gen (fun W1 hW1 => ?_)
      rw [← hW1] at hd2
      clear hW1 a0 a1 b0 b1 p0 p1 u0 u1 q0 q1 l0 l1 fq0 fq1 fl0 fl1 z0 z1 z2 z3 z4 z5 hBr hB_w1 hB_w2 hc_w1 hc_w2 hf_w1 hf_w2 hz_w1 hz_w2
      have hlen : k / 16 < n1 := by omega
      obtain ⟨b, o, rfl, hbb, hcell⟩ := (r1.below hd2.bel).at_ hlen
      obtain ⟨⟨a0, a1⟩, ⟨b0, b1⟩, ⟨p0, p1⟩, ⟨u0, u1⟩, ⟨q0, q1⟩, ⟨l0, l1⟩⟩ := hd2.cells
      obtain ⟨_, _, ⟨fq0, fq1⟩, ⟨fl0, fl1⟩⟩ := hd2.frees
      obtain ⟨z0, z1, z2, z3, z4, z5⟩ := hd2.sizes
      have hBr := hd2.bel
      have pw := fun W => smallpow_ref (k % 16) (by omega) W
      rw [show ((k % 16 : Nat) : Int) = (k : Int) % 16 by omega] at pw
      obtain ⟨pp, hpp⟩ : ∃ z, 2 ^ (k % 16) = z := ⟨_, rfl⟩
      rw [hpp] at pw
      have hp0 : 0 < pp := by rw [← hpp]; exact Nat.pow_pos (by omega)
      have hp1 : ¬ ((pp : Nat) : Int) = 0 := by omega
      have POW := Lib.hid pw
      have HPP := Lib.hid hpp
      clear pw hpp
      have hdg := (HL.out.2.2.2.1).getD (k / 16)
      have hq_W1 := @wd_cell W1
      refine wp_region_wd (by kernel_rfl) (by kernel_rfl) ?_
      repeat (go_big_quiet_step ((first | (go_at_call 110; with_reducible exact quiet_wd_same (POW.out _)))))
      refine wpQuiet_nil ?_
      rintro w3 ⟨⟨wx, hb_w3⟩, hwx⟩
      obtain rfl : w3 = wx := hwx
      clear hq_W1
      have hz_w3 := hb_w3.size
      obtain ⟨hc_w3, hf_w3⟩ := bcell hb_w3
      have hB_w3 : Below w.heap.size w w3 := Below.trans (by go_grown) (hb_w3.mono (by go_size))
      have hs_w3_0 : w.heap.size < w3.heap.size := Nat.lt_of_lt_of_le (by assumption) hb_w3.size
      have hs_w3_1 : w.heap.size + 1 < w3.heap.size := Nat.lt_of_lt_of_le (by assumption) hb_w3.size
      have hs_w3_2 : w.heap.size + 1 + 1 + 1 + 1 < w3.heap.size := Nat.lt_of_lt_of_le (by assumption) hb_w3.size
      have hs_w3_3 : w.heap.size + 1 + 1 + 1 + 1 + 1 < w3.heap.size := Nat.lt_of_lt_of_le (by assumption) hb_w3.size
      have hd3 := hd2.keep hb_w3
      have bit1 := bit_of hdg hp0
      have bit2 := val_bit HL.out.2.2.2.1 k
      rw [HPP.out] at bit2
      rw [List.getD_eq_getElem?_getD] at bit1 bit2
      have HBB := Lib.hid (And.intro bit1 bit2)
      clear bit1 bit2
      have HU1 := Lib.hid (fun W => unsigned_ref 1 (by omega) W)
      go_wp2_with fail
      · have hbt := HBB.out.1.1 (by assumption)
        have HBIT := Lib.hid (show 1 = val d1 / 2 ^ k % 2 by rw [← HBB.out.2, hbt])
        clear hbt
        obtain ⟨⟨a0', a1'⟩, ⟨b0', b1'⟩, ⟨p0', p1'⟩, ⟨u0', u1'⟩, ⟨q0', q1'⟩, ⟨l0', l1'⟩⟩ := hd3.cells
        obtain ⟨_, _, ⟨fq0', fq1'⟩, ⟨fl0', fl1'⟩⟩ := hd3.frees
        obtain ⟨z0', z1', z2', z3', z4', z5'⟩ := hd3.sizes
        clear a0 a1 b0 b1 p0 p1 u0 u1 q0 q1 l0 l1 fq0 fq1 fl0 fl1 z0 z1 z2 z3 z4 z5 hBr hc_w3 hf_w3 hcell
        have hBr := hd3.bel
        go_region_with (first | (go_at_call 95; refine (HU1.out _).mono ?_; rintro e wk ⟨v, rfl, ⟨Ag, ng, cg, dg, rfl, rg, tg, hg⟩, hb_wk⟩; (first | replace hb_wk := undrew hb_wk | skip); obtain ⟨hc_wk, hf_wk⟩ := bcell hb_wk; have hz_wk := hb_wk.size; (try simp at hz_wk); have hB_wk : Below w.heap.size w wk := Below.trans (by go_grown) (hb_wk.mono (by go_size)); have hs_wk_0 : w.heap.size < wk.heap.size := (by omega); have hs_wk_1 : w.heap.size + 1 < wk.heap.size := (by omega); have hs_wk_2 : w.heap.size + 1 + 1 + 1 + 1 < wk.heap.size := (by omega); have hs_wk_3 : w.heap.size + 1 + 1 + 1 + 1 + 1 < wk.heap.size := (by omega); have HG := Lib.hid hg; clear hg; have hd7 := hd3.keep hb_wk; have le : ng ≤ 1 := raw_len rg tg (by rw [HG.out]; exact one_small)) | (go_at_call 75; refine (size_any hd7.rl rg false false (by omega) (by omega) _ (Below.refl _ _)).mono ?_; rintro e wk ⟨v, rfl, ⟨Ah, nh, ch, dh, rfl, rh, th, hh⟩, hb_wk⟩; (first | replace hb_wk := undrew hb_wk | skip); obtain ⟨hc_wk, hf_wk⟩ := bcell hb_wk; have hz_wk := hb_wk.size; (try simp at hz_wk); have hB_wk : Below w.heap.size w wk := Below.trans (by go_grown) (hb_wk.mono (by go_size)); have hs_wk_0 : w.heap.size < wk.heap.size := (by omega); have hs_wk_1 : w.heap.size + 1 < wk.heap.size := (by omega); have hs_wk_2 : w.heap.size + 1 + 1 + 1 + 1 < wk.heap.size := (by omega); have hs_wk_3 : w.heap.size + 1 + 1 + 1 + 1 + 1 < wk.heap.size := (by omega); have HH := Lib.hid hh; clear hh; have hd8 := hd7.keep hb_wk))
        all_goals
          have hd9 := hd8.setL rh th
          have HL1 := Lib.hid (show val dh = 2 * val dL + 1 by rw [HH.out, HG.out, ha_v.out]; omega)
          have lh : nh ≤ n2 + 1 := raw_len rh th (by rw [HL1.out]; exact small_two (Nat.lt_trans HV.out.2 (val_small HL.out.2.2.2.2 HL.out.2.1)) (Nat.le_refl _))
          go_wp2_with fail
          clear a0' a1' b0' b1' p0' p1' u0' u1' q0' q1' l0' l1' fq0' fq1' fl0' fl1' z0' z1' z2' z3' z4' z5' hBr
          refine calls_gen (fun W4 hW4 => ?_)
          rw [← hW4] at hd9
          clear hW4
          obtain ⟨⟨a0, a1⟩, ⟨b0, b1⟩, ⟨p0, p1⟩, ⟨u0, u1⟩, ⟨q0, q1⟩, ⟨l0, l1⟩⟩ := hd9.cells
          obtain ⟨_, _, ⟨fq0, fq1⟩, ⟨fl0, fl1⟩⟩ := hd9.frees
          obtain ⟨z0, z1, z2, z3, z4, z5⟩ := hd9.sizes
          have hBr := hd9.bel
          have hcs := cmpSize_any hd9.rl (r2.below hBr) false s2 (by omega) (by omega) _ (Below.refl _ _)
          have hcw := cmp_ways (val dh) (val d2)
          obtain ⟨cc, hcc⟩ : ∃ z, cmpI (val dh) (val d2) = z := ⟨_, rfl⟩
          rw [hcc] at hcs hcw
          have HC := Lib.hid hcw
          clear hcw hcc
          rcases Int.lt_or_le cc 0 with hneg | hge
          · have hlt : val dh < val d2 := by have := HC.out; omega
            have HLT := Lib.hid hlt
            clear hlt
            refine (hcs).mono ?_
            rintro e w5 ⟨rfl, hb_w5⟩
            obtain ⟨hc_w5, hf_w5⟩ := bcell hb_w5
            have hz_w5 := hb_w5.size
            try simp at hz_w5
            have hB_w5 : Below w.heap.size w w5 := Below.trans (by go_grown) (hb_w5.mono (by go_size))
            have hs_w5_0 : w.heap.size < w5.heap.size := by omega
            have hs_w5_1 : w.heap.size + 1 < w5.heap.size := by omega
            have hs_w5_2 : w.heap.size + 1 + 1 + 1 + 1 < w5.heap.size := by omega
            have hs_w5_3 : w.heap.size + 1 + 1 + 1 + 1 + 1 < w5.heap.size := by omega
            have hd5 := hd9.keep hb_w5
            go_wp2_with fail
            go_roundw
            case measure => (first | (simp [intOf]; done) | (simp [intOf]; omega))
            case rel =>
              refine ⟨Ab, nb, cb, db, Ah, nh, ch, dh, k, by omega, congrArg (Value.int .i64) (by omega), hd5, ?_, HLT.out⟩
              have hv := HV.out
              have hb0 := HBIT.out
              rw [hb_v.out, HL1.out]
              have hst := div_step hv.1 hb0
              rw [show val dQ + val dQ = 2 * val dQ by omega]
              omega
          · have hle : val d2 ≤ val dh := by have := HC.out; omega
            have HLE := Lib.hid hle
            clear hle
            refine (hcs).mono ?_
            rintro e w5 ⟨rfl, hb_w5⟩
            obtain ⟨hc_w5, hf_w5⟩ := bcell hb_w5
            have hz_w5 := hb_w5.size
            try simp at hz_w5
            have hB_w5 : Below w.heap.size w w5 := Below.trans (by go_grown) (hb_w5.mono (by go_size))
            have hs_w5_0 : w.heap.size < w5.heap.size := by omega
            have hs_w5_1 : w.heap.size + 1 < w5.heap.size := by omega
            have hs_w5_2 : w.heap.size + 1 + 1 + 1 + 1 < w5.heap.size := by omega
            have hs_w5_3 : w.heap.size + 1 + 1 + 1 + 1 + 1 < w5.heap.size := by omega
            have hd5 := hd9.keep hb_w5
            go_wp2_with fail
            refine (less_any hd5.rl (r2.below hd5.bel) false s2 (by omega) HLE.out _ (Below.refl _ _)).mono ?_
            rintro e w6 ⟨v, rfl, ⟨Ac, nc, cc2, dc, rfl, rc, tc, hc⟩, hb_w6⟩
            obtain ⟨hc_w6, hf_w6⟩ := bcell hb_w6
            have hz_w6 := hb_w6.size
            try simp at hz_w6
            have hB_w6 : Below w.heap.size w w6 := Below.trans (by go_grown) (hb_w6.mono (by go_size))
            have hs_w6_0 : w.heap.size < w6.heap.size := by omega
            have hs_w6_1 : w.heap.size + 1 < w6.heap.size := by omega
            have hs_w6_2 : w.heap.size + 1 + 1 + 1 + 1 < w6.heap.size := by omega
            have hs_w6_3 : w.heap.size + 1 + 1 + 1 + 1 + 1 < w6.heap.size := by omega
            have HCV := Lib.hid hc
            clear hc
            have hd6 := (hd5.keep hb_w6).setL rc tc
            go_wp2_with fail
            refine wp_gen (fun W7 hW7 => ?_)
            rw [← hW7] at hd6
            clear hW7 a0 a1 b0 b1 p0 p1 u0 u1 q0 q1 l0 l1 fq0 fq1 fl0 fl1 z0 z1 z2 z3 z4 z5 hBr hB_w5 hB_w6 hc_w5 hc_w6 hf_w5 hf_w6 hz_w5 hz_w6
            obtain ⟨⟨a0, a1⟩, ⟨b0, b1⟩, ⟨p0, p1⟩, ⟨u0, u1⟩, ⟨q0, q1⟩, ⟨l0, l1⟩⟩ := hd6.cells
            obtain ⟨_, _, ⟨fq0, fq1⟩, ⟨fl0, fl1⟩⟩ := hd6.frees
            obtain ⟨z0, z1, z2, z3, z4, z5⟩ := hd6.sizes
            have hBr := hd6.bel
            go_region_with (first | (go_at_call 95; refine (HU1.out _).mono ?_; rintro e wk ⟨v, rfl, ⟨Ae, ne, ce, de, rfl, re, te, he⟩, hb_wk⟩; (first | replace hb_wk := undrew hb_wk | skip); obtain ⟨hc_wk, hf_wk⟩ := bcell hb_wk; have hz_wk := hb_wk.size; (try simp at hz_wk); have hB_wk : Below w.heap.size w wk := Below.trans (by go_grown) (hb_wk.mono (by go_size)); have hs_wk_0 : w.heap.size < wk.heap.size := (by omega); have hs_wk_1 : w.heap.size + 1 < wk.heap.size := (by omega); have hs_wk_2 : w.heap.size + 1 + 1 + 1 + 1 < wk.heap.size := (by omega); have hs_wk_3 : w.heap.size + 1 + 1 + 1 + 1 + 1 < wk.heap.size := (by omega); have HE := Lib.hid he; clear he; have hd7 := hd6.keep hb_wk; have le : ne ≤ 1 := raw_len re te (by rw [HE.out]; exact one_small)) | (go_at_call 75; refine (size_any hd7.rq re false false (by omega) (by omega) _ (Below.refl _ _)).mono ?_; rintro e wk ⟨v, rfl, ⟨Af, nf, cf, df, rfl, rf, tf, hf⟩, hb_wk⟩; (first | replace hb_wk := undrew hb_wk | skip); obtain ⟨hc_wk, hf_wk⟩ := bcell hb_wk; have hz_wk := hb_wk.size; (try simp at hz_wk); have hB_wk : Below w.heap.size w wk := Below.trans (by go_grown) (hb_wk.mono (by go_size)); have hs_wk_0 : w.heap.size < wk.heap.size := (by omega); have hs_wk_1 : w.heap.size + 1 < wk.heap.size := (by omega); have hs_wk_2 : w.heap.size + 1 + 1 + 1 + 1 < wk.heap.size := (by omega); have hs_wk_3 : w.heap.size + 1 + 1 + 1 + 1 + 1 < wk.heap.size := (by omega); have HF := Lib.hid hf; clear hf; have hd8 := hd7.keep hb_wk))
            all_goals
              have hd9 := hd8.setQ rf tf
              go_wp2_with fail
              go_roundw
              case measure => (first | (simp [intOf]; done) | (simp [intOf]; omega))
              case rel =>
                refine ⟨Af, nf, cf, df, Ac, nc, cc2, dc, k, by omega, congrArg (Value.int .i64) (by omega), hd9, ?_⟩
                have hv := HV.out
                have hb0 := HBIT.out
                have hle := HLE.out
                rw [HF.out, HE.out, HCV.out, hb_v.out]
                have hst := div_step hv.1 hb0
                rw [HL1.out] at hle ⊢
                rw [show val dQ + val dQ + 1 = 2 * val dQ + 1 by omega, Nat.add_mul]
                refine ⟨by omega, by omega⟩
      · have hbt : ¬ _ := fun e => Bool.noConfusion ((HBB.out.1.2 e).symm.trans (by assumption))
        have HBIT := Lib.hid (show 0 = val d1 / 2 ^ k % 2 by rw [← HBB.out.2]; omega)
        clear hbt
        have HL1 := Lib.hid (show val da = 2 * val dL + 0 by rw [ha_v.out]; omega)
        clear a0 a1 b0 b1 p0 p1 u0 u1 q0 q1 l0 l1 fq0 fq1 fl0 fl1 z0 z1 z2 z3 z4 z5 hBr hc_w3 hf_w3 hcell
        refine calls_gen (fun W4 hW4 => ?_)
        rw [← hW4] at hd3
        clear hW4
        obtain ⟨⟨a0, a1⟩, ⟨b0, b1⟩, ⟨p0, p1⟩, ⟨u0, u1⟩, ⟨q0, q1⟩, ⟨l0, l1⟩⟩ := hd3.cells
        obtain ⟨_, _, ⟨fq0, fq1⟩, ⟨fl0, fl1⟩⟩ := hd3.frees
        obtain ⟨z0, z1, z2, z3, z4, z5⟩ := hd3.sizes
        have hBr := hd3.bel
        have hcs := cmpSize_any hd3.rl (r2.below hBr) false s2 (by omega) (by omega) _ (Below.refl _ _)
        have hcw := cmp_ways (val da) (val d2)
        obtain ⟨cc, hcc⟩ : ∃ z, cmpI (val da) (val d2) = z := ⟨_, rfl⟩
        rw [hcc] at hcs hcw
        have HC := Lib.hid hcw
        clear hcw hcc
        rcases Int.lt_or_le cc 0 with hneg | hge
        · have hlt : val da < val d2 := by have := HC.out; omega
          have HLT := Lib.hid hlt
          clear hlt
          refine (hcs).mono ?_
          rintro e w5 ⟨rfl, hb_w5⟩
          obtain ⟨hc_w5, hf_w5⟩ := bcell hb_w5
          have hz_w5 := hb_w5.size
          try simp at hz_w5
          have hB_w5 : Below w.heap.size w w5 := Below.trans (by go_grown) (hb_w5.mono (by go_size))
          have hs_w5_0 : w.heap.size < w5.heap.size := by omega
          have hs_w5_1 : w.heap.size + 1 < w5.heap.size := by omega
          have hs_w5_2 : w.heap.size + 1 + 1 + 1 + 1 < w5.heap.size := by omega
          have hs_w5_3 : w.heap.size + 1 + 1 + 1 + 1 + 1 < w5.heap.size := by omega
          have hd5 := hd3.keep hb_w5
          go_wp2_with fail
          go_roundw
          case measure => (first | (simp [intOf]; done) | (simp [intOf]; omega))
          case rel =>
            refine ⟨Ab, nb, cb, db, Aa, na, ca, da, k, by omega, congrArg (Value.int .i64) (by omega), hd5, ?_, HLT.out⟩
            have hv := HV.out
            have hb0 := HBIT.out
            rw [hb_v.out, HL1.out]
            have hst := div_step hv.1 hb0
            rw [show val dQ + val dQ = 2 * val dQ by omega]
            omega
        · have hle : val d2 ≤ val da := by have := HC.out; omega
          have HLE := Lib.hid hle
          clear hle
          refine (hcs).mono ?_
          rintro e w5 ⟨rfl, hb_w5⟩
          obtain ⟨hc_w5, hf_w5⟩ := bcell hb_w5
          have hz_w5 := hb_w5.size
          try simp at hz_w5
          have hB_w5 : Below w.heap.size w w5 := Below.trans (by go_grown) (hb_w5.mono (by go_size))
          have hs_w5_0 : w.heap.size < w5.heap.size := by omega
          have hs_w5_1 : w.heap.size + 1 < w5.heap.size := by omega
          have hs_w5_2 : w.heap.size + 1 + 1 + 1 + 1 < w5.heap.size := by omega
          have hs_w5_3 : w.heap.size + 1 + 1 + 1 + 1 + 1 < w5.heap.size := by omega
          have hd5 := hd3.keep hb_w5
          go_wp2_with fail
          refine (less_any hd5.rl (r2.below hd5.bel) false s2 (by omega) HLE.out _ (Below.refl _ _)).mono ?_
          rintro e w6 ⟨v, rfl, ⟨Ac, nc, cc2, dc, rfl, rc, tc, hc⟩, hb_w6⟩
          obtain ⟨hc_w6, hf_w6⟩ := bcell hb_w6
          have hz_w6 := hb_w6.size
          try simp at hz_w6
          have hB_w6 : Below w.heap.size w w6 := Below.trans (by go_grown) (hb_w6.mono (by go_size))
          have hs_w6_0 : w.heap.size < w6.heap.size := by omega
          have hs_w6_1 : w.heap.size + 1 < w6.heap.size := by omega
          have hs_w6_2 : w.heap.size + 1 + 1 + 1 + 1 < w6.heap.size := by omega
          have hs_w6_3 : w.heap.size + 1 + 1 + 1 + 1 + 1 < w6.heap.size := by omega
          have HCV := Lib.hid hc
          clear hc
          have hd6 := (hd5.keep hb_w6).setL rc tc
          go_wp2_with fail
          refine wp_gen (fun W7 hW7 => ?_)
          rw [← hW7] at hd6
          clear hW7 a0 a1 b0 b1 p0 p1 u0 u1 q0 q1 l0 l1 fq0 fq1 fl0 fl1 z0 z1 z2 z3 z4 z5 hBr hB_w5 hB_w6 hc_w5 hc_w6 hf_w5 hf_w6 hz_w5 hz_w6
          obtain ⟨⟨a0, a1⟩, ⟨b0, b1⟩, ⟨p0, p1⟩, ⟨u0, u1⟩, ⟨q0, q1⟩, ⟨l0, l1⟩⟩ := hd6.cells
          obtain ⟨_, _, ⟨fq0, fq1⟩, ⟨fl0, fl1⟩⟩ := hd6.frees
          obtain ⟨z0, z1, z2, z3, z4, z5⟩ := hd6.sizes
          have hBr := hd6.bel
          go_region_with (first | (go_at_call 95; refine (HU1.out _).mono ?_; rintro e wk ⟨v, rfl, ⟨Ae, ne, ce, de, rfl, re, te, he⟩, hb_wk⟩; (first | replace hb_wk := undrew hb_wk | skip); obtain ⟨hc_wk, hf_wk⟩ := bcell hb_wk; have hz_wk := hb_wk.size; (try simp at hz_wk); have hB_wk : Below w.heap.size w wk := Below.trans (by go_grown) (hb_wk.mono (by go_size)); have hs_wk_0 : w.heap.size < wk.heap.size := (by omega); have hs_wk_1 : w.heap.size + 1 < wk.heap.size := (by omega); have hs_wk_2 : w.heap.size + 1 + 1 + 1 + 1 < wk.heap.size := (by omega); have hs_wk_3 : w.heap.size + 1 + 1 + 1 + 1 + 1 < wk.heap.size := (by omega); have HE := Lib.hid he; clear he; have hd7 := hd6.keep hb_wk; have le : ne ≤ 1 := raw_len re te (by rw [HE.out]; exact one_small)) | (go_at_call 75; refine (size_any hd7.rq re false false (by omega) (by omega) _ (Below.refl _ _)).mono ?_; rintro e wk ⟨v, rfl, ⟨Af, nf, cf, df, rfl, rf, tf, hf⟩, hb_wk⟩; (first | replace hb_wk := undrew hb_wk | skip); obtain ⟨hc_wk, hf_wk⟩ := bcell hb_wk; have hz_wk := hb_wk.size; (try simp at hz_wk); have hB_wk : Below w.heap.size w wk := Below.trans (by go_grown) (hb_wk.mono (by go_size)); have hs_wk_0 : w.heap.size < wk.heap.size := (by omega); have hs_wk_1 : w.heap.size + 1 < wk.heap.size := (by omega); have hs_wk_2 : w.heap.size + 1 + 1 + 1 + 1 < wk.heap.size := (by omega); have hs_wk_3 : w.heap.size + 1 + 1 + 1 + 1 + 1 < wk.heap.size := (by omega); have HF := Lib.hid hf; clear hf; have hd8 := hd7.keep hb_wk))
          all_goals
            have hd9 := hd8.setQ rf tf
            go_wp2_with fail
            go_roundw
            case measure => (first | (simp [intOf]; done) | (simp [intOf]; omega))
            case rel =>
              refine ⟨Af, nf, cf, df, Ac, nc, cc2, dc, k, by omega, congrArg (Value.int .i64) (by omega), hd9, ?_⟩
              have hv := HV.out
              have hb0 := HBIT.out
              have hle := HLE.out
              rw [HF.out, HE.out, HCV.out, hb_v.out]
              have hst := div_step hv.1 hb0
              rw [HL1.out] at hle ⊢
              rw [show val dQ + val dQ + 1 = 2 * val dQ + 1 by omega, Nat.add_mul]
              refine ⟨by omega, by omega⟩

def puts (a : Act) : List (Nat × Value) → Act
  | [] => a
  | p :: t => puts (a.put (some p.1) p.2) t
theorem wp_cut {P : Program} {c : Code} {Q : Exit → Act → World → Prop} {a : Act} {w : World} (sl : List Nat) (F : List Value → World → Prop)
    (h1 : c.wp P (fun e a' w' => e = .normal ∧ ∃ vs, a' = puts a (sl.zip vs) ∧ F vs w') a w) (h2 : ∀ vs w', F vs w' → Q .normal (puts a (sl.zip vs)) w') : c.wp P Q a w :=
  Code.wp_mono (fun e a' w' ⟨he, vs, ha, hF⟩ => by subst he; subst ha; exact h2 vs w' hF) h1
theorem wp_cutR {P : Program} {c : Code} {Q : Exit → Act → World → Prop} {a : Act} {w : World} (R : Act → World → Prop) (h1 : c.wp P (fun e a' w' => e = .normal ∧ R a' w') a w) (h2 : ∀ a' w', R a' w' → Q .normal a' w') : c.wp P Q a w :=
  Code.wp_mono (fun e a' w' ⟨he, hR⟩ => by subst he; exact h2 a' w' hR) h1
theorem held_alloc {W0 W : World} (o : Obj) (h : Below W0.heap.size W0 W ∧ (∀ b o, b < W0.heap.size → W.cell? ⟨b, o, none⟩ = W0.cell? ⟨b, o, none⟩)) :
    Below W0.heap.size W0 (W.alloc o) ∧ (∀ b o', b < W0.heap.size → (W.alloc o).cell? ⟨b, o', none⟩ = W0.cell? ⟨b, o', none⟩) :=
  have hB := h.1.alloc h.1.size o
  ⟨hB, (bcell hB).1⟩
theorem held_set {W0 W : World} {g o : Nat} (u : Value) (hg : W0.heap.size ≤ g) (h : Below W0.heap.size W0 W ∧ (∀ b o, b < W0.heap.size → W.cell? ⟨b, o, none⟩ = W0.cell? ⟨b, o, none⟩)) :
    Below W0.heap.size W0 (W.setCell ⟨g, o, none⟩ u) ∧ (∀ b o', b < W0.heap.size → (W.setCell ⟨g, o, none⟩ u).cell? ⟨b, o', none⟩ = W0.cell? ⟨b, o', none⟩) :=
  have hB := h.1.setCell (p := ⟨g, o, none⟩) hg u
  ⟨hB, (bcell hB).1⟩
theorem held_drew {W0 W : World} (h : Below W0.heap.size W0 W ∧ (∀ b o, b < W0.heap.size → W.cell? ⟨b, o, none⟩ = W0.cell? ⟨b, o, none⟩)) :
    Below W0.heap.size W0 W.drew ∧ (∀ b o', b < W0.heap.size → W.drew.cell? ⟨b, o', none⟩ = W0.cell? ⟨b, o', none⟩) := ⟨h.1.drew, h.2⟩
theorem held_refl (W0 : World) : Below W0.heap.size W0 W0 ∧ (∀ b o, b < W0.heap.size → W0.cell? ⟨b, o, none⟩ = W0.cell? ⟨b, o, none⟩) := ⟨Below.refl _ _, fun _ _ _ => rfl⟩
theorem var_two {w : World} {g : Nat} {t : TypeId} {a b : Value} (h : Var w g t #[a, b]) (u v : Value) : Var ((w.setCell ⟨g, 0, none⟩ u).setCell ⟨g, 1, none⟩ v) g t #[u, v] := (h.store 0 u).store 1 v
theorem var_far2 {w : World} {g g' : Nat} {t : TypeId} {cs : Array Value} (h : Var w g t cs) (hg : g ≠ g') (u v : Value) : Var ((w.setCell ⟨g', 0, none⟩ u).setCell ⟨g', 1, none⟩ v) g t cs := (h.far (p := ⟨g', 0, none⟩) hg u).far (p := ⟨g', 1, none⟩) hg v
theorem raw_far2 {w : World} {A : Option Addr} {n c : Nat} {ds : List Nat} {R : Nat} {cs : Array Value} (h : RawAt w A n c ds) (hV : Var w R 67 cs) (x y : Value) : RawAt ((w.setCell ⟨R, 0, none⟩ x).setCell ⟨R, 1, none⟩ y) A n c ds := h.over hV x y

theorem var_twoN {w : World} {g : Nat} {u v : Value} (h : Var w g 67 #[.bool false, .slice none 0 0]) : Var ((w.setCell ⟨g, 0, none⟩ u).setCell ⟨g, 1, none⟩ v) g 67 #[u, v] := var_two h u v
theorem var_farN {w : World} {g g' : Nat} {t : TypeId} {cs : Array Value} {u v : Value} (hg : g ≠ g') (h : Var w g t cs) : Var ((w.setCell ⟨g', 0, none⟩ u).setCell ⟨g', 1, none⟩ v) g t cs := var_far2 h hg u v
theorem raw_farN {w : World} {A : Option Addr} {n c : Nat} {ds : List Nat} {R : Nat} {x y : Value} (hV : Var w R 67 #[.bool false, .slice none 0 0]) (h : RawAt w A n c ds) : RawAt ((w.setCell ⟨R, 0, none⟩ x).setCell ⟨R, 1, none⟩ y) A n c ds := h.over hV x y
theorem small_mod (m : Nat) : Small 9 (m % ((2 : Int) ^ 128).natAbs) := by
  unfold Small
  have h1 : ((2 : Int) ^ 128).natAbs < 65536 ^ 9 := by decide +kernel
  have h2 : 0 < ((2 : Int) ^ 128).natAbs := by decide +kernel
  exact Nat.lt_trans (Nat.mod_lt _ h2) h1
theorem div_bd {m : Nat} (h : m < ((2 : Int) ^ 128).natAbs) : m / ((2 : Int) ^ 64).natAbs ≤ 18446744073709551615 ∧ m % ((2 : Int) ^ 64).natAbs ≤ 18446744073709551615 := by
  rw [show ((2 : Int) ^ 128).natAbs = 340282366920938463463374607431768211456 by decide +kernel] at h
  rw [show ((2 : Int) ^ 64).natAbs = 18446744073709551616 by decide +kernel]
  omega
theorem raw_alloc {w : World} {A : Option Addr} {n c : Nat} {ds : List Nat} (h : RawAt w A n c ds) (o : Obj) : RawAt (w.alloc o) A n c ds := h.below ((Below.refl _ _).alloc (Nat.le_refl _) o)
theorem raw_drew {w : World} {A : Option Addr} {n c : Nat} {ds : List Nat} (h : RawAt w A n c ds) : RawAt w.drew A n c ds := h.below ((Below.refl _ _).drew)
theorem open_div {P : Program} {f : FuncId} {args : Array Value} {w : World} {m m' : Nat} (h : Calls P f args w fun e w' => ∃ v v', e = .returned (.tuple #[v, v']) ∧ MagAt w' v false m ∧ MagAt w' v' false m' ∧ Below w.heap.size w w') :
    Calls P f args w fun e w' => ∃ A n c ds A' n' c' ds', e = .returned (.tuple #[.agg #[.bool false, .slice A n c], .agg #[.bool false, .slice A' n' c']]) ∧ (RawAt w' A n c ds ∧ Tight ds ∧ Hid (val ds = m)) ∧ (RawAt w' A' n' c' ds' ∧ Tight ds' ∧ Hid (val ds' = m')) ∧ Below w.heap.size w w' :=
  h.mono fun _ _ ⟨_, _, he, ⟨A, n, c, ds, hv, hr, ht, hm⟩, ⟨A', n', c', ds', hv', hr', ht', hm'⟩, hb⟩ => ⟨A, n, c, ds, A', n', c', ds', by rw [he, hv, hv'], ⟨hr, ht, Lib.hid hm⟩, ⟨hr', ht', Lib.hid hm'⟩, hb⟩

end Go.Proofs.Ytohnglcdophkfaa
