/-
  inside.Crossings, Winding, Covers.
  The law's own turned: a ring told from another point on, backwards if it is told so.
-/
import Derived.Test.YtohnglcdophkfaaTell
import Derived.Test.YtohnglcdophkfaaTail
namespace Go.Proofs.Ytohnglcdophkfaa
open Go.RowKit Go.Shelf

theorem PtsAt.up {n m : Nat} (h : m ≤ n) {A : World} {sv : Value} {ps : List Pt} : PtsAt m A sv ps → PtsAt n A sv ps
  | .inl e => .inl e
  | .inr ⟨b, off, cap, e, hb, hc⟩ => .inr ⟨b, off, cap, e, by omega, hc⟩

set_option maxHeartbeats 1000000 in
theorem crossings_any (sv : Value) (ps : List Pt) (p : Pt) (m : Nat) (hp : IPt p) (hps : ∀ p ∈ ps, IPt p) (hreach : ps.length * 8 ≤ 140737488355328) (w : World) (hm : m ≤ w.heap.size) (hI : PtsAt m w sv ps) :
    Calls Try.prog 15 #[sv, .agg #[.int .i32 p.1, .int .i32 p.2]] w fun e w' => e = .returned (.int .i64 (crossings ps p)) ∧ Below w.heap.size w w' := by
  have h0 : (0 : Int) + tot (fc p) (sides ps) = crossings ps p := Int.zero_add _
  go_enter Try.func15, Try.ntmps15
  go_wp2_with fail
  refine (pastC_any _ sv ps p (w.heap.size + 1) m 0 hp hps hreach (by omega) ?_ (hI.below ?_) (by omega)).mono ?_
  · have := Boxed.new (w.alloc (.cells #[.int .i32 p.1, .int .i32 p.2] 25)) 3 (.int .i64 0)
    rw [World.size_alloc] at this
    exact this
  · exact ((Below.refl m w).alloc hm _).alloc (by simp; omega) _
  · rintro e w1 ⟨⟨v, rfl⟩, hb1, hb_w1⟩
    rw [h0] at hb1
    have hc1 := hb1.cell
    have hB : Below w.heap.size w w1 := (((Below.refl _ w).alloc (Nat.le_refl _) _).alloc (by simp) _).trans (hb_w1.mono (by omega))
    go_wp2_with fail
    go_ret
    exact ⟨rfl, hB⟩

set_option maxHeartbeats 1000000 in
theorem winding_any (sv : Value) (ps : List Pt) (p : Pt) (m : Nat) (hp : IPt p) (hps : ∀ p ∈ ps, IPt p) (hreach : ps.length * 8 ≤ 140737488355328) (w : World) (hm : m ≤ w.heap.size) (hI : PtsAt m w sv ps) :
    Calls Try.prog 12 #[sv, .agg #[.int .i32 p.1, .int .i32 p.2]] w fun e w' => e = .returned (.int .i64 (winding ps p)) ∧ Below w.heap.size w w' := by
  have h0 : (0 : Int) + tot (fw p) (sides ps) = winding ps p := Int.zero_add _
  go_enter Try.func12, Try.ntmps12
  go_wp2_with fail
  refine (pastW_any _ sv ps p (w.heap.size + 1) m 0 hp hps hreach (by omega) ?_ (hI.below ?_) (by omega)).mono ?_
  · have := Boxed.new (w.alloc (.cells #[.int .i32 p.1, .int .i32 p.2] 25)) 3 (.int .i64 0)
    rw [World.size_alloc] at this
    exact this
  · exact ((Below.refl m w).alloc hm _).alloc (by simp; omega) _
  · rintro e w1 ⟨⟨v, rfl⟩, hb1, hb_w1⟩
    rw [h0] at hb1
    have hc1 := hb1.cell
    have hB : Below w.heap.size w w1 := (((Below.refl _ w).alloc (Nat.le_refl _) _).alloc (by simp) _).trans (hb_w1.mono (by omega))
    go_wp2_with fail
    go_ret
    exact ⟨rfl, hB⟩

set_option maxHeartbeats 1000000 in
theorem covers_any (sv : Value) (ps : List Pt) (p : Pt) (m : Nat) (hp : IPt p) (hps : ∀ p ∈ ps, IPt p) (hreach : ps.length * 8 ≤ 140737488355328) (w : World) (hm : m ≤ w.heap.size) (hI : PtsAt m w sv ps) :
    Calls Try.prog 11 #[sv, .agg #[.int .i32 p.1, .int .i32 p.2]] w fun e w' => e = .returned (.bool (covers ps p)) ∧ Below w.heap.size w w' := by
  have H1 := Lib.hid (fun W (hb : Below m w W) (hl : m ≤ W.heap.size) => edge_any W sv ps p hp hps hreach ((hI.below hb).up hl))
  have H2 := Lib.hid (fun W (hb : Below m w W) (hl : m ≤ W.heap.size) => crossings_any sv ps p m hp hps hreach W hl (hI.below hb))
  have hpos : 0 ≤ crossings ps p := tot_pos _ (fc_pos p) _
  unfold covers
  cases he : edge ps p
  · rw [he] at H1
    rw [Bool.false_or]
    have hc : ∃ b, decide (crossings ps p % 2 = 1) = b ∧ ((crossings ps p).tmod 2 == 1) = b := by
      refine ⟨_, rfl, ?_⟩
      rw [Int.tmod_eq_emod_of_nonneg hpos]
      rfl
    obtain ⟨b, hb1, hb2⟩ := hc
    rw [hb1]
    clear hb1 he hpos
    go_enter Try.func11, Try.ntmps11
    go_wp2_with fail
    refine (H1.out _ (by go_grown) (by simp; omega)).mono ?_
    rintro e w1 ⟨rfl, hb_w1⟩
    obtain ⟨hc_w1, hf_w1⟩ := bcell hb_w1
    have hz_w1 := hb_w1.size
    try simp at hz_w1
    have hB_w1 : Below w.heap.size w w1 := Below.trans (by go_grown) (hb_w1.mono (by go_size))
    go_wp2_with fail
    refine (H2.out _ (by exact (hB_w1.mono hm)) (by omega)).mono ?_
    rintro e w2 ⟨rfl, hb_w2⟩
    obtain ⟨hc_w2, hf_w2⟩ := bcell hb_w2
    have hz_w2 := hb_w2.size
    try simp at hz_w2
    have hB_w2 : Below w.heap.size w w2 := Below.trans (by go_grown) (hb_w2.mono (by go_size))
    go_wp2_with fail
    go_ret
    exact ⟨rfl, by go_grown⟩
  · rw [he] at H1
    rw [Bool.true_or]
    clear he hpos
    go_enter Try.func11, Try.ntmps11
    go_wp2_with fail
    refine (H1.out _ (by go_grown) (by simp; omega)).mono ?_
    rintro e w1 ⟨rfl, hb_w1⟩
    obtain ⟨hc_w1, hf_w1⟩ := bcell hb_w1
    have hz_w1 := hb_w1.size
    try simp at hz_w1
    have hB_w1 : Below w.heap.size w w1 := Below.trans (by go_grown) (hb_w1.mono (by go_size))
    go_wp2_with fail
    go_ret
    exact ⟨rfl, by go_grown⟩

theorem eltP : Elt Try.prog 22 25 (.agg #[.int .i32 0, .int .i32 0]) 2 8 := ⟨Try.underlying22, by kernel_rfl, rfl, by omega⟩

/-- A list of points as cells. -/
def flat : List Pt → List Value
  | [] => []
  | p :: ps => .int .i32 p.1 :: .int .i32 p.2 :: flat ps
theorem flat_snoc (p : Pt) : ∀ ps : List Pt, flat (ps ++ [p]) = flat ps ++ [.int .i32 p.1, .int .i32 p.2]
  | [] => rfl
  | q :: ps => by rw [List.cons_append, flat, flat, flat_snoc p ps]; rfl
theorem flat_length : ∀ ps : List Pt, (flat ps).length = ps.length * 2
  | [] => rfl
  | q :: ps => by rw [flat, List.length_cons, List.length_cons, List.length_cons, flat_length ps]; omega
theorem gp_cons (q : Pt) (ps : List Pt) (j : Nat) : gp (q :: ps) (j + 1) = gp ps j := rfl
theorem flat_get : ∀ (ps : List Pt) (j : Nat), j < ps.length → (flat ps)[j * 2]? = some (.int .i32 (gp ps j).1) ∧ (flat ps)[j * 2 + 1]? = some (.int .i32 (gp ps j).2)
  | [], _, h => absurd h (Nat.not_lt_zero _)
  | q :: ps, 0, _ => ⟨rfl, rfl⟩
  | q :: ps, j + 1, h => by
    obtain ⟨h1, h2⟩ := flat_get ps j (by simpa using h)
    rw [gp_cons, flat, show (j + 1) * 2 = j * 2 + 1 + 1 by omega]
    exact ⟨h1, h2⟩
theorem add_at (g j : Nat) : ((⟨g, 0, none⟩ : Addr).add j) = ⟨g, j, none⟩ := by
  unfold Addr.add
  by_cases hj0 : j = 0 <;> simp [hj0]
theorem gp_snoc_lt {ps : List Pt} {p : Pt} {j : Nat} (h : j < ps.length) : gp (ps ++ [p]) j = gp ps j := by
  unfold gp
  rw [List.getElem?_append_left h]
theorem gp_snoc_eq {ps : List Pt} {p : Pt} {j : Nat} (h : j = ps.length) : gp (ps ++ [p]) j = p := by
  subst h
  unfold gp
  simp

/-- A row of the call's own holds its points. -/
theorem ptsAt_of_own {W : World} {base : Nat} {v : Value} {k : Nat} {qs : List Pt} (h : W.ownsRow base 25 2 v k (flat qs)) (hl : qs.length = k) : PtsAt W.heap.size W v qs := by
  rcases h.2 with ⟨hv, h0⟩ | ⟨g, cap, cur, hv, hb, hg, h1, h2, h3, h4⟩
  · exact .inl ⟨⟨_, _, hv⟩, List.length_eq_zero_iff.1 (by omega)⟩
  · refine .inr ⟨g, 0, cap, by rw [hl]; exact hv, (h.lt g (by rw [hv]; rfl)).2, fun j hj => ?_⟩
    have hc := h.cells (g := g) (by rw [hv]; rfl)
    obtain ⟨e1, e2⟩ := flat_get qs j hj
    have f1 := hc _ _ e1
    have f2 := hc _ _ e2
    rw [add_at] at f1 f2
    rw [Nat.zero_add]
    exact ⟨f1, f2⟩

theorem two_cells {x y : Value} (hx : x.oneCell' = true) (hy : y.oneCell' = true) : ∀ u ∈ [x, y], u.oneCell' = true := fun u hu => by
  simp only [List.mem_cons, List.not_mem_nil, or_false] at hu
  rcases hu with rfl | rfl
  · exact hx
  · exact hy

/-- Where the n-th point on begins. -/
theorem turn_start {n : Int} {m : Nat} (hm : 0 < m) : ∃ r : Nat, n.tmod m + m = (r : Int) ∧ r < 2 * m := by
  have h1 := Int.lt_tmod_of_pos n (show (0 : Int) < m by omega)
  have h2 := Int.tmod_lt_of_pos n (show (0 : Int) < m by omega)
  exact ⟨(n.tmod m + m).toNat, by omega, by omega⟩

theorem start_at {t : Int} {r k L x : Nat} (hL : ¬ L = 0) (hr : t + (L : Int) = (r : Int)) (h2 : r < 2 * L) (h : (r + k) % L = x) : -(L : Int) ≤ t ∧ t < L ∧ (t + L + k) % (L : Int) = (x : Int) ∧ (t + L + k).tmod (L : Int) = (x : Int) ∧ x < L := by
  rw [hr]
  refine ⟨by omega, by omega, ?_, ?_, by rw [← h]; exact Nat.mod_lt _ (Nat.pos_of_ne_zero hL)⟩
  · rw [← h, Int.natCast_emod, Int.natCast_add]
  · rw [← h]; exact (Int.ofNat_tmod (r + k) L).symm
theorem back_at {L x : Nat} (h : x < L) : (L : Int) - 1 - (x : Int) = ((L - 1 - x : Nat) : Int) ∧ L - 1 - x < L := by omega

/-- The k-th point of the ring that is told from r on; backwards, if it is told so. -/
def told (back : Bool) (m r k : Nat) : Nat := if back then m - 1 - (r + k) % m else (r + k) % m

theorem told_step {ps qs : List Pt} {back : Bool} {L r k x : Nat} (hl : qs.length = k) (h : ∀ i, i < k → gp qs i = gp ps (told back L r i)) (hx : told back L r k = x) : ∀ i, i < k + 1 → gp (qs ++ [gp ps x]) i = gp ps (told back L r i) := fun i hi => by
  rcases Nat.lt_or_ge i k with h1 | h1
  · rw [gp_snoc_lt (by omega), h i h1]
  · obtain rfl : i = k := by omega
    rw [gp_snoc_eq hl.symm, hx]
theorem ipt_snoc {qs : List Pt} {p : Pt} (h : ∀ q ∈ qs, IPt q) (hp : IPt p) : ∀ q ∈ qs ++ [p], IPt q := fun q hq => by
  rcases List.mem_append.1 hq with h1 | h1
  · exact h q h1
  · rw [List.mem_singleton.1 h1]; exact hp

set_option maxRecDepth 100000 in
set_option maxHeartbeats 400000 in
theorem turned_any (sv : Value) (ps : List Pt) (n : Int) (back : Bool) (m : Nat) (hps : ∀ p ∈ ps, IPt p) (hreach : ps.length * 8 ≤ 140737488355328) (w : World) (hm : m ≤ w.heap.size) (hI : PtsAt m w sv ps) :
    Calls Try.prog 13 #[sv, .int .i64 n, .bool back] w fun e w' => ∃ sv' qs r, e = .returned sv' ∧ qs.length = ps.length ∧ (∀ i, i < ps.length → gp qs i = gp ps (told back ps.length r i)) ∧ (∀ q ∈ qs, IPt q) ∧ PtsAt w'.heap.size w' sv' qs ∧ Below w.heap.size w w' := by
  have hI' := hI
  rcases hI with ⟨⟨A0, c0, rfl⟩, rfl⟩ | ⟨b, off, cap, rfl, hb, hc⟩
  · go_enter Try.func13, Try.ntmps13
    go_wp2_with fail
    go_loopw [7, 8] (fun o i wr => o = .slice none 0 0 ∧ i = .int .i64 0 ∧ wr = w) (fun _ _ _ => 0)
    case atStart => exact ⟨rfl, rfl, rfl⟩
    case round =>
      obtain ⟨rfl, rfl, rfl⟩ := hrel
      go_wp2_with fail
      go_ret
      exact ⟨_, [], 0, rfl, rfl, fun i hi => absurd hi (Nat.not_lt_zero _), fun q hq => (by cases hq), .inl ⟨⟨_, _, rfl⟩, rfl⟩, Below.refl _ _⟩
  · obtain ⟨L, hL⟩ : ∃ L, ps.length = L := ⟨_, rfl⟩
    rw [hL] at hreach hc ⊢
    go_enter Try.func13, Try.ntmps13
    go_wp2_with fail
    go_loopw [7, 8] (fun o i wr => ∃ (k c : Nat) (A : Option Addr) (qs : List Pt), o = .slice A k c ∧ i = .int .i64 (k : Int) ∧ k ≤ L ∧ wr.ownsRow w.heap.size 25 2 (.slice A k c) k (flat qs) ∧ qs.length = k ∧ (∀ q ∈ qs, IPt q) ∧
        (∃ r : Nat, (0 < L → n.tmod L + L = (r : Int) ∧ r < 2 * L) ∧ ∀ i, i < k → gp qs i = gp ps (told back L r i)) ∧ Below w.heap.size w wr)
      (fun _ i _ => L - (intOf i).toNat)
    case atStart =>
      refine ⟨0, 0, none, [], rfl, rfl, Nat.zero_le _, World.ownsRow_nil _ _ _ _, rfl, fun q hq => (by cases hq), ?_, Below.refl _ _⟩
      rcases Nat.eq_zero_or_pos L with h0 | h0
      · exact ⟨0, fun h => by omega, fun i hi => absurd hi (Nat.not_lt_zero _)⟩
      · obtain ⟨r, h1, h2⟩ := turn_start (n := n) h0
        exact ⟨r, fun _ => ⟨h1, h2⟩, fun i hi => absurd hi (Nat.not_lt_zero _)⟩
    case round =>
      obtain ⟨k, c, A, qs, rfl, rfl, hk, hown, hql, hqi, ⟨r, hr, hqs⟩, hbel⟩ := hrel
      rcases Nat.lt_or_ge k L with hlt | hge
      · obtain ⟨hr1, hr2⟩ := hr (by omega)
        have hz2 : ¬ (L : Int) = 0 := by omega
        have hz3 : ¬ L = 0 := by omega
        have hsz := hbel.size
        obtain ⟨t, ht⟩ : ∃ t, n.tmod (L : Int) = t := ⟨_, rfl⟩
        rw [ht] at hr1
        obtain ⟨x, hxe⟩ : ∃ x, (r + k) % L = x := ⟨_, rfl⟩
        obtain ⟨t0, t1, g3, g5, hx⟩ := start_at hz3 hr1 hr2 hxe
        have HQ := Lib.hid hxe
        clear hxe hr1 hr2
        cases back
        · have cc := hc x hx
          have c1 := (hbel.cell (p := ⟨b, off + x * 2, none⟩) (by show b < _; omega)).trans cc.1
          have c2 := (hbel.cell (p := ⟨b, off + x * 2 + 1, none⟩) (by show b < _; omega)).trans cc.2
          go_wp2_with (at_builtin; refine wpList_push rfl (.tmp 34) (.tmp 39) 22 rfl eltP w.heap.size A k c (flat qs) rfl hown [_, _] rfl rfl (two_cells rfl rfl) (le_maxLen (by omega)) (by omega) (by omega) ?_; intro A' c' w' hown' hg)
          go_roundw
          case rel => exact ⟨k + 1, c', A', qs ++ [gp ps x], rfl, by simp, hlt, by rw [flat_snoc]; exact hown', by simp [hql], ipt_snoc hqi (gp_i hps _), ⟨r, hr, told_step hql hqs (by unfold told; exact HQ.out)⟩, below_push hbel hown (Nat.le_refl _) hsz hg⟩
          case measure => simp [intOf]; omega
        · have cc := hc (L - 1 - x) (by omega)
          have c1 := (hbel.cell (p := ⟨b, off + (L - 1 - x) * 2, none⟩) (by show b < _; omega)).trans cc.1
          have c2 := (hbel.cell (p := ⟨b, off + (L - 1 - x) * 2 + 1, none⟩) (by show b < _; omega)).trans cc.2
          obtain ⟨g4, hy⟩ := back_at hx
          obtain ⟨y, hye⟩ : ∃ y, L - 1 - x = y := ⟨_, rfl⟩
          rw [hye] at g4 hy c1 c2
          go_wp2_with (at_builtin; refine wpList_push rfl (.tmp 34) (.tmp 39) 22 rfl eltP w.heap.size A k c (flat qs) rfl hown [_, _] rfl rfl (two_cells rfl rfl) (le_maxLen (by omega)) (by omega) (by omega) ?_; intro A' c' w' hown' hg)
          go_roundw
          case rel => exact ⟨k + 1, c', A', qs ++ [gp ps y], rfl, by simp, hlt, by rw [flat_snoc]; exact hown', by simp [hql], ipt_snoc hqi (gp_i hps _), ⟨r, hr, told_step hql hqs (by unfold told; rw [if_pos rfl, HQ.out, hye])⟩, below_push hbel hown (Nat.le_refl _) hsz hg⟩
          case measure => simp [intOf]; omega
      · obtain rfl : k = L := by omega
        go_wp2_with fail
        go_ret
        exact ⟨_, qs, r, rfl, hql, hqs, hqi, ptsAt_of_own hown hql, hbel⟩

end Go.Proofs.Ytohnglcdophkfaa
