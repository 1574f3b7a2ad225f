/-
  The reference's Join: the least box around two.
-/
import Derived.Test.YtegblpoamjpdhaaBounds
namespace Go.Proofs.Ytegblpoamjpdhaa
open Go.RowKit

theorem eltPt : Elt Try.prog 47 24 (.agg #[.int .i32 0, .int .i32 0]) 2 8 := ⟨Try.underlying47, by kernel_rfl, rfl, by omega⟩
theorem four_cells {a b c d : Int} : ∀ u ∈ [Value.int .i32 a, .int .i32 b, .int .i32 c, .int .i32 d], u.oneCell' = true := by simp [Value.oneCell']

/-- The cells of points, one behind the other. -/
def flat : List (Int × Int) → List Value
  | [] => []
  | p :: t => .int .i32 p.1 :: .int .i32 p.2 :: flat t
theorem flat_get (ps : List (Int × Int)) (i : Nat) (p : Int × Int) (h : ps[i]? = some p) : (flat ps)[i * 2]? = some (.int .i32 p.1) ∧ (flat ps)[i * 2 + 1]? = some (.int .i32 p.2) := by
  induction ps generalizing i with
  | nil => simp at h
  | cons q t ih =>
    cases i with
    | zero => simp at h; subst h; simp [flat]
    | succ i =>
      have := ih i (by simpa using h)
      rw [show (i + 1) * 2 = i * 2 + 1 + 1 by omega]
      simpa [flat] using this
theorem flat_length (ps : List (Int × Int)) : (flat ps).length = ps.length * 2 := by
  induction ps with
  | nil => rfl
  | cons p t ih => simp only [flat, List.length_cons, ih]; omega
theorem pts_of_own {w : World} {base : Nat} {e : TypeId} {A : Option Addr} {n c : Nat} {ps : List (Int × Int)} (h : w.ownsRow base e 2 (.slice A n c) n (flat ps)) : Pts w A ps ∧ ps.length = n := by
  have hl : ps.length = n := by have := h.1; rw [flat_length] at this; omega
  refine ⟨fun i p hp => ?_, hl⟩
  have hi : i < ps.length := by
    rcases Nat.lt_or_ge i ps.length with h0 | h0
    · exact h0
    · rw [List.getElem?_eq_none h0] at hp; cases hp
  obtain ⟨g0, g1⟩ := flat_get ps i p hp
  rcases h.2 with ⟨_, h0⟩ | ⟨g, cap, cur, hv, _, hcur, _, _, hsz, htk⟩
  · omega
  · have hA : A = some ⟨g, 0, none⟩ := by injection hv
    subst hA
    have hlt : g < w.heap.size := by
      rcases Nat.lt_or_ge g w.heap.size with h0 | h0
      · exact h0
      · rw [Array.getElem?_eq_none h0] at hcur; cases hcur
    refine ⟨g, 0, rfl, hlt, ?_, ?_⟩
    · rw [cell_of_row w g _ cur e (0, 0) hcur]
      rw [← htk, List.getElem?_take] at g0
      split at g0
      · simpa using g0
      · cases g0
    · rw [cell_of_row w g _ cur e (0, 0) hcur]
      rw [← htk, List.getElem?_take] at g1
      split at g1
      · simpa using g1
      · cases g1

/-- Behind an append the blocks below the row's base are as they were. -/
theorem below_own {w w' : World} {base : Nat} {e : TypeId} {size n : Nat} {v : Value} {xs : List Value} (hown : w.ownsRow base e size v n xs) (hb : base ≤ w.heap.size) (hg : w.grownBy w' v.ownBlock) : Below base w w' :=
  below_push (Below.refl _ _) hown (Nat.le_refl _) hb hg

set_option maxHeartbeats 2000000 in
set_option maxRecDepth 100000 in
theorem join_ref (a b c d a' b' c' d' : Int) (w : World) :
    Calls Try.prog 17 #[(Value.agg #[.int .i32 (a), .int .i32 (b), .int .i32 (c), .int .i32 (d)]), (Value.agg #[.int .i32 (a'), .int .i32 (b'), .int .i32 (c'), .int .i32 (d')])] w fun e w' =>
      e = .returned ((Value.agg #[.int .i32 (jn (rightB a b c d) (rightB a' b' c' d') a a' (min a a')), .int .i32 (jn (rightB a b c d) (rightB a' b' c' d') b b' (min b b')), .int .i32 (jn (rightB a b c d) (rightB a' b' c' d') c c' (max c c')), .int .i32 (jn (rightB a b c d) (rightB a' b' c' d') d d' (max d d'))])) ∧ Below w.heap.size w w' := by
  rcases @right_split a b c d with ⟨hr, H1⟩ | ⟨hr, H1⟩
  all_goals rcases @right_split a' b' c' d' with ⟨hr', H2⟩ | ⟨hr', H2⟩
  all_goals rw [hr, hr']
  all_goals simp only [jn, if_true, Bool.false_eq_true, if_false]
  · go_enter Try.func17, Try.ntmps17
    go_wp2_with fail
    refine (right_ref _ _ _ _ _).mono ?_
    rintro e w1 ⟨rfl, hb_w1⟩
    obtain ⟨hc_w1, hf_w1⟩ := bcell hb_w1
    have hz_w1 := hb_w1.size
    try simp at hz_w1
    have hB_w1 : Below w.heap.size w w1 := Below.trans (by go_grown) (hb_w1.mono (by go_size))
    have hs_w1_0 : w.heap.size < w1.heap.size := by omega
    have hs_w1_1 : w.heap.size + 1 < w1.heap.size := by omega
    have hs_w1_2 : w.heap.size + 1 + 1 < w1.heap.size := by omega
    go_wp2_with (at_builtin; refine wpList_pushes rfl (.tmp 10) (.tmp 15) 47 rfl eltPt (w.heap.size + 1 + 1 + 1) none 0 0 [] rfl (World.ownsRow_nil _ _ _ _) 2 [_, _, _, _] (by omega) rfl rfl four_cells (le_maxLen (by omega)) (by omega) (by omega) ?_; intro A1 k1 u1 hown1 hg1; have hb_u1 := below_own (World.ownsRow_nil w1 (w.heap.size + 1 + 1 + 1) 24 2) (by omega) hg1; obtain ⟨hc_u1, hf_u1⟩ := bbase hb_u1; have hz_u1 := hb_u1.size; have hB_u1 : Below w.heap.size w u1 := Below.trans hB_w1 (hb_u1.mono (by omega)))
    have hs_u1_0 : w.heap.size < u1.heap.size := by omega
    have hs_u1_1 : w.heap.size + 1 < u1.heap.size := by omega
    have hs_u1_2 : w.heap.size + 1 + 1 < u1.heap.size := by omega
    go_wp2_with fail
    refine (right_ref _ _ _ _ _).mono ?_
    rintro e w2 ⟨rfl, hb_w2⟩
    obtain ⟨hc_w2, hf_w2⟩ := bcell hb_w2
    have hz_w2 := hb_w2.size
    try simp at hz_w2
    have hB_w2 : Below w.heap.size w w2 := Below.trans (by go_grown) (hb_w2.mono (by go_size))
    have hs_w2_0 : w.heap.size < w2.heap.size := by omega
    have hs_w2_1 : w.heap.size + 1 < w2.heap.size := by omega
    have hs_w2_2 : w.heap.size + 1 + 1 < w2.heap.size := by omega
    have hown1' := own_keep hown1 hb_w2
    go_wp2_with (at_builtin; refine wpList_pushes rfl (.tmp 19) (.tmp 24) 47 rfl eltPt (w.heap.size + 1 + 1 + 1) A1 (0 + 2) k1 _ rfl hown1' 2 [_, _, _, _] (by omega) rfl rfl four_cells (le_maxLen (by omega)) (by omega) (by omega) ?_; intro A2 k2 u2 hown2 hg2; have hb_u2 := below_own hown1' (by omega) hg2; obtain ⟨hc_u2, hf_u2⟩ := bbase hb_u2; have hz_u2 := hb_u2.size; have hB_u2 : Below w.heap.size w u2 := Below.trans hB_w2 (hb_u2.mono (by omega)))
    have hs_u2_0 : w.heap.size < u2.heap.size := by omega
    have hs_u2_1 : w.heap.size + 1 < u2.heap.size := by omega
    have hs_u2_2 : w.heap.size + 1 + 1 < u2.heap.size := by omega
    have hpl := pts_of_own (ps := [(a, b), (c, d), (a', b'), (c', d')]) hown2
    go_wp2_with fail
    refine (bounds_ref (q0 := min a a') (q1 := min b b') (q2 := max c c') (q3 := max d d') hpl.1 hpl.2 (by omega) (by have h1 := H1.out; have h2 := H2.out; simp only [bnd, List.foldl, grow, Prod.mk.injEq]; omega) _ (Below.refl _ _)).mono ?_
    rintro e w3 ⟨rfl, hb_w3⟩
    obtain ⟨hc_w3, hf_w3⟩ := bcell hb_w3
    have hz_w3 := hb_w3.size
    try simp at hz_w3
    have hB_w3 : Below w.heap.size w w3 := Below.trans (by go_grown) (hb_w3.mono (by go_size))
    have hs_w3_0 : w.heap.size < w3.heap.size := by omega
    have hs_w3_1 : w.heap.size + 1 < w3.heap.size := by omega
    have hs_w3_2 : w.heap.size + 1 + 1 < w3.heap.size := by omega
    go_wp2_with fail
    refine bodyPost_ret (by simp [results, Try.results17, go_sem, *]; try rfl) rfl ?_
    exact ⟨rfl, by go_grown⟩
  · go_enter Try.func17, Try.ntmps17
    go_wp2_with fail
    refine (right_ref _ _ _ _ _).mono ?_
    rintro e w1 ⟨rfl, hb_w1⟩
    obtain ⟨hc_w1, hf_w1⟩ := bcell hb_w1
    have hz_w1 := hb_w1.size
    try simp at hz_w1
    have hB_w1 : Below w.heap.size w w1 := Below.trans (by go_grown) (hb_w1.mono (by go_size))
    have hs_w1_0 : w.heap.size < w1.heap.size := by omega
    have hs_w1_1 : w.heap.size + 1 < w1.heap.size := by omega
    have hs_w1_2 : w.heap.size + 1 + 1 < w1.heap.size := by omega
    go_wp2_with (at_builtin; refine wpList_pushes rfl (.tmp 10) (.tmp 15) 47 rfl eltPt (w.heap.size + 1 + 1 + 1) none 0 0 [] rfl (World.ownsRow_nil _ _ _ _) 2 [_, _, _, _] (by omega) rfl rfl four_cells (le_maxLen (by omega)) (by omega) (by omega) ?_; intro A1 k1 u1 hown1 hg1; have hb_u1 := below_own (World.ownsRow_nil w1 (w.heap.size + 1 + 1 + 1) 24 2) (by omega) hg1; obtain ⟨hc_u1, hf_u1⟩ := bbase hb_u1; have hz_u1 := hb_u1.size; have hB_u1 : Below w.heap.size w u1 := Below.trans hB_w1 (hb_u1.mono (by omega)))
    have hs_u1_0 : w.heap.size < u1.heap.size := by omega
    have hs_u1_1 : w.heap.size + 1 < u1.heap.size := by omega
    have hs_u1_2 : w.heap.size + 1 + 1 < u1.heap.size := by omega
    go_wp2_with fail
    refine (right_ref _ _ _ _ _).mono ?_
    rintro e w2 ⟨rfl, hb_w2⟩
    obtain ⟨hc_w2, hf_w2⟩ := bcell hb_w2
    have hz_w2 := hb_w2.size
    try simp at hz_w2
    have hB_w2 : Below w.heap.size w w2 := Below.trans (by go_grown) (hb_w2.mono (by go_size))
    have hs_w2_0 : w.heap.size < w2.heap.size := by omega
    have hs_w2_1 : w.heap.size + 1 < w2.heap.size := by omega
    have hs_w2_2 : w.heap.size + 1 + 1 < w2.heap.size := by omega
    have hown1' := own_keep hown1 hb_w2
    have hpl := pts_of_own (ps := [(a, b), (c, d)]) hown1'
    go_wp2_with fail
    refine (bounds_ref (q0 := a) (q1 := b) (q2 := c) (q3 := d) hpl.1 hpl.2 (by omega) (by have h1 := H1.out; simp only [bnd, List.foldl, grow, Prod.mk.injEq]; omega) _ (Below.refl _ _)).mono ?_
    rintro e w3 ⟨rfl, hb_w3⟩
    obtain ⟨hc_w3, hf_w3⟩ := bcell hb_w3
    have hz_w3 := hb_w3.size
    try simp at hz_w3
    have hB_w3 : Below w.heap.size w w3 := Below.trans (by go_grown) (hb_w3.mono (by go_size))
    have hs_w3_0 : w.heap.size < w3.heap.size := by omega
    have hs_w3_1 : w.heap.size + 1 < w3.heap.size := by omega
    have hs_w3_2 : w.heap.size + 1 + 1 < w3.heap.size := by omega
    go_wp2_with fail
    refine bodyPost_ret (by simp [results, Try.results17, go_sem, *]; try rfl) rfl ?_
    exact ⟨rfl, by go_grown⟩
  · go_enter Try.func17, Try.ntmps17
    go_wp2_with fail
    refine (right_ref _ _ _ _ _).mono ?_
    rintro e w1 ⟨rfl, hb_w1⟩
    obtain ⟨hc_w1, hf_w1⟩ := bcell hb_w1
    have hz_w1 := hb_w1.size
    try simp at hz_w1
    have hB_w1 : Below w.heap.size w w1 := Below.trans (by go_grown) (hb_w1.mono (by go_size))
    have hs_w1_0 : w.heap.size < w1.heap.size := by omega
    have hs_w1_1 : w.heap.size + 1 < w1.heap.size := by omega
    have hs_w1_2 : w.heap.size + 1 + 1 < w1.heap.size := by omega
    go_wp2_with fail
    refine (right_ref _ _ _ _ _).mono ?_
    rintro e w2 ⟨rfl, hb_w2⟩
    obtain ⟨hc_w2, hf_w2⟩ := bcell hb_w2
    have hz_w2 := hb_w2.size
    try simp at hz_w2
    have hB_w2 : Below w.heap.size w w2 := Below.trans (by go_grown) (hb_w2.mono (by go_size))
    have hs_w2_0 : w.heap.size < w2.heap.size := by omega
    have hs_w2_1 : w.heap.size + 1 < w2.heap.size := by omega
    have hs_w2_2 : w.heap.size + 1 + 1 < w2.heap.size := by omega
    go_wp2_with (at_builtin; refine wpList_pushes rfl (.tmp 19) (.tmp 24) 47 rfl eltPt (w.heap.size + 1 + 1 + 1) none 0 0 _ rfl (World.ownsRow_nil w2 (w.heap.size + 1 + 1 + 1) 24 2) 2 [_, _, _, _] (by omega) rfl rfl four_cells (le_maxLen (by omega)) (by omega) (by omega) ?_; intro A2 k2 u2 hown2 hg2; have hb_u2 := below_own (World.ownsRow_nil w2 (w.heap.size + 1 + 1 + 1) 24 2) (by omega) hg2; obtain ⟨hc_u2, hf_u2⟩ := bbase hb_u2; have hz_u2 := hb_u2.size; have hB_u2 : Below w.heap.size w u2 := Below.trans hB_w2 (hb_u2.mono (by omega)))
    have hs_u2_0 : w.heap.size < u2.heap.size := by omega
    have hs_u2_1 : w.heap.size + 1 < u2.heap.size := by omega
    have hs_u2_2 : w.heap.size + 1 + 1 < u2.heap.size := by omega
    have hpl := pts_of_own (ps := [(a', b'), (c', d')]) hown2
    go_wp2_with fail
    refine (bounds_ref (q0 := a') (q1 := b') (q2 := c') (q3 := d') hpl.1 hpl.2 (by omega) (by have h2 := H2.out; simp only [bnd, List.foldl, grow, Prod.mk.injEq]; omega) _ (Below.refl _ _)).mono ?_
    rintro e w3 ⟨rfl, hb_w3⟩
    obtain ⟨hc_w3, hf_w3⟩ := bcell hb_w3
    have hz_w3 := hb_w3.size
    try simp at hz_w3
    have hB_w3 : Below w.heap.size w w3 := Below.trans (by go_grown) (hb_w3.mono (by go_size))
    have hs_w3_0 : w.heap.size < w3.heap.size := by omega
    have hs_w3_1 : w.heap.size + 1 < w3.heap.size := by omega
    have hs_w3_2 : w.heap.size + 1 + 1 < w3.heap.size := by omega
    go_wp2_with fail
    refine bodyPost_ret (by simp [results, Try.results17, go_sem, *]; try rfl) rfl ?_
    exact ⟨rfl, by go_grown⟩
  · go_enter Try.func17, Try.ntmps17
    go_wp2_with fail
    refine (right_ref _ _ _ _ _).mono ?_
    rintro e w1 ⟨rfl, hb_w1⟩
    obtain ⟨hc_w1, hf_w1⟩ := bcell hb_w1
    have hz_w1 := hb_w1.size
    try simp at hz_w1
    have hB_w1 : Below w.heap.size w w1 := Below.trans (by go_grown) (hb_w1.mono (by go_size))
    have hs_w1_0 : w.heap.size < w1.heap.size := by omega
    have hs_w1_1 : w.heap.size + 1 < w1.heap.size := by omega
    have hs_w1_2 : w.heap.size + 1 + 1 < w1.heap.size := by omega
    go_wp2_with fail
    refine (right_ref _ _ _ _ _).mono ?_
    rintro e w2 ⟨rfl, hb_w2⟩
    obtain ⟨hc_w2, hf_w2⟩ := bcell hb_w2
    have hz_w2 := hb_w2.size
    try simp at hz_w2
    have hB_w2 : Below w.heap.size w w2 := Below.trans (by go_grown) (hb_w2.mono (by go_size))
    have hs_w2_0 : w.heap.size < w2.heap.size := by omega
    have hs_w2_1 : w.heap.size + 1 < w2.heap.size := by omega
    have hs_w2_2 : w.heap.size + 1 + 1 < w2.heap.size := by omega
    have hpl := pts_of_own (ps := []) (World.ownsRow_nil w2 (w.heap.size + 1 + 1 + 1) 24 2)
    go_wp2_with fail
    refine (bounds_ref (q0 := 0) (q1 := 0) (q2 := 0) (q3 := 0) hpl.1 hpl.2 (by omega) (by rfl) _ (Below.refl _ _)).mono ?_
    rintro e w3 ⟨rfl, hb_w3⟩
    obtain ⟨hc_w3, hf_w3⟩ := bcell hb_w3
    have hz_w3 := hb_w3.size
    try simp at hz_w3
    have hB_w3 : Below w.heap.size w w3 := Below.trans (by go_grown) (hb_w3.mono (by go_size))
    have hs_w3_0 : w.heap.size < w3.heap.size := by omega
    have hs_w3_1 : w.heap.size + 1 < w3.heap.size := by omega
    have hs_w3_2 : w.heap.size + 1 + 1 < w3.heap.size := by omega
    go_wp2_with fail
    refine bodyPost_ret (by simp [results, Try.results17, go_sem, *]; try rfl) rfl ?_
    exact ⟨rfl, by go_grown⟩

end Go.Proofs.Ytegblpoamjpdhaa
