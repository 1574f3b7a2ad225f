/-
  The law's own moved: a ring, each point shifted.
-/
import Derived.Test.YtohnglcdophkfaaTurned
namespace Go.Proofs.Ytohnglcdophkfaa
open Go.RowKit Go.Shelf

theorem mv_math {x b : Int} (h1 : I32 x) (h2 : I32 b) : wrap64 x = x ∧ wrap64 b = b ∧ wrap64 (x + b) = x + b ∧ wrap64 (wrap32 (x + b)) = wrap32 (x + b) ∧ (wrap32 (x + b) = x + b → I32 (x + b)) := by
  unfold I32 at *; unfold wrap64 wrap32; omega
theorem mv_step {ps qs : List Pt} {k : Nat} {d : Pt} (hl : qs.length = k) (h : ∀ i, i < k → gp qs i = mv d (gp ps i)) : ∀ i, i < k + 1 → gp (qs ++ [mv d (gp ps k)]) i = mv d (gp ps i) := fun i hi => by
  rcases Nat.lt_or_ge i k with h1 | h1
  · rw [gp_snoc_lt (by omega), h i h1]
  · obtain rfl : i = k := by omega
    rw [gp_snoc_eq hl.symm]

theorem slice_at {m n : Nat} (h : m = n) : Value.slice (some ⟨m, 0, none⟩) 1 1 = .slice (some ⟨n, 0, none⟩) 1 1 := by rw [h]

/-- What moved answers. -/
def Moved (w' : World) (ps : List Pt) (d : Pt) (e : Ending) : Prop :=
  (e = .returned (.tuple #[.slice none 0 0, .bool false])) ∨
  (∃ sv' qs, e = .returned (.tuple #[sv', .bool true]) ∧ qs.length = ps.length ∧ (∀ i, i < ps.length → gp qs i = mv d (gp ps i)) ∧ (∀ q ∈ qs, IPt q) ∧ PtsAt w'.heap.size w' sv' qs)

set_option maxRecDepth 100000 in
set_option maxHeartbeats 400000 in
theorem moved_any (sv : Value) (ps : List Pt) (d : Pt) (hd : IPt d) (m : Nat) (hps : ∀ p ∈ ps, IPt p) (hreach : ps.length * 8 ≤ 140737488355328) (w : World) (hm : m ≤ w.heap.size) (hI : PtsAt m w sv ps) :
    Calls Try.prog 14 #[sv, .agg #[.int .i32 d.1, .int .i32 d.2]] w fun e w' => Moved w' ps d e ∧ Below w.heap.size w w' := by
  rcases hI with ⟨⟨A0, c0, rfl⟩, rfl⟩ | ⟨b, off, cap, rfl, hb, hc⟩
  · go_enter Try.func14, Try.ntmps14
    go_wp2_with fail
    go_loopw [6, 7] (fun o i wr => o = .slice none 0 0 ∧ i = .int .i64 0 ∧ Below w.heap.size w wr) (fun _ _ _ => 0)
    case atStart => exact ⟨rfl, rfl, by go_grown⟩
    case round =>
      obtain ⟨rfl, rfl, hB⟩ := hrel
      go_wp2_with fail
      refine bodyPost_ret (by simp [results, Try.results14, go_sem, *]; try rfl) rfl ?_
      exact ⟨.inr ⟨_, [], rfl, rfl, fun i hi => absurd hi (Nat.not_lt_zero _), fun q hq => (by cases hq), .inl ⟨⟨_, _, rfl⟩, rfl⟩⟩, hB⟩
  · obtain ⟨L, hL⟩ : ∃ L, ps.length = L := ⟨_, rfl⟩
    unfold Moved
    rw [hL] at hreach hc ⊢
    go_enter Try.func14, Try.ntmps14
    go_wp2_with fail
    refine wp_gen (fun W hW => ?_)
    have bD : Two W w.heap.size 25 d := by rw [hW]; exact Two.new w _ d
    have hBW : Below w.heap.size w W := by rw [hW]; go_grown
    have hWs : w.heap.size + 1 ≤ W.heap.size := by rw [hW]; simp
    clear hW
    go_loopw [6, 7] (fun o i wr => ∃ (k c : Nat) (A : Option Addr) (qs : List Pt), o = .slice A k c ∧ i = .int .i64 (k : Int) ∧ k ≤ L ∧ wr.ownsRow (w.heap.size + 1) 25 2 (.slice A k c) k (flat qs) ∧ qs.length = k ∧ (∀ q ∈ qs, IPt q) ∧
        (∀ i, i < k → gp qs i = mv d (gp ps i)) ∧ Below (w.heap.size + 1) W wr)
      (fun _ i _ => L - (intOf i).toNat)
    case atStart => exact ⟨0, 0, none, [], rfl, rfl, Nat.zero_le _, World.ownsRow_nil _ _ _ _, rfl, fun q hq => (by cases hq), fun i hi => absurd hi (Nat.not_lt_zero _), Below.refl _ _⟩
    case round =>
      obtain ⟨k, c, A, qs, rfl, rfl, hk, hown, hql, hqi, hqs, hbel⟩ := hrel
      have hsz := hbel.size
      have hB_wr : Below w.heap.size w wr := hBW.trans (hbel.mono (Nat.le_succ _))
      have bD1 := bD.below hbel (Nat.lt_succ_self _)
      have HS := Lib.hid hqs
      have HI := Lib.hid hqi
      clear hqs hqi
      rcases Nat.lt_or_ge k L with hlt | hge
      · have cc := hc k hlt
        have c1 := (hB_wr.cell (p := ⟨b, off + k * 2, none⟩) (by show b < _; omega)).trans cc.1
        have c2 := (hB_wr.cell (p := ⟨b, off + k * 2 + 1, none⟩) (by show b < _; omega)).trans cc.2
        have d1 := bD1.c0
        have d2 := bD1.c1
        have hpi := gp_i hps k
        obtain ⟨e1, e2, e3, e4, e5⟩ := mv_math hpi.1 hd.1
        obtain ⟨f1, f2, f3, f4, f5⟩ := mv_math hpi.2 hd.2
        have hb1 : b < wr.heap.size := by omega
        have hb2 : w.heap.size < wr.heap.size := by omega
        have hmv : mv d (gp ps k) = ((gp ps k).1 + d.1, (gp ps k).2 + d.2) := rfl
        obtain ⟨p, hp⟩ : ∃ z, wrap32 ((gp ps k).1 + d.1) = z := ⟨_, rfl⟩
        obtain ⟨q, hq⟩ : ∃ z, wrap32 ((gp ps k).2 + d.2) = z := ⟨_, rfl⟩
        obtain ⟨xx, hx⟩ : ∃ z, (gp ps k).1 + d.1 = z := ⟨_, rfl⟩
        obtain ⟨yy, hy⟩ : ∃ z, (gp ps k).2 + d.2 = z := ⟨_, rfl⟩
        rw [hx] at hmv
        rw [hy] at hmv
        rw [hp] at e4 e5
        rw [hq] at f4 f5
        rw [hx] at hp e3 e5
        rw [hy] at hq f3 f5
        rcases Decidable.em (p = xx) with hpx | hpx
        · subst hpx
          rcases Decidable.em (q = yy) with hqy | hqy
          · subst hqy
            have HH : Hid ((I32 p ∧ I32 q) ∧ mv d (gp ps k) = (p, q)) := Lib.hid ⟨⟨e5 rfl, f5 rfl⟩, hmv⟩
            clear e5 f5 hmv hpi cc hd
            go_wp2_with fail
            have hq_wr := @wd_cell wr
            refine wp_region_wd (by kernel_rfl) (by kernel_rfl) ?_
            repeat (go_big_quiet_step ((first | (fail))))
            refine wpQuiet_nil ?_
            rintro w1 ⟨⟨wx, hb_w1⟩, hwx⟩
            obtain rfl : w1 = wx := hwx
            clear hq_wr
            obtain ⟨hc_w1, hf_w1⟩ := bcell hb_w1
            have hB_w1 : Below w.heap.size w w1 := Below.trans (by go_grown) (hb_w1.mono (by go_size))
            have hs_w1_0 : b < w1.heap.size := Nat.lt_of_lt_of_le (by assumption) hb_w1.size
            have hs_w1_1 : w.heap.size < w1.heap.size := Nat.lt_of_lt_of_le (by assumption) hb_w1.size
            go_wp2_with fail
            have hq_w1 := @wd_cell w1
            refine wp_region_wd (by kernel_rfl) (by kernel_rfl) ?_
            repeat (go_big_quiet_step ((first | (fail))))
            refine wpQuiet_nil ?_
            rintro w2 ⟨⟨wx, hb_w2⟩, hwx⟩
            obtain rfl : w2 = wx := hwx
            clear hq_w1
            obtain ⟨hc_w2, hf_w2⟩ := bcell hb_w2
            have hB_w2 : Below w.heap.size w w2 := Below.trans (by go_grown) (hb_w2.mono (by go_size))
            have hs_w2_0 : b < w2.heap.size := Nat.lt_of_lt_of_le (by assumption) hb_w2.size
            have hs_w2_1 : w.heap.size < w2.heap.size := Nat.lt_of_lt_of_le (by assumption) hb_w2.size
            have z1 := hb_w1.size
            have z2 := hb_w2.size
            have hown2 := own_keep (own_keep hown hb_w1) hb_w2
            go_wp2_with (at_builtin; refine wpList_push rfl (.tmp 54) (.tmp 56) 22 rfl eltP (w.heap.size + 1) A k c (flat qs) rfl (hown2.alloc _) [_, _] (slice_at (by simp)) rfl (two_cells rfl rfl) (le_maxLen (by omega)) (by omega) (by simp; omega) ?_; intro A' c' w' hown' hg)
            go_roundw
            case rel =>
              refine ⟨k + 1, c', A', qs ++ [mv d (gp ps k)], rfl, by simp, hlt, ?_, by simp [hql], ipt_snoc HI.out (by rw [HH.out.2]; exact HH.out.1), mv_step hql HS.out, below_push ((((hbel.trans (hb_w1.mono (by omega))).trans (hb_w2.mono (by omega))).alloc (by omega) _)) (hown2.alloc _) (Nat.le_refl _) (by simp; omega) hg⟩
              rw [flat_snoc, HH.out.2]
              exact hown'
            case measure => simp [intOf]; omega
          · have hk : (q == yy) = false := by simp; exact hqy
            clear hqy e5 f5 hmv hpi cc hd
            go_wp2_with fail
            have hq_wr := @wd_cell wr
            refine wp_region_wd (by kernel_rfl) (by kernel_rfl) ?_
            repeat (go_big_quiet_step ((first | (fail))))
            refine wpQuiet_nil ?_
            rintro w1 ⟨⟨wx, hb_w1⟩, hwx⟩
            obtain rfl : w1 = wx := hwx
            clear hq_wr
            obtain ⟨hc_w1, hf_w1⟩ := bcell hb_w1
            have hB_w1 : Below w.heap.size w w1 := Below.trans (by go_grown) (hb_w1.mono (by go_size))
            have hs_w1_0 : b < w1.heap.size := Nat.lt_of_lt_of_le (by assumption) hb_w1.size
            have hs_w1_1 : w.heap.size < w1.heap.size := Nat.lt_of_lt_of_le (by assumption) hb_w1.size
            go_wp2_with fail
            have hq_w1 := @wd_cell w1
            refine wp_region_wd (by kernel_rfl) (by kernel_rfl) ?_
            repeat (go_big_quiet_step ((first | (fail))))
            refine wpQuiet_nil ?_
            rintro w2 ⟨⟨wx, hb_w2⟩, hwx⟩
            obtain rfl : w2 = wx := hwx
            clear hq_w1
            obtain ⟨hc_w2, hf_w2⟩ := bcell hb_w2
            have hB_w2 : Below w.heap.size w w2 := Below.trans (by go_grown) (hb_w2.mono (by go_size))
            have hs_w2_0 : b < w2.heap.size := Nat.lt_of_lt_of_le (by assumption) hb_w2.size
            have hs_w2_1 : w.heap.size < w2.heap.size := Nat.lt_of_lt_of_le (by assumption) hb_w2.size
            go_wp2_with fail
            refine bodyPost_ret (by simp [results, Try.results14, go_sem, *]; try rfl) rfl ?_
            exact ⟨.inl rfl, by go_grown⟩
        · have hk : (p == xx) = false := by simp; exact hpx
          clear hpx e5 f5 hmv hpi cc hd
          go_wp2_with fail
          have hq_wr := @wd_cell wr
          refine wp_region_wd (by kernel_rfl) (by kernel_rfl) ?_
          repeat (go_big_quiet_step ((first | (fail))))
          refine wpQuiet_nil ?_
          rintro w1 ⟨⟨wx, hb_w1⟩, hwx⟩
          obtain rfl : w1 = wx := hwx
          clear hq_wr
          obtain ⟨hc_w1, hf_w1⟩ := bcell hb_w1
          have hB_w1 : Below w.heap.size w w1 := Below.trans (by go_grown) (hb_w1.mono (by go_size))
          have hs_w1_0 : b < w1.heap.size := Nat.lt_of_lt_of_le (by assumption) hb_w1.size
          have hs_w1_1 : w.heap.size < w1.heap.size := Nat.lt_of_lt_of_le (by assumption) hb_w1.size
          go_wp2_with fail
          have hq_w1 := @wd_cell w1
          refine wp_region_wd (by kernel_rfl) (by kernel_rfl) ?_
          repeat (go_big_quiet_step ((first | (fail))))
          refine wpQuiet_nil ?_
          rintro w2 ⟨⟨wx, hb_w2⟩, hwx⟩
          obtain rfl : w2 = wx := hwx
          clear hq_w1
          obtain ⟨hc_w2, hf_w2⟩ := bcell hb_w2
          have hB_w2 : Below w.heap.size w w2 := Below.trans (by go_grown) (hb_w2.mono (by go_size))
          have hs_w2_0 : b < w2.heap.size := Nat.lt_of_lt_of_le (by assumption) hb_w2.size
          have hs_w2_1 : w.heap.size < w2.heap.size := Nat.lt_of_lt_of_le (by assumption) hb_w2.size
          go_wp2_with fail
          refine bodyPost_ret (by simp [results, Try.results14, go_sem, *]; try rfl) rfl ?_
          exact ⟨.inl rfl, by go_grown⟩
      · obtain rfl : k = L := by omega
        go_wp2_with fail
        refine bodyPost_ret (by simp [results, Try.results14, go_sem, *]; try rfl) rfl ?_
        exact ⟨.inr ⟨_, qs, rfl, hql, HS.out, HI.out, ptsAt_of_own hown hql⟩, hB_wr⟩

end Go.Proofs.Ytohnglcdophkfaa
