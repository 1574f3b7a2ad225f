/-
  Plain: what the hull of points is, told point by point; points within it add nothing.
-/
import Derived.Test.YtcpojadinkonnaaHasM
namespace Go.Proofs.Ytcpojadinkonnaa
open Go.RowKit

theorem hullL_set {ps qs : List Pt} (h : ∀ x, x ∈ ps ↔ x ∈ qs) : hullL ps = hullL qs := by
  obtain ⟨a1, m1⟩ := dd_srt ps
  obtain ⟨a2, m2⟩ := dd_srt qs
  unfold hullL
  rw [asc_ext a1 a2 (fun x => by rw [m1, m2, h])]
/-- The hull of at least three points each once is a walk of followers, else it is those points. -/
theorem hullL_is (ps : List Pt) : ∃ l, Asc l ∧ (∀ x, x ∈ l ↔ x ∈ ps) ∧ ((l.length < 3 ∧ hullL ps = l) ∨ (3 ≤ l.length ∧ HullIs l (hullL ps) ∧ 2 ≤ (hullL ps).length)) := by
  obtain ⟨hasc, hmem⟩ := dd_srt ps
  obtain ⟨l, hl⟩ : ∃ l, dd (srt ps) = l := ⟨_, rfl⟩
  have hH : hullL ps = hullF l := by unfold hullL; rw [hl]
  rw [hl] at hasc hmem
  refine ⟨l, hasc, hmem, ?_⟩
  rw [hH]
  by_cases h3 : l.length < 3
  · exact .inl ⟨h3, if_pos h3⟩
  · have hF : hullF l = (chainF l).reverse.dropLast ++ (chainF l.reverse).reverse.dropLast := if_neg h3
    obtain ⟨t1, t2⟩ := chain_two hasc (show 2 ≤ l.length by omega)
    refine .inr ⟨by omega, by rw [hF]; exact hull_is hasc (by omega), ?_⟩
    rw [hF, List.length_append, List.length_dropLast, List.length_dropLast, List.length_reverse, List.length_reverse]
    omega
theorem hullL_nodup (ps : List Pt) : (hullL ps).Nodup := by
  obtain ⟨l, ha, _, ⟨_, e⟩ | ⟨_, HI, _⟩⟩ := hullL_is ps
  · rw [e]; exact asc_nodup ha
  · exact HI.nodup
theorem hullL_pos {ps : List Pt} (h : 0 < ps.length) : 0 < (hullL ps).length := by
  obtain ⟨l, ha, hm, ⟨_, e⟩ | ⟨_, HI, _⟩⟩ := hullL_is ps
  · rw [e]
    have : gp ps 0 ∈ l := (hm _).2 (gp_mem h)
    exact List.length_pos_of_mem this
  · exact HI.pos
theorem hullL_min (ps : List Pt) : ∀ x ∈ hullL ps, gp (hullL ps) 0 = x ∨ Lt (gp (hullL ps) 0) x := by
  obtain ⟨l, ha, _, ⟨_, e⟩ | ⟨h3, HI, _⟩⟩ := hullL_is ps
  · rw [e]
    intro x hx
    cases l with
    | nil => cases hx
    | cons a t =>
      rcases List.mem_cons.1 hx with h | h
      · exact .inl h.symm
      · exact .inr ((List.pairwise_cons.1 ha).1 x h)
  · intro x hx
    obtain ⟨_, _, _, _, _, hmin⟩ := asc_ends ha (show 2 ≤ l.length by omega)
    rw [HI.first]
    rcases hmin x (HI.mem x hx) with h | h
    · exact .inl h.symm
    · exact .inr h
theorem hullL_cmp (ps : List Pt) (i : Nat) (h : i < (hullL ps).length) : ptCmp (gp (hullL ps) 0).1 (gp (hullL ps) 0).2 (gp (hullL ps) i).1 (gp (hullL ps) i).2 ≤ 0 := by
  rcases hullL_min ps _ (gp_mem h) with h1 | h1
  · rw [h1]; unfold ptCmp; (repeat' split) <;> omega
  · unfold Lt at h1
    unfold ptCmp
    rw [if_pos h1]
    omega
theorem hullL_turn (ps : List Pt) (h3 : 2 < (hullL ps).length) (i : Nat) (h : i < (hullL ps).length) : 0 < tr (gp (hullL ps) i) (gp (hullL ps) ((i + 1) % (hullL ps).length)) (gp (hullL ps) ((i + 2) % (hullL ps).length)) := by
  obtain ⟨l, ha, _, ⟨h4, e⟩ | ⟨_, HI, _⟩⟩ := hullL_is ps
  · rw [e] at h3; omega
  · exact corner_left HI h3 h

/-- A hull has each of its points. -/
theorem has_own (ps : List Pt) : ∀ p ∈ ps, hasF (hullL ps) p = true := by
  intro p hp
  obtain ⟨l, ha, hm, ⟨h3, e⟩ | ⟨h3, HI, h2⟩⟩ := hullL_is ps
  · rw [e]
    have hpl : p ∈ l := (hm p).2 hp
    match l, h3, hpl with
    | [a], _, hpl =>
      rw [List.mem_singleton] at hpl
      subst hpl
      exact onT_self p p
    | [a, b], _, hpl =>
      simp only [List.mem_cons, List.not_mem_nil, or_false] at hpl
      show onT p a b = true
      rcases hpl with rfl | rfl
      · exact onT_self p b
      · exact onT_end p a
  · have hpl : p ∈ l := (hm p).2 hp
    obtain ⟨H, hH⟩ : ∃ H, hullL ps = H := ⟨_, rfl⟩
    rw [hH] at HI h2 ⊢
    rcases Nat.lt_or_ge H.length 3 with h4 | h4
    · match H, h2, h4, HI with
      | [a, b], _, _, HI =>
        show onT p a b = true
        have f1 : fol l a b = true := walk_at HI (i := 0) (by simp)
        have f2 := walk_at HI (i := 1) (by simp)
        have e2 : (1 + 1) % ([a, b] : List Pt).length = 0 := by simp
        rw [e2] at f2
        have f2' : fol l b a = true := f2
        rw [fol_iff] at f1 f2'
        obtain ⟨n1, n2⟩ := f1.2 p hpl
        obtain ⟨n3, _⟩ := f2'.2 p hpl
        rw [tr_turn] at n3
        rcases n2 (by omega) with n4 | n4
        · rw [n4]; exact onT_self a b
        · exact n4
    · unfold hasF
      rw [if_neg (by omega), if_neg (by omega), leftAll_iff]
      exact fun i hi => (((fol_iff _ _ _).1 (walk_at HI hi)).2 p hpl).1

theorem asc_last {l : List Pt} {z : Pt} (ha : Asc l) (ez : l.getLast? = some z) : ∀ q ∈ l, q = z ∨ Lt q z := fun q hq => by
  have hs := split_last ez
  rw [hs] at ha hq
  rcases List.mem_append.1 hq with h | h
  · exact .inr ((asc_snoc ha).2 q h)
  · rw [List.mem_singleton] at h; exact .inl h

/-- Points within a hull add nothing to it. -/
theorem hull_all (ps all : List Pt) (h1 : ∀ x ∈ ps, x ∈ all) (h2 : ∀ x ∈ all, hasF (hullL ps) x = true) : hullL all = hullL ps := by
  have hH1 : ∀ x ∈ hullL ps, x ∈ all := fun x hx => h1 x (hullL_mem ps x hx)
  have hnd := hullL_nodup ps
  have hmin := hullL_min ps
  have his := hullL_is ps
  obtain ⟨ha', hm'⟩ := dd_srt all
  have eL : hullL all = hullF (dd (srt all)) := rfl
  rw [eL]
  obtain ⟨l', hl'⟩ : ∃ l', dd (srt all) = l' := ⟨_, rfl⟩
  rw [hl'] at ha' hm' ⊢
  obtain ⟨H, hH⟩ : ∃ H, hullL ps = H := ⟨_, rfl⟩
  rw [hH] at h2 hH1 hnd hmin his ⊢
  rcases Nat.lt_or_ge H.length 3 with h3 | h3
  · match H, h3, h2, hH1, hnd, hmin with
    | [], _, h2, _, _, _ =>
      have : l' = [] := by
        cases l' with
        | nil => rfl
        | cons x t => have := h2 x ((hm' x).1 (by simp)); cases this
      rw [this]; rfl
    | [a], _, h2, hH1, _, _ =>
      have e : l' = [a] := asc_ext ha' (List.pairwise_singleton _ _) (fun x => by
        rw [hm', List.mem_singleton]
        constructor
        · intro hx
          have : onT x a a = true := h2 x hx
          have h5 := on_back this
          exact Prod.ext (by omega) (by omega)
        · intro hx; rw [hx]; exact hH1 a (by simp))
      rw [e]; rfl
    | [a, b], _, h2, hH1, hnd, hmin =>
      have hab : Lt a b := by
        rcases hmin b (by simp) with h | h
        · exact absurd h (fun e => by have := List.nodup_cons.1 hnd; exact this.1 (by rw [show a = b from e]; simp))
        · exact h
      have on : ∀ x ∈ all, onT x a b = true := fun x hx => h2 x hx
      have ma : a ∈ l' := (hm' a).2 (hH1 a (by simp))
      have mb : b ∈ l' := (hm' b).2 (hH1 b (by simp))
      have low : ∀ x ∈ l', x = a ∨ Lt a x := fun x hx => by
        by_cases e : x = a
        · exact .inl e
        · by_cases e' : x = b
          · rw [e']; exact .inr hab
          · exact .inr (on_between hab (on x ((hm' x).1 hx)) e e').1
      have high : ∀ x ∈ l', x = b ∨ Lt x b := fun x hx => by
        by_cases e : x = a
        · rw [e]; exact .inr hab
        · by_cases e' : x = b
          · exact .inl e'
          · exact .inr (on_between hab (on x ((hm' x).1 hx)) e e').2
      have h2' : 2 ≤ l'.length := by
        have := len_le [a, b] l' hnd (fun x hx => (hm' x).2 (hH1 x hx))
        simpa using this
      obtain ⟨z, e0, ez, _, hlt, hmin'⟩ := asc_ends ha' h2'
      have ea : gp l' 0 = a := by
        rcases hmin' a ma with h | h
        · exact h.symm
        · rcases low (gp l' 0) (gp_mem (by omega)) with k | k
          · exact k
          · exact absurd h (lt_asym k)
      have eb : z = b := by
        rcases asc_last ha' ez b mb with h | h
        · exact h.symm
        · rcases high z (List.mem_of_getLast? ez) with k | k
          · exact k
          · exact absurd h (lt_asym k)
      rcases Nat.lt_or_ge l'.length 3 with q3 | q3
      · have hF : hullF l' = l' := if_pos q3
        rw [hF]
        match l', h2', q3, e0, ez, ea with
        | [k0, k1], _, _, _, ez, ea =>
          have k0a : k0 = a := ea
          have k1z : k1 = z := by simpa using ez
          rw [k0a, k1z, eb]
      · have hF : hullF l' = (chainF l').reverse.dropLast ++ (chainF l'.reverse).reverse.dropLast := if_neg (by omega)
        rw [hF, hull_flat ha' h2' ez (fun q hq => by rw [ea, eb]; exact ((onT_iff _ _ _).1 (on q ((hm' q).1 hq))).2.2), ea, eb]
  · obtain ⟨l, ha, _, ⟨h4, e⟩ | ⟨h4, HI, _⟩⟩ := his
    · rw [e] at h3; omega
    · refine hull_more HI ha (by omega) h3 ha' (fun x hx => (hm' x).2 (hH1 x hx)) fun x hx => ?_
      have := h2 x ((hm' x).1 hx)
      unfold hasF at this
      rw [if_neg (by omega), if_neg (by omega)] at this
      exact this

end Go.Proofs.Ytcpojadinkonnaa
