/-
  Plain: the hull of a hull is that hull.
-/
import Derived.Test.YtcpojadinkonnaaHullP
namespace Go.Proofs.Ytcpojadinkonnaa
open Go.RowKit

theorem walk_unique {l H H' : List Pt} (h : HullIs l H) (h' : HullIs l H') (h0 : gp l 0 ∈ l) : H = H' := by
  have hm : ∀ {K : List Pt}, HullIs l K → ∀ i, i ≤ K.length → gp (K ++ [gp l 0]) i ∈ l := fun {K} hK i hi => by
    rcases Nat.lt_or_ge i K.length with h1 | h1
    · rw [gp_app_lt h1]; exact hK.mem _ (gp_mem h1)
    · obtain rfl : i = K.length := by omega
      rw [gp_app_ge]; exact h0
  have key : ∀ i, i ≤ H.length → i ≤ H'.length → gp (H ++ [gp l 0]) i = gp (H' ++ [gp l 0]) i := by
    intro i
    induction i with
    | zero => intro _ _; rw [gp_app_lt h.pos, gp_app_lt h'.pos, h.first, h'.first]
    | succ i ih =>
      intro h1 h2
      have e := ih (by omega) (by omega)
      have w1 := h.walk i (by omega)
      have w2 := h'.walk i (by omega)
      rw [← gp_app_lt (y := [gp l 0]) (show i < H.length by omega), e] at w1
      rw [← gp_app_lt (y := [gp l 0]) (show i < H'.length by omega)] at w2
      exact fol_one (hm h _ h1) (hm h' _ h2) w1 w2
  have hl : H.length = H'.length := by
    rcases Nat.lt_trichotomy H.length H'.length with h1 | h1 | h1
    · have e := key H.length (Nat.le_refl _) (by omega)
      rw [gp_app_ge, gp_app_lt h1] at e
      exact absurd e.symm (h'.back _ h.pos h1)
    · exact h1
    · have e := key H'.length (by omega) (Nat.le_refl _)
      rw [gp_app_ge, gp_app_lt h1] at e
      exact absurd e (h.back _ h'.pos h1)
  refine gp_eq hl fun k hk => ?_
  have e := key k (by omega) (by omega)
  rwa [gp_app_lt hk, gp_app_lt (by omega)] at e
theorem fol_sub {l k : List Pt} (h : ∀ x ∈ k, x ∈ l) {a b : Pt} (hf : fol l a b = true) : fol k a b = true := by
  rw [fol_iff] at *
  exact ⟨hf.1, fun q hq => hf.2 q (h q hq)⟩
theorem asc_nodup {l : List Pt} (h : Asc l) : l.Nodup := by
  refine List.Pairwise.imp (S := fun a b => a ≠ b) (fun {a b} hl e => ?_) h
  subst e
  exact lt_irrefl _ hl
theorem asc_ord {l : List Pt} (h : Asc l) : Ord l := by
  unfold Ord
  exact List.Pairwise.imp (fun {a b} hl => by
    rw [← Bool.not_eq_true, ← lt_pLt]
    exact lt_asym hl) h
theorem dd_asc (l : List Pt) : Asc l → dd l = l := by
  refine snoc_ind (P := fun l => Asc l → dd l = l) (fun _ => rfl) (fun l p ih => ?_) l
  intro ha
  obtain ⟨h1, h2⟩ := asc_snoc ha
  rw [dd_snoc, ih h1, if_neg]
  intro e
  exact lt_irrefl p (h2 p (List.mem_of_getLast? e))
theorem srt_asc {l : List Pt} (h : Asc l) : dd (srt l) = l := by
  rw [← srt_eq (List.Perm.refl l) (asc_ord h), dd_asc l h]
theorem hullF_mem {l : List Pt} (ha : Asc l) : ∀ x ∈ hullF l, x ∈ l := fun x hx => by
  unfold hullF at hx
  split at hx
  · exact hx
  · exact (hull_is ha (by omega)).mem x hx
theorem hullL_mem (ps : List Pt) : ∀ x ∈ hullL ps, x ∈ ps := fun x hx => ((dd_srt ps).2 x).1 (hullF_mem (dd_srt ps).1 x hx)
theorem hullF_len {l : List Pt} (ha : Asc l) : (hullF l).length ≤ l.length := by
  unfold hullF
  split
  · exact Nat.le_refl _
  · exact (hull_is ha (by omega)).len
theorem hullL_len (ps : List Pt) : (hullL ps).length ≤ ps.length := Nat.le_trans (hullF_len (dd_srt ps).1) (dd_srt_len ps)
/-- The hull's corners are the hull of whatever points of the row they are among, and that are among the row. -/
theorem hull_part {l l' H : List Pt} (hl : HullIs l H) (ha' : Asc l') (h1 : ∀ x ∈ H, x ∈ l') (h2 : ∀ x ∈ l', x ∈ l) (hasc : Asc l) (hn : 2 ≤ l.length) (h3 : 3 ≤ l'.length) : hullF l' = H := by
  obtain ⟨z, e0, _, _, _, hmin⟩ := asc_ends hasc hn
  obtain ⟨z', e0', _, _, _, hmin'⟩ := asc_ends ha' (by omega)
  have hs : gp l' 0 = gp l 0 := by
    have m1 : gp l' 0 ∈ l' := gp_mem (by omega)
    have m2 : gp l 0 ∈ l' := h1 _ (by rw [← hl.first]; exact gp_mem hl.pos)
    rcases hmin _ (h2 _ m1) with h | h
    · exact h
    · rcases hmin' _ m2 with k | k
      · exact k.symm
      · exact absurd k (lt_asym h)
  have hH : HullIs l' H := ⟨fun i hi => by rw [hs]; exact fol_sub h2 (hl.walk i hi), h1, by rw [hs]; exact hl.first, hl.pos, fun i k1 k2 => by rw [hs]; exact hl.back i k1 k2, len_le H l' hl.nodup h1, hl.nodup⟩
  have hF : hullF l' = (chainF l').reverse.dropLast ++ (chainF l'.reverse).reverse.dropLast := if_neg (by omega)
  rw [hF]
  exact walk_unique (hull_is ha' (by omega)) hH (gp_mem (by omega))
theorem hull_again (ps : List Pt) : hullL (hullL ps) = hullL ps := by
  obtain ⟨hasc, hmem⟩ := dd_srt ps
  obtain ⟨l, hl⟩ : ∃ l, dd (srt ps) = l := ⟨_, rfl⟩
  have hH : hullL ps = hullF l := by unfold hullL; rw [hl]
  rw [hl] at hasc
  rw [hH]
  by_cases h3 : l.length < 3
  · have hF : hullF l = l := if_pos h3
    rw [hF]
    unfold hullL
    rw [srt_asc hasc, hF]
  · have hF : hullF l = (chainF l).reverse.dropLast ++ (chainF l.reverse).reverse.dropLast := if_neg h3
    have HI := hull_is hasc (show 2 ≤ l.length by omega)
    obtain ⟨t1, t2⟩ := chain_two hasc (show 2 ≤ l.length by omega)
    have hlen : 2 ≤ (hullF l).length := by
      rw [hF, List.length_append, List.length_dropLast, List.length_dropLast, List.length_reverse, List.length_reverse]
      omega
    rw [← hF] at HI
    obtain ⟨H, hHe⟩ : ∃ H, hullF l = H := ⟨_, rfl⟩
    rw [hHe] at HI hlen ⊢
    obtain ⟨ha', hm'⟩ := dd_srt H
    obtain ⟨l', hl'⟩ : ∃ l', dd (srt H) = l' := ⟨_, rfl⟩
    rw [hl'] at ha' hm'
    have hll : l'.length = H.length := Nat.le_antisymm (len_le l' H (asc_nodup ha') fun x hx => (hm' x).1 hx) (len_le H l' HI.nodup fun x hx => (hm' x).2 hx)
    have hLl : hullL H = hullF l' := by unfold hullL; rw [hl']
    rw [hLl]
    rcases Nat.lt_or_ge H.length 3 with h4 | h4
    · have hF' : hullF l' = l' := if_pos (by omega)
      rw [hF']
      match H, l', hlen, h4, hll, HI, ha', hm' with
      | [h0, h1], [k0, k1], _, _, _, HI, ha', hm' =>
        obtain ⟨_, _, _, _, _, hmin⟩ := asc_ends hasc (show 2 ≤ l.length by omega)
        have e0 : h0 = gp l 0 := HI.first
        have hk : Lt k0 k1 := (List.pairwise_cons.1 ha').1 k1 (by simp)
        have hk0 : k0 = h0 ∨ k0 = h1 := by simpa using (hm' k0).1 (by simp)
        have hk1 : k1 = h0 ∨ k1 = h1 := by simpa using (hm' k1).1 (by simp)
        have hmin1 := hmin k0 (HI.mem k0 ((hm' k0).1 (by simp)))
        rcases hk1 with hk1 | hk1
        · rw [hk1, e0] at hk
          rcases hmin1 with h | h
          · rw [h] at hk; exact absurd hk (lt_irrefl _)
          · exact absurd hk (lt_asym h)
        · rcases hk0 with hk0 | hk0
          · rw [hk0, hk1]
          · rw [hk0, hk1] at hk
            exact absurd hk (lt_irrefl _)
    · exact hull_part HI ha' (fun x hx => (hm' x).2 hx) (fun x hx => HI.mem x ((hm' x).1 hx)) hasc (by omega) (by omega)

end Go.Proofs.Ytcpojadinkonnaa
