/-
  The law HullThin's body, walked.
-/
import Derived.Test.YtcpojadinkonnaaThinP4
import Derived.Test.YtcpojadinkonnaaLent2
namespace Go.Proofs.Ytcpojadinkonnaa
open Go.RowKit

theorem tlist_few (ps : List Pt) (t : Int) : (tlist ps t).length ≤ 4096 := by
  by_cases h : tcode ps t = 0
  · rw [tlist_ok h]
    unfold thinF
    refine Nat.le_trans (leftF_length _ _ _) ?_
    unfold tcode at h
    by_cases h1 : 4096 < ps.length
    · rw [if_pos h1] at h; omega
    · omega
  · rw [tlist_bad rfl h]; simp
theorem own_other {W W' : World} {b b' : Nat} {e e' : TypeId} {size size' n n' : Nat} {v v' : Value} {xs xs' : List Value} (h : W.ownsRow b e size v n xs) (h' : W'.ownsRow b' e' size' v' n' xs') (hB : W'.heap.size ≤ b) {W2 : World} (hg : W.grownBy W2 v'.ownBlock) : W2.ownsRow b e size v n xs := by
  refine h.kept hg ?_
  cases hv : v.ownBlock with
  | none => exact .inl rfl
  | some k =>
    refine .inr fun he => ?_
    have h1 := own_ge h k hv
    have h2 := (World.ownsRow.lt h' k he.symm).2
    omega

set_option maxRecDepth 100000 in
set_option maxHeartbeats 4000000 in
theorem hullThin_core (w : World) (A : Option Addr) (l c : Nat) (ps : List Pt) (t : Int) (hl : ps.length = l) (hreach : ps.length * 8 ≤ 140737488351232) (hI : PtsAt w.heap.size w (.slice A l c) ps) :
    Calls Try.prog 4 #[.slice A l c, .int .i64 t] w fun e w' => e = .returned (.bool true) ∧ Below w.heap.size w w' := by
  subst hl
  have HL := Lib.hid (fun W (h : Below w.heap.size w W) => lent_any _ ps w.heap.size hreach W (hI.below h))
  have HR := Lib.hid (fun W (h : Below w.heap.size w W) => refThin ps t w.heap.size A c W (hI.below h) h.size)
  have HPI := Lib.hid (fun W (h : Below w.heap.size w W) => hI.below h)
  have HF := Lib.hid (tlist_few ps t)
  have hr8 : ps.length * 8 ≤ 140737488355328 := by omega
  obtain ⟨z, hz⟩ : ∃ z, tcode ps t = z := ⟨_, rfl⟩
  obtain ⟨ls, hls⟩ : ∃ z, tlist ps t = z := ⟨_, rfl⟩
  rw [hls] at HF
  have HT := Lib.hid (fun W e W' (h : ThinSays ps t W e W') => (show ∃ v, e = .returned (.tuple #[v, .int .i64 z]) ∧ W'.ownsRow W.heap.size 32 2 v ls.length (flat ls) ∧ Below W.heap.size W W' by rw [← hz, ← hls]; exact h))
  clear hz hls
  clear hI
  rcases Nat.lt_or_ge 80 ps.length with h80 | h80
  all_goals rcases Nat.lt_or_ge 4096 ps.length with h4 | h4
  case inl.inr =>
    have h80I : (80 : Int) < (ps.length : Int) := by omega
    have h4I : (ps.length : Int) ≤ 4096 := by omega
    go_enter Try.func4, Try.ntmps4
    go_wp2_with fail
    go_ret
    exact ⟨rfl, Below.refl _ _⟩
  case inr.inl => omega
  all_goals
    try have h80I : (80 : Int) < (ps.length : Int) := by omega
    try have h80I : ¬ (80 : Int) < (ps.length : Int) := by omega
    try have h4I : ¬ (ps.length : Int) ≤ 4096 := by omega
    try have h4I : (ps.length : Int) ≤ 4096 := by omega
    go_enter Try.func4, Try.ntmps4
    go_wp2_with fail
    refine (HL.out _ (Below.refl _ _)).mono ?_
    rintro e w1 ⟨g0, cap0, rfl, hg0, hL0, hb1⟩
    have H1 := Lib.hid (And.intro hL0 hb1)
    have hz1 := hb1.size
    clear hg0 hL0 hb1
    go_wp2_with fail
    refine (hullThin ps t w1.heap.size _ cap0 w1 H1.out.1.pts (Nat.le_refl _) (fun _ h => by cases h)).mono ?_
    intro e w2 hT2
    obtain ⟨v2, rfl, hown2, hb2⟩ := HT.out _ _ _ hT2
    have H2 := Lib.hid (And.intro hown2 (And.intro hb2 (H1.out.2.trans (hb2.mono hz1))))
    have hz2 := hb2.size
    clear hown2 hb2 hT2
    go_wp2_with fail
    refine (HR.out w2 H2.out.2.2).mono ?_
    intro e w3 hT3
    obtain ⟨v3, rfl, hown3, hb3⟩ := HT.out _ _ _ hT3
    have H3 := Lib.hid (And.intro hown3 (And.intro (own_keep H2.out.1 hb3) (And.intro hb3 (H2.out.2.2.trans (hb3.mono (Nat.le_trans hz1 hz2))))))
    have hz3 := hb3.size
    clear hown3 hb3 hT3
    go_wp2_with fail
    refine (same10_any v2 v3 ls w3.heap.size (by have := HF.out; omega) w3 (Nat.le_refl _) (ptsAt_of_own H3.out.2.1 rfl) (ptsAt_of_own H3.out.1 rfl)).mono ?_
    rintro e w4 ⟨rfl, hb4⟩
    have H4 := Lib.hid (And.intro (own_keep H3.out.1 hb4) (And.intro (own_keep H3.out.2.1 hb4) (And.intro hb4 (H3.out.2.2.2.trans (hb4.mono (Nat.le_trans hz1 (Nat.le_trans hz2 hz3)))))))
    have hz4 := hb4.size
    clear hb4
    go_wp2_with fail
    have h14 : Below w1.heap.size w1 w4 := H2.out.2.1.trans ((H3.out.2.2.1.mono hz2).trans (H4.out.2.2.1.mono (Nat.le_trans hz2 hz3)))
    have hL4 := H1.out.1.below h14 H1.out.1.lt
    have HW4 := Lib.hid (And.intro h14 hL4)
    clear h14 hL4
    refine (left_any g0 cap0 _ ps w1.heap.size hr8 w4 (by omega) H1.out.1.lt HW4.out.2 ((HPI.out w4 H4.out.2.2.2).up hz1)).mono ?_
    rintro e w5 ⟨rfl, hb5⟩
    have H5 := Lib.hid (And.intro (own_keep H4.out.1 hb5) (And.intro (own_keep H4.out.2.1 hb5) (HW4.out.1.trans (hb5.mono (by omega)))))
    have hz5 := hb5.size
    clear hb5
    go_wp2_with fail
    refine (spoilt_any v2 ls.length w1.heap.size (flat ls) w5 HF.out H5.out.2.1 (by omega)).mono ?_
    rintro e w6 ⟨⟨u6, rfl⟩, hg6⟩
    have hb16 := H5.out.2.2.grown hg6 (by omega) (own_ge H2.out.1)
    have hL6 := H1.out.1.below hb16 H1.out.1.lt
    have H6 := Lib.hid (And.intro (own_other H5.out.1 H2.out.1 (Nat.le_refl _) hg6) (And.intro hb16 hL6))
    have hz6 := hg6.size
    clear hg6 hb16 hL6
    go_wp2_with fail
    refine (hullThin ps t w6.heap.size _ cap0 w6 H6.out.2.2.pts (Nat.le_refl _) (fun _ h => by cases h)).mono ?_
    intro e w7 hT7
    obtain ⟨v7, rfl, hown7, hb7⟩ := HT.out _ _ _ hT7
    have hb17 := H6.out.2.1.trans (hb7.mono (by omega : w1.heap.size ≤ w6.heap.size))
    have H7 := Lib.hid (And.intro hown7 (And.intro (own_keep H6.out.1 hb7) hb17))
    have hz7 := hb7.size
    clear hown7 hb7 hT7 hb17
    go_wp2_with fail
    refine (same10_any v7 v3 ls w7.heap.size (by have := HF.out; omega) w7 (Nat.le_refl _) (ptsAt_of_own H7.out.1 rfl) (ptsAt_of_own H7.out.2.1 rfl)).mono ?_
    rintro e w8 ⟨rfl, hb8⟩
    have hb18 := H7.out.2.2.trans (hb8.mono (by omega : w1.heap.size ≤ w7.heap.size))
    have H8 := Lib.hid (And.intro hb18 (H1.out.1.below hb18 H1.out.1.lt))
    have hz8 := hb8.size
    clear hb18 hb8
    go_wp2_with fail
    refine (left_any g0 cap0 _ ps w1.heap.size hr8 w8 (by omega) H1.out.1.lt H8.out.2 ((HPI.out w8 (H1.out.2.trans (H8.out.1.mono hz1))).up hz1)).mono ?_
    rintro e w9 ⟨rfl, hb9⟩
    have H9 := Lib.hid (H8.out.1.trans (hb9.mono (by omega : w1.heap.size ≤ w8.heap.size)))
    clear hb9
    go_wp2_with fail
    go_ret
    exact ⟨rfl, H1.out.2.trans (H9.out.mono hz1)⟩

end Go.Proofs.Ytcpojadinkonnaa
