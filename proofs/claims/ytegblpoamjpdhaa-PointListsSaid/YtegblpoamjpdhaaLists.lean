/-
  The law PointLists' body, walked.
-/
import Derived.Test.YtegblpoamjpdhaaSorted
import Derived.Test.YtegblpoamjpdhaaBoundP
import Derived.Test.YtegblpoamjpdhaaSpo
namespace Go.Proofs.Ytegblpoamjpdhaa
open Go.RowKit

theorem own_keepL {W W' : World} {b n : Nat} {v : Value} {e : TypeId} {xs : List Value} (h : W.ownsRow b e 2 v n xs) (hb : Below W.heap.size W W') : W'.ownsRow b e 2 v n xs :=
  World.ownsRow.kept (row := none) h ⟨hb.os, hb.tape, hb.output, hb.size, fun k hk _ => hb.block k hk⟩ (by cases v.ownBlock <;> simp)
theorem own_otherL {W W' : World} {b b' : Nat} {e e' : TypeId} {size size' n n' : Nat} {v v' : Value} {xs xs' : List Value} (h : W.ownsRow b e size v n xs) (h' : W'.ownsRow b' e' size' v' n' xs') (hB : W.heap.size ≤ b') {W2 : World} (hg : W'.grownBy W2 v'.ownBlock) (hk : W'.ownsRow b e size v n xs) : W2.ownsRow b e size v n xs := by
  refine hk.kept hg ?_
  cases hv : v.ownBlock with
  | none => exact .inl rfl
  | some k =>
    refine .inr fun he => ?_
    have h1 := (h.lt k hv).2
    have h2 := own_ge h' k he.symm
    omega
theorem pts_of {M n c : Nat} {A : Option Addr} {ps : List Pt} {W : World} (h : PtsAt M W (.slice A n c) ps) (hM : M ≤ W.heap.size) : Pts W A ps := fun i p hp => by
  have hlt : i < ps.length := (List.getElem?_eq_some_iff.1 hp).1
  rcases h with ⟨_, rfl⟩ | ⟨b, off, cap, he, hb, hc⟩
  · simp at hlt
  · injection he with hA
    subst hA
    have e : gp ps i = p := by unfold gp; rw [hp]; rfl
    obtain ⟨h1, h2⟩ := hc i hlt
    rw [e] at h1 h2
    exact ⟨b, off, rfl, by omega, h1, h2⟩

set_option maxRecDepth 100000 in
set_option maxHeartbeats 4000000 in
theorem pointLists_core (w : World) (A : Option Addr) (l c : Nat) (ps : List Pt) (hl : ps.length = l) (hreach : ps.length * 8 ≤ 140737488351232) (hI : PtsAt w.heap.size w (.slice A l c) ps) :
    Calls Try.prog 8 #[.slice A l c] w fun e w' => e = .returned (.bool true) ∧ Below w.heap.size w w' := by
  subst hl
  have HL := Lib.hid (fun W (h : Below w.heap.size w W) => lent_any _ ps w.heap.size hreach W (hI.below h))
  have HR := Lib.hid (fun W (h : Below w.heap.size w W) => sorted_ref ps w.heap.size A c ps.length rfl (by omega) W (hI.below h) h.size)
  have HPI := Lib.hid (fun W (h : Below w.heap.size w W) => hI.below h)
  have hr8 : ps.length * 8 ≤ 140737488355328 := by omega
  obtain ⟨⟨q0, q1, q2, q3⟩, hq⟩ : ∃ z, bnd ps = z := ⟨_, rfl⟩
  have HB := Lib.hid (fun W (h : Below w.heap.size w W) => bounds_ref (n := ps.length) (c := c) (pts_of hI (Nat.le_refl _)) rfl (by omega) hq W h)
  have HQ := Lib.hid hq
  clear hI hq
  go_enter Try.func8, Try.ntmps8
  go_wp2_with fail
  refine (HL.out _ (Below.refl _ _)).mono ?_
  rintro e w1 ⟨g0, cap0, rfl, hg0, hL0, hb1⟩
  have H1 := Lib.hid (And.intro hL0 hb1)
  have hz1 := hb1.size
  clear hg0 hL0 hb1
  go_wp2_with fail
  refine (HR.out w1 H1.out.2).mono ?_
  rintro e w2 ⟨v2, qs, rfl, hp2, ho2, hown2, hb2⟩
  have hql : qs.length = ps.length := hp2.length_eq
  have hL2 := H1.out.1.below hb2 H1.out.1.lt
  have H2 := Lib.hid (And.intro hown2 (And.intro hb2 (And.intro (H1.out.2.trans (hb2.mono hz1)) (And.intro hL2 (And.intro hp2 ho2)))))
  have hz2 := hb2.size
  clear hown2 hb2 hL2 hp2 ho2
  go_wp2_with fail
  refine (sorted_any w2.heap.size cap0 ps.length _ ps rfl w2 H2.out.2.2.2.1.pts (Nat.le_refl _) hr8).mono ?_
  rintro e w3 ⟨A3, c3, qs', rfl, hp3, ho3, hown3, hb3⟩
  obtain rfl : qs' = qs := ord_unique (hp3.trans H2.out.2.2.2.2.1.symm) ho3 H2.out.2.2.2.2.2
  have hb13 : Below w1.heap.size w1 w3 := H2.out.2.1.trans (hb3.mono hz2)
  have H3 := Lib.hid (And.intro hown3 (And.intro (own_keepL H2.out.1 hb3) (And.intro hb13 (H1.out.1.below hb13 H1.out.1.lt))))
  have hz3 := hb3.size
  clear hown3 hb3 hp3 ho3 hb13
  go_wp2_with fail
  refine (same_any (.slice A3 ps.length c3) v2 qs' w3.heap.size (by omega) w3 (Nat.le_refl _) (ptsAt_of_own H3.out.1 hql) (ptsAt_of_own H3.out.2.1 hql)).mono ?_
  rintro e w4 ⟨rfl, hb4⟩
  have hb14 := H3.out.2.2.1.trans (hb4.mono (by omega : w1.heap.size ≤ w3.heap.size))
  have H4 := Lib.hid (And.intro (own_keepL H3.out.1 hb4) (And.intro (own_keepL H3.out.2.1 hb4) (And.intro hb14 (H1.out.1.below hb14 H1.out.1.lt))))
  have hz4 := hb4.size
  clear hb4 hb14
  go_wp2_with fail
  refine (left_any g0 cap0 _ ps w1.heap.size hr8 w4 (by omega) H1.out.1.lt H4.out.2.2.2 ((HPI.out w4 (H1.out.2.trans (H4.out.2.2.1.mono hz1))).up hz1)).mono ?_
  rintro e w5 ⟨rfl, hb5⟩
  have hb15 := H4.out.2.2.1.trans (hb5.mono (by omega : w1.heap.size ≤ w4.heap.size))
  have H5 := Lib.hid (And.intro (own_keepL H4.out.1 hb5) (And.intro (own_keepL H4.out.2.1 hb5) hb15))
  have hz5 := hb5.size
  clear hb5 hb15
  go_wp2_with fail
  refine (spoilt_any (.slice A3 ps.length c3) ps.length w2.heap.size (flat qs') w5 hreach H5.out.1 (by omega)).mono ?_
  rintro e w6 ⟨⟨u6, rfl⟩, hg6⟩
  have hb16 := H5.out.2.2.grown hg6 (by omega) (fun k e => Nat.le_trans hz2 (own_ge H5.out.1 k e))
  have hL6 := H1.out.1.below hb16 H1.out.1.lt
  have H6 := Lib.hid (And.intro (own_otherL H2.out.1 H5.out.1 (Nat.le_refl _) hg6 H5.out.2.1) (And.intro hb16 hL6))
  have hz6 := hg6.size
  clear hg6 hb16 hL6
  go_wp2_with fail
  refine (bounds_any ps w6.heap.size _ cap0 ps.length rfl (by omega) HQ.out w6 H6.out.2.2.pts (Nat.le_refl _) (by have := H6.out.2.2.cap; omega) (by have := H6.out.2.2.cap; omega)).mono ?_
  rintro e w7 ⟨rfl, hb7⟩
  have hb17 := H6.out.2.1.trans (hb7.mono (by omega : w1.heap.size ≤ w6.heap.size))
  have hz7 := hb7.size
  have H7 := Lib.hid (And.intro (own_keepL H6.out.1 hb7) (And.intro hb17 hb7))
  clear hb7 hb17
  obtain ⟨t, ht⟩ : ∃ t : Bool, decide (0 < ps.length) = t := ⟨_, rfl⟩
  rw [ht] at HB
  rw [ht]
  clear ht
  go_wp2_with fail
  have hbw7 : Below w.heap.size w w7 := H1.out.2.trans (H7.out.2.1.mono hz1)
  refine (HB.out _ (hbw7.alloc (by omega) _)).mono ?_
  rintro e w8 ⟨rfl, hb8⟩
  have vX := (Var.new w7 27 #[.int .i32 q0, .int .i32 q1, .int .i32 q2, .int .i32 q3]).keep hb8
  have hb78 : Below w7.heap.size w7 w8 := ((Below.refl _ w7).alloc (Nat.le_refl _) _).trans (hb8.mono (by simp))
  have hb18 := H7.out.2.1.trans (hb78.mono (by omega : w1.heap.size ≤ w7.heap.size))
  have H8 := Lib.hid (And.intro (own_keepL H7.out.1 hb78) hb18)
  have hz8 := hb78.size
  obtain ⟨X, hX⟩ : ∃ X, w7.heap.size = X := ⟨_, rfl⟩
  rw [hX] at vX ⊢
  have x0 := vX.cell 0
  have x1 := vX.cell 1
  have x2 := vX.cell 2
  have x3 := vX.cell 3
  have xz := vX.lt
  clear hb8 hb78 hbw7 hb18
  go_wp2_with fail
  have h18 : Below w1.heap.size w1 (w8.alloc (.cells #[.int .i32 q0, .int .i32 q1, .int .i32 q2, .int .i32 q3] 27)) := H8.out.2.alloc (by omega) _
  refine (left_any g0 cap0 _ ps w1.heap.size hr8 (w8.alloc (.cells #[.int .i32 q0, .int .i32 q1, .int .i32 q2, .int .i32 q3] 27)) (by simp; omega) H1.out.1.lt (H1.out.1.below h18 H1.out.1.lt) ((HPI.out _ (H1.out.2.trans (h18.mono hz1))).up hz1)).mono ?_
  rintro e w9 ⟨rfl, hb9⟩
  have hb89 : Below w8.heap.size w8 w9 := ((Below.refl _ w8).alloc (Nat.le_refl _) _).trans (hb9.mono (by simp))
  have hb19 := H8.out.2.trans (hb89.mono (by omega : w1.heap.size ≤ w8.heap.size))
  have H9 := Lib.hid (And.intro (own_keepL H8.out.1 hb89) (And.intro hb19 (H1.out.1.below hb19 H1.out.1.lt)))
  have hz9 := hb89.size
  clear hb9 hb89 hb19 h18 x0 x1 x2 x3 vX
  go_wp2_with fail
  refine (sorted_any w9.heap.size cap0 ps.length _ ps rfl w9 H9.out.2.2.pts (Nat.le_refl _) hr8).mono ?_
  rintro e w10 ⟨A10, c10, qs10, rfl, hp10, ho10, hown10, hb10⟩
  obtain rfl : qs10 = qs' := ord_unique (hp10.trans H2.out.2.2.2.2.1.symm) ho10 H2.out.2.2.2.2.2
  have H10 := Lib.hid (And.intro hown10 (And.intro (own_keepL H9.out.1 hb10) (H9.out.2.1.trans (hb10.mono (by omega : w1.heap.size ≤ w9.heap.size)))))
  have hz10 := hb10.size
  clear hown10 hb10 hp10 ho10
  go_wp2_with fail
  refine (same_any (.slice A10 ps.length c10) v2 qs10 w10.heap.size (by omega) w10 (Nat.le_refl _) (ptsAt_of_own H10.out.1 hql) (ptsAt_of_own H10.out.2.1 hql)).mono ?_
  rintro e w11 ⟨rfl, hb11⟩
  have HE := Lib.hid (H1.out.2.trans ((H10.out.2.2.trans (hb11.mono (by omega : w1.heap.size ≤ w10.heap.size))).mono hz1))
  clear hb11
  go_wp2_with fail
  go_ret
  exact ⟨rfl, HE.out⟩

end Go.Proofs.Ytegblpoamjpdhaa
