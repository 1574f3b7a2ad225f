/-
  The law HullExact's body, walked.
-/
import Derived.Test.YtcpojadinkonnaaHullT
import Derived.Test.YtcpojadinkonnaaHullU
import Derived.Test.YtcpojadinkonnaaSpo
namespace Go.Proofs.Ytcpojadinkonnaa
open Go.RowKit

theorem own_otherX {W W' : World} {b b' : Nat} {e e' : TypeId} {size size' n n' : Nat} {v v' : Value} {xs xs' : List Value} (h : W.ownsRow b e size v n xs) (h' : W'.ownsRow b' e' size' v' n' xs') (hB : W.heap.size ≤ b') {W2 : World} (hg : W'.grownBy W2 v'.ownBlock) (hk : W'.ownsRow b e size v n xs) : W2.ownsRow b e size v n xs := by
  refine hk.kept hg ?_
  cases hv : v.ownBlock with
  | none => exact .inl rfl
  | some k =>
    refine .inr fun he => ?_
    have h1 := (h.lt k hv).2
    have h2 := own_ge h' k he.symm
    omega

set_option maxRecDepth 100000 in
set_option maxHeartbeats 4000000 in
theorem hullExact_core (w : World) (A : Option Addr) (l c : Nat) (ps : List Pt) (hps : ∀ p ∈ ps, IPt p) (hl : ps.length = l) (hreach : ps.length * 8 ≤ 140737488351232) (hI : PtsAt w.heap.size w (.slice A l c) ps) :
    Calls Try.prog 6 #[.slice A l c] w fun e w' => e = .returned (.bool true) ∧ Below w.heap.size w w' := by
  rcases Nat.lt_or_ge 80 l with h80 | h80
  · have h80I : (80 : Int) < (l : Int) := by omega
    go_enter Try.func6, Try.ntmps6
    go_wp2_with fail
    go_ret
    exact ⟨rfl, Below.refl _ _⟩
  · have h80I : ¬ (80 : Int) < (l : Int) := by omega
    subst hl
    have HL := Lib.hid (fun W (h : Below w.heap.size w W) => lent_any _ ps w.heap.size hreach W (hI.below h))
    have HR := Lib.hid (fun W (h : Below w.heap.size w W) => hull_ref ps hps w.heap.size A c ps.length rfl (by omega) W (hI.below h) h.size)
    have HPI := Lib.hid (fun W (h : Below w.heap.size w W) => hI.below h)
    have hr8 : ps.length * 8 ≤ 140737488355328 := by omega
    have hHI : ∀ p ∈ hullL ps, IPt p := fun p hp => hps p (hullL_mem ps p hp)
    have hHl : (hullL ps).length ≤ 80 := Nat.le_trans (hullL_len ps) h80
    have hag : decide (hullL ps = hullL (hullL ps)) = true := decide_eq_true (hull_again ps).symm
    have HH := Lib.hid (fun (A : Option Addr) (c n : Nat) (hn : ps.length = n) (W : World) (hP : PtsAt W.heap.size W (.slice A n c) ps) => hull_any ps hps W.heap.size A c n hn (by omega) W hP (Nat.le_refl _))
    have HV := Lib.hid (fun (A : Option Addr) (c n : Nat) (hn : ps.length = n) (W : World) (hP : PtsAt W.heap.size W (.slice A n c) ps) => convex_any ps hps W.heap.size A c n hn (by omega) W hP (Nat.le_refl _))
    have HW := Lib.hid (fun (A : Option Addr) (c n : Nat) (hn : (hullL ps).length = n) (W : World) (hP : PtsAt W.heap.size W (.slice A n c) (hullL ps)) => convex_any (hullL ps) hHI W.heap.size A c n hn (by omega) W hP (Nat.le_refl _))
    rw [hag] at HW
    obtain ⟨H, hH⟩ : ∃ H, hullL ps = H := ⟨_, rfl⟩
    rw [hH] at HR HH HV HW hHl
    obtain ⟨t, ht⟩ : ∃ t : Bool, decide (ps = H) = t := ⟨_, rfl⟩
    have HT := Lib.hid ht
    rw [ht] at HV
    clear hI hag hHI hH ht
    go_enter Try.func6, Try.ntmps6
    go_wp2_with fail
    refine (HL.out _ (Below.refl _ _)).mono ?_
    rintro e w1 ⟨g0, cap0, rfl, hg0, hL0, hb1⟩
    have H1 := Lib.hid (And.intro hL0 hb1)
    have hz1 := hb1.size
    clear hg0 hL0 hb1
    go_wp2_with fail
    refine (HR.out w1 H1.out.2).mono ?_
    rintro e w2 ⟨A2, c2, m, rfl, hm2, hown2, hb2⟩
    have hm80 : m ≤ 80 := by omega
    have hL2 := H1.out.1.below hb2 H1.out.1.lt
    have H2 := Lib.hid (And.intro hm2 (And.intro hown2 (And.intro hb2 (And.intro (H1.out.2.trans (hb2.mono hz1)) hL2))))
    have hz2 := hb2.size
    clear hm2 hown2 hb2 hL2
    go_wp2_with fail
    refine (HH.out _ cap0 ps.length rfl w2 H2.out.2.2.2.2.pts).mono ?_
    rintro e w3 ⟨A3, c3, m3, rfl, hm3, hown3, hb3⟩
    obtain rfl : m3 = m := by rw [← hm3, H2.out.1]
    have hb13 : Below w1.heap.size w1 w3 := H2.out.2.2.1.trans (hb3.mono hz2)
    have H3 := Lib.hid (And.intro hown3 (And.intro (own_keepH H2.out.2.1 hb3) (And.intro hb13 (H1.out.1.below hb13 H1.out.1.lt))))
    have hz3 := hb3.size
    clear hown3 hb3 hm3 hb13
    go_wp2_with fail
    refine (same10_is A3 A2 m3 m3 c3 c2 H H w3.heap.size H2.out.1 H2.out.1 (by omega) w3 (Nat.le_refl _) (ptsAt_of_own H3.out.1 H2.out.1) (ptsAt_of_own H3.out.2.1 H2.out.1)).mono ?_
    rintro e w4 ⟨rfl, hb4⟩
    rw [show decide (H = H) = true from decide_eq_true rfl]
    have hb14 := H3.out.2.2.1.trans (hb4.mono (by omega : w1.heap.size ≤ w3.heap.size))
    have H4 := Lib.hid (And.intro (own_keepH H3.out.1 hb4) (And.intro (own_keepH H3.out.2.1 hb4) (And.intro hb14 (H1.out.1.below hb14 H1.out.1.lt))))
    have hz4 := hb4.size
    clear hb4 hb14
    go_wp2_with fail
    refine (HV.out _ cap0 ps.length rfl w4 H4.out.2.2.2.pts).mono ?_
    rintro e w5 ⟨rfl, hb5⟩
    have hb15 := H4.out.2.2.1.trans (hb5.mono (by omega : w1.heap.size ≤ w4.heap.size))
    have H5 := Lib.hid (And.intro (own_keepH H4.out.1 hb5) (And.intro (own_keepH H4.out.2.1 hb5) hb15))
    have hz5 := hb5.size
    clear hb5 hb15
    go_wp2_with fail
    have h05 := H1.out.2.trans (H5.out.2.2.mono hz1)
    refine (same10_is A A2 ps.length m3 c c2 ps H w5.heap.size rfl H2.out.1 (by omega) w5 (Nat.le_refl _) ((HPI.out w5 h05).up h05.size) (ptsAt_of_own H5.out.2.1 H2.out.1)).mono ?_
    rintro e w6 ⟨rfl, hb6⟩
    rw [HT.out]
    have hb16 := H5.out.2.2.trans (hb6.mono (by omega : w1.heap.size ≤ w5.heap.size))
    have H6 := Lib.hid (And.intro (own_keepH H5.out.1 hb6) (And.intro (own_keepH H5.out.2.1 hb6) (And.intro hb16 (H1.out.1.below hb16 H1.out.1.lt))))
    have hz6 := hb6.size
    have hbb : (t == t) = true := beq_self_eq_true t
    clear hb6 hb16 h05
    go_wp2_with fail
    refine (left_any g0 cap0 _ ps w1.heap.size hr8 w6 (by omega) H1.out.1.lt H6.out.2.2.2 ((HPI.out w6 (H1.out.2.trans (H6.out.2.2.1.mono hz1))).up hz1)).mono ?_
    rintro e w7 ⟨rfl, hb7⟩
    have hb17 := H6.out.2.2.1.trans (hb7.mono (by omega : w1.heap.size ≤ w6.heap.size))
    have H7 := Lib.hid (And.intro (own_keepH H6.out.1 hb7) (And.intro (own_keepH H6.out.2.1 hb7) hb17))
    have hz7 := hb7.size
    clear hb7 hb17 hbb
    go_wp2_with fail
    refine (spoilt_any (.slice A3 m3 c3) m3 w2.heap.size (flat H) w7 (by omega) H7.out.1 (by omega)).mono ?_
    rintro e w8 ⟨⟨u8, rfl⟩, hg8⟩
    have hb18 := H7.out.2.2.grown hg8 (by omega) (fun k e => Nat.le_trans hz2 (own_ge H7.out.1 k e))
    have hL8 := H1.out.1.below hb18 H1.out.1.lt
    have H8 := Lib.hid (And.intro (own_otherX H2.out.2.1 H7.out.1 (Nat.le_refl _) hg8 H7.out.2.1) (And.intro hb18 hL8))
    have hz8 := hg8.size
    clear hg8 hb18 hL8
    go_wp2_with fail
    refine (HH.out _ cap0 ps.length rfl w8 H8.out.2.2.pts).mono ?_
    rintro e w9 ⟨A9, c9, m9, rfl, hm9, hown9, hb9⟩
    obtain rfl : m9 = m3 := by rw [← hm9, H2.out.1]
    have hb19 : Below w1.heap.size w1 w9 := H8.out.2.1.trans (hb9.mono (by omega : w1.heap.size ≤ w8.heap.size))
    have H9 := Lib.hid (And.intro hown9 (And.intro (own_keepH H8.out.1 hb9) hb19))
    have hz9 := hb9.size
    clear hown9 hb9 hm9 hb19
    go_wp2_with fail
    refine (same10_is A9 A2 m9 m9 c9 c2 H H w9.heap.size H2.out.1 H2.out.1 (by omega) w9 (Nat.le_refl _) (ptsAt_of_own H9.out.1 H2.out.1) (ptsAt_of_own H9.out.2.1 H2.out.1)).mono ?_
    rintro e w10 ⟨rfl, hb10⟩
    rw [show decide (H = H) = true from decide_eq_true rfl]
    have hb110 := H9.out.2.2.trans (hb10.mono (by omega : w1.heap.size ≤ w9.heap.size))
    have H10 := Lib.hid (And.intro (own_keepH H9.out.2.1 hb10) (And.intro hb110 (H1.out.1.below hb110 H1.out.1.lt)))
    have hz10 := hb10.size
    clear hb10 hb110
    go_wp2_with fail
    refine (left_any g0 cap0 _ ps w1.heap.size hr8 w10 (by omega) H1.out.1.lt H10.out.2.2 ((HPI.out w10 (H1.out.2.trans (H10.out.2.1.mono hz1))).up hz1)).mono ?_
    rintro e w11 ⟨rfl, hb11⟩
    have H11 := Lib.hid (And.intro (own_keepH H10.out.1 hb11) (H10.out.2.1.trans (hb11.mono (by omega : w1.heap.size ≤ w10.heap.size))))
    have hz11 := hb11.size
    clear hb11
    go_wp2_with fail
    refine (HW.out A2 c2 m9 H2.out.1 w11 (ptsAt_of_own H11.out.1 H2.out.1)).mono ?_
    rintro e w12 ⟨rfl, hb12⟩
    have HE := Lib.hid (H1.out.2.trans ((H11.out.2.trans (hb12.mono (by omega : w1.heap.size ≤ w11.heap.size))).mono hz1))
    clear hb12
    go_wp2_with fail
    go_ret
    exact ⟨rfl, HE.out⟩

end Go.Proofs.Ytcpojadinkonnaa
