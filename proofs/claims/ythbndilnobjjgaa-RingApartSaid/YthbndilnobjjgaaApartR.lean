/-
  The document's Apart; that it is one both ways.
  RingApart: the law's body.
-/
import Derived.Test.YthbndilnobjjgaaApart
import Derived.Test.YthbndilnobjjgaaChk6C
import Derived.Test.YthbndilnobjjgaaSegR
import Derived.Test.YthbndilnobjjgaaRoom6
import Derived.Test.YthbndilnobjjgaaNormP
namespace Go.Proofs.Ythbndilnobjjgaa
open Go.RowKit

/-- Does the i-th side meet the j-th one of the other ring? -/
def tcAt (ps qs : List Pt) (i j : Nat) : Bool := touches (gp ps i) (gp ps ((i + 1) % ps.length)) (gp qs j) (gp qs ((j + 1) % qs.length))
theorem apart_true {ps qs : List Pt} (h : ∀ i, i < ps.length → ∀ j, j < qs.length → tcAt ps qs i j = false) : apartP ps qs = true := by
  unfold apartP
  rw [Bool.not_eq_true', List.any_eq_false]
  intro s hs
  unfold sides at hs
  obtain ⟨i, hi, rfl⟩ := List.mem_map.1 hs
  unfold tchS
  rw [Bool.not_eq_true, List.any_eq_false]
  intro t ht
  unfold sides at ht
  obtain ⟨j, hj, rfl⟩ := List.mem_map.1 ht
  rw [Bool.not_eq_true]
  exact h i (List.mem_range.1 hi) j (List.mem_range.1 hj)
theorem apart_false {ps qs : List Pt} {i j : Nat} (hi : i < ps.length) (hj : j < qs.length) (h : tcAt ps qs i j = true) : apartP ps qs = false := by
  unfold apartP
  rw [Bool.not_eq_false', List.any_eq_true]
  refine ⟨sid ps i, List.mem_map.2 ⟨i, List.mem_range.2 hi, rfl⟩, ?_⟩
  unfold tchS
  rw [List.any_eq_true]
  exact ⟨sid qs j, List.mem_map.2 ⟨j, List.mem_range.2 hj, rfl⟩, h⟩
theorem apart_iff {ps qs : List Pt} : apartP ps qs = true ↔ ∀ i, i < ps.length → ∀ j, j < qs.length → tcAt ps qs i j = false := by
  constructor
  · intro h i hi j hj
    cases ht : tcAt ps qs i j
    · rfl
    · rw [apart_false hi hj ht] at h
      cases h
  · exact apart_true
theorem tc_swap (ps qs : List Pt) (i j : Nat) : tcAt qs ps j i = tcAt ps qs i j := touches_swap _ _ _ _
theorem apart_swap (ps qs : List Pt) : apartP qs ps = apartP ps qs := by
  rw [Bool.eq_iff_iff, apart_iff, apart_iff]
  constructor
  · intro h i hi j hj
    rw [← tc_swap]
    exact h j hj i hi
  · intro h j hj i hi
    rw [tc_swap]
    exact h i hi j hj

set_option maxHeartbeats 2000000 in
set_option maxRecDepth 100000 in
theorem apart06 (ps qs : List Pt) (n m : Nat) (hn : ps.length = n) (hm : qs.length = m) (hlen : n ≤ 17592186044416) (hlen2 : m ≤ 17592186044416) (M c c2 : Nat) (A A2 : Option Addr) (w : World) (hP : PtsAt M w (.slice A n c) ps) (hP2 : PtsAt M w (.slice A2 m c2) qs) (hM : M ≤ w.heap.size) :
    Calls Try.prog 16 #[.slice A n c, .slice A2 m c2] w fun e w' => e = .returned (.bool (apartP ps qs)) ∧ Below w.heap.size w w' := by
  have A1 := Lib.hid (fun (h0 : 0 < n) i W (h : Below w.heap.size w W) => at06 ps n hn h0 i M c A W (hP.below (h.mono hM)) (Nat.le_trans hM h.size))
  have A3 := Lib.hid (fun (h0 : 0 < m) i W (h : Below w.heap.size w W) => at06 qs m hm h0 i M c2 A2 W (hP2.below (h.mono hM)) (Nat.le_trans hM h.size))
  have TC := Lib.hid (fun a b c d W => touch06 a b c d W)
  have HT : Hid (apartP ps qs = true ↔ ∀ i, i < n → ∀ j, j < m → tcAt ps qs i j = false) := Lib.hid (by rw [← hn, ← hm]; exact apart_iff)
  have HF : Hid (∀ {i j : Nat}, i < n → j < m → tcAt ps qs i j = true → apartP ps qs = false) := Lib.hid (fun hi hj h => apart_false (by rw [hn]; exact hi) (by rw [hm]; exact hj) h)
  have HD : Hid (∀ i j, tcAt ps qs i j = touches (gp ps i) (gp ps ((i + 1) % n)) (gp qs j) (gp qs ((j + 1) % m))) := Lib.hid (fun i j => by unfold tcAt; rw [hn, hm])
  obtain ⟨r, hr⟩ : ∃ r, apartP ps qs = r := ⟨_, rfl⟩
  rw [hr] at HT HF ⊢
  clear hr hP hP2 hn hm
  go_enter Try.func16, Try.ntmps16
  go_wp2_with fail
  go_loopw [5] (fun i wr => ∃ k : Nat, k ≤ n ∧ i = .int .i64 (k : Int) ∧ (∀ i, i < k → ∀ j, j < m → tcAt ps qs i j = false) ∧ Below w.heap.size w wr) (fun i _ => n - (intOf i).toNat)
  case atStart => exact ⟨0, Nat.zero_le _, rfl, fun i hi => absurd hi (Nat.not_lt_zero _), Below.refl _ _⟩
  case round =>
    obtain ⟨k, hk, rfl, hall, hbel⟩ := hrel
    have HA := Lib.hid (And.intro hall hbel)
    clear hall hbel
    rcases Nat.lt_or_ge k n with hlt | hge
    · have hkI : (k : Int) < (n : Int) := by omega
      have wk : IntKind.i64.wrap ((k : Int) + 1) = ((k + 1 : Nat) : Int) := by simp only [IntKind.wrap, IntKind.signed, IntKind.bits]; simp; omega
      go_wp2_with fail
      obtain ⟨wo, hwo⟩ : ∃ z, z = wr := ⟨_, rfl⟩
      subst hwo
      go_loopw [6] (fun j wr => ∃ l : Nat, l ≤ m ∧ j = .int .i64 (l : Int) ∧ (∀ j, j < l → tcAt ps qs k j = false) ∧ Below w.heap.size w wr) (fun j _ => m - (intOf j).toNat)
      case atStart => exact ⟨0, Nat.zero_le _, rfl, fun i hi => absurd hi (Nat.not_lt_zero _), HA.out.2⟩
      case round =>
        obtain ⟨l, hl, rfl, hall2, hbel2⟩ := hrel
        have HA2 := Lib.hid hall2
        have HB := Lib.hid hbel2
        clear hall2 hbel2
        rcases Nat.lt_or_ge l m with hlt2 | hge2
        · have hlI : (l : Int) < (m : Int) := by omega
          have wl : IntKind.i64.wrap ((l : Int) + 1) = ((l + 1 : Nat) : Int) := by simp only [IntKind.wrap, IntKind.signed, IntKind.bits]; simp; omega
          have b1 := Lib.hid (A1.out (by omega) k)
          have b2 := Lib.hid (A1.out (by omega) (k + 1))
          have b3 := Lib.hid (A3.out (by omega) l)
          have b4 := Lib.hid (A3.out (by omega) (l + 1))
          rw [Nat.mod_eq_of_lt hlt] at b1
          rw [Nat.mod_eq_of_lt hlt2] at b3
          have HDk := Lib.hid (HD.out k l)
          obtain ⟨x1, h1⟩ : ∃ x, gp ps k = x := ⟨_, rfl⟩
          obtain ⟨x2, h2⟩ : ∃ x, gp ps ((k + 1) % n) = x := ⟨_, rfl⟩
          obtain ⟨x3, h3⟩ : ∃ x, gp qs l = x := ⟨_, rfl⟩
          obtain ⟨x4, h4⟩ : ∃ x, gp qs ((l + 1) % m) = x := ⟨_, rfl⟩
          rw [h1] at b1 HDk
          rw [h2] at b2 HDk
          rw [h3] at b3 HDk
          rw [h4] at b4 HDk
          have tt := Lib.hid (fun W => TC.out x1 x2 x3 x4 W)
          obtain ⟨t, ht⟩ : ∃ t, touches x1 x2 x3 x4 = t := ⟨_, rfl⟩
          rw [ht] at tt HDk
          clear h1 h2 h3 h4 ht
          go_wp2_with fail
          refine (b1.out _ HB.out).mono ?_
          rintro e y1 ⟨rfl, hb⟩
          have HB := Lib.hid (HB.out.trans (hb.mono HB.out.size))
          clear hb b1
          go_wp2_with fail
          refine (b2.out _ HB.out).mono ?_
          rintro e y2 ⟨rfl, hb⟩
          have HB := Lib.hid (HB.out.trans (hb.mono HB.out.size))
          clear hb b2
          go_wp2_with fail
          refine (b3.out _ HB.out).mono ?_
          rintro e y3 ⟨rfl, hb⟩
          have HB := Lib.hid (HB.out.trans (hb.mono HB.out.size))
          clear hb b3
          go_wp2_with fail
          refine (b4.out _ HB.out).mono ?_
          rintro e y4 ⟨rfl, hb⟩
          have HB := Lib.hid (HB.out.trans (hb.mono HB.out.size))
          clear hb b4
          go_wp2_with fail
          refine (tt.out _).mono ?_
          rintro e y5 ⟨rfl, hb⟩
          have HB := Lib.hid (HB.out.trans (hb.mono HB.out.size))
          clear hb tt
          cases t
          · go_wp2_with fail
            go_roundw
            case rel => exact ⟨l + 1, by omega, by simp, fun j hj => by
              rcases Nat.lt_or_ge j l with h | h
              · exact HA2.out j h
              · obtain rfl : j = l := by omega
                exact HDk.out, HB.out⟩
            case measure => simp [intOf]; omega
          · have hrf : r = false := HF.out hlt hlt2 HDk.out
            subst hrf
            go_wp2_with fail
            refine bodyPost_ret (by simp [results, Try.results16, go_sem, *]; try rfl) rfl ?_
            exact ⟨rfl, HB.out⟩
        · obtain rfl : l = m := by omega
          go_wp2_with fail
          go_roundw
          case rel => exact ⟨k + 1, by omega, by simp, fun i hi => by
            rcases Nat.lt_or_ge i k with h | h
            · exact HA.out.1 i h
            · obtain rfl : i = k := by omega
              exact HA2.out, HB.out⟩
          case measure => simp [intOf]; omega
    · obtain rfl : k = n := by omega
      have hrt : r = true := HT.out.2 HA.out.1
      subst hrt
      go_wp2_with fail
      refine bodyPost_ret (by simp [results, Try.results16, go_sem, *]; try rfl) rfl ?_
      exact ⟨rfl, HA.out.2⟩

set_option maxHeartbeats 2000000 in
set_option maxRecDepth 100000 in
theorem ringApart_core (w : World) (A : Option Addr) (n c : Nat) (ps : List Pt) (hps : ∀ p ∈ ps, IPt p) (A2 : Option Addr) (m c2 : Nat) (qs : List Pt) (hqs : ∀ p ∈ qs, IPt p)
    (hn : ps.length = n) (hreach : ps.length * 8 ≤ 140737488351232) (hI : PtsAt w.heap.size w (.slice A n c) ps) (hm : qs.length = m) (hreach2 : qs.length * 8 ≤ 140737488351232) (hI2 : PtsAt w.heap.size w (.slice A2 m c2) qs) :
    Calls Try.prog 5 #[.slice A n c, .slice A2 m c2] w fun e w' => e = .returned (.bool true) ∧ Below w.heap.size w w' := by
  have R1 := Lib.hid (roomy6_any (.slice A n c) ps w.heap.size (by omega) w (Nat.le_refl _) hI)
  have R2 := Lib.hid (fun W (h : Below w.heap.size w W) => roomy6_any (.slice A2 m c2) qs w.heap.size (by omega) W h.size (hI2.below h))
  have AP := Lib.hid (fun g1 g2 W (h1 : RoomAt W g1 ps) (h2 : RoomAt W g2 qs) => apart_any meet_says ps qs hps hqs n m hn hm (by omega) (by omega) W.heap.size (n + 9) (m + 9) (some ⟨g1, 0, none⟩) (some ⟨g2, 0, none⟩) W (by rw [← hn]; exact h1.pts) (by rw [← hm]; exact h2.pts) (Nat.le_refl _) (fun _ h => by cases h) (fun _ h => by cases h))
  have AQ := Lib.hid (fun g1 g2 W (h1 : RoomAt W g1 ps) (h2 : RoomAt W g2 qs) => apart_any meet_says qs ps hqs hps m n hm hn (by omega) (by omega) W.heap.size (m + 9) (n + 9) (some ⟨g2, 0, none⟩) (some ⟨g1, 0, none⟩) W (by rw [← hm]; exact h2.pts) (by rw [← hn]; exact h1.pts) (Nat.le_refl _) (fun _ h => by cases h) (fun _ h => by cases h))
  have RF := Lib.hid (fun W (h : Below w.heap.size w W) => apart06 ps qs n m hn hm (by omega) (by omega) w.heap.size c c2 A A2 W (hI.below h) (hI2.below h) h.size)
  have L1 := Lib.hid (fun g1 W (hb : Below w.heap.size w W) (h : RoomAt W g1 ps) => left6_any g1 (.slice A n c) ps w.heap.size (by omega) W hb.size (hI.below hb) h)
  have L2 := Lib.hid (fun g2 W (hb : Below w.heap.size w W) (h : RoomAt W g2 qs) => left6_any g2 (.slice A2 m c2) qs w.heap.size (by omega) W hb.size (hI2.below hb) h)
  have WK := Lib.hid (fun W => works6_any meet_says W)
  rw [hn] at R1 L1
  rw [hm] at R2 L2
  rw [apart_swap] at AQ
  obtain ⟨t, ht⟩ : ∃ t, apartP ps qs = t := ⟨_, rfl⟩
  rw [ht] at AP AQ RF
  clear ht hps hqs hn hm hreach hreach2 hI hI2
  go_enter Try.func5, Try.ntmps5
  go_wp2_with fail
  refine R1.out.mono ?_
  rintro e w1 ⟨rfl, hr1, hb⟩
  have HB := Lib.hid hb
  have G1 := Lib.hid hr1
  clear hb hr1 R1
  obtain ⟨g1, hg1⟩ : ∃ g, w.heap.size = g := ⟨_, rfl⟩
  have HG1 := Lib.hid hg1
  rw [hg1] at G1 ⊢
  clear hg1
  go_wp2_with fail
  refine (R2.out _ HB.out).mono ?_
  rintro e w2 ⟨rfl, hr2, hb⟩
  have HB := Lib.hid (HB.out.trans (hb.mono HB.out.size))
  have G1 := Lib.hid (G1.out.keep hb)
  have G2 := Lib.hid hr2
  obtain ⟨g2, hg2⟩ : ∃ g, w1.heap.size = g := ⟨_, rfl⟩
  rw [hg2] at G2 ⊢
  clear hb hr2 R2 hg2
  go_wp2_with fail
  refine (AP.out g1 g2 _ G1.out G2.out).mono ?_
  rintro e w3 ⟨rfl, hb⟩
  have HB := Lib.hid (HB.out.trans (hb.mono HB.out.size))
  have G1 := Lib.hid (G1.out.keep hb)
  have G2 := Lib.hid (G2.out.keep hb)
  clear hb AP
  go_wp2_with fail
  refine (RF.out _ HB.out).mono ?_
  rintro e w4 ⟨rfl, hb⟩
  have HB := Lib.hid (HB.out.trans (hb.mono HB.out.size))
  have G1 := Lib.hid (G1.out.keep hb)
  have G2 := Lib.hid (G2.out.keep hb)
  clear hb
  go_wp2_with fail
  refine (AQ.out g1 g2 _ G1.out G2.out).mono ?_
  rintro e w5 ⟨rfl, hb⟩
  have HB := Lib.hid (HB.out.trans (hb.mono HB.out.size))
  have G1 := Lib.hid (G1.out.keep hb)
  have G2 := Lib.hid (G2.out.keep hb)
  clear hb AQ
  go_wp2_with fail
  refine (RF.out _ HB.out).mono ?_
  rintro e w6 ⟨rfl, hb⟩
  have HB := Lib.hid (HB.out.trans (hb.mono HB.out.size))
  have G1 := Lib.hid (G1.out.keep hb)
  have G2 := Lib.hid (G2.out.keep hb)
  clear hb RF
  go_wp2_with fail
  refine (L1.out g1 _ HB.out G1.out).mono ?_
  rintro e w7 ⟨rfl, hb⟩
  have HB := Lib.hid (HB.out.trans (hb.mono HB.out.size))
  have G2 := Lib.hid (G2.out.keep hb)
  clear hb L1
  go_wp2_with fail
  refine (L2.out g2 _ HB.out G2.out).mono ?_
  rintro e w8 ⟨rfl, hb⟩
  have HB := Lib.hid (HB.out.trans (hb.mono HB.out.size))
  clear hb L2
  go_wp2_with fail
  refine (WK.out _).mono ?_
  rintro e w9 ⟨rfl, hb⟩
  have HB := Lib.hid (HB.out.trans (hb.mono HB.out.size))
  clear hb WK
  go_wp2_with fail
  refine bodyPost_ret (by simp [results, Try.results5, go_sem, *]; try rfl) rfl ?_
  exact ⟨rfl, HB.out⟩

end Go.Proofs.Ythbndilnobjjgaa
