/-
  The law's own moved: a point mirrored, turned by quarters, moved.
-/
import Derived.Test.YtpjgghakeaajbaaIso
import Derived.Test.YtpjgghakeaajbaaLives
namespace Go.Proofs.Ytpjgghakeaajbaa
open Go.RowKit

def mvOk (m : Bool) (k : Nat) (d p : Pt) : Bool := decide ((-2147483648 ≤ d.1 ∧ d.1 ≤ 2147483648) ∧ (-2147483648 ≤ d.2 ∧ d.2 ≤ 2147483648)) && inP (mvq m k d p)

def Ib (p : Pt) : Prop := (-2147483648 ≤ p.1 ∧ p.1 ≤ 2147483648) ∧ (-2147483648 ≤ p.2 ∧ p.2 ≤ 2147483648)
theorem ib_mir {p : Pt} (h : I32 p.1 ∧ I32 p.2) (m : Bool) : Ib (mir m p) := by
  unfold Ib mir I32 at *
  cases m
  · rw [if_neg Bool.false_ne_true]; omega
  · rw [if_pos rfl]
    show (-2147483648 ≤ -p.1 ∧ -p.1 ≤ 2147483648) ∧ _
    omega
theorem ib_qt {p : Pt} (h : Ib p) : Ib (qt p) := by
  unfold Ib qt at *
  show (-2147483648 ≤ -p.2 ∧ -p.2 ≤ 2147483648) ∧ (-2147483648 ≤ p.1 ∧ p.1 ≤ 2147483648)
  omega
theorem ib_qts {p : Pt} (h : Ib p) : ∀ k : Nat, Ib (qts k p)
  | 0 => h
  | k + 1 => ib_qt (ib_qts h k)

/-- What moved answers. -/
def mvAns (m : Bool) (K : Nat) (d p : Pt) : Value := .tuple #[.agg #[.int .i32 (if mvOk m K d p then mvq m K d p else p).1, .int .i32 (if mvOk m K d p then mvq m K d p else p).2], .bool (mvOk m K d p)]

/-- Is a point that was moved by d told? -/
def mvB (d1 d2 x y : Int) : Bool := decide ((-2147483648 ≤ d1 ∧ d1 ≤ 2147483648) ∧ (-2147483648 ≤ d2 ∧ d2 ≤ 2147483648)) && inP (x, y)
theorem mv_ways (d1 d2 x y : Int) :
    (mvB d1 d2 x y = false ∧ 2147483648 < d1) ∨ (mvB d1 d2 x y = false ∧ d1 ≤ 2147483648 ∧ d1 < -2147483648) ∨
    (mvB d1 d2 x y = false ∧ d1 ≤ 2147483648 ∧ -2147483648 ≤ d1 ∧ 2147483648 < d2) ∨ (mvB d1 d2 x y = false ∧ d1 ≤ 2147483648 ∧ -2147483648 ≤ d1 ∧ d2 ≤ 2147483648 ∧ d2 < -2147483648) ∨
    (mvB d1 d2 x y = false ∧ d1 ≤ 2147483648 ∧ -2147483648 ≤ d1 ∧ d2 ≤ 2147483648 ∧ -2147483648 ≤ d2 ∧ x < -1073741823) ∨
    (mvB d1 d2 x y = false ∧ d1 ≤ 2147483648 ∧ -2147483648 ≤ d1 ∧ d2 ≤ 2147483648 ∧ -2147483648 ≤ d2 ∧ -1073741823 ≤ x ∧ 1073741823 < x) ∨
    (mvB d1 d2 x y = false ∧ d1 ≤ 2147483648 ∧ -2147483648 ≤ d1 ∧ d2 ≤ 2147483648 ∧ -2147483648 ≤ d2 ∧ -1073741823 ≤ x ∧ x ≤ 1073741823 ∧ y < -1073741823) ∨
    (mvB d1 d2 x y = false ∧ d1 ≤ 2147483648 ∧ -2147483648 ≤ d1 ∧ d2 ≤ 2147483648 ∧ -2147483648 ≤ d2 ∧ -1073741823 ≤ x ∧ x ≤ 1073741823 ∧ -1073741823 ≤ y ∧ 1073741823 < y) ∨
    (mvB d1 d2 x y = true ∧ d1 ≤ 2147483648 ∧ -2147483648 ≤ d1 ∧ d2 ≤ 2147483648 ∧ -2147483648 ≤ d2 ∧ -1073741823 ≤ x ∧ x ≤ 1073741823 ∧ -1073741823 ≤ y ∧ y ≤ 1073741823) := by
  cases h : mvB d1 d2 x y
  · unfold mvB inP at h
    simp only [Bool.and_eq_false_iff, decide_eq_false_iff_not] at h
    simp only [true_and, Bool.false_eq_true, false_and, or_false]
    omega
  · unfold mvB inP at h
    simp only [Bool.and_eq_true, decide_eq_true_eq] at h
    simp only [Bool.true_eq_false, false_and, false_or, true_and]
    omega

set_option maxRecDepth 100000 in
set_option maxHeartbeats 1600000 in
theorem moved_any (p : Pt) (m : Bool) (K : Nat) (d : Pt) (hp : I32 p.1 ∧ I32 p.2) (hK : K ≤ 3) (hd : I64 d.1 ∧ I64 d.2) (w : World) :
    Calls Try.prog 19 #[.agg #[.int .i32 p.1, .int .i32 p.2], .bool m, .int .i64 (K : Int), .int .i64 d.1, .int .i64 d.2] w fun e w' => e = .returned (mvAns m K d p) ∧ Below w.heap.size w w' := by
  obtain ⟨d1, d2⟩ := d
  have e1 : wrap64 p.1 = p.1 := by unfold I32 at hp; unfold wrap64; omega
  have e2 : wrap64 p.2 = p.2 := by unfold I32 at hp; unfold wrap64; omega
  have e3 : wrap64 (-p.1) = -p.1 := by unfold I32 at hp; unfold wrap64; omega
  obtain ⟨q, hq⟩ : ∃ q, mir m p = q := ⟨_, rfl⟩
  have hb' : ∀ j, Ib (qts j q) := fun j => ib_qts (hq ▸ ib_mir hp m) j
  have hb := Lib.hid hb'
  clear hb'
  unfold I64 at hd
  cases m
  · have s1 : (mir false p).1 = p.1 := by rfl
    have s2 : (mir false p).2 = p.2 := by rfl
    go_enter Try.func19, Try.ntmps19
    go_wp2_with fail
    refine wp_gen (fun W hW => ?_)
    go_loopw [12, 13, 14] (fun x y i wr => ∃ j : Nat, j ≤ K ∧ x = .int .i64 (qts j q).1 ∧ y = .int .i64 (qts j q).2 ∧ i = .int .i64 (j : Int) ∧ wr = W) (fun _ _ i _ => K - (intOf i).toNat)
    case atStart => exact ⟨0, Nat.zero_le _, by rw [show qts 0 q = q from rfl, ← hq, s1], by rw [show qts 0 q = q from rfl, ← hq, s2], rfl, rfl⟩
    case round =>
      obtain ⟨j, hj, rfl, rfl, rfl, rfl⟩ := hrel
      have bz := hb.out j
      have hnx : qts (j + 1) q = (-(qts j q).2, (qts j q).1) := rfl
      rcases Nat.lt_or_ge j K with hlt | hge
      · obtain ⟨⟨x, y⟩, hz⟩ : ∃ z, qts j q = z := ⟨_, rfl⟩
        rw [hz] at bz hnx ⊢
        have w1 : wrap64 (-y) = -y := by unfold Ib at bz; unfold wrap64; simp only [] at bz; omega
        have hlt' : (j : Int) < (K : Int) := by omega
        have HN := Lib.hid hnx
        clear hz bz hnx hW e1 e2 e3 s1 s2 hq hb
        go_wp2_with fail
        go_roundw
        case rel => exact ⟨j + 1, by omega, by rw [HN.out]; first | rfl | (rw [w1]; done), by rw [HN.out], by go_num, by first | rfl | trivial⟩
        case measure => simp [intOf]; omega
      · obtain rfl : j = K := by omega
        have hlt' : ¬ (j : Int) < (j : Int) := by omega
        obtain ⟨⟨x, y⟩, hz⟩ : ∃ z, qts j q = z := ⟨_, rfl⟩
        have hv : mvq false j (d1, d2) p = (x + d1, y + d2) := by unfold mvq; rw [hq, hz]; rfl
        have hok : mvOk false j (d1, d2) p = mvB d1 d2 (x + d1) (y + d2) := by unfold mvOk mvB; rw [hv]
        rw [hz] at bz ⊢
        subst hW
        have HV := Lib.hid hv
        have HO := Lib.hid hok
        clear hz hv hnx hb hq s1 s2 hok hge e1 e2 e3
        unfold Ib at bz
        simp only [] at bz
        obtain ⟨⟨x1, x2⟩, ⟨y1, y2⟩⟩ := bz
        rcases mv_ways d1 d2 (x + d1) (y + d2) with ⟨hm, g1⟩ | ⟨hm, g1, g2⟩ | ⟨hm, g1, g2, g3⟩ | ⟨hm, g1, g2, g3, g4⟩ | ⟨hm, g1, g2, g3, g4, g5⟩ | ⟨hm, g1, g2, g3, g4, g5, g6⟩ | ⟨hm, g1, g2, g3, g4, g5, g6, g7⟩ | ⟨hm, g1, g2, g3, g4, g5, g6, g7, g8⟩ | ⟨hm, g1, g2, g3, g4, g5, g6, g7, g8⟩
        all_goals
          have HM := Lib.hid hm
          clear hm
          go_wp2_with fail
          refine bodyPost_ret (by simp [results, Try.results19, go_sem, *]; try rfl) rfl ?_
          exact ⟨by unfold mvAns; rw [HO.out, HM.out, HV.out]; rfl, by go_grown⟩
  · have s1 : (mir true p).1 = -p.1 := by rfl
    have s2 : (mir true p).2 = p.2 := by rfl
    go_enter Try.func19, Try.ntmps19
    go_wp2_with fail
    refine wp_gen (fun W hW => ?_)
    go_loopw [12, 13, 14] (fun x y i wr => ∃ j : Nat, j ≤ K ∧ x = .int .i64 (qts j q).1 ∧ y = .int .i64 (qts j q).2 ∧ i = .int .i64 (j : Int) ∧ wr = W) (fun _ _ i _ => K - (intOf i).toNat)
    case atStart => exact ⟨0, Nat.zero_le _, by rw [show qts 0 q = q from rfl, ← hq, s1], by rw [show qts 0 q = q from rfl, ← hq, s2], rfl, rfl⟩
    case round =>
      obtain ⟨j, hj, rfl, rfl, rfl, rfl⟩ := hrel
      have bz := hb.out j
      have hnx : qts (j + 1) q = (-(qts j q).2, (qts j q).1) := rfl
      rcases Nat.lt_or_ge j K with hlt | hge
      · obtain ⟨⟨x, y⟩, hz⟩ : ∃ z, qts j q = z := ⟨_, rfl⟩
        rw [hz] at bz hnx ⊢
        have w1 : wrap64 (-y) = -y := by unfold Ib at bz; unfold wrap64; simp only [] at bz; omega
        have hlt' : (j : Int) < (K : Int) := by omega
        have HN := Lib.hid hnx
        clear hz bz hnx hW e1 e2 e3 s1 s2 hq hb
        go_wp2_with fail
        go_roundw
        case rel => exact ⟨j + 1, by omega, by rw [HN.out]; first | rfl | (rw [w1]; done), by rw [HN.out], by go_num, by first | rfl | trivial⟩
        case measure => simp [intOf]; omega
      · obtain rfl : j = K := by omega
        have hlt' : ¬ (j : Int) < (j : Int) := by omega
        obtain ⟨⟨x, y⟩, hz⟩ : ∃ z, qts j q = z := ⟨_, rfl⟩
        have hv : mvq true j (d1, d2) p = (x + d1, y + d2) := by unfold mvq; rw [hq, hz]; rfl
        have hok : mvOk true j (d1, d2) p = mvB d1 d2 (x + d1) (y + d2) := by unfold mvOk mvB; rw [hv]
        rw [hz] at bz ⊢
        subst hW
        have HV := Lib.hid hv
        have HO := Lib.hid hok
        clear hz hv hnx hb hq s1 s2 hok hge e1 e2 e3
        unfold Ib at bz
        simp only [] at bz
        obtain ⟨⟨x1, x2⟩, ⟨y1, y2⟩⟩ := bz
        rcases mv_ways d1 d2 (x + d1) (y + d2) with ⟨hm, g1⟩ | ⟨hm, g1, g2⟩ | ⟨hm, g1, g2, g3⟩ | ⟨hm, g1, g2, g3, g4⟩ | ⟨hm, g1, g2, g3, g4, g5⟩ | ⟨hm, g1, g2, g3, g4, g5, g6⟩ | ⟨hm, g1, g2, g3, g4, g5, g6, g7⟩ | ⟨hm, g1, g2, g3, g4, g5, g6, g7, g8⟩ | ⟨hm, g1, g2, g3, g4, g5, g6, g7, g8⟩
        all_goals
          have HM := Lib.hid hm
          clear hm
          go_wp2_with fail
          refine bodyPost_ret (by simp [results, Try.results19, go_sem, *]; try rfl) rfl ?_
          exact ⟨by unfold mvAns; rw [HO.out, HM.out, HV.out]; rfl, by go_grown⟩

end Go.Proofs.Ytpjgghakeaajbaa
