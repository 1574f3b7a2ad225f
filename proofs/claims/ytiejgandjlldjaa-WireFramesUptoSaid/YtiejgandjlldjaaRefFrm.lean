/-
  The document's Frame, Stands.
-/
import Derived.Test.YtiejgandjlldjaaRefCrc
import Derived.Test.YtiejgandjlldjaaLaysM
namespace Go.Proofs.Ytiejgandjlldjaa
open Go.RowKit

theorem joined_n (N : Nat) (A B : Option Addr) (n c m d : Nat) (l k : List UInt8) (w : World) (ha : Bs w A n c l) (hb : Bs w B m d k) (hlen : n + m ≤ 70000000000000) (hN : N = n + m) :
    Calls Try.prog 16 #[.slice A n c, .slice B m d] w fun e w' => ∃ A' c', e = .returned (.slice A' N c') ∧ Br w' w.heap.size A' N c' (l ++ k) ∧ Below w.heap.size w w' := by
  subst hN
  refine (joined_ref A B n c m d l k w ha hb hlen).mono fun e w' ⟨A', c', he, ho, hb'⟩ => ⟨A', c', he, ?_, hb'⟩
  have h := br_own ho
  rwa [List.length_append, ha.len, hb.len] at h
theorem fixed_n (v n : Nat) (hv : v < 18446744073709551616) (hn : n ≤ 8) (w : World) :
    Calls Try.prog 56 #[.int .u64 (v : Int), .int .i64 (n : Int)] w fun e w' => ∃ A c, e = .returned (.slice A n c) ∧ Br w' w.heap.size A n c (leN n v) ∧ Below w.heap.size w w' := by
  refine (fixed_ref v n hv hn w).mono fun e w' ⟨A', c', he, ho, hb'⟩ => ⟨A', c', he, ?_, hb'⟩
  have h := br_own ho
  rwa [leN_length] at h

theorem frame_ref_over (A : Option Addr) (n c : Nat) (w : World) (hn : 8184 < n) :
    Calls Try.prog 22 #[.slice A n c] w fun e w' => e = .returned (.tuple #[.slice none 0 0, .int .i64 31]) ∧ Below w.heap.size w w' := by
  have hn' : (8184 : Int) < (n : Int) := by omega
  go_enter Try.func22, Try.ntmps22
  go_wp2_with fail
  go_ret2
  exact ⟨rfl, by go_grown⟩

set_option maxRecDepth 100000 in
set_option maxHeartbeats 2000000 in
theorem frame_ref (A : Option Addr) (n c : Nat) (l : List UInt8) (w : World) (hs : Bs w A n c l) (hn : n ≤ 8184) :
    Calls Try.prog 22 #[.slice A n c] w fun e w' => ∃ A' c', e = .returned (.tuple #[.slice A' (n + 8) c', .int .i64 0]) ∧ Br w' w.heap.size A' (n + 8) c' (frameB l) ∧ Below w.heap.size w w' := by
  have hl := hs.len
  have hn' : ¬ (8184 : Int) < (n : Int) := by omega
  have hn2 : (n : Int) ≤ 8184 := by omega
  have hb0 : Bs (w.alloc (.cells #[.int .u8 80, .int .u8 100] 5)) (some ⟨w.heap.size, 0, none⟩) 2 2 [80, 100] := ⟨rfl, Nat.le_refl _, le_maxLen (by omega), .inr ⟨w.heap.size, 0, rfl, by simp, fun j x hj => by
    rw [(Var.new w 5 #[.int .u8 80, .int .u8 100]).cell, Nat.zero_add]
    match j, hj with
    | 0, hj => simp at hj; subst hj; rfl
    | 1, hj => simp at hj; subst hj; rfl
    | j + 2, hj => simp at hj⟩⟩
  have hh : headB l = [80, 100] ++ leN 2 n := by unfold headB; rw [hl]
  have hcr := crcN_lt (headB l ++ l)
  have hfr : frameB l = headB l ++ leN 4 (crcN (headB l ++ l)) ++ l := rfl
  obtain ⟨x, hx⟩ : ∃ z, crcN (headB l ++ l) = z := ⟨_, rfl⟩
  rw [hx] at hcr hfr
  rw [hh] at hx hfr
  have hx32 : (x : Int) < 4294967296 := by omega
  have HS := Lib.hid (And.intro hs (And.intro hb0 (And.intro hx hfr)))
  have F2 := Lib.hid (fun W => fixed_n n 2 (by omega) (by omega) W)
  have F4 := Lib.hid (fun W => fixed_n x 4 (by omega) (by omega) W)
  clear hs hb0 hx hfr hh hl
  go_enter Try.func22, Try.ntmps22
  go_wp2_with fail
  refine (F2.out _).mono ?_
  rintro e w1 ⟨A1, c1, rfl, hr1, hb1⟩
  have hW1 : Below w.heap.size w w1 := Below.trans (by go_grown) (hb1.mono (by simp))
  have H1 := Lib.hid (And.intro (hr1.from (base' := w.heap.size) (by simp)) (And.intro (HS.out.2.1.below hb1) hW1))
  clear hr1 hb1 hW1
  go_wp2_with fail
  refine (joined_n 4 (some ⟨w.heap.size, 0, none⟩) A1 2 2 2 c1 _ _ w1 H1.out.2.1 H1.out.1.1 (by omega) rfl).mono ?_
  rintro e w2 ⟨A2, c2, rfl, hr2, hb2⟩
  have hW2 := H1.out.2.2.trans (hb2.mono H1.out.2.2.size)
  have H2 := Lib.hid (And.intro (hr2.from H1.out.2.2.size) hW2)
  clear hr2 hb2 hW2
  go_wp2_with fail
  refine (joined_n (4 + n) A2 A 4 c2 n c _ _ w2 H2.out.1.1 (HS.out.1.below H2.out.2) (by omega) rfl).mono ?_
  rintro e w3 ⟨A3, c3, rfl, hr3, hb3⟩
  have hW3 := H2.out.2.trans (hb3.mono H2.out.2.size)
  have H3 := Lib.hid (And.intro (hr3.from H2.out.2.size) (And.intro (H2.out.1.keep hb3) hW3))
  clear hr3 hb3 hW3
  go_wp2_with fail
  refine (crc_ref A3 (4 + n) c3 _ w3 H3.out.1.1).mono ?_
  rintro e w4 ⟨rfl, hb4⟩
  rw [HS.out.2.2.1]
  have hW4 := H3.out.2.2.trans (hb4.mono H3.out.2.2.size)
  have H4 := Lib.hid (And.intro (H3.out.2.1.keep hb4) hW4)
  clear hb4 hW4
  go_wp2_with fail
  refine (F4.out _).mono ?_
  rintro e w5 ⟨A5, c5, rfl, hr5, hb5⟩
  have hW5 := H4.out.2.trans (hb5.mono H4.out.2.size)
  have H5 := Lib.hid (And.intro (hr5.from H4.out.2.size) (And.intro (H4.out.1.keep hb5) hW5))
  clear hr5 hb5 hW5
  go_wp2_with fail
  refine (joined_n 8 A2 A5 4 c2 4 c5 _ _ w5 H5.out.2.1.1 H5.out.1.1 (by omega) rfl).mono ?_
  rintro e w6 ⟨A6, c6, rfl, hr6, hb6⟩
  have hW6 := H5.out.2.2.trans (hb6.mono H5.out.2.2.size)
  have H6 := Lib.hid (And.intro (hr6.from H5.out.2.2.size) hW6)
  clear hr6 hb6 hW6
  go_wp2_with fail
  refine (joined_n (n + 8) A6 A 8 c6 n c _ _ w6 H6.out.1.1 (HS.out.1.below H6.out.2) (by omega) (by omega)).mono ?_
  rintro e w7 ⟨A7, c7, rfl, hr7, hb7⟩
  have hW7 := H6.out.2.trans (hb7.mono H6.out.2.size)
  have H7 := Lib.hid (And.intro (hr7.from H6.out.2.size) hW7)
  clear hr7 hb7 hW7
  go_wp2_with fail
  go_ret2
  refine ⟨A7, c7, rfl, ?_, H7.out.2⟩
  rw [HS.out.2.2.2]
  exact H7.out.1

/-- The body of the frame that begins these bytes. -/
def standsB (t : List UInt8) : Option (List UInt8) := if (headOf t).2 = true ∧ 8 + (headOf t).1 ≤ t.length ∧ wholeOf (t.take (8 + (headOf t).1)) = true then some ((t.take (8 + (headOf t).1)).drop 8) else none
theorem at8_take {t : List UInt8} {n i : Nat} (h : i < n) : at8 (t.take n) i = at8 t i := by
  unfold at8
  rw [List.getD_eq_getElem?_getD, List.getD_eq_getElem?_getD, List.getElem?_take_of_lt h]
theorem headOf_take {t : List UInt8} {n : Nat} (h : 8 ≤ n) (h2 : n ≤ t.length) : headOf (t.take n) = headOf t := by
  unfold headOf
  rw [at8_take (by omega), at8_take (by omega), at8_take (by omega), at8_take (by omega), List.length_take, Nat.min_eq_left h2]
  by_cases h3 : ¬ at8 t 0 = 80 ∨ ¬ at8 t 1 = 100
  · rw [if_pos (.inr h3), if_pos (.inr h3)]
  · rw [if_neg (by rintro (h4 | h4); omega; exact h3 h4), if_neg (by rintro (h4 | h4); omega; exact h3 h4)]
theorem frameB_take (l : List UInt8) : (frameB l).drop 8 = l := by rw [frameB_eq]; rfl
/-- The document's test and the program's are one. -/
theorem stands_iff {t : List UInt8} (h1 : (headOf t).2 = true) (h2 : 8 + (headOf t).1 ≤ t.length) :
    wholeOf (t.take (8 + (headOf t).1)) = true ↔ (frameB ((t.take (8 + (headOf t).1)).drop 8)).take 8 = t.take 8 := by
  obtain ⟨m, hm⟩ : ∃ z, (headOf t).1 = z := ⟨_, rfl⟩
  rw [hm] at h2 ⊢
  have hh : headOf (t.take (8 + m)) = headOf t := headOf_take (by omega) h2
  have hlen : (t.take (8 + m)).length = 8 + m := by rw [List.length_take]; omega
  have hm8 : m ≤ 8184 := by
    unfold headOf at h1 hm
    split at h1
    · cases h1
    · rename_i hc
      rw [if_neg hc] at hm
      have := of_decide_eq_true h1
      simp only [] at hm
      omega
  have hcode : openCode (t.take (8 + m)) = if wholeOf (t.take (8 + m)) = false then 34 else 0 := by
    unfold openCode
    rw [hh, h1, if_neg (by simp), hlen, hm, if_neg (by omega), if_neg (by omega)]
  constructor
  · intro hw
    rw [hw, if_neg (by simp)] at hcode
    have hg := (open_is hcode).1
    rw [← hg, List.take_take, Nat.min_eq_left (by omega)]
  · intro hf
    obtain ⟨body, hbody⟩ : ∃ z, (t.take (8 + m)).drop 8 = z := ⟨_, rfl⟩
    rw [hbody] at hf
    have hbl : body.length = m := by rw [← hbody, List.length_drop, hlen]; omega
    have e : t.take (8 + m) = frameB body := by
      rw [← List.take_append_drop 8 (t.take (8 + m)), hbody, List.take_take, Nat.min_eq_left (by omega), ← hf]
      conv => rhs; rw [← List.take_append_drop 8 (frameB body), frameB_take]
    have ho := open_frame (l := body) (by omega)
    rw [← e, hcode] at ho
    cases hw : wholeOf (t.take (8 + m))
    · rw [hw] at ho; simp at ho
    · rfl

end Go.Proofs.Ytiejgandjlldjaa
