/-
  Plain: what was taken off, laid down again, is what was read.
-/
import Derived.Test.YtiejgandjlldjaaBackM
import Derived.Test.YtiejgandjlldjaaLaysA
namespace Go.Proofs.Ytiejgandjlldjaa
open Go.RowKit

/-- The number that is laid down again. -/
def againN (k : Int) (g : Nat × List UInt8) : Nat := if k = 9 ∧ g.2 = noneT then 9221120237041090561 else g.1

theorem num_byte (l : List UInt8) (k : Nat) (hk : k < l.length) : num l / 2 ^ (8 * k) % 256 = l[k].toNat := by
  induction l generalizing k with
  | nil => simp at hk
  | cons b l ih =>
    have hb := b.toNat_lt
    match k with
    | 0 => simp only [num, Nat.mul_zero, Nat.pow_zero, Nat.div_one, List.getElem_cons_zero]; omega
    | k + 1 =>
      simp only [num, List.getElem_cons_succ]
      rw [show 8 * (k + 1) = 8 + 8 * k by omega, Nat.pow_add, ← Nat.div_div_eq_div_mul, show (b.toNat + 256 * num l) / 2 ^ 8 = num l by omega]
      exact ih k (by simpa using hk)
theorem leN_num (l : List UInt8) : leN l.length (num l) = l := by
  apply List.ext_getElem
  · rw [leN_length]
  · intro k h1 h2
    have e : (leN l.length (num l))[k]'h1 = by8 (num l) k := by simp [leN]
    rw [e]
    unfold by8
    rw [num_byte l k h2]
    simp
theorem take_go (l : List UInt8) (a n : Nat) : l.take a ++ (l.take (a + n)).drop a = l.take (a + n) := by
  have h := List.take_append_drop a (l.take (a + n))
  rwa [List.take_take, Nat.min_eq_left (by omega)] at h
theorem some_ok {s : Ist} {b n : Nat} (h0 : s.code = 0) (h : (s.some b n).2.code = 0) : s.some b n = ((s.l.take (s.at_ + n)).drop s.at_, ⟨s.l, s.at_ + n, 0⟩) ∧ ¬ (s.l.length - s.at_ < n) := by
  unfold Ist.some at h ⊢
  rw [if_pos h0] at h ⊢
  split at h
  · simp at h
  · rename_i hn
    rw [if_neg hn]
    exact ⟨rfl, hn⟩
theorem some_bad {s : Ist} {b n : Nat} (h0 : ¬ s.code = 0) : s.some b n = ([], s) := by unfold Ist.some; rw [if_neg h0]
theorem some_nil {s : Ist} {b n : Nat} (h : ¬ (s.some b n).2.code = 0) : (s.some b n).1 = [] := by
  unfold Ist.some at h ⊢
  split at h
  · rename_i h0
    rw [if_pos h0]
    split at h
    · rename_i h1; rw [if_pos h1]
    · simp at h
  · rename_i h0; rw [if_neg h0]
theorem fixed_ok {s : Ist} {n : Nat} (hat : s.at_ ≤ s.l.length) (h0 : s.code = 0) (h : (s.fixed n).2.code = 0) : leN n (s.fixed n).1 = (s.l.take (s.at_ + n)).drop s.at_ ∧ (s.fixed n).2 = ⟨s.l, s.at_ + n, 0⟩ := by
  unfold Ist.fixed at h ⊢
  obtain ⟨e, hn⟩ := some_ok h0 h
  rw [e]
  refine ⟨?_, rfl⟩
  have := leN_num ((s.l.take (s.at_ + n)).drop s.at_)
  rw [List.length_drop, List.length_take, show min (s.at_ + n) s.l.length - s.at_ = n by omega] at this
  exact this
theorem fixed_bad {s : Ist} {n : Nat} (h0 : ¬ s.code = 0) : (s.fixed n).2 = s := by unfold Ist.fixed; rw [some_bad h0]
theorem float_bad {s : Ist} (h0 : ¬ s.code = 0) : ¬ s.float.2.code = 0 := by
  unfold Ist.float
  split
  · simp
  · rw [fixed_bad h0]; exact h0
theorem float_ok {s : Ist} (h : s.float.2.code = 0) : s.float = s.fixed 8 ∧ (nan (s.fixed 8).1 = true → (s.fixed 8).1 = 9221120237041090561) := by
  unfold Ist.float at h ⊢
  split at h
  · simp at h
  · rename_i hn
    rw [if_neg hn]
    exact ⟨rfl, fun h1 => Decidable.byContradiction fun h2 => hn ⟨h1, h2⟩⟩
theorem count_bad {s : Ist} {m : Int} (h0 : ¬ s.code = 0) : ¬ (s.count m).2.code = 0 := by
  unfold Ist.count
  split
  · simp
  · rw [fixed_bad h0]; exact h0
theorem count_ok {s : Ist} {m : Int} (h : (s.count m).2.code = 0) : s.count m = s.fixed 2 := by
  unfold Ist.count at h ⊢
  split at h
  · simp at h
  · rename_i hn
    rw [if_neg hn]
theorem text_ok {s : Ist} {m : Int} (h : (s.text m).2.code = 0) : (s.count m).2.code = 0 := by
  refine Decidable.byContradiction fun h0 => ?_
  unfold Ist.text at h
  rw [some_bad h0] at h
  exact h0 h

theorem leN_sx8 (v : Nat) : leN 1 (sx .i8 v) = leN 1 v := by
  obtain ⟨v', h1, h2, _⟩ := low_i8 v
  unfold sx
  rw [h1, h2]
  rfl
theorem leN_sx16 (v : Nat) : leN 2 (sx .i16 v) = leN 2 v := by
  obtain ⟨v', h1, h2, _⟩ := low_i16 v
  unfold sx
  rw [h1, h2]
  rfl
theorem leN_sx32 (v : Nat) : leN 4 (sx .i32 v) = leN 4 v := by
  obtain ⟨v', h1, h2, _⟩ := low_i32 v
  unfold sx
  rw [IntWalk.i32_left, h1, h2]
  rfl
theorem leN_sx64 (v : Nat) : leN 8 (sx .i64 v) = leN 8 v := by
  obtain ⟨v', h1, h2, _⟩ := low_i64 v
  unfold sx
  rw [IntWalk.i64_left, h1, h2]
  rfl
theorem cutB_list {l : List UInt8} (h : l.length ≤ 65535) : cutB ⟨l.toArray⟩ = l := by
  unfold cutB
  exact List.take_of_length_le h
theorem text_fits (s : Ist) (m : Int) : (s.text m).1.length ≤ 65535 := by
  unfold Ist.text
  refine Nat.le_trans (Ist.some_len _ _ _) ?_
  unfold Ist.count
  have := s.fixed_lt 2
  split
  · simp
  · omega

theorem takeOf_l (k most : Int) (s : Ist) : (takeOf k most s).2.l = s.l := by
  unfold takeOf
  split
  · exact s.fixed_l 1
  split
  · exact s.fixed_l 1
  split
  · exact s.fixed_l 2
  split
  · exact s.fixed_l 2
  split
  · exact s.fixed_l 4
  split
  · exact s.fixed_l 4
  split
  · exact s.fixed_l 8
  split
  · exact s.fixed_l 8
  split
  · show s.float.2.l = s.l
    unfold Ist.float
    split <;> exact s.fixed_l 8
  split
  · show (s.text most).2.l = s.l
    unfold Ist.text
    rw [Ist.some_l]
    exact s.count_l most
  split
  · exact s.count_l most
  · rfl
theorem takeOf_bad (k most : Int) (s : Ist) (h : ¬ s.code = 0) : ¬ (takeOf k most s).2.code = 0 := by
  have hf : ∀ n, ¬ (s.fixed n).2.code = 0 := fun n => by rw [fixed_bad h]; exact h
  unfold takeOf
  split
  · exact hf 1
  split
  · exact hf 1
  split
  · exact hf 2
  split
  · exact hf 2
  split
  · exact hf 4
  split
  · exact hf 4
  split
  · exact hf 8
  split
  · exact hf 8
  split
  · exact float_bad h
  split
  · exact fun h1 => count_bad h (text_ok h1)
  split
  · exact count_bad h
  · exact h
theorem layB_short {k : Int} (v : Nat) (t : ByteArray) (h : k = 10 → cutB t = []) : (layB k v t).length ≤ 8 := by
  unfold layB
  split
  · rw [leN_length]; omega
  split
  · rw [leN_length]; omega
  split
  · rw [leN_length]; omega
  split
  · rw [leN_length]; omega
  split
  · rw [leN_length]; omega
  split
  · rename_i h10
    rw [h h10, List.length_append, leN_length]; simp
  · simp
theorem again_bad (k most : Int) (s : Ist) (h : ¬ (takeOf k most s).2.code = 0) : (layB k (againN k (takeOf k most s).1) ⟨(takeOf k most s).1.2.toArray⟩).length ≤ 8 := by
  refine layB_short _ _ fun hk => ?_
  subst hk
  have e : takeOf 10 most s = ((0, (s.text most).1), (s.text most).2) := rfl
  rw [e] at h ⊢
  have h1 : (s.text most).1 = [] := by
    unfold Ist.text at h ⊢
    exact some_nil h
  rw [h1]
  rfl

theorem again_fixed {s : Ist} {n v : Nat} (hat : s.at_ ≤ s.l.length) (h0 : s.code = 0) (h : (s.fixed n).2.code = 0) (hv : leN n v = leN n (s.fixed n).1) : s.l.take s.at_ ++ leN n v = s.l.take (s.fixed n).2.at_ := by
  obtain ⟨h1, h2⟩ := fixed_ok hat h0 h
  rw [hv, h1, h2, take_go]
theorem againN_not {k : Int} (hk : ¬ k = 9) (g : Nat × List UInt8) : againN k g = g.1 := by unfold againN; rw [if_neg (fun h => hk h.1)]

theorem again_one (s : Ist) (k most : Int) (hat : s.at_ ≤ s.l.length) (h0 : s.code = 0) (h : (takeOf k most s).2.code = 0) :
    s.l.take s.at_ ++ layB k (againN k (takeOf k most s).1) ⟨(takeOf k most s).1.2.toArray⟩ = s.l.take (takeOf k most s).2.at_ := by
  rcases Decidable.em (1 ≤ k ∧ k ≤ 12) with hk | hk
  · have hc : k = 1 ∨ k = 2 ∨ k = 3 ∨ k = 4 ∨ k = 5 ∨ k = 6 ∨ k = 7 ∨ k = 8 ∨ k = 9 ∨ k = 10 ∨ k = 11 ∨ k = 12 := by omega
    rcases hc with rfl | rfl | rfl | rfl | rfl | rfl | rfl | rfl | rfl | rfl | rfl | rfl
    · rw [againN_not (by decide)]; exact again_fixed (n := 1) hat h0 h (leN_sx8 _)
    · rw [againN_not (by decide)]; exact again_fixed (n := 1) hat h0 h rfl
    · rw [againN_not (by decide)]; exact again_fixed (n := 2) hat h0 h (leN_sx16 _)
    · rw [againN_not (by decide)]; exact again_fixed (n := 2) hat h0 h rfl
    · rw [againN_not (by decide)]; exact again_fixed (n := 4) hat h0 h (leN_sx32 _)
    · rw [againN_not (by decide)]; exact again_fixed (n := 4) hat h0 h rfl
    · rw [againN_not (by decide)]; exact again_fixed (n := 8) hat h0 h (leN_sx64 _)
    · rw [againN_not (by decide)]; exact again_fixed (n := 8) hat h0 h rfl
    · have e : takeOf 9 most s = (if nan s.float.1 then (0, noneT) else (s.float.1, []), s.float.2) := rfl
      rw [e] at h ⊢
      obtain ⟨h1, h2⟩ := float_ok h
      replace h : s.float.2.code = 0 := h
      rw [h1] at h ⊢
      show s.l.take s.at_ ++ leN 8 (fbits (againN 9 (if nan (s.fixed 8).1 then (0, noneT) else ((s.fixed 8).1, [])))) = s.l.take (s.fixed 8).2.at_
      refine again_fixed hat h0 h ?_
      cases hn : nan (s.fixed 8).1
      · rw [show againN 9 (if false then (0, noneT) else ((s.fixed 8).1, [])) = (s.fixed 8).1 by unfold againN; rw [if_neg (by simp [noneT])]; simp]
        unfold fbits
        rw [hn]
        rfl
      · rw [show againN 9 (if true then (0, noneT) else ((s.fixed 8).1, [])) = 9221120237041090561 by unfold againN; rw [if_pos (by simp)]]
        unfold fbits
        rw [if_pos nan_no, h2 hn]
    · have e : takeOf 10 most s = ((0, (s.text most).1), (s.text most).2) := rfl
      rw [e] at h ⊢
      replace h : (s.text most).2.code = 0 := h
      have hc := text_ok h
      have hce := count_ok hc
      have hf := text_fits s most
      show s.l.take s.at_ ++ (leN 2 (cutB ⟨(s.text most).1.toArray⟩).length ++ cutB ⟨(s.text most).1.toArray⟩) = s.l.take (s.text most).2.at_
      rw [cutB_list hf]
      unfold Ist.text at h ⊢
      rw [hce] at h hc ⊢
      obtain ⟨h1, h2⟩ := fixed_ok hat h0 hc
      obtain ⟨h3, h4⟩ := some_ok hc h
      rw [h3]
      simp only []
      rw [h2] at h4 ⊢
      simp only [] at h4 ⊢
      rw [List.length_drop, List.length_take, show min (s.at_ + 2 + (s.fixed 2).1) s.l.length - (s.at_ + 2) = (s.fixed 2).1 by omega, h1, ← List.append_assoc, take_go, take_go]
    · rw [againN_not (by decide)]
      have e : takeOf 11 most s = (((s.count most).1, []), (s.count most).2) := rfl
      rw [e] at h ⊢
      replace h : (s.count most).2.code = 0 := h
      have hce := count_ok h
      rw [hce] at h ⊢
      exact again_fixed (n := 2) hat h0 h rfl
    · rw [againN_not (by decide)]; exact again_fixed (n := 1) hat h0 h rfl
  · have e1 : ∀ v t, layB k v t = [] := fun v t => by unfold layB; simp only [show ¬ k = 1 by omega, show ¬ k = 2 by omega, show ¬ k = 3 by omega, show ¬ k = 4 by omega, show ¬ k = 5 by omega, show ¬ k = 6 by omega, show ¬ k = 7 by omega, show ¬ k = 8 by omega, show ¬ k = 9 by omega, show ¬ k = 10 by omega, show ¬ k = 11 by omega, show ¬ k = 12 by omega, false_or, if_false]
    have e3 : takeOf k most s = ((0, []), s) := by unfold takeOf; simp only [show ¬ k = 1 by omega, show ¬ k = 2 by omega, show ¬ k = 3 by omega, show ¬ k = 4 by omega, show ¬ k = 5 by omega, show ¬ k = 6 by omega, show ¬ k = 7 by omega, show ¬ k = 8 by omega, show ¬ k = 9 by omega, show ¬ k = 10 by omega, show ¬ k = 11 by omega, show ¬ k = 12 by omega, false_or, if_false]
    rw [e1, e3, List.append_nil]

/-- What stands between the takes: b is read, k takes were made. -/
def AInv (b : List UInt8) (k : Nat) (s : Ist) (out : List UInt8) : Prop := s.l = b ∧ s.at_ ≤ s.l.length ∧ (s.code = 0 → out = b.take s.at_) ∧ out.length ≤ b.length + 8 * k
theorem ainv_step {b : List UInt8} {k : Nat} {s : Ist} {out : List UInt8} (h : AInv b k s out) (ki most : Int) (hat : (takeOf ki most s).2.at_ ≤ (takeOf ki most s).2.l.length) :
    AInv b (k + 1) (takeOf ki most s).2 (out ++ layB ki (againN ki (takeOf ki most s).1) ⟨(takeOf ki most s).1.2.toArray⟩) := by
  obtain ⟨rfl, h1, h2, h3⟩ := h
  have hl := takeOf_l ki most s
  refine ⟨hl, hat, fun hc => ?_, ?_⟩
  · have h0 : s.code = 0 := Decidable.byContradiction fun h0 => takeOf_bad ki most s h0 hc
    rw [h2 h0]
    exact again_one s ki most h1 h0 hc
  · rcases Decidable.em ((takeOf ki most s).2.code = 0) with hc | hc
    · have h0 : s.code = 0 := Decidable.byContradiction fun h0 => takeOf_bad ki most s h0 hc
      rw [h2 h0, again_one s ki most h1 h0 hc, List.length_take]
      omega
    · have := again_bad ki most s hc
      rw [List.length_append]
      omega
theorem ainv_end {b : List UInt8} {k : Nat} {s : Ist} {out : List UInt8} (h : AInv b k s out) (he : endOf s = 0) : out = b := by
  obtain ⟨rfl, h1, h2, h3⟩ := h
  unfold endOf at he
  split at he
  · cases he
  · rename_i hn
    rw [h2 he, List.take_of_length_le (by have : ¬ s.at_ < s.l.length := fun h => hn ⟨he, h⟩; omega)]

end Go.Proofs.Ytiejgandjlldjaa
