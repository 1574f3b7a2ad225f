/-
  Plain: a frame is opened; what is opened is a frame.
-/
import Derived.Test.YtiejgandjlldjaaCrcM
namespace Go.Proofs.Ytiejgandjlldjaa

theorem leN2 (v : Nat) : leN 2 v = [by8 v 0, by8 v 1] := rfl
theorem leN4 (v : Nat) : leN 4 v = [by8 v 0, by8 v 1, by8 v 2, by8 v 3] := rfl
theorem by8_n (v k : Nat) : (by8 v k).toNat = v / 2 ^ (8 * k) % 256 := by
  unfold by8
  rw [UInt8.toNat_ofNat', Nat.mod_eq_of_lt (by omega)]
theorem by8_eq {v k : Nat} {b : UInt8} (h : v / 2 ^ (8 * k) % 256 = b.toNat) : by8 v k = b := UInt8.toNat_inj.1 ((by8_n v k).trans h)
/-- A frame, byte by byte. -/
theorem frameB_eq (l : List UInt8) : frameB l = 80 :: 100 :: by8 l.length 0 :: by8 l.length 1 :: by8 (crcN (headB l ++ l)) 0 :: by8 (crcN (headB l ++ l)) 1 :: by8 (crcN (headB l ++ l)) 2 :: by8 (crcN (headB l ++ l)) 3 :: l := by
  unfold frameB
  conv => lhs; rw [show headB l ++ leN 4 (crcN (headB l ++ l)) ++ l = headB l ++ (leN 4 (crcN (headB l ++ l)) ++ l) from List.append_assoc _ _ _]
  rw [leN4]
  generalize crcN (headB l ++ l) = x
  unfold headB
  rw [leN2]
  rfl
theorem eight {g : List UInt8} (h : 8 ≤ g.length) : ∃ b0 b1 b2 b3 b4 b5 b6 b7 t, g = b0 :: b1 :: b2 :: b3 :: b4 :: b5 :: b6 :: b7 :: t := by
  match g, h with
  | b0 :: b1 :: b2 :: b3 :: b4 :: b5 :: b6 :: b7 :: t, _ => exact ⟨b0, b1, b2, b3, b4, b5, b6, b7, t, rfl⟩

theorem open_frame {l : List UInt8} (hl : l.length ≤ 8184) : openCode (frameB l) = 0 := by
  have hx := crcN_lt (headB l ++ l)
  have e := frameB_eq l
  have hhd : headB l = [80, 100, by8 l.length 0, by8 l.length 1] := by unfold headB; rw [leN2]; rfl
  obtain ⟨x, hx'⟩ : ∃ x, crcN (headB l ++ l) = x := ⟨_, rfl⟩
  rw [hx'] at e hx
  have hlen : (frameB l).length = 8 + l.length := by rw [frameB_length]; omega
  have hh : headOf (frameB l) = (l.length, true) := by
    have h2 : at8 (frameB l) 2 = l.length % 256 := by rw [e]; show (by8 l.length 0).toNat = _; rw [by8_n]; simp
    have h3 : at8 (frameB l) 3 = l.length / 256 % 256 := by rw [e]; show (by8 l.length 1).toNat = _; rw [by8_n]
    unfold headOf
    rw [if_neg (by rw [hlen]; rw [e]; simp [at8]), h2, h3]
    rw [show l.length % 256 + l.length / 256 % 256 * 256 = l.length by omega]
    simp [hl]
  have hw : wholeOf (frameB l) = true := by
    unfold wholeOf
    have ht : (frameB l).take 4 ++ (frameB l).drop 8 = headB l ++ l := by rw [e, hhd]; rfl
    have hs : sumOf (frameB l) = x := by
      have h4 : at8 (frameB l) 4 = x % 256 := by rw [e]; show (by8 x 0).toNat = _; rw [by8_n]; simp
      have h5 : at8 (frameB l) 5 = x / 256 % 256 := by rw [e]; show (by8 x 1).toNat = _; rw [by8_n]
      have h6 : at8 (frameB l) 6 = x / 65536 % 256 := by rw [e]; show (by8 x 2).toNat = _; rw [by8_n]
      have h7 : at8 (frameB l) 7 = x / 16777216 % 256 := by rw [e]; show (by8 x 3).toNat = _; rw [by8_n]
      unfold sumOf
      rw [h4, h5, h6, h7]
      omega
    rw [ht, hx', hs]
    simp
  unfold openCode
  rw [hh, hw, hlen]
  simp
theorem body_frame {l : List UInt8} (hl : l.length ≤ 8184) : openBody (frameB l) = l := by
  unfold openBody
  rw [if_pos (open_frame hl), frameB_eq]
  rfl

/-- What is opened is a frame. -/
theorem open_is {g : List UInt8} (h : openCode g = 0) : g = frameB (g.drop 8) ∧ 8 ≤ g.length ∧ g.length ≤ 8192 := by
  unfold openCode at h
  split at h
  · cases h
  rename_i hok
  have hok' : (headOf g).2 = true := by simpa using hok
  have h8 := head_long hok'
  split at h
  · cases h
  split at h
  · cases h
  split at h
  · cases h
  rename_i hlt hgt hw
  have hw' : wholeOf g = true := by simpa using hw
  obtain ⟨b0, b1, b2, b3, b4, b5, b6, b7, t, rfl⟩ := eight h8
  have hlen : (headOf (b0 :: b1 :: b2 :: b3 :: b4 :: b5 :: b6 :: b7 :: t)).1 = t.length := by simp only [List.length_cons] at hlt hgt; omega
  have hd : List.drop 8 (b0 :: b1 :: b2 :: b3 :: b4 :: b5 :: b6 :: b7 :: t) = t := rfl
  rw [hd]
  have hcond : ¬ ((b0 :: b1 :: b2 :: b3 :: b4 :: b5 :: b6 :: b7 :: t).length < 8 ∨ ¬ at8 (b0 :: b1 :: b2 :: b3 :: b4 :: b5 :: b6 :: b7 :: t) 0 = 80 ∨ ¬ at8 (b0 :: b1 :: b2 :: b3 :: b4 :: b5 :: b6 :: b7 :: t) 1 = 100) := by
    intro hc
    unfold headOf at hok'
    rw [if_pos hc] at hok'
    cases hok'
  have h0 : b0 = 80 := by
    have : b0.toNat = 80 := by
      have : at8 (b0 :: b1 :: b2 :: b3 :: b4 :: b5 :: b6 :: b7 :: t) 0 = 80 := by omega
      exact this
    exact UInt8.toNat_inj.1 this
  have h1 : b1 = 100 := by
    have : b1.toNat = 100 := by
      have : at8 (b0 :: b1 :: b2 :: b3 :: b4 :: b5 :: b6 :: b7 :: t) 1 = 100 := by omega
      exact this
    exact UInt8.toNat_inj.1 this
  have hn : b2.toNat + b3.toNat * 256 = t.length := by
    unfold headOf at hlen
    rw [if_neg hcond] at hlen
    exact hlen
  have hn8 : t.length ≤ 8184 := by
    unfold headOf at hok'
    rw [if_neg hcond] at hok'
    have hk : at8 (b0 :: b1 :: b2 :: b3 :: b4 :: b5 :: b6 :: b7 :: t) 2 + at8 (b0 :: b1 :: b2 :: b3 :: b4 :: b5 :: b6 :: b7 :: t) 3 * 256 ≤ 8184 := by simpa using hok'
    have : b2.toNat + b3.toNat * 256 ≤ 8184 := hk
    omega
  have hb2 := b2.toNat_lt
  have hb3 := b3.toNat_lt
  have hb4 := b4.toNat_lt
  have hb5 := b5.toNat_lt
  have hb6 := b6.toNat_lt
  have hb7 := b7.toNat_lt
  have e2 : by8 t.length 0 = b2 := by8_eq (by rw [Nat.mul_zero, Nat.pow_zero, Nat.div_one]; omega)
  have e3 : by8 t.length 1 = b3 := by8_eq (by rw [show (2 : Nat) ^ (8 * 1) = 256 from rfl]; omega)
  have hhd : headB t = [80, 100, b2, b3] := by unfold headB; rw [leN2, e2, e3]; rfl
  subst h0 h1
  unfold wholeOf at hw'
  have hw2 : crcN (headB t ++ t) = b4.toNat + b5.toNat * 256 + b6.toNat * 65536 + b7.toNat * 16777216 := by
    rw [hhd]
    exact beq_iff_eq.1 hw'
  refine ⟨?_, h8, by simp only [List.length_cons]; omega⟩
  rw [frameB_eq, hw2, e2, e3]
  rw [by8_eq (k := 0) (b := b4) (by rw [Nat.mul_zero, Nat.pow_zero, Nat.div_one]; omega), by8_eq (k := 1) (b := b5) (by rw [show (2 : Nat) ^ (8 * 1) = 256 from rfl]; omega),
    by8_eq (k := 2) (b := b6) (by rw [show (2 : Nat) ^ (8 * 2) = 65536 from rfl]; omega), by8_eq (k := 3) (b := b7) (by rw [show (2 : Nat) ^ (8 * 3) = 16777216 from rfl]; omega)]

/-- A frame in which bytes were changed (all in its head, or up to four neighbours of the body's) is refused. -/
theorem turned_bad {l g : List UInt8} (_hl : l.length ≤ 8184) (hg : g.length = (frameB l).length) (hne : ¬ g = frameB l) (h : g.drop 8 = l ∨ ∃ i, g.take 8 = (frameB l).take 8 ∧ (g.drop 8).take i = l.take i ∧ (g.drop 8).drop (i + 4) = l.drop (i + 4)) : ¬ openCode g = 0 := by
  intro ho
  obtain ⟨e, h8, _⟩ := open_is ho
  rcases h with h | ⟨i, h1, h2, h3⟩
  · rw [h] at e
    exact hne e
  · obtain ⟨l', hl'⟩ : ∃ z, g.drop 8 = z := ⟨_, rfl⟩
    rw [hl'] at e h2 h3
    have hlen : l'.length = l.length := by
      have := congrArg List.length e
      rw [frameB_length] at this
      rw [frameB_length] at hg
      omega
    rw [e] at h1
    have hh : headB l' = headB l := by unfold headB; rw [hlen]
    rw [frameB_eq, frameB_eq] at h1
    simp only [List.take_succ_cons, List.take_zero, List.cons.injEq, and_true] at h1
    obtain ⟨_, _, _, _, k0, k1, k2, k3⟩ := h1
    have hx := crcN_lt (headB l' ++ l')
    have hy := crcN_lt (headB l ++ l)
    have q0 := congrArg UInt8.toNat k0
    have q1 := congrArg UInt8.toNat k1
    have q2 := congrArg UInt8.toNat k2
    have q3 := congrArg UInt8.toNat k3
    rw [by8_n, by8_n] at q0 q1 q2 q3
    obtain ⟨x, hx'⟩ : ∃ x, crcN (headB l' ++ l') = x := ⟨_, rfl⟩
    obtain ⟨y, hy'⟩ : ∃ x, crcN (headB l ++ l) = x := ⟨_, rfl⟩
    rw [hx', hy'] at q0 q1 q2 q3
    rw [hx'] at hx
    rw [hy'] at hy
    have hxy : x = y := by
      simp only [show (2 : Nat) ^ (8 * 0) = 1 from rfl, show (2 : Nat) ^ (8 * 1) = 256 from rfl, show (2 : Nat) ^ (8 * 2) = 65536 from rfl, show (2 : Nat) ^ (8 * 3) = 16777216 from rfl, Nat.div_one] at q0 q1 q2 q3
      omega
    have hm : mor 4294967295 (headB l ++ l') = mor 4294967295 (headB l ++ l) := by
      have h1 := mor_lt (r := 4294967295) (by omega) (headB l ++ l')
      have h2 := mor_lt (r := 4294967295) (by omega) (headB l ++ l)
      rw [hh] at hx'
      unfold crcN at hx' hy'
      omega
    refine mor_window (headB l) l' l 4294967295 (by omega) hlen i h2 h3 (fun e2 => hne ?_) hm
    rw [e, e2]

end Go.Proofs.Ytiejgandjlldjaa
