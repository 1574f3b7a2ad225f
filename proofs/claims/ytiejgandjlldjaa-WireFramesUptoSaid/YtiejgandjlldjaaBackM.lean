/-
  Plain: what was laid down is taken off by the same calls.
-/
import Derived.Test.YtiejgandjlldjaaTakesL
namespace Go.Proofs.Ytiejgandjlldjaa

/-- What is laid down. -/
def layB (k : Int) (v : Nat) (s : ByteArray) : List UInt8 :=
  if k = 1 ∨ k = 2 ∨ k = 12 then leN 1 v else if k = 3 ∨ k = 4 ∨ k = 11 then leN 2 v else if k = 5 ∨ k = 6 then leN 4 v else if k = 7 ∨ k = 8 then leN 8 v
  else if k = 9 then leN 8 (fbits v) else if k = 10 then leN 2 (cutB s).length ++ cutB s else []
/-- What is taken off. -/
def takeOf (k most : Int) (s : Ist) : (Nat × List UInt8) × Ist :=
  if k = 1 then ((sx .i8 (s.fixed 1).1, []), (s.fixed 1).2) else if k = 2 ∨ k = 12 then (((s.fixed 1).1, []), (s.fixed 1).2)
  else if k = 3 then ((sx .i16 (s.fixed 2).1, []), (s.fixed 2).2) else if k = 4 then (((s.fixed 2).1, []), (s.fixed 2).2)
  else if k = 5 then ((sx .i32 (s.fixed 4).1, []), (s.fixed 4).2) else if k = 6 then (((s.fixed 4).1, []), (s.fixed 4).2)
  else if k = 7 then ((sx .i64 (s.fixed 8).1, []), (s.fixed 8).2) else if k = 8 then (((s.fixed 8).1, []), (s.fixed 8).2)
  else if k = 9 then (if nan s.float.1 then (0, noneT) else (s.float.1, []), s.float.2)
  else if k = 10 then ((0, (s.text most).1), (s.text most).2) else if k = 11 then (((s.count most).1, []), (s.count most).2) else ((0, []), s)
/-- What shall be taken off. -/
def givenOf (k : Int) (v : Nat) (s : ByteArray) : Nat × List UInt8 :=
  if k = 1 then (sx .i8 v, []) else if k = 2 ∨ k = 12 then (v % 256, []) else if k = 3 then (sx .i16 v, []) else if k = 4 ∨ k = 11 then (v % 65536, [])
  else if k = 5 then (sx .i32 v, []) else if k = 6 then (v % 4294967296, []) else if k = 7 ∨ k = 8 then (v, [])
  else if k = 9 then (if nan v then (0, noneT) else (v, [])) else if k = 10 then (0, cutB s) else (0, [])

theorem num_leN (n v : Nat) : num (leN n v) = v % 2 ^ (8 * n) := by
  induction n with
  | zero => simp [leN, num, Nat.mod_one]
  | succ n ih =>
    have e : leN (n + 1) v = leN n v ++ [by8 v n] := by simp [leN, List.range_succ]
    rw [e, num_snoc, ih, leN_length]
    have hb : (by8 v n).toNat = v / 2 ^ (8 * n) % 256 := by
      unfold by8
      rw [UInt8.toNat_ofNat', Nat.mod_eq_of_lt (by omega)]
    rw [hb, show 8 * (n + 1) = 8 * n + 8 by omega, Nat.pow_add, show (2 : Nat) ^ 8 = 256 from rfl, Nat.mod_mul]
    simp only [Nat.mul_comm]
/-- A state in the midst: p was taken, k comes next. -/
theorem some_mid (p k q : List UInt8) (b : Nat) : (Ist.mk (p ++ k ++ q) p.length 0).some b k.length = (k, ⟨p ++ k ++ q, p.length + k.length, 0⟩) := by
  unfold Ist.some
  rw [if_pos rfl, if_neg (by simp only [List.length_append]; omega)]
  simp only [Prod.mk.injEq, and_true]
  rw [List.append_assoc, List.take_length_add_append, List.take_left, List.drop_left]
theorem fixed_mid (p q : List UInt8) (n v : Nat) : (Ist.mk (p ++ leN n v ++ q) p.length 0).fixed n = (v % 2 ^ (8 * n), ⟨p ++ leN n v ++ q, p.length + n, 0⟩) := by
  have h := some_mid p (leN n v) q p.length
  rw [leN_length] at h
  unfold Ist.fixed
  rw [h]
  simp only [Prod.mk.injEq, and_true]
  exact num_leN n v

theorem wrap_low_i8 (v : Nat) : sx .i8 (v % 2 ^ (8 * 1)) = sx .i8 v := by unfold sx; simp only [IntKind.wrap, IntKind.signed, IntKind.bits]; simp
theorem wrap_low_i16 (v : Nat) : sx .i16 (v % 2 ^ (8 * 2)) = sx .i16 v := by unfold sx; simp only [IntKind.wrap, IntKind.signed, IntKind.bits]; simp
theorem wrap_low_i32 (v : Nat) : sx .i32 (v % 2 ^ (8 * 4)) = sx .i32 v := by unfold sx; simp only [IntKind.wrap, IntKind.signed, IntKind.bits]; simp
theorem sx_i64 {v : Nat} (h : v < 18446744073709551616) : sx .i64 v = v := by unfold sx; simp only [IntKind.wrap, IntKind.signed, IntKind.bits]; simp; omega
theorem nan_no : nan 9221120237041090561 = true := by decide +kernel
theorem cutB_le (s : ByteArray) : (cutB s).length ≤ 65535 := by unfold cutB; rw [List.length_take]; omega

theorem back_one (p q : List UInt8) (k : Int) (v : Nat) (t : ByteArray) (hv : v < 18446744073709551616) :
    takeOf k 65535 ⟨p ++ layB k v t ++ q, p.length, 0⟩ = (givenOf k v t, ⟨p ++ layB k v t ++ q, p.length + (layB k v t).length, 0⟩) := by
  have h64 : v % 2 ^ (8 * 8) = v := Nat.mod_eq_of_lt (by omega)
  rcases Decidable.em (1 ≤ k ∧ k ≤ 12) with hk | hk
  · have hc : k = 1 ∨ k = 2 ∨ k = 3 ∨ k = 4 ∨ k = 5 ∨ k = 6 ∨ k = 7 ∨ k = 8 ∨ k = 9 ∨ k = 10 ∨ k = 11 ∨ k = 12 := by omega
    rcases hc with rfl | rfl | rfl | rfl | rfl | rfl | rfl | rfl | rfl | rfl | rfl | rfl
    · show ((sx .i8 _, []), _) = ((sx .i8 v, []), _)
      rw [show layB 1 v t = leN 1 v from rfl, fixed_mid, wrap_low_i8, leN_length]
    · show ((_, []), _) = ((v % 256, []), _)
      rw [show layB 2 v t = leN 1 v from rfl, fixed_mid, leN_length]
    · show ((sx .i16 _, []), _) = ((sx .i16 v, []), _)
      rw [show layB 3 v t = leN 2 v from rfl, fixed_mid, wrap_low_i16, leN_length]
    · show ((_, []), _) = ((v % 65536, []), _)
      rw [show layB 4 v t = leN 2 v from rfl, fixed_mid, leN_length]
    · show ((sx .i32 _, []), _) = ((sx .i32 v, []), _)
      rw [show layB 5 v t = leN 4 v from rfl, fixed_mid, wrap_low_i32, leN_length]
    · show ((_, []), _) = ((v % 4294967296, []), _)
      rw [show layB 6 v t = leN 4 v from rfl, fixed_mid, leN_length]
    · show ((sx .i64 _, []), _) = ((v, []), _)
      rw [show layB 7 v t = leN 8 v from rfl, fixed_mid, h64, sx_i64 hv, leN_length]
    · show ((_, []), _) = ((v, []), _)
      rw [show layB 8 v t = leN 8 v from rfl, fixed_mid, h64, leN_length]
    · show ((if nan (Ist.float _).1 then (0, noneT) else ((Ist.float _).1, [])), (Ist.float _).2) = ((if nan v then (0, noneT) else (v, [])), _)
      rw [show layB 9 v t = leN 8 (fbits v) from rfl]
      have hf : fbits v < 18446744073709551616 := by unfold fbits; split <;> omega
      unfold Ist.float
      rw [fixed_mid, Nat.mod_eq_of_lt (show fbits v < 2 ^ (8 * 8) by omega), leN_length]
      unfold fbits
      cases hn : nan v
      · simp [hn]
      · simp [nan_no]
    · show ((0, (Ist.text 65535 _).1), (Ist.text 65535 _).2) = ((0, cutB t), _)
      rw [show layB 10 v t = leN 2 (cutB t).length ++ cutB t from rfl]
      have hc := cutB_le t
      have hm : (cutB t).length % 2 ^ (8 * 2) = (cutB t).length := Nat.mod_eq_of_lt (by omega)
      unfold Ist.text Ist.count
      have h1 := fixed_mid p (cutB t ++ q) 2 (cutB t).length
      rw [hm, ← List.append_assoc, List.append_assoc p] at h1
      rw [h1]
      simp only []
      rw [if_neg (by omega)]
      simp only []
      have h2 := some_mid (p ++ leN 2 (cutB t).length) (cutB t) q p.length
      rw [List.length_append, leN_length] at h2
      rw [show p ++ (leN 2 (cutB t).length ++ cutB t) ++ q = p ++ leN 2 (cutB t).length ++ cutB t ++ q by simp [List.append_assoc], h2]
      simp only [List.length_append, leN_length, Nat.add_assoc]
    · show (((Ist.count 65535 _).1, []), (Ist.count 65535 _).2) = ((v % 65536, []), _)
      rw [show layB 11 v t = leN 2 v from rfl]
      unfold Ist.count
      rw [fixed_mid, if_neg (by omega), leN_length]
    · show ((_, []), _) = ((v % 256, []), _)
      rw [show layB 12 v t = leN 1 v from rfl, fixed_mid, leN_length]
  · have e1 : layB k v t = [] := by unfold layB; simp only [show ¬ k = 1 by omega, show ¬ k = 2 by omega, show ¬ k = 3 by omega, show ¬ k = 4 by omega, show ¬ k = 5 by omega, show ¬ k = 6 by omega, show ¬ k = 7 by omega, show ¬ k = 8 by omega, show ¬ k = 9 by omega, show ¬ k = 10 by omega, show ¬ k = 11 by omega, show ¬ k = 12 by omega, false_or, if_false]
    have e2 : givenOf k v t = (0, []) := by unfold givenOf; simp only [show ¬ k = 1 by omega, show ¬ k = 2 by omega, show ¬ k = 3 by omega, show ¬ k = 4 by omega, show ¬ k = 5 by omega, show ¬ k = 6 by omega, show ¬ k = 7 by omega, show ¬ k = 8 by omega, show ¬ k = 9 by omega, show ¬ k = 10 by omega, show ¬ k = 11 by omega, show ¬ k = 12 by omega, false_or, if_false]
    have e3 : ∀ s, takeOf k 65535 s = ((0, []), s) := fun s => by unfold takeOf; simp only [show ¬ k = 1 by omega, show ¬ k = 2 by omega, show ¬ k = 3 by omega, show ¬ k = 4 by omega, show ¬ k = 5 by omega, show ¬ k = 6 by omega, show ¬ k = 7 by omega, show ¬ k = 8 by omega, show ¬ k = 9 by omega, show ¬ k = 10 by omega, show ¬ k = 11 by omega, show ¬ k = 12 by omega, false_or, if_false]
    rw [e1, e2, e3]
    simp

end Go.Proofs.Ytiejgandjlldjaa
