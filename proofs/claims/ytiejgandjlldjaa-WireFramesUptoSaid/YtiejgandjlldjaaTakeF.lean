/-
  Package wire: (*In).fixed.
-/
import Derived.Test.YtiejgandjlldjaaSome
import Derived.Laws.BitsAllLaws
namespace Go.Proofs.Ytiejgandjlldjaa
open Go.RowKit

/-- A number of bytes, the lowest first. -/
def num : List UInt8 → Nat
  | [] => 0
  | b :: l => b.toNat + 256 * num l
theorem num_snoc (l : List UInt8) (b : UInt8) : num (l ++ [b]) = num l + b.toNat * 2 ^ (8 * l.length) := by
  induction l with
  | nil => simp [num]
  | cons a l ih =>
    simp only [List.cons_append, num, ih, List.length_cons]
    rw [show 8 * (l.length + 1) = 8 * l.length + 8 by omega, Nat.pow_add, Nat.mul_add]
    rw [show b.toNat * (2 ^ (8 * l.length) * 2 ^ 8) = 256 * (b.toNat * 2 ^ (8 * l.length)) by rw [show (2 : Nat) ^ 8 = 256 from rfl, ← Nat.mul_assoc, Nat.mul_comm]]
    omega
theorem num_lt (l : List UInt8) : num l < 2 ^ (8 * l.length) := by
  induction l with
  | nil => simp [num]
  | cons a l ih =>
    simp only [num, List.length_cons]
    rw [show 8 * (l.length + 1) = 8 * l.length + 8 by omega, Nat.pow_add, show (2 : Nat) ^ 8 = 256 from rfl]
    have := a.toNat_lt
    omega
theorem num_take (l : List UInt8) {k : Nat} (hk : k < l.length) : num (l.take (k + 1)) = num (l.take k) + l[k].toNat * 2 ^ (8 * k) := by
  rw [List.take_succ_eq_append_getElem hk, num_snoc, List.length_take, Nat.min_eq_left (by omega)]
theorem or_step {v b k : Nat} (hv : v < 2 ^ (8 * k)) (hb : b < 256) (hk : k < 8) : bits .or .u64 (v : Int) (IntKind.u64.wrap ((b : Int) * 2 ^ (8 * k))) = ((v + b * 2 ^ (8 * k) : Nat) : Int) := by
  have h8 : (2 : Nat) ^ (8 * k) * 256 ≤ 18446744073709551616 := by
    have : (2 : Nat) ^ (8 * k) ≤ 2 ^ 56 := Nat.pow_le_pow_right (by omega) (by omega)
    have h56 : (2 : Nat) ^ 56 = 72057594037927936 := by decide
    omega
  have hlt : b * 2 ^ (8 * k) < 18446744073709551616 := by
    have := Nat.mul_le_mul_right (2 ^ (8 * k)) (show b ≤ 255 by omega)
    have : 0 < 2 ^ (8 * k) := Nat.pow_pos (by omega)
    omega
  have e1 : IntKind.u64.wrap ((b : Int) * 2 ^ (8 * k)) = ((b * 2 ^ (8 * k) : Nat) : Int) := by
    rw [show ((b : Int) * 2 ^ (8 * k)) = ((b * 2 ^ (8 * k) : Nat) : Int) by norm_cast]
    rw [IntKind.wrap_u64]
    omega
  have hv2 : v < 18446744073709551616 := by omega
  rw [e1, u64_or_nat v _ hv2 hlt, Nat.or_comm, Nat.mul_comm, ← Nat.two_pow_add_eq_or_of_lt hv, Nat.add_comm]
def Ist.fixed (n : Nat) (s : Ist) : Nat × Ist := (num (s.some s.at_ n).1, (s.some s.at_ n).2)

set_option maxRecDepth 100000 in
theorem tfixed_none (n : Nat) (w : World) : Calls Try.prog 81 #[.pointer none, .int .i64 (n : Int)] w fun e w' => e = .returned (.int .u64 0) ∧ Below w.heap.size w w' := by
  have HA := Lib.hid (fun W => at_none W)
  have HS := Lib.hid (fun W => some_none 0 n W)
  go_enter Try.func81, Try.ntmps81
  go_wp2_with fail
  refine (HA.out _).mono ?_
  rintro e w1 ⟨rfl, hb_w1⟩
  obtain ⟨hc_w1, hf_w1⟩ := bcell hb_w1
  have hz_w1 := hb_w1.size
  try simp at hz_w1
  have hB_w1 : Below w.heap.size w w1 := Below.trans (by go_grown) (hb_w1.mono (by go_size))
  go_wp2_with fail
  refine (HS.out _).mono ?_
  rintro e w2 ⟨rfl, hb_w2⟩
  obtain ⟨hc_w2, hf_w2⟩ := bcell hb_w2
  have hz_w2 := hb_w2.size
  try simp at hz_w2
  have hB_w2 : Below w.heap.size w w2 := Below.trans (by go_grown) (hb_w2.mono (by go_size))
  go_wp2_with fail
  go_loop [5, 14] (fun v t => t = .int .i64 0 ∧ v = .int .u64 0) (fun _ _ => 0)
  case atStart => exact ⟨rfl, rfl⟩
  case round =>
    obtain ⟨rfl, rfl⟩ := hrel
    go_wp2_with fail
    go_ret
    exact ⟨rfl, by go_grown⟩

set_option maxRecDepth 100000 in
theorem tfixed_any (I : Nat) (s : Ist) (n : Nat) (w : World) (h : InAt w I s) (hn : n ≤ 8) :
    Calls Try.prog 81 #[.pointer (some ⟨I, 0, none⟩), .int .i64 (n : Int)] w fun e w' => Took I w (s.fixed n).2 e (.int .u64 ((s.fixed n).1 : Int)) w' := by
  have HA := Lib.hid (at_any I s w h)
  have HS := Lib.hid (fun W h => some_any I s s.at_ n W h (by obtain ⟨A, c, _, _, hat⟩ := h; exact hat))
  unfold Ist.fixed
  have hl8 := s.some_len s.at_ n
  obtain ⟨l, hl⟩ : ∃ z, (s.some s.at_ n).1 = z := ⟨_, rfl⟩
  obtain ⟨s', hs'⟩ : ∃ z, (s.some s.at_ n).2 = z := ⟨_, rfl⟩
  rw [hl, hs'] at HS
  rw [hl] at hl8
  rw [hl, hs']
  clear hl hs'
  have HI := Lib.hid h
  clear h
  go_enter Try.func81, Try.ntmps81
  go_wp2_with fail
  refine (HA.out).mono ?_
  rintro e w1 ⟨rfl, hb_w1⟩
  obtain ⟨hc_w1, hf_w1⟩ := bcell hb_w1
  have hz_w1 := hb_w1.size
  try simp at hz_w1
  have hB_w1 : Below w.heap.size w w1 := Below.trans (by go_grown) (hb_w1.mono (by go_size))
  go_wp2_with fail
  refine (HS.out _ (HI.out.keep hb_w1)).mono ?_
  rintro e w2 ⟨A, m, c, rfl, hbs, hI2, hU2⟩
  have hm := hbs.len
  subst hm
  go_wp2_with fail
  go_loop [5, 14] (fun v t => ∃ k : Nat, k ≤ l.length ∧ t = .int .i64 (k : Int) ∧ v = .int .u64 ((num (l.take k) : Nat) : Int)) (fun _ t => l.length - (intOf t).toNat)
  case atStart => exact ⟨0, by omega, rfl, rfl⟩
  case round =>
    obtain ⟨k, hk, rfl, rfl⟩ := hrel
    rcases Nat.lt_or_ge k l.length with hlt | hge
    · obtain ⟨g, o, rfl, hg, hc⟩ := hbs.pos (by omega)
      have hck := hc k l[k] (List.getElem?_eq_getElem hlt)
      unfold B8 at hck
      obtain ⟨b, hb⟩ : ∃ z : Nat, l[k].toNat = z := ⟨_, rfl⟩
      have hb2 : b < 256 := by rw [← hb]; exact UInt8.toNat_lt _
      rw [hb] at hck
      have hb3 : (b : Int) < 256 := by omega
      have hnum := num_take l hlt
      have hlo := num_lt (l.take k)
      rw [List.length_take, Nat.min_eq_left hk] at hlo
      obtain ⟨v, hv⟩ : ∃ z : Nat, num (l.take k) = z := ⟨_, rfl⟩
      rw [hv, hb] at hnum
      rw [hv] at hlo
      rw [hv]
      have HO := Lib.hid (or_step hlo hb2 (by omega))
      have HN := Lib.hid hnum
      clear hc hv hb hnum hlo
      go_wp2_with fail
      go_round
      case rel => exact ⟨k + 1, by omega, by go_num, congrArg (Value.int .u64) (by rw [HN.out]; exact HO.out)⟩
      case measure => simp [intOf]; omega
    · obtain rfl : k = l.length := by omega
      rw [List.take_length]
      go_wp2_with fail
      go_ret
      exact ⟨rfl, hI2, (Upd.of_below hb_w1).trans hU2⟩

end Go.Proofs.Ytiejgandjlldjaa
