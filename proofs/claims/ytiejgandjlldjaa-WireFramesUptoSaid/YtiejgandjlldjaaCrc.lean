/-
  Package wire: more, crc, Crc.
-/
import Derived.Test.YtiejgandjlldjaaSums
import Derived.Test.YtiejgandjlldjaaStr
namespace Go.Proofs.Ytiejgandjlldjaa
open Go.RowKit

/-- A sum carried on; a sum. -/
def mor (r : Nat) (l : List UInt8) : Nat := l.foldl (fun r c => r / 256 ^^^ tbl ((r % 256) ^^^ c.toNat)) r
def crcN (l : List UInt8) : Nat := 4294967295 - mor 4294967295 l
theorem mor_append (r : Nat) (l k : List UInt8) : mor r (l ++ k) = mor (mor r l) k := by unfold mor; rw [List.foldl_append]
theorem mor_snoc (r : Nat) (l : List UInt8) (c : UInt8) : mor r (l ++ [c]) = mor r l / 256 ^^^ tbl ((mor r l % 256) ^^^ c.toNat) := by rw [mor_append]; rfl
theorem ix_lt {r : Nat} (c : UInt8) : (r % 256) ^^^ c.toNat < 256 := Nat.xor_lt_two_pow (n := 8) (by omega) c.toNat_lt
theorem tbl_lt {j : Nat} (h : j < 256) : tbl j < 4294967296 := stps_lt (by omega) 8
theorem mor_lt {r : Nat} (h : r < 4294967296) (l : List UInt8) : mor r l < 4294967296 := by
  unfold mor
  induction l generalizing r with
  | nil => exact h
  | cons c l ih => exact ih (Nat.xor_lt_two_pow (n := 32) (by omega) (tbl_lt (ix_lt c)))
theorem mor_take (r : Nat) (l : List UInt8) {k : Nat} (hk : k < l.length) : mor r (l.take (k + 1)) = mor r (l.take k) / 256 ^^^ tbl ((mor r (l.take k) % 256) ^^^ l[k].toNat) := by
  rw [List.take_succ_eq_append_getElem hk, mor_snoc]

abbrev TabAt (w : World) (T : Nat) : Prop := Var w T 85 tab
theorem tab_get {j : Nat} (h : j < 256) : tab[j]? = some (.int .u32 (tbl j : Int)) := by simp [tab, h]

set_option maxRecDepth 100000 in
theorem more_any (T r : Nat) (A : Option Addr) (n c : Nat) (l : List UInt8) (w : World) (hT : TabAt w T) (hs : Bs w A n c l) (hr : r < 4294967296) :
    Calls Try.prog 80 #[.pointer (some ⟨T, 0, none⟩), .int .u32 (r : Int), .slice A n c] w fun e w' => e = .returned (.int .u32 (mor r l : Int)) ∧ Below w.heap.size w w' := by
  have hn := hs.len
  subst hn
  have hbig := hs.big
  have hcap := hs.cap
  unfold maxLen at hbig
  have har : Try.prog.arrayLen 85 = 256 := by kernel_rfl
  go_enter Try.func80, Try.ntmps80
  go_wp2_with fail
  go_loop [1, 11] (fun x t => ∃ k : Nat, k ≤ l.length ∧ t = .int .i64 (k : Int) ∧ x = .int .u32 ((mor r (l.take k) : Nat) : Int)) (fun _ t => l.length - (intOf t).toNat)
  case atStart => exact ⟨0, by omega, rfl, rfl⟩
  case round =>
    obtain ⟨k, hk, rfl, rfl⟩ := hrel
    rcases Nat.lt_or_ge k l.length with hlt | hge
    · obtain ⟨g, o, rfl, hg, hc⟩ := hs.pos (by omega)
      have hck := hc k l[k] (List.getElem?_eq_getElem hlt)
      unfold B8 at hck
      have hnx := mor_take r l hlt
      have hm := mor_lt hr (l.take k)
      have hix := ix_lt (r := mor r (l.take k)) l[k]
      have hx8 := u8_xor_nat (mor r (l.take k) % 256) l[k].toNat (by omega) l[k].toNat_lt
      obtain ⟨b, hb⟩ : ∃ z : Nat, l[k].toNat = z := ⟨_, rfl⟩
      obtain ⟨x, hx⟩ : ∃ z : Nat, mor r (l.take k) = z := ⟨_, rfl⟩
      rw [hb] at hck hnx hix hx8
      rw [hx] at hnx hm hix hx8
      rw [hx]
      obtain ⟨j, hj⟩ : ∃ z : Nat, (x % 256) ^^^ b = z := ⟨_, rfl⟩
      rw [hj] at hnx hix hx8
      have hT2 := (hT.cell j).trans (tab_get hix)
      have ht := tbl_lt hix
      have hx32 := u32_xor_nat (x / 256) (tbl j) (by omega) ht
      obtain ⟨y, hy⟩ : ∃ z : Nat, tbl j = z := ⟨_, rfl⟩
      rw [hy] at hnx hT2 ht hx32
      replace hx32 : bits .xor .u32 ((x : Int) / 256) (y : Int) = ((x / 256 ^^^ y : Nat) : Int) := hx32
      replace hx8 : bits .xor .u8 ((x : Int) % 256) (b : Int) = (j : Int) := hx8
      have HN := Lib.hid hnx
      have hj2 : (j : Int) < 256 := by omega
      clear hc hnx hb hx hj hy
      go_wp2_with fail
      go_round
      case rel => exact ⟨k + 1, by omega, by go_num, congrArg (Value.int .u32) (by rw [HN.out])⟩
      case measure => simp [intOf]; omega
    · obtain rfl : k = l.length := by omega
      rw [List.take_length]
      go_wp2_with fail
      go_ret
      exact ⟨rfl, by go_grown⟩

theorem xor_ones {y : Nat} (hy : y < 2 ^ 32) : (2 ^ 32 - 1) ^^^ y = 2 ^ 32 - 1 - y := by
  have h := congrArg BitVec.toNat (BitVec.allOnes_xor (x := BitVec.ofNat 32 y))
  rw [BitVec.toNat_xor, BitVec.toNat_allOnes, BitVec.toNat_not, BitVec.toNat_ofNat, Nat.mod_eq_of_lt hy] at h
  exact h
theorem not_u32 {y z : Nat} (hy : y < 4294967296) (hz : y + z = 4294967295) : bits .xor .u32 (if IntKind.u32.signed = true then -1 else IntKind.u32.max) (y : Int) = (z : Int) := by
  obtain ⟨m, hm⟩ : ∃ m : Nat, m = 2 ^ 32 - 1 := ⟨_, rfl⟩
  have hmax : IntKind.u32.max = (m : Int) := by rw [hm]; decide
  rw [if_neg (by decide), hmax]
  have hm2 : m = 4294967295 := by rw [hm]
  refine (u32_xor_nat m y (by omega) hy).trans ?_
  have h2 : m ^^^ y = m - y := by rw [hm]; exact xor_ones (by omega)
  rw [h2]
  omega

set_option maxRecDepth 100000 in
theorem crc_any (T : Nat) (A B : Option Addr) (n c m d : Nat) (l k : List UInt8) (w : World) (hT : TabAt w T) (hs : Bs w A n c l) (hk : Bs w B m d k) :
    Calls Try.prog 39 #[.pointer (some ⟨T, 0, none⟩), .slice A n c, .slice B m d] w fun e w' => e = .returned (.int .u32 (crcN (l ++ k) : Int)) ∧ Below w.heap.size w w' := by
  have H1 := Lib.hid (more_any T 4294967295 A n c l w hT hs (by omega))
  have hlt := mor_lt (r := 4294967295) (by omega) l
  have hlt2 := mor_lt hlt k
  unfold crcN
  rw [mor_append]
  obtain ⟨x, hx⟩ : ∃ z : Nat, mor 4294967295 l = z := ⟨_, rfl⟩
  rw [hx] at H1 hlt hlt2
  rw [hx]
  have H2 := Lib.hid (fun W h1 h2 => more_any T x B m d k W h1 h2 hlt)
  obtain ⟨y, hy⟩ : ∃ z : Nat, mor x k = z := ⟨_, rfl⟩
  rw [hy] at H2 hlt2
  rw [hy]
  have hy' : (y : Int) < 4294967296 := by omega
  obtain ⟨z, hz⟩ : ∃ z : Nat, 4294967295 - y = z := ⟨_, rfl⟩
  rw [hz]
  have HZ := Lib.hid (show (4294967295 : Int) - (y : Int) = (z : Int) by omega)
  have hnot := not_u32 (y := y) (z := z) (by omega) (by omega)
  clear hx hy hz
  go_enter Try.func39, Try.ntmps39
  go_wp2_with fail
  refine (H1.out).mono ?_
  rintro e w1 ⟨rfl, hb_w1⟩
  obtain ⟨hc_w1, hf_w1⟩ := bcell hb_w1
  have hz_w1 := hb_w1.size
  try simp at hz_w1
  have hB_w1 : Below w.heap.size w w1 := Below.trans (by go_grown) (hb_w1.mono (by go_size))
  go_wp2_with fail
  refine (H2.out _ (hT.keep hb_w1) (hk.below hb_w1)).mono ?_
  rintro e w2 ⟨rfl, hb_w2⟩
  obtain ⟨hc_w2, hf_w2⟩ := bcell hb_w2
  have hz_w2 := hb_w2.size
  try simp at hz_w2
  have hB_w2 : Below w.heap.size w w2 := Below.trans (by go_grown) (hb_w2.mono (by go_size))
  clear hlt hlt2
  go_wp2_with fail
  go_ret
  exact ⟨rfl, by go_grown⟩

set_option maxRecDepth 100000 in
theorem Crc_any (A : Option Addr) (n c : Nat) (l : List UInt8) (w : World) (hs : Bs w A n c l) :
    Calls Try.prog 23 #[.slice A n c] w fun e w' => e = .returned (.int .u32 (crcN l : Int)) ∧ Below w.heap.size w w' := by
  have hz : ∀ W, (zeroValue 85).run Try.prog W = .ok (.agg z256) W := (zero_of_info (P := Try.prog) (t := 85) (v := .agg z256) (n := 256) (by kernel_rfl)).1
  go_enter Try.func23, Try.ntmps23
  go_wp2_with fail
  refine (sums_any _).mono ?_
  rintro e w1 ⟨rfl, hb_w1⟩
  obtain ⟨hc_w1, hf_w1⟩ := bcell hb_w1
  have hz_w1 := hb_w1.size
  try simp at hz_w1
  have hB_w1 : Below w.heap.size w w1 := Below.trans (by go_grown) (hb_w1.mono (by go_size))
  go_wp2_with (refine wpList_storeV rfl 85 (.tmp 3) (.tmp 4) rfl w1.heap.size tab z256 rfl rfl (Var.new _ _ _) (by kernel_rfl) (by simp [z256, tab]) tab_cells ?_; intro w2 hT2 hO2 hB2 hz2)
  have hb12 : Below w1.heap.size w1 w2 := Below.trans (by go_grown) hB2
  have hs2 := (hs.below hb_w1).below hb12
  have hcr := crc_any w1.heap.size A none n c 0 0 l [] w2 hT2 hs2 (Bs.nil _)
  rw [List.append_nil] at hcr
  have HC := Lib.hid hcr
  clear hcr
  refine (HC.out).mono ?_
  rintro e w3 ⟨rfl, hb3⟩
  go_wp2_with fail
  go_ret
  exact ⟨rfl, (hb_w1.trans (hb12.mono hb_w1.size)).trans (hb3.mono (by have := hb12.size; have := hb_w1.size; omega))⟩

end Go.Proofs.Ytiejgandjlldjaa
