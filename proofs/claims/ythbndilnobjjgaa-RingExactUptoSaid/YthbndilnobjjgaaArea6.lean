/-
  The document's sums of 160 bits: five digits below 2^32.
  (Big).add of the document's layer 6.
  The document's Area2.
-/
import Derived.Test.YthbndilnobjjgaaArea
import Derived.Test.YthbndilnobjjgaaChk6C
namespace Go.Proofs.Ythbndilnobjjgaa
section
open Go.RowKit

theorem and_i64 (z : Int) : bits .and .i64 z 4294967295 = z % 4294967296 := by
  unfold bits
  have e : (BitVec.ofInt IntKind.i64.bits z &&& BitVec.ofInt IntKind.i64.bits 4294967295).toNat = (z % 4294967296).toNat := by
    show (BitVec.ofInt 64 z &&& BitVec.ofInt 64 4294967295).toNat = _
    rw [BitVec.toNat_and, BitVec.toNat_ofInt, BitVec.toNat_ofInt]
    show (z % 18446744073709551616).toNat &&& 4294967295 = _
    rw [show (z % 18446744073709551616).toNat &&& 4294967295 = (z % 18446744073709551616).toNat % 4294967296 from Nat.and_two_pow_sub_one_eq_mod _ 32]
    omega
  dsimp only
  rw [e]
  simp only [IntKind.wrap, IntKind.signed, IntKind.bits]
  simp
  omega
/-- The digit at the place P. -/
def dgP (X P : Int) : Int := X / P % 4294967296
def cyP (X v P : Int) : Int := (X % P + v % P) / P
theorem mod_mulP {X P : Int} (hP : 0 < P) : X % (P * 4294967296) = P * dgP X P + X % P := by
  have e1 := Int.mul_ediv_add_emod X P
  have e2 := Int.mul_ediv_add_emod (X / P) 4294967296
  have b1 := Int.emod_nonneg X (show P ≠ 0 by omega)
  have b2 := Int.emod_lt_of_pos X hP
  have b3 : 0 ≤ dgP X P ∧ dgP X P < 4294967296 := by unfold dgP; omega
  have eX : X = (P * dgP X P + X % P) + P * 4294967296 * (X / P / 4294967296) := by
    have : P * (X / P) = P * (4294967296 * (X / P / 4294967296) + dgP X P) := by unfold dgP; rw [e2]
    generalize X / P / 4294967296 = q at *
    generalize X / P = a at *
    generalize dgP X P = d at *
    grind
  have h1 : P * dgP X P + X % P < P * 4294967296 := by
    have := Int.mul_le_mul_of_nonneg_left (show dgP X P + 1 ≤ 4294967296 by omega) (show 0 ≤ P by omega)
    rw [Int.mul_add, Int.mul_one] at this
    omega
  have h0 : 0 ≤ P * dgP X P + X % P := Int.add_nonneg (Int.mul_nonneg (by omega) b3.1) b1
  calc X % (P * 4294967296) = ((P * dgP X P + X % P) + P * 4294967296 * (X / P / 4294967296)) % (P * 4294967296) := by rw [← eX]
    _ = (P * dgP X P + X % P) % (P * 4294967296) := Int.add_mul_emod_self_left ..
    _ = P * dgP X P + X % P := Int.emod_eq_of_lt h0 h1
theorem add_step {X v P : Int} (hP : 0 < P) : (dgP X P + dgP v P + cyP X v P) % 4294967296 = dgP (X + v) P ∧ (dgP X P + dgP v P + cyP X v P) / 4294967296 = cyP X v (P * 4294967296) := by
  constructor
  · have e1 := Int.mul_ediv_add_emod X P
    have e2 := Int.mul_ediv_add_emod v P
    have e : (X + v) / P = X / P + v / P + cyP X v P := by
      have h : X + v = (X % P + v % P) + P * (X / P + v / P) := by
        rw [Int.mul_add]
        omega
      unfold cyP
      calc (X + v) / P = ((X % P + v % P) + P * (X / P + v / P)) / P := by rw [← h]
        _ = (X % P + v % P) / P + (X / P + v / P) := Int.add_mul_ediv_left _ _ (by omega)
        _ = X / P + v / P + (X % P + v % P) / P := by omega
    unfold dgP
    rw [e]
    generalize cyP X v P = c
    omega
  · have e : X % (P * 4294967296) + v % (P * 4294967296) = (X % P + v % P) + P * (dgP X P + dgP v P) := by
      rw [mod_mulP hP, mod_mulP hP, Int.mul_add]
      omega
    unfold cyP
    have h := Int.ediv_ediv (x := (X % P + v % P) + P * (dgP X P + dgP v P)) (y := P) (z := 4294967296)
    rw [if_neg (by omega), Int.sub_zero] at h
    rw [e, ← h, Int.add_mul_ediv_left _ _ (by omega), Int.add_comm]
theorem cy_bd {X v P : Int} (hP : 0 < P) : 0 ≤ cyP X v P ∧ cyP X v P ≤ 1 := by
  have b1 := Int.emod_nonneg X (show P ≠ 0 by omega)
  have b2 := Int.emod_lt_of_pos X hP
  have b3 := Int.emod_nonneg v (show P ≠ 0 by omega)
  have b4 := Int.emod_lt_of_pos v hP
  unfold cyP
  refine ⟨Int.ediv_nonneg (by omega) (by omega), ?_⟩
  have : (X % P + v % P) / P < 2 := Int.ediv_lt_of_lt_mul hP (by omega)
  omega
theorem dg_bd (X P : Int) : 0 ≤ dgP X P ∧ dgP X P < 4294967296 := by unfold dgP; omega
/-- The places. -/
def pl : Nat → Int
  | 0 => 1
  | k + 1 => pl k * 4294967296
theorem pl_pos : ∀ k, 0 < pl k
  | 0 => by decide
  | k + 1 => Int.mul_pos (pl_pos k) (by decide)
def dg (X : Int) (k : Nat) : Int := dgP X (pl k)
/-- The digits while the first k of v are added. -/
def dk (X v : Int) (k j : Nat) : Int := if j < k then dg (X + v) j else dg X j
def cyN (X v : Int) (k : Nat) : Int := cyP X v (pl k)
theorem dk_step (X v : Int) (k : Nat) : (dg X k + dg v k + cyN X v k) % 4294967296 = dg (X + v) k ∧ (dg X k + dg v k + cyN X v k) / 4294967296 = cyN X v (k + 1) := add_step (pl_pos k)
theorem cy_zero (X v : Int) : cyN X v 0 = 0 := by
  show (X % 1 + v % 1) / 1 = 0
  omega
theorem dg_small {v : Int} (h : -9223372036854775808 ≤ v ∧ v ≤ 9223372036854775807) : dg v 0 = v % 4294967296 ∧ dg v 1 = v / 4294967296 % 4294967296 ∧ ∀ k, 2 ≤ k → k < 5 → dg v k = if v < 0 then 4294967295 else 0 := by
  refine ⟨?_, ?_, fun k h2 h5 => ?_⟩
  · show v / 1 % 4294967296 = _
    omega
  · show v / (1 * 4294967296) % 4294967296 = _
    omega
  · obtain rfl | rfl | rfl : k = 2 ∨ k = 3 ∨ k = 4 := by omega
    · show v / 18446744073709551616 % 4294967296 = _
      split <;> omega
    · show v / 79228162514264337593543950336 % 4294967296 = _
      split <;> omega
    · show v / 340282366920938463463374607431768211456 % 4294967296 = _
      split <;> omega
end

section
open Go.RowKit

theorem i64w {z : Int} (h : -9223372036854775808 ≤ z ∧ z ≤ 9223372036854775807) : IntKind.i64.wrap z = z := by
  simp only [IntKind.wrap, IntKind.signed, IntKind.bits]
  simp
  omega
theorem u32w {z : Int} (h : 0 ≤ z ∧ z < 4294967296) : IntKind.u32.wrap z = z := by
  simp only [IntKind.wrap, IntKind.signed, IntKind.bits]
  simp
  omega
def bigV (X : Int) : Value := .agg #[.int .u32 (dg X 0), .int .u32 (dg X 1), .int .u32 (dg X 2), .int .u32 (dg X 3), .int .u32 (dg X 4)]
def kV (X v : Int) (k : Nat) : Array Value := #[.int .u32 (dk X v k 0), .int .u32 (dk X v k 1), .int .u32 (dk X v k 2), .int .u32 (dk X v k 3), .int .u32 (dk X v k 4)]
/-- All that a round reckons. -/
theorem big_round (X v : Int) (k : Nat) : ∃ a e c r c' : Int, dk X v k k = a ∧ dg v k = e ∧ cyN X v k = c ∧ dg (X + v) k = r ∧ cyN X v (k + 1) = c' ∧ IntKind.i64.wrap a = a ∧ IntKind.i64.wrap (a + e) = a + e ∧ IntKind.i64.wrap (a + e + c) = a + e + c ∧ bits .and .i64 (a + e + c) 4294967295 = r ∧ IntKind.u32.wrap r = r ∧ (a + e + c) / 4294967296 = c' ∧ IntKind.i64.wrap c' = c' := by
  have hs := dk_step X v k
  have ha : dk X v k k = dg X k := if_neg (by omega)
  have b1 := dg_bd X (pl k)
  have b2 := dg_bd v (pl k)
  have b3 := cy_bd (X := X) (v := v) (pl_pos k)
  have b4 := dg_bd (X + v) (pl k)
  have b5 := cy_bd (X := X) (v := v) (pl_pos (k + 1))
  change 0 ≤ dg X k ∧ dg X k < 4294967296 at b1
  change 0 ≤ dg v k ∧ dg v k < 4294967296 at b2
  change 0 ≤ cyN X v k ∧ cyN X v k ≤ 1 at b3
  change 0 ≤ dg (X + v) k ∧ dg (X + v) k < 4294967296 at b4
  change 0 ≤ cyN X v (k + 1) ∧ cyN X v (k + 1) ≤ 1 at b5
  exact ⟨dg X k, dg v k, cyN X v k, dg (X + v) k, cyN X v (k + 1), ha, rfl, rfl, rfl, rfl, i64w (by omega), i64w (by omega), i64w (by omega), by rw [and_i64]; exact hs.1, u32w b4, hs.2, i64w (by omega)⟩

set_option maxHeartbeats 2000000 in
set_option maxRecDepth 100000 in
theorem big_add (X v : Int) (hv : -9223372036854775808 ≤ v ∧ v ≤ 9223372036854775807) (w : World) : Calls Try.prog 46 #[bigV X, .int .i64 v] w fun e w' => e = .returned (bigV (X + v)) ∧ Below w.heap.size w w' := by
  have hd := dg_small hv
  have HF : Hid (kV X v 5 = #[.int .u32 (dg (X + v) 0), .int .u32 (dg (X + v) 1), .int .u32 (dg (X + v) 2), .int .u32 (dg (X + v) 3), .int .u32 (dg (X + v) 4)]) := Lib.hid rfl
  have H0 : Hid (#[.int .u32 (dg X 0), .int .u32 (dg X 1), .int .u32 (dg X 2), .int .u32 (dg X 3), .int .u32 (dg X 4)] = kV X v 0) := Lib.hid rfl
  unfold bigV
  obtain ⟨x0, h0⟩ : ∃ x, dg X 0 = x := ⟨_, rfl⟩
  obtain ⟨x1, h1⟩ : ∃ x, dg X 1 = x := ⟨_, rfl⟩
  obtain ⟨x2, h2⟩ : ∃ x, dg X 2 = x := ⟨_, rfl⟩
  obtain ⟨x3, h3⟩ : ∃ x, dg X 3 = x := ⟨_, rfl⟩
  obtain ⟨x4, h4⟩ : ∃ x, dg X 4 = x := ⟨_, rfl⟩
  rw [h0, h1, h2, h3, h4] at H0 ⊢
  clear h0 h1 h2 h3 h4
  obtain ⟨y0, h0⟩ : ∃ x, dg (X + v) 0 = x := ⟨_, rfl⟩
  obtain ⟨y1, h1⟩ : ∃ x, dg (X + v) 1 = x := ⟨_, rfl⟩
  obtain ⟨y2, h2⟩ : ∃ x, dg (X + v) 2 = x := ⟨_, rfl⟩
  obtain ⟨y3, h3⟩ : ∃ x, dg (X + v) 3 = x := ⟨_, rfl⟩
  obtain ⟨y4, h4⟩ : ∃ x, dg (X + v) 4 = x := ⟨_, rfl⟩
  rw [h0, h1, h2, h3, h4] at HF ⊢
  clear h0 h1 h2 h3 h4
  have HD := Lib.hid hd
  clear hd hv
  go_enter Try.func46, Try.ntmps46
  go_wp2_with fail
  refine wp_gen (fun W hW => ?_)
  obtain ⟨g, hg⟩ : ∃ g, w.heap.size = g := ⟨_, rfl⟩
  have vB : Hid (Var W g 69 (kV X v 0)) := Lib.hid (by rw [hW, ← H0.out, ← hg]; exact (Var.new _ _ _).alloc _)
  have vR : Hid (Var W (g + 1) 69 #[.int .u32 0, .int .u32 0, .int .u32 0, .int .u32 0, .int .u32 0]) := Lib.hid (by rw [hW]; exact Var.new' _ _ _ (by simp; omega))
  have HB : Hid (Below w.heap.size w W) := Lib.hid (by rw [hW]; go_grown)
  rw [hg] at HB ⊢
  clear hW H0
  go_loopw [5, 6] (fun c i wr => ∃ k : Nat, k ≤ 5 ∧ c = .int .i64 (cyN X v k) ∧ i = .int .i64 (k : Int) ∧ Var wr g 69 (kV X v k) ∧ Var wr (g + 1) 69 #[.int .u32 0, .int .u32 0, .int .u32 0, .int .u32 0, .int .u32 0] ∧ Below g w wr) (fun _ i _ => 5 - (intOf i).toNat)
  case atStart => exact ⟨0, by omega, by rw [cy_zero], rfl, vB.out, vR.out, HB.out⟩
  case round =>
    obtain ⟨k, hk, hc, hi, hV, hR, hB⟩ := hrel
    clear vB vR HB
    have hV0 := Lib.hid hV
    have hR0 := Lib.hid hR
    have hB0 := Lib.hid hB
    have hl := hV.lt
    have hlR := hR.lt
    obtain rfl | rfl | rfl | rfl | rfl | rfl : k = 0 ∨ k = 1 ∨ k = 2 ∨ k = 3 ∨ k = 4 ∨ k = 5 := by omega
    · obtain ⟨a, e, c', r, d', hy, he, hc1, hr, hd1, f1, f2, f3, f4, f5, f6, f7⟩ := big_round X v 0
      have ck : wr.cell? ⟨g, 0, none⟩ = some (.int .u32 a) := by rw [← hy]; exact hV.cell 0
      have fk := hV.free 0
      have HV : Hid (Var (wr.setCell ⟨g, 0, none⟩ (.int .u32 r)) g 69 (kV X v 1)) := Lib.hid (by rw [← hr]; exact hV.store 0 _)
      rw [hc1] at hc
      obtain rfl := hc
      obtain rfl : _ = Value.int .i64 0 := hi
      have hz : bits .and .i64 v 4294967295 = e := by rw [and_i64]; exact HD.out.1.symm.trans he
      clear he
      clear hy hc1 hr hV hR hB
      go_wp2_with fail
      go_roundw
      case rel => exact ⟨1, by omega, by rw [hd1], rfl, HV.out, hR0.out.far (by show g + 1 ≠ g; omega) _, hB0.out.setCell (by show g ≤ g; omega) _⟩
      case measure => simp [intOf]
    · obtain ⟨a, e, c', r, d', hy, he, hc1, hr, hd1, f1, f2, f3, f4, f5, f6, f7⟩ := big_round X v 1
      have ck : wr.cell? ⟨g, 1, none⟩ = some (.int .u32 a) := by rw [← hy]; exact hV.cell 1
      have fk := hV.free 1
      have HV : Hid (Var (wr.setCell ⟨g, 1, none⟩ (.int .u32 r)) g 69 (kV X v 2)) := Lib.hid (by rw [← hr]; exact hV.store 1 _)
      rw [hc1] at hc
      obtain rfl := hc
      obtain rfl : _ = Value.int .i64 1 := hi
      have hz : bits .and .i64 (v / 4294967296) 4294967295 = e := by rw [and_i64]; exact HD.out.2.1.symm.trans he
      clear he
      clear hy hc1 hr hV hR hB
      go_wp2_with fail
      go_roundw
      case rel => exact ⟨2, by omega, by rw [hd1], rfl, HV.out, hR0.out.far (by show g + 1 ≠ g; omega) _, hB0.out.setCell (by show g ≤ g; omega) _⟩
      case measure => simp [intOf]
    · obtain ⟨a, e, c', r, d', hy, he, hc1, hr, hd1, f1, f2, f3, f4, f5, f6, f7⟩ := big_round X v 2
      have ck : wr.cell? ⟨g, 2, none⟩ = some (.int .u32 a) := by rw [← hy]; exact hV.cell 2
      have fk := hV.free 2
      have HV : Hid (Var (wr.setCell ⟨g, 2, none⟩ (.int .u32 r)) g 69 (kV X v 3)) := Lib.hid (by rw [← hr]; exact hV.store 2 _)
      rw [hc1] at hc
      obtain rfl := hc
      obtain rfl : _ = Value.int .i64 2 := hi
      have hz := (HD.out.2.2 2 (by omega) (by omega)).symm.trans he
      clear he
      clear hy hc1 hr hV hR hB
      rcases Decidable.em (v < 0) with hv | hv
      · rw [if_pos hv] at hz
        subst hz
        go_wp2_with fail
        go_roundw
        case rel => exact ⟨3, by omega, by rw [hd1], rfl, HV.out, hR0.out.far (by show g + 1 ≠ g; omega) _, hB0.out.setCell (by show g ≤ g; omega) _⟩
        case measure => simp [intOf]
      · rw [if_neg hv] at hz
        subst hz
        simp only [Int.add_zero] at f2 f3 f4 f6
        go_wp2_with fail
        go_roundw
        case rel => exact ⟨3, by omega, by rw [hd1], rfl, HV.out, hR0.out.far (by show g + 1 ≠ g; omega) _, hB0.out.setCell (by show g ≤ g; omega) _⟩
        case measure => simp [intOf]
    · obtain ⟨a, e, c', r, d', hy, he, hc1, hr, hd1, f1, f2, f3, f4, f5, f6, f7⟩ := big_round X v 3
      have ck : wr.cell? ⟨g, 3, none⟩ = some (.int .u32 a) := by rw [← hy]; exact hV.cell 3
      have fk := hV.free 3
      have HV : Hid (Var (wr.setCell ⟨g, 3, none⟩ (.int .u32 r)) g 69 (kV X v 4)) := Lib.hid (by rw [← hr]; exact hV.store 3 _)
      rw [hc1] at hc
      obtain rfl := hc
      obtain rfl : _ = Value.int .i64 3 := hi
      have hz := (HD.out.2.2 3 (by omega) (by omega)).symm.trans he
      clear he
      clear hy hc1 hr hV hR hB
      rcases Decidable.em (v < 0) with hv | hv
      · rw [if_pos hv] at hz
        subst hz
        go_wp2_with fail
        go_roundw
        case rel => exact ⟨4, by omega, by rw [hd1], rfl, HV.out, hR0.out.far (by show g + 1 ≠ g; omega) _, hB0.out.setCell (by show g ≤ g; omega) _⟩
        case measure => simp [intOf]
      · rw [if_neg hv] at hz
        subst hz
        simp only [Int.add_zero] at f2 f3 f4 f6
        go_wp2_with fail
        go_roundw
        case rel => exact ⟨4, by omega, by rw [hd1], rfl, HV.out, hR0.out.far (by show g + 1 ≠ g; omega) _, hB0.out.setCell (by show g ≤ g; omega) _⟩
        case measure => simp [intOf]
    · obtain ⟨a, e, c', r, d', hy, he, hc1, hr, hd1, f1, f2, f3, f4, f5, f6, f7⟩ := big_round X v 4
      have ck : wr.cell? ⟨g, 4, none⟩ = some (.int .u32 a) := by rw [← hy]; exact hV.cell 4
      have fk := hV.free 4
      have HV : Hid (Var (wr.setCell ⟨g, 4, none⟩ (.int .u32 r)) g 69 (kV X v 5)) := Lib.hid (by rw [← hr]; exact hV.store 4 _)
      rw [hc1] at hc
      obtain rfl := hc
      obtain rfl : _ = Value.int .i64 4 := hi
      have hz := (HD.out.2.2 4 (by omega) (by omega)).symm.trans he
      clear he
      clear hy hc1 hr hV hR hB
      rcases Decidable.em (v < 0) with hv | hv
      · rw [if_pos hv] at hz
        subst hz
        go_wp2_with fail
        go_roundw
        case rel => exact ⟨5, by omega, by rw [hd1], rfl, HV.out, hR0.out.far (by show g + 1 ≠ g; omega) _, hB0.out.setCell (by show g ≤ g; omega) _⟩
        case measure => simp [intOf]
      · rw [if_neg hv] at hz
        subst hz
        simp only [Int.add_zero] at f2 f3 f4 f6
        go_wp2_with fail
        go_roundw
        case rel => exact ⟨5, by omega, by rw [hd1], rfl, HV.out, hR0.out.far (by show g + 1 ≠ g; omega) _, hB0.out.setCell (by show g ≤ g; omega) _⟩
        case measure => simp [intOf]
    · rw [HF.out] at hV
      obtain rfl := hc
      obtain rfl : _ = Value.int .i64 5 := hi
      have k0 : wr.cell? ⟨g, 0, none⟩ = some (.int .u32 y0) := hV.cell 0
      have k1 : wr.cell? ⟨g, 1, none⟩ = some (.int .u32 y1) := hV.cell 1
      have k2 : wr.cell? ⟨g, 2, none⟩ = some (.int .u32 y2) := hV.cell 2
      have k3 : wr.cell? ⟨g, 3, none⟩ = some (.int .u32 y3) := hV.cell 3
      have k4 : wr.cell? ⟨g, 4, none⟩ = some (.int .u32 y4) := hV.cell 4
      have g0 := hR.free 0
      have g1 := hR.free 1
      have g2 := hR.free 2
      have g3 := hR.free 3
      have g4 := hR.free 4
      have r0 : wr.cell? ⟨g + 1, 0, none⟩ = some (.int .u32 0) := hR.cell 0
      have r1 : wr.cell? ⟨g + 1, 1, none⟩ = some (.int .u32 0) := hR.cell 1
      have r2 : wr.cell? ⟨g + 1, 2, none⟩ = some (.int .u32 0) := hR.cell 2
      have r3 : wr.cell? ⟨g + 1, 3, none⟩ = some (.int .u32 0) := hR.cell 3
      have r4 : wr.cell? ⟨g + 1, 4, none⟩ = some (.int .u32 0) := hR.cell 4
      clear hV hR hB
      go_wp2_with fail
      refine bodyPost_ret (by simp [results, Try.results46, go_sem, *]; try rfl) rfl ?_
      have hB : Below w.heap.size w wr := by rw [hg]; exact hB0.out
      exact ⟨rfl, by go_grown⟩
end

section
open Go.RowKit

theorem or_half {a b : Int} (ha : 0 ≤ a ∧ a < 4294967296) (hb : 0 ≤ b ∧ b < 4294967296) : bits .or .u64 (a * 4294967296) b = a * 4294967296 + b := by
  obtain ⟨x, rfl⟩ : ∃ x : Nat, a = (x : Int) := ⟨a.toNat, by omega⟩
  obtain ⟨y, rfl⟩ : ∃ y : Nat, b = (y : Int) := ⟨b.toNat, by omega⟩
  unfold bits
  have e : (BitVec.ofInt IntKind.u64.bits ((x : Int) * 4294967296) ||| BitVec.ofInt IntKind.u64.bits (y : Int)).toNat = x * 4294967296 + y := by
    show (BitVec.ofInt 64 ((x : Int) * 4294967296) ||| BitVec.ofInt 64 (y : Int)).toNat = _
    rw [BitVec.toNat_or, BitVec.toNat_ofInt, BitVec.toNat_ofInt]
    show (((x : Int) * 4294967296) % 18446744073709551616).toNat ||| ((y : Int) % 18446744073709551616).toNat = _
    rw [show (((x : Int) * 4294967296) % 18446744073709551616).toNat = 2 ^ 32 * x by omega, show ((y : Int) % 18446744073709551616).toNat = y by omega]
    rw [← Nat.two_pow_add_eq_or_of_lt (show y < 2 ^ 32 by omega)]
    omega
  dsimp only
  rw [e]
  simp only [IntKind.wrap, IntKind.signed, IntKind.bits]
  simp
  omega
theorem big_hi (X : Int) : IntKind.i64.wrap (dg X 3 * 4294967296 + dg X 2) = hi64 X ∧ dg X 1 * 4294967296 + dg X 0 = lo64 X := by
  have e0 : dg X 0 = X / 1 % 4294967296 := rfl
  have e1 : dg X 1 = X / 4294967296 % 4294967296 := rfl
  have e2 : dg X 2 = X / 18446744073709551616 % 4294967296 := rfl
  have e3 : dg X 3 = X / 79228162514264337593543950336 % 4294967296 := rfl
  rw [e0, e1, e2, e3]
  clear e0 e1 e2 e3
  unfold hi64 lo64
  simp only [IntKind.wrap, IntKind.signed, IntKind.bits, wrap64]
  simp
  omega
/-- The first k sides. -/
def arK (ps : List Pt) (k : Nat) : Int := tot arS ((List.range k).map (sid ps))
theorem arK_succ (ps : List Pt) (k : Nat) : arK ps (k + 1) = arK ps k + (gp ps k).1 * (gp ps ((k + 1) % ps.length)).2 + -((gp ps k).2 * (gp ps ((k + 1) % ps.length)).1) := by
  unfold arK
  rw [List.range_succ, List.map_append]
  have h := tot_snoc arS ((List.range k).map (sid ps)) (sid ps k)
  have e : arS (sid ps k) = (gp ps k).1 * (gp ps ((k + 1) % ps.length)).2 - (gp ps k).2 * (gp ps ((k + 1) % ps.length)).1 := rfl
  rw [e] at h
  refine h.trans ?_
  omega
theorem mul_i32 {p q : Int} (hp : I32 p) (hq : I32 q) : -4611686018427387904 ≤ p * q ∧ p * q ≤ 4611686018427387904 := by
  unfold I32 at hp hq
  have := Nat.mul_le_mul (show p.natAbs ≤ 2147483648 by omega) (show q.natAbs ≤ 2147483648 by omega)
  rw [← Int.natAbs_mul, show 2147483648 * 2147483648 = 4611686018427387904 from rfl] at this
  generalize p * q = z at *
  omega

theorem u64w {z : Int} (h : 0 ≤ z ∧ z < 18446744073709551616) : IntKind.u64.wrap z = z := by
  simp only [IntKind.wrap, IntKind.signed, IntKind.bits]
  simp
  omega
def bigC (X : Int) : Array Value := #[.int .u32 (dg X 0), .int .u32 (dg X 1), .int .u32 (dg X 2), .int .u32 (dg X 3), .int .u32 (dg X 4)]
theorem big_set {w : World} {g : Nat} {a b c d e : Value} (h : Var w g 69 #[a, b, c, d, e]) (x0 x1 x2 x3 x4 : Value) :
    Var (((((w.setCell ⟨g, 0, none⟩ x0).setCell ⟨g, 1, none⟩ x1).setCell ⟨g, 2, none⟩ x2).setCell ⟨g, 3, none⟩ x3).setCell ⟨g, 4, none⟩ x4) g 69 #[x0, x1, x2, x3, x4] :=
  ((((h.store 0 x0).store 1 x1).store 2 x2).store 3 x3).store 4 x4

set_option maxHeartbeats 2000000 in
set_option maxRecDepth 100000 in
theorem area06 (ps : List Pt) (hps : ∀ p ∈ ps, IPt p) (n : Nat) (hn : ps.length = n) (hlen : n ≤ 17592186044416) (M c : Nat) (A : Option Addr) (w : World) (hP : PtsAt M w (.slice A n c) ps) (hM : M ≤ w.heap.size) :
    Calls Try.prog 19 #[.slice A n c] w fun e w' => e = .returned (.tuple #[.int .i64 (hi64 (areaP ps)), .int .u64 (lo64 (areaP ps))]) ∧ Below w.heap.size w w' := by
  have AT := Lib.hid (fun (h0 : 0 < n) i W (h : Below w.heap.size w W) => at06 ps n hn h0 i M c A W (hP.below (h.mono hM)) (Nat.le_trans hM h.size))
  have HS : Hid (∀ k, arK ps (k + 1) = arK ps k + (gp ps k).1 * (gp ps ((k + 1) % n)).2 + -((gp ps k).2 * (gp ps ((k + 1) % n)).1)) := Lib.hid (fun k => by rw [arK_succ, hn])
  have HI := Lib.hid (fun k => gp_i hps k)
  obtain ⟨S, hS⟩ : ∃ S, areaP ps = S := ⟨_, rfl⟩
  obtain ⟨R, hR⟩ : ∃ R, hi64 S = R := ⟨_, rfl⟩
  obtain ⟨L, hL⟩ : ∃ R, lo64 S = R := ⟨_, rfl⟩
  have HE : Hid (arK ps n = S) := Lib.hid (by rw [← hS, ← hn]; rfl)
  have HRL := Lib.hid (And.intro hR hL)
  rw [hS, hR, hL]
  clear hP hn hps hM hS hR hL
  go_enter Try.func19, Try.ntmps19
  go_wp2_with fail
  refine wp_gen (fun W hW => ?_)
  obtain ⟨g, hg⟩ : ∃ g, w.heap.size = g := ⟨_, rfl⟩
  have vB : Hid (Var W g 69 (bigC 0)) := Lib.hid (by rw [hW, ← hg]; exact Var.new _ _ _)
  have HB : Hid (Below w.heap.size w W) := Lib.hid (by rw [hW]; go_grown)
  rw [hg] at HB AT ⊢
  clear hW
  go_loopw [5] (fun i wr => ∃ k : Nat, k ≤ n ∧ i = .int .i64 (k : Int) ∧ Var wr g 69 (bigC (arK ps k)) ∧ Below g w wr) (fun i _ => n - (intOf i).toNat)
  case atStart => exact ⟨0, Nat.zero_le _, rfl, vB.out, HB.out⟩
  case round =>
    obtain ⟨k, hk, rfl, hV, hB⟩ := hrel
    clear vB HB
    have hl := hV.lt
    rcases Nat.lt_or_ge k n with hlt | hge
    · have hkI : (k : Int) < (n : Int) := by omega
      have w1 : IntKind.i64.wrap ((k : Int) + 1) = ((k + 1 : Nat) : Int) := by rw [i64w (by omega)]; omega
      have hs := HS.out k
      have A1 := Lib.hid (fun W h => AT.out (by omega) k W h)
      have A2 := Lib.hid (fun W h => AT.out (by omega) (k + 1) W h)
      rw [Nat.mod_eq_of_lt hlt] at A1
      have i1 := HI.out k
      have i2 := HI.out ((k + 1) % n)
      obtain ⟨⟨x1, x2⟩, hx⟩ : ∃ x, gp ps k = x := ⟨_, rfl⟩
      obtain ⟨⟨y1, y2⟩, hy⟩ : ∃ x, gp ps ((k + 1) % n) = x := ⟨_, rfl⟩
      rw [hx] at A1 i1 hs
      rw [hy] at A2 i2 hs
      dsimp only at A1 A2 hs
      have m1 := mul_i32 i1.1 i2.2
      have m2 := mul_i32 i1.2 i2.1
      have e1 : IntKind.i64.wrap x1 = x1 := i32_wrap i1.1
      have e2 : IntKind.i64.wrap x2 = x2 := i32_wrap i1.2
      have e3 : IntKind.i64.wrap y1 = y1 := i32_wrap i2.1
      have e4 : IntKind.i64.wrap y2 = y2 := i32_wrap i2.2
      obtain ⟨p, hp⟩ : ∃ p, x1 * y2 = p := ⟨_, rfl⟩
      obtain ⟨q, hq⟩ : ∃ p, x2 * y1 = p := ⟨_, rfl⟩
      rw [hp] at m1 hs
      rw [hq] at m2 hs
      have e5 : IntKind.i64.wrap p = p := i64w (by omega)
      have e6 : IntKind.i64.wrap q = q := i64w (by omega)
      have e7 : IntKind.i64.wrap (-q) = -q := i64w (by omega)
      obtain ⟨X, hX⟩ : ∃ X, arK ps k = X := ⟨_, rfl⟩
      rw [hX] at hs hV
      have B1 := Lib.hid (fun W => big_add X p (by omega) W)
      have B2 := Lib.hid (fun W => big_add (X + p) (-q) (by omega) W)
      unfold bigV at B1 B2
      have HZ := Lib.hid hs
      have HV := Lib.hid hV
      have HB := Lib.hid hB
      have hsz := hB.size
      clear hx hy hs hX hV hB i1 i2 m1 m2
      go_wp2_with fail
      refine (A1.out _ HB.out).mono ?_
      rintro e w3 ⟨rfl, hb3⟩
      have hV3 := HV.out.keep hb3
      have hB3 := HB.out.trans (hb3.mono (by omega))
      have hz3 := hB3.size
      have hl3 := hV3.lt
      clear hb3 A1 HV HB hl hsz
      go_wp2_with fail
      refine (A2.out _ (by go_grown)).mono ?_
      rintro e w4 ⟨rfl, hb4⟩
      have hV4 := (hV3.alloc (.cells #[.int .i32 x1, .int .i32 x2] 28)).keep hb4
      have va4 := (Var.new w3 28 #[.int .i32 x1, .int .i32 x2]).keep hb4
      have hB4 : Below g w w4 := Below.trans (by go_grown) (hb4.mono (by simp; omega))
      have hz4 := hB4.size
      have hl4 := hV4.lt
      have hla4 := va4.lt
      obtain ⟨a, ha⟩ : ∃ a, w3.heap.size = a := ⟨_, rfl⟩
      rw [ha] at va4 hla4 ⊢
      have hga : g < a := by omega
      clear hb4 A2 hV3 hB3 hz3 hl3 ha
      have c0 : w4.cell? ⟨g, 0, none⟩ = some (.int .u32 (dg X 0)) := hV4.cell 0
      have c1 : w4.cell? ⟨g, 1, none⟩ = some (.int .u32 (dg X 1)) := hV4.cell 1
      have c2 : w4.cell? ⟨g, 2, none⟩ = some (.int .u32 (dg X 2)) := hV4.cell 2
      have c3 : w4.cell? ⟨g, 3, none⟩ = some (.int .u32 (dg X 3)) := hV4.cell 3
      have c4 : w4.cell? ⟨g, 4, none⟩ = some (.int .u32 (dg X 4)) := hV4.cell 4
      have a0 : w4.cell? ⟨a, 0, none⟩ = some (.int .i32 x1) := va4.cell 0
      have a1 : w4.cell? ⟨a, 1, none⟩ = some (.int .i32 x2) := va4.cell 1
      go_wp2_with fail
      refine (B1.out _).mono ?_
      rintro e w5 ⟨rfl, hb5⟩
      have hV5 := (hV4.alloc (.cells #[.int .i32 y1, .int .i32 y2] 28)).keep hb5
      have va5 := (va4.alloc (.cells #[.int .i32 y1, .int .i32 y2] 28)).keep hb5
      have vb5 := (Var.new w4 28 #[.int .i32 y1, .int .i32 y2]).keep hb5
      have hB5 : Below g w w5 := Below.trans (by go_grown) (hb5.mono (by simp; omega))
      have hl5 := hV5.lt
      have hla5 := va5.lt
      have hlb5 := vb5.lt
      obtain ⟨b, hb⟩ : ∃ b, w4.heap.size = b := ⟨_, rfl⟩
      rw [hb] at vb5 hlb5 ⊢
      have hgb : g < b := by omega
      have hab : a < b := by omega
      have d0 : w5.cell? ⟨g, 0, none⟩ = some (.int .u32 (dg X 0)) := hV5.cell 0
      have d1 : w5.cell? ⟨g, 1, none⟩ = some (.int .u32 (dg X 1)) := hV5.cell 1
      have d2 : w5.cell? ⟨g, 2, none⟩ = some (.int .u32 (dg X 2)) := hV5.cell 2
      have d3 : w5.cell? ⟨g, 3, none⟩ = some (.int .u32 (dg X 3)) := hV5.cell 3
      have d4 : w5.cell? ⟨g, 4, none⟩ = some (.int .u32 (dg X 4)) := hV5.cell 4
      have f0 := hV5.free 0
      have f1 := hV5.free 1
      have f2 := hV5.free 2
      have f3 := hV5.free 3
      have f4 := hV5.free 4
      clear hb5 B1 hV4 va4 hB4 hz4 hl4 hla4 hb c0 c1 c2 c3 c4 a0 a1
      have hV6 := big_set hV5 (.int .u32 (dg (X + p) 0)) (.int .u32 (dg (X + p) 1)) (.int .u32 (dg (X + p) 2)) (.int .u32 (dg (X + p) 3)) (.int .u32 (dg (X + p) 4))
      go_upto_region 8 with fail
      refine wp_gen (fun W6 hW6 => ?_)
      have v6 : Var W6 g 69 (bigC (X + p)) := by rw [hW6]; exact hV6
      have va6 : Var W6 a 28 #[.int .i32 x1, .int .i32 x2] := by rw [hW6]; exact ((((va5.far (by show a ≠ g; omega) _).far (by show a ≠ g; omega) _).far (by show a ≠ g; omega) _).far (by show a ≠ g; omega) _).far (by show a ≠ g; omega) _
      have vb6 : Var W6 b 28 #[.int .i32 y1, .int .i32 y2] := by rw [hW6]; exact ((((vb5.far (by show b ≠ g; omega) _).far (by show b ≠ g; omega) _).far (by show b ≠ g; omega) _).far (by show b ≠ g; omega) _).far (by show b ≠ g; omega) _
      have hB6 : Below g w W6 := by rw [hW6]; exact ((((hB5.setCell (by show g ≤ g; omega) _).setCell (by show g ≤ g; omega) _).setCell (by show g ≤ g; omega) _).setCell (by show g ≤ g; omega) _).setCell (by show g ≤ g; omega) _
      have hl6 := v6.lt
      have hla6 := va6.lt
      have hlb6 := vb6.lt
      clear hW6 hV6 hV5 va5 vb5 hB5 hl5 hla5 hlb5 d0 d1 d2 d3 d4 f0 f1 f2 f3 f4
      have a1 : W6.cell? ⟨a, 1, none⟩ = some (.int .i32 x2) := va6.cell 1
      have b0 : W6.cell? ⟨b, 0, none⟩ = some (.int .i32 y1) := vb6.cell 0
      have d0 : W6.cell? ⟨g, 0, none⟩ = some (.int .u32 (dg (X + p) 0)) := v6.cell 0
      have d1 : W6.cell? ⟨g, 1, none⟩ = some (.int .u32 (dg (X + p) 1)) := v6.cell 1
      have d2 : W6.cell? ⟨g, 2, none⟩ = some (.int .u32 (dg (X + p) 2)) := v6.cell 2
      have d3 : W6.cell? ⟨g, 3, none⟩ = some (.int .u32 (dg (X + p) 3)) := v6.cell 3
      have d4 : W6.cell? ⟨g, 4, none⟩ = some (.int .u32 (dg (X + p) 4)) := v6.cell 4
      go_wp2_with fail
      refine (B2.out _).mono ?_
      rintro e w7 ⟨rfl, hb7⟩
      rw [← HZ.out] at *
      have v7 := v6.keep hb7
      have hB7 := hB6.trans (hb7.mono (by omega))
      have hl7 := v7.lt
      have f0 := v7.free 0
      have f1 := v7.free 1
      have f2 := v7.free 2
      have f3 := v7.free 3
      have f4 := v7.free 4
      have c0 : w7.cell? ⟨g, 0, none⟩ = some (.int .u32 (dg (X + p) 0)) := v7.cell 0
      have c1 : w7.cell? ⟨g, 1, none⟩ = some (.int .u32 (dg (X + p) 1)) := v7.cell 1
      have c2 : w7.cell? ⟨g, 2, none⟩ = some (.int .u32 (dg (X + p) 2)) := v7.cell 2
      have c3 : w7.cell? ⟨g, 3, none⟩ = some (.int .u32 (dg (X + p) 3)) := v7.cell 3
      have c4 : w7.cell? ⟨g, 4, none⟩ = some (.int .u32 (dg (X + p) 4)) := v7.cell 4
      clear hb7 B2 v6 va6 vb6 hB6 hl6 hla6 hlb6 a1 b0 d0 d1 d2 d3 d4
      have v8 := Lib.hid (big_set v7 (.int .u32 (dg (arK ps (k + 1)) 0)) (.int .u32 (dg (arK ps (k + 1)) 1)) (.int .u32 (dg (arK ps (k + 1)) 2)) (.int .u32 (dg (arK ps (k + 1)) 3)) (.int .u32 (dg (arK ps (k + 1)) 4)))
      have HB7 := Lib.hid hB7
      clear hB7 v7 HZ
      go_wp2_with fail
      go_roundw
      case rel => exact ⟨k + 1, hlt, by simp, v8.out, ((((HB7.out.setCell (by show g ≤ g; omega) _).setCell (by show g ≤ g; omega) _).setCell (by show g ≤ g; omega) _).setCell (by show g ≤ g; omega) _).setCell (by show g ≤ g; omega) _⟩
      case measure => simp [intOf]; omega
    · obtain rfl : k = n := by omega
      rw [HE.out] at hV
      have hh := big_hi S
      have b0 := dg_bd S (pl 0)
      have b1 := dg_bd S (pl 1)
      have b2 := dg_bd S (pl 2)
      have b3 := dg_bd S (pl 3)
      change 0 ≤ dg S 0 ∧ dg S 0 < 4294967296 at b0
      change 0 ≤ dg S 1 ∧ dg S 1 < 4294967296 at b1
      change 0 ≤ dg S 2 ∧ dg S 2 < 4294967296 at b2
      change 0 ≤ dg S 3 ∧ dg S 3 < 4294967296 at b3
      have c0 : wr.cell? ⟨g, 0, none⟩ = some (.int .u32 (dg S 0)) := hV.cell 0
      have c1 : wr.cell? ⟨g, 1, none⟩ = some (.int .u32 (dg S 1)) := hV.cell 1
      have c2 : wr.cell? ⟨g, 2, none⟩ = some (.int .u32 (dg S 2)) := hV.cell 2
      have c3 : wr.cell? ⟨g, 3, none⟩ = some (.int .u32 (dg S 3)) := hV.cell 3
      obtain ⟨s0, h0⟩ : ∃ x, dg S 0 = x := ⟨_, rfl⟩
      obtain ⟨s1, h1⟩ : ∃ x, dg S 1 = x := ⟨_, rfl⟩
      obtain ⟨s2, h2⟩ : ∃ x, dg S 2 = x := ⟨_, rfl⟩
      obtain ⟨s3, h3⟩ : ∃ x, dg S 3 = x := ⟨_, rfl⟩
      rw [h3, h2, h1, h0] at hh
      rw [h0] at b0 c0
      rw [h1] at b1 c1
      rw [h2] at b2 c2
      rw [h3] at b3 c3
      have o1 := or_half b3 b2
      have o2 := or_half b1 b0
      have t0 : IntKind.u64.wrap s0 = s0 := u64w (by omega)
      have t1 : IntKind.u64.wrap s1 = s1 := u64w (by omega)
      have t2 : IntKind.u64.wrap s2 = s2 := u64w (by omega)
      have t3 : IntKind.u64.wrap s3 = s3 := u64w (by omega)
      have t4 : IntKind.u64.wrap (s1 * 4294967296) = s1 * 4294967296 := u64w (by omega)
      have t5 : IntKind.u64.wrap (s3 * 4294967296) = s3 * 4294967296 := u64w (by omega)
      rw [hh.2] at o2
      obtain ⟨H, hH⟩ : ∃ H, s3 * 4294967296 + s2 = H := ⟨_, rfl⟩
      rw [hH] at o1 hh
      have t6 := hh.1
      rw [HRL.out.1] at t6
      rw [HRL.out.2] at o2
      have HB := Lib.hid hB
      clear hV hB b0 b1 b2 b3 h0 h1 h2 h3 hh hH
      go_wp2_with fail
      go_region
      go_wp2_with fail
      refine bodyPost_ret (by simp [results, Try.results19, go_sem, *]; try rfl) rfl ?_
      have hB : Below w.heap.size w wr := by rw [hg]; exact HB.out
      exact ⟨rfl, by go_grown⟩
end

end Go.Proofs.Ythbndilnobjjgaa
