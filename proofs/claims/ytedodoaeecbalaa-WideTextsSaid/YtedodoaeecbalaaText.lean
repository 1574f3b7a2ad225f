/-
  Contract of (wide.Int).Text.
-/
import Derived.Test.YtedodoaeecbalaaTextM
import Derived.Test.YtedodoaeecbalaaQuoP
import Derived.Test.YtedodoaeecbalaaNat
namespace Go.Proofs.Ytedodoaeecbalaa
open Go.RowKit

theorem elt8 : Elt Try.prog 96 5 (.int .u8 0) 1 1 := ⟨Try.underlying96, by kernel_rfl, rfl, by omega⟩
theorem bb_dg {d : Nat} (h : d < 10) : Value.int .u8 (48 + (d : Int)) = BB (dg d) := by
  unfold BB
  rw [dg_nat h]
  congr 1

/-- One digit more: the quotient by 10 and the digit. -/
theorem ten_step (N : Nat) : ∃ h l d : Nat, N / 18446744073709551616 / 10 = h ∧ (N / 18446744073709551616 % 10 * 18446744073709551616 + N % 18446744073709551616) / 10 = l ∧ (N / 18446744073709551616 % 10 * 18446744073709551616 + N % 18446744073709551616) % 10 = d ∧
    h = N / 10 / 18446744073709551616 ∧ l = N / 10 % 18446744073709551616 ∧ d = N % 10 := by
  refine ⟨_, _, _, rfl, rfl, rfl, ?_, ?_, ?_⟩ <;> omega

/-- A swap, cell by cell. -/
theorem swp_cells {L2 : List UInt8} {K i j p : Nat} {cs : Array Value} {bi bj : Int} (hl : L2.length = K) (hj : K - 1 - i = j) (hlt : 2 * i + 1 < K) (hp : p < K) (hsz : K ≤ cs.size)
    (hc : ∀ q, q < K → cs[q]? = some (BB (swp L2 i q))) (hbi : ((swp L2 i i).toNat : Int) = bi) (hbj : ((swp L2 i j).toNat : Int) = bj) :
    ((cs.setIfInBounds i (.int .u8 bj)).setIfInBounds j (.int .u8 bi))[p]? = some (BB (swp L2 (i + 1) p)) := by
  rw [swp_step L2 (by omega) (by omega), hl, hj]
  rw [Array.getElem?_setIfInBounds]
  by_cases h1 : j = p
  · subst h1
    rw [if_pos rfl, if_pos (by simp; omega), if_neg (by omega), if_pos rfl]
    unfold BB
    rw [hbi]
  · rw [if_neg h1, Array.getElem?_setIfInBounds]
    by_cases h2 : i = p
    · subst h2
      rw [if_pos rfl, if_pos (by omega), if_pos rfl]
      unfold BB
      rw [hbj]
    · rw [if_neg h2, if_neg (by omega), if_neg (by omega)]
      exact hc p hp
def nat2 (a b : Int) : Nat := a.toNat * 18446744073709551616 + b.toNat
theorem text_meas {N h l hh ll : Nat} (a : h = N / 10 / 18446744073709551616 ∧ l = N / 10 % 18446744073709551616) (b : hh = N / 18446744073709551616 ∧ ll = N % 18446744073709551616) (c : ¬ N < 10) :
    nat2 (intOf (.int .u64 (h : Int))) (intOf (.int .u64 (l : Int))) < nat2 (intOf (.int .u64 (hh : Int))) (intOf (.int .u64 (ll : Int))) := by
  unfold nat2
  simp only [intOf, Int.toNat_natCast]
  omega
theorem ten_le {N k n : Nat} (h : N * 10 ^ k ≤ n) : N / 10 * 10 ^ (k + 1) ≤ n := by
  have h1 : N / 10 * 10 ≤ N := Nat.div_mul_le_self N 10
  have h2 := Nat.mul_le_mul_right (10 ^ k) h1
  rw [Nat.pow_succ, Nat.mul_comm (10 ^ k) 10, ← Nat.mul_assoc]
  omega

set_option maxHeartbeats 4000000 in
set_option maxRecDepth 100000 in
theorem text_prog (x : Int) (hx : In128 x) (w : World) :
    Calls Try.prog 42 #[.agg #[.int .i64 (hi64 x), .int .u64 (lo64 x)]] w fun e w' => e = .returned (.string ⟨(txt x).toArray⟩) ∧ Below w.heap.size w w' := by
  have SZ := Lib.hid (fun W => size_prog x hx W)
  have hn := hi_neg hx
  have hnb : x.natAbs ≤ 170141183460469231731687303715884105728 := by unfold In128 at hx; omega
  have hxs : (x < 0 ∧ hi64 x < 0) ∨ (¬ x < 0 ∧ ¬ hi64 x < 0) := by omega
  obtain ⟨T, hT⟩ : ∃ z, txt x = z := ⟨_, rfl⟩
  rw [hT]
  unfold txt at hT
  obtain ⟨n, hn'⟩ : ∃ z, x.natAbs = z := ⟨_, rfl⟩
  rw [hn'] at SZ hT hnb
  have HXS := Lib.hid hxs
  have HT := Lib.hid hT
  have HNB := Lib.hid hnb
  clear hn hx hxs hT hnb hn'
  go_enter Try.func42, Try.ntmps42
  go_wp2_with fail
  refine (SZ.out _).mono ?_
  rintro e w1 ⟨rfl, hb_w1⟩
  obtain ⟨hc_w1, hf_w1⟩ := bcell hb_w1
  have hz_w1 := hb_w1.size
  try simp at hz_w1
  have hB_w1 : Below w.heap.size w w1 := Below.trans (by go_grown) (hb_w1.mono (by go_size))
  have hs_w1_0 : w.heap.size < w1.heap.size := by omega
  have vx1 : Var w1 w.heap.size 26 #[.int .i64 (hi64 x), .int .u64 (lo64 x)] := (Var.new _ _ _).keep hb_w1
  go_wp2_with fail
  clear hc_w1 hf_w1 hz_w1 hb_w1
  go_loopw [3, 4, 5] (fun t u v wr => ∃ (N k c : Nat) (A : Option Addr) (l : List UInt8), t = .int .u64 ((N / 18446744073709551616 : Nat) : Int) ∧ u = .int .u64 ((N % 18446744073709551616 : Nat) : Int) ∧ v = .slice A k c ∧
      wr.ownsRow w1.heap.size 5 1 (.slice A k c) k (l.map BB) ∧ Hid (revd n = l ++ revd N ∧ N * 10 ^ k ≤ n ∧ (k = 0 ∨ 0 < N)) ∧ Below w1.heap.size w1 wr)
    (fun t u _ _ => nat2 (intOf t) (intOf u))
  case atStart => exact ⟨n, 0, 0, none, [], rfl, rfl, rfl, World.ownsRow_nil _ _ _ _, Lib.hid ⟨rfl, by omega, .inl rfl⟩, Below.refl _ _⟩
  case round =>
    obtain ⟨N, k, c, A, l, rfl, rfl, rfl, hown, HR, hB⟩ := hrel
    have hk : k ≤ 39 := by
      have h := HR.out.2
      have hb := HNB.out
      rcases Nat.lt_or_ge 39 k with h1 | h1
      · exfalso
        have h2 : 10 ^ 40 ≤ 10 ^ k := Nat.pow_le_pow_right (by omega) h1
        have h3 : 10 ^ k ≤ N * 10 ^ k := Nat.le_mul_of_pos_left _ (by omega)
        have h4 : (10 : Nat) ^ 40 = 10000000000000000000000000000000000000000 := by decide +kernel
        omega
      · exact h1
    obtain ⟨h, lo, d, e1, e2, e3, e4, e5, e6⟩ := ten_step N
    have hNb : N ≤ n := by
      have h := HR.out.2.1
      have h3 : N ≤ N * 10 ^ k := Nat.le_mul_of_pos_right _ (Nat.pow_pos (by omega))
      omega
    have DV := Lib.hid (fun W => run_Div64 (N / 18446744073709551616 % 10) (N % 18446744073709551616) 10 (by omega) (by omega) (by omega) W)
    rw [e2, e3] at DV
    obtain ⟨hh, hhh⟩ : ∃ z, N / 18446744073709551616 = z := ⟨_, rfl⟩
    obtain ⟨ll, hll⟩ : ∃ z, N % 18446744073709551616 = z := ⟨_, rfl⟩
    have hhb : hh < 18446744073709551616 := by have := HNB.out; omega
    have hlb : ll < 18446744073709551616 := by omega
    rw [hhh] at e1 DV
    rw [hll] at DV
    rw [hhh, hll]
    have E1 : (hh : Int) / 10 = (h : Int) := by omega
    have E2 : (hh : Int) % 10 = ((hh % 10 : Nat) : Int) := by omega
    obtain ⟨h10, hh10⟩ : ∃ z, hh % 10 = z := ⟨_, rfl⟩
    rw [hh10] at E2 DV
    have hd : d < 10 := by omega
    have E3 : IntKind.u8.wrap (48 + IntKind.u8.wrap (d : Int)) = 48 + (d : Int) := by simp only [IntKind.wrap, IntKind.signed, IntKind.bits]; simp; omega
    have KK := Lib.hid (show (h = N / 10 / 18446744073709551616 ∧ lo = N / 10 % 18446744073709551616 ∧ d = N % 10) ∧ hh = N / 18446744073709551616 ∧ ll = N % 18446744073709551616 from ⟨⟨e4, e5, e6⟩, hhh.symm, hll.symm⟩)
    have hh1 : (h : Int) ≤ 18446744073709551615 := by omega
    have hl1 : (lo : Int) ≤ 18446744073709551615 := by omega
    have hd1 : (d : Int) ≤ 9 := by omega
    have h101 : (h10 : Int) ≤ 9 := by omega
    have vx := vx1.below hB hs_w1_0
    have hzr := hB.size
    have hBr : Below w.heap.size w wr := hB_w1.trans (hB.mono hB_w1.size)
    clear e1 e2 e3 e4 e5 e6 hhh hll hh10 hNb
    go_wp2_with fail
    refine (DV.out _).mono ?_
    rintro e w2 ⟨rfl, hb_w2⟩
    obtain ⟨hc_w2, hf_w2⟩ := bcell hb_w2
    have hz_w2 := hb_w2.size
    try simp at hz_w2
    have hB_w2 : Below w.heap.size w w2 := Below.trans (by go_grown) (hb_w2.mono (by go_size))
    have hs_w2_0 : w.heap.size < w2.heap.size := by omega
    have hown2 := own_keep hown hb_w2
    have vx2 := vx.keep hb_w2
    have x0 : w2.cell? ⟨w.heap.size, 0, none⟩ = some (.int .i64 (hi64 x)) := vx2.cell 0
    have hB2 : Below w1.heap.size w1 w2 := hB.trans (hb_w2.mono hB.size)
    have hz12 := hB2.size
    clear hown hc_w2 hf_w2 hz_w2 hb_w2 vx
    rcases Nat.eq_zero_or_pos (h + lo) with hz | hz
    · obtain rfl : h = 0 := by omega
      obtain rfl : lo = 0 := by omega
      have hN10 : N < 10 := by have := KK.out; omega
      have hrv : revd n = l ++ [dg d] := by rw [HR.out.1, revd_low hN10, KK.out.1.2.2, Nat.mod_eq_of_lt hN10]
      have HRV := Lib.hid hrv
      clear hrv
      rcases HXS.out with ⟨hxa, hxb⟩ | ⟨hxa, hxb⟩
      · have HTT := Lib.hid (show (l ++ [dg d] ++ [45]).reverse = T by rw [← HT.out, if_pos hxa, HRV.out, List.reverse_append]; rfl)
        clear hxa
        go_wp2_with (first | (at_builtin; refine wpList_push rfl (.tmp 25) (.tmp 29) 96 rfl elt8 w1.heap.size A k c (l.map BB) rfl hown2 [_] rfl rfl (one_cell rfl) (le_maxLen (by omega)) (by omega) (by omega) ?_; intro A' c' w' hown' hg; have vx3 := vx2.push hown2 (by omega) hg; have x0' : w'.cell? ⟨w.heap.size, 0, none⟩ = some (.int .i64 (hi64 x)) := vx3.cell 0; have hz' := hg.size; have hB3 := below_push hB2 hown2 (Nat.le_refl _) (by omega) hg) | (at_builtin; refine wpList_push rfl (.tmp 40) (.tmp 41) 96 rfl elt8 w1.heap.size A' (k + 1) c' _ rfl hown' [_] rfl rfl (one_cell rfl) (le_maxLen (by omega)) (by omega) (by omega) ?_; intro A'' c'' w'' hown'' hg'; have hB4 := below_push hB3 hown' (Nat.le_refl _) (by omega) hg'))
        rw [bb_dg hd] at hown''
        have hownF : w''.ownsRow w1.heap.size 5 1 (.slice A'' (k + 1 + 1) c'') (k + 1 + 1) ((l ++ [dg d] ++ [45]).map BB) := by simp only [List.map_append]; exact hown''
        have hBF : Below w.heap.size w w'' := hB_w1.trans (hB4.mono hB_w1.size)
        obtain ⟨L2, hL2⟩ : ∃ z, l ++ [dg d] ++ [45] = z := ⟨_, rfl⟩
        rw [hL2] at hownF HTT
        obtain ⟨K, hK⟩ : ∃ z, k + 1 + 1 = z := ⟨_, rfl⟩
        rw [hK] at hownF
        have hKk : (k + 1 + 1 : Int) = (K : Int) := by omega
        obtain ⟨g, cap, cur, hgv, hgb, hgV, hgc, hgl, hgs, hgp⟩ := own_var hownF (by omega)
        injection hgv with hgA _ hgcap
        subst hgA hgcap
        have hT2 : T.length = K := by rw [← HTT.out, List.length_reverse]; exact hgl
        have HP0 := Lib.hid (show ∀ p, p < K → cur[p]? = some (BB (swp L2 0 p)) from fun p hp => by rw [swp_start L2 (by omega)]; exact hgp p hp)
        have HLL := Lib.hid hgl
        have HT2 := Lib.hid hT2
        have hK1 : 0 < K := by omega
        have hK9 : K ≤ 100 := by omega
        have HKk := Lib.hid hKk
        have HKn := Lib.hid hK
        have hgw : w.heap.size ≤ g := by omega
        clear hgp hgl hT2 hL2
        try rw [hK]
        clear hKk hK
        go_loopw [8, 9] (fun t8 t9 wr => ∃ (i : Nat) (cs : Array Value), t8 = .int .i64 (i : Int) ∧ t9 = .int .i64 ((K : Int) - 1 - (i : Int)) ∧ 2 * i ≤ K ∧ Var wr g 5 cs ∧ cs.size = c'' ∧ Hid (∀ p, p < K → cs[p]? = some (BB (swp L2 i p))) ∧ Below w.heap.size w wr) (fun t _ _ => (K - intOf t).toNat)
        case atStart => exact ⟨0, cur, rfl, congrArg (Value.int .i64) (by have := HKk.out; have := HKn.out; omega), by omega, hgV, hgs, HP0, hBF⟩
        case round =>
          clear HP0 hgV hownF hBF
          obtain ⟨i, cs, rfl, rfl, hi, hV, hsz, HC, hBq⟩ := hrel
          rcases Nat.lt_or_ge (2 * i + 1) K with hlt | hge
          · obtain ⟨j, hj⟩ : ∃ z, K - 1 - i = z := ⟨_, rfl⟩
            rw [show (K : Int) - 1 - (i : Int) = (j : Int) by omega]
            obtain ⟨bi, hbi⟩ : ∃ z : Int, ((swp L2 i i).toNat : Int) = z := ⟨_, rfl⟩
            obtain ⟨bj, hbj⟩ : ∃ z : Int, ((swp L2 i j).toNat : Int) = z := ⟨_, rfl⟩
            have ci : wr.cell? ⟨g, i, none⟩ = some (.int .u8 bi) := by rw [hV.cell i, HC.out i (by omega), ← hbi]; rfl
            have cj : wr.cell? ⟨g, j, none⟩ = some (.int .u8 bj) := by rw [hV.cell j, HC.out j (by omega), ← hbj]; rfl
            have di : wr.drew.cell? ⟨g, i, none⟩ = some (.int .u8 bi) := ci
            have dj : wr.drew.cell? ⟨g, j, none⟩ = some (.int .u8 bj) := cj
            have fi := hV.free i
            have fj := hV.free j
            have gi : wr.drew.frozen? ⟨g, i, none⟩ = false := fi
            have gj : wr.drew.frozen? ⟨g, j, none⟩ = false := fj
            have zg := hV.lt
            have hij : (i : Int) < (j : Int) := by omega
            have hjK : (j : Int) < (K : Int) := by omega
            have hne : ¬ i = j := by omega
            have hne2 : ¬ j = i := by omega
            have HJ := Lib.hid (And.intro hj (And.intro hbi hbj))
            clear hj hbi hbj
            go_wp2_with fail
            go_region
            all_goals
              go_wp2_with fail
              go_roundw
              case rel =>
                have hjj := HJ.out.1
                refine ⟨i + 1, _, congrArg (Value.int .i64) (by omega), congrArg (Value.int .i64) (by omega), by omega, (hV.drew.store i (.int .u8 bj)).store j (.int .u8 bi), by simp [hsz], Lib.hid (fun p hp => ?_), (hBq.drew.setCell (p := ⟨g, i, none⟩) hgw _).setCell (p := ⟨g, j, none⟩) hgw _⟩
                exact swp_cells HLL.out hjj hlt hp (by omega) HC.out HJ.out.2.1 HJ.out.2.2
              case measure => (first | (simp only [intOf]; omega) | (simp [intOf]; omega))
          · have cv := run_convert_bytes_back wr 96 9 5 ⟨g, 0, none⟩ c'' T Try.underlying96 Try.underlying5 Try.underlying9 (fun j hj => by
              have ha : ((⟨g, 0, none⟩ : Addr).add j) = ⟨g, j, none⟩ := by
                unfold Addr.add
                by_cases hj0 : j = 0 <;> simp [hj0]
              have hjK : j < K := by rw [← HT2.out]; exact hj
              rw [ha, hV.cell j, HC.out j hjK, swp_end L2 (by rw [HLL.out]; exact hjK) (by rw [HLL.out]; omega), HTT.out]
              unfold BB
              rw [List.getD_eq_getElem?_getD, List.getElem?_eq_getElem hj]
              rfl)
            rw [HT2.out] at cv
            have hnl : ¬ (i : Int) < (K : Int) - 1 - (i : Int) := by omega
            go_wp2_with fail
            go_ret
            exact ⟨rfl, hBq⟩
      · have HTT := Lib.hid (show (l ++ [dg d]).reverse = T by rw [← HT.out, if_neg (by omega), HRV.out]; rfl)
        clear hxa
        go_wp2_with (at_builtin; refine wpList_push rfl (.tmp 25) (.tmp 29) 96 rfl elt8 w1.heap.size A k c (l.map BB) rfl hown2 [_] rfl rfl (one_cell rfl) (le_maxLen (by omega)) (by omega) (by omega) ?_; intro A' c' w' hown' hg; have vx3 := vx2.push hown2 (by omega) hg; have x0' : w'.cell? ⟨w.heap.size, 0, none⟩ = some (.int .i64 (hi64 x)) := vx3.cell 0; have hz' := hg.size; have hB3 := below_push hB2 hown2 (Nat.le_refl _) (by omega) hg)
        rw [bb_dg hd] at hown'
        have hownF : w'.ownsRow w1.heap.size 5 1 (.slice A' (k + 1) c') (k + 1) ((l ++ [dg d]).map BB) := by simp only [List.map_append]; exact hown'
        have hBF : Below w.heap.size w w' := hB_w1.trans (hB3.mono hB_w1.size)
        obtain ⟨L2, hL2⟩ : ∃ z, l ++ [dg d] = z := ⟨_, rfl⟩
        rw [hL2] at hownF HTT
        obtain ⟨K, hK⟩ : ∃ z, k + 1 = z := ⟨_, rfl⟩
        rw [hK] at hownF
        have hKk : (k + 1 : Int) = (K : Int) := by omega
        obtain ⟨g, cap, cur, hgv, hgb, hgV, hgc, hgl, hgs, hgp⟩ := own_var hownF (by omega)
        injection hgv with hgA _ hgcap
        subst hgA hgcap
        have hT2 : T.length = K := by rw [← HTT.out, List.length_reverse]; exact hgl
        have HP0 := Lib.hid (show ∀ p, p < K → cur[p]? = some (BB (swp L2 0 p)) from fun p hp => by rw [swp_start L2 (by omega)]; exact hgp p hp)
        have HLL := Lib.hid hgl
        have HT2 := Lib.hid hT2
        have hK1 : 0 < K := by omega
        have hK9 : K ≤ 100 := by omega
        have HKk := Lib.hid hKk
        have HKn := Lib.hid hK
        have hgw : w.heap.size ≤ g := by omega
        clear hgp hgl hT2 hL2
        try rw [hK]
        clear hKk hK
        go_loopw [8, 9] (fun t8 t9 wr => ∃ (i : Nat) (cs : Array Value), t8 = .int .i64 (i : Int) ∧ t9 = .int .i64 ((K : Int) - 1 - (i : Int)) ∧ 2 * i ≤ K ∧ Var wr g 5 cs ∧ cs.size = c' ∧ Hid (∀ p, p < K → cs[p]? = some (BB (swp L2 i p))) ∧ Below w.heap.size w wr) (fun t _ _ => (K - intOf t).toNat)
        case atStart => exact ⟨0, cur, rfl, congrArg (Value.int .i64) (by have := HKk.out; have := HKn.out; omega), by omega, hgV, hgs, HP0, hBF⟩
        case round =>
          clear HP0 hgV hownF hBF
          obtain ⟨i, cs, rfl, rfl, hi, hV, hsz, HC, hBq⟩ := hrel
          rcases Nat.lt_or_ge (2 * i + 1) K with hlt | hge
          · obtain ⟨j, hj⟩ : ∃ z, K - 1 - i = z := ⟨_, rfl⟩
            rw [show (K : Int) - 1 - (i : Int) = (j : Int) by omega]
            obtain ⟨bi, hbi⟩ : ∃ z : Int, ((swp L2 i i).toNat : Int) = z := ⟨_, rfl⟩
            obtain ⟨bj, hbj⟩ : ∃ z : Int, ((swp L2 i j).toNat : Int) = z := ⟨_, rfl⟩
            have ci : wr.cell? ⟨g, i, none⟩ = some (.int .u8 bi) := by rw [hV.cell i, HC.out i (by omega), ← hbi]; rfl
            have cj : wr.cell? ⟨g, j, none⟩ = some (.int .u8 bj) := by rw [hV.cell j, HC.out j (by omega), ← hbj]; rfl
            have di : wr.drew.cell? ⟨g, i, none⟩ = some (.int .u8 bi) := ci
            have dj : wr.drew.cell? ⟨g, j, none⟩ = some (.int .u8 bj) := cj
            have fi := hV.free i
            have fj := hV.free j
            have gi : wr.drew.frozen? ⟨g, i, none⟩ = false := fi
            have gj : wr.drew.frozen? ⟨g, j, none⟩ = false := fj
            have zg := hV.lt
            have hij : (i : Int) < (j : Int) := by omega
            have hjK : (j : Int) < (K : Int) := by omega
            have hne : ¬ i = j := by omega
            have hne2 : ¬ j = i := by omega
            have HJ := Lib.hid (And.intro hj (And.intro hbi hbj))
            clear hj hbi hbj
            go_wp2_with fail
            go_region
            all_goals
              go_wp2_with fail
              go_roundw
              case rel =>
                have hjj := HJ.out.1
                refine ⟨i + 1, _, congrArg (Value.int .i64) (by omega), congrArg (Value.int .i64) (by omega), by omega, (hV.drew.store i (.int .u8 bj)).store j (.int .u8 bi), by simp [hsz], Lib.hid (fun p hp => ?_), (hBq.drew.setCell (p := ⟨g, i, none⟩) hgw _).setCell (p := ⟨g, j, none⟩) hgw _⟩
                exact swp_cells HLL.out hjj hlt hp (by omega) HC.out HJ.out.2.1 HJ.out.2.2
              case measure => (first | (simp only [intOf]; omega) | (simp [intOf]; omega))
          · have cv := run_convert_bytes_back wr 96 9 5 ⟨g, 0, none⟩ c' T Try.underlying96 Try.underlying5 Try.underlying9 (fun j hj => by
              have ha : ((⟨g, 0, none⟩ : Addr).add j) = ⟨g, j, none⟩ := by
                unfold Addr.add
                by_cases hj0 : j = 0 <;> simp [hj0]
              have hjK : j < K := by rw [← HT2.out]; exact hj
              rw [ha, hV.cell j, HC.out j hjK, swp_end L2 (by rw [HLL.out]; exact hjK) (by rw [HLL.out]; omega), HTT.out]
              unfold BB
              rw [List.getD_eq_getElem?_getD, List.getElem?_eq_getElem hj]
              rfl)
            rw [HT2.out] at cv
            have hnl : ¬ (i : Int) < (K : Int) - 1 - (i : Int) := by omega
            go_wp2_with fail
            go_ret
            exact ⟨rfl, hBq⟩
    · have hmore : ¬ N < 10 := by have := KK.out; omega
      have HM := Lib.hid hmore
      clear hmore
      have hcase : (h = 0 ∧ 0 < lo) ∨ 0 < h := by omega
      rcases hcase with ⟨rfl, hlo⟩ | hhp
      · have z1 : ((lo : Int) == 0) = false := by simp; omega
        have z2 : ¬ (lo : Int) = 0 := by omega
        go_wp2_with (at_builtin; refine wpList_push rfl (.tmp 25) (.tmp 29) 96 rfl elt8 w1.heap.size A k c (l.map BB) rfl hown2 [_] rfl rfl (one_cell rfl) (le_maxLen (by omega)) (by omega) (by omega) ?_; intro A' c' w' hown' hg)
        go_roundw
        case rel =>
          rw [bb_dg hd] at hown'
          have hr := HR.out
          have hk6 := KK.out.1.2.2
          refine ⟨N / 10, k + 1, c', A', l ++ [dg d], congrArg (Value.int .u64) ?_, congrArg (Value.int .u64) ?_, rfl, ?_, Lib.hid ⟨?_, ?_, .inr ?_⟩, below_push hB2 hown2 (Nat.le_refl _) (by omega) hg⟩
          · have := KK.out.1.1; omega
          · have := KK.out.1.2.1; omega
          · rw [List.map_append]; exact hown'
          · rw [hr.1, revd_more HM.out, hk6, List.append_assoc]; rfl
          · exact ten_le hr.2.1
          · have := HM.out; omega
        case measure => exact text_meas ⟨KK.out.1.1, KK.out.1.2.1⟩ KK.out.2 HM.out
      · have z1 : ((h : Int) == 0) = false := by simp; omega
        have z2 : ¬ (h : Int) = 0 := by omega
        go_wp2_with (at_builtin; refine wpList_push rfl (.tmp 25) (.tmp 29) 96 rfl elt8 w1.heap.size A k c (l.map BB) rfl hown2 [_] rfl rfl (one_cell rfl) (le_maxLen (by omega)) (by omega) (by omega) ?_; intro A' c' w' hown' hg)
        go_roundw
        case rel =>
          rw [bb_dg hd] at hown'
          have hr := HR.out
          have hk6 := KK.out.1.2.2
          refine ⟨N / 10, k + 1, c', A', l ++ [dg d], congrArg (Value.int .u64) ?_, congrArg (Value.int .u64) ?_, rfl, ?_, Lib.hid ⟨?_, ?_, .inr ?_⟩, below_push hB2 hown2 (Nat.le_refl _) (by omega) hg⟩
          · have := KK.out.1.1; omega
          · have := KK.out.1.2.1; omega
          · rw [List.map_append]; exact hown'
          · rw [hr.1, revd_more HM.out, hk6, List.append_assoc]; rfl
          · exact ten_le hr.2.1
          · have := HM.out; omega
        case measure => exact text_meas ⟨KK.out.1.1, KK.out.1.2.1⟩ KK.out.2 HM.out

end Go.Proofs.Ytedodoaeecbalaa
