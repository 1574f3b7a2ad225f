/-
  The document's In: fail, Fixed, none, Float, Count, Text, End.
-/
import Derived.Test.YtiejgandjlldjaaTakeT
import Derived.Test.YtiejgandjlldjaaTakesL
import Derived.Test.YtiejgandjlldjaaAgainM
namespace Go.Proofs.Ytiejgandjlldjaa
open Go.RowKit

def RInAt (w : World) (R : Nat) (s : Ist) : Prop := ∃ A c, Var w R 67 #[.slice A s.l.length c, .int .i64 (s.at_ : Int), .int .i64 (s.code : Int), .int .i64 (faultOf s : Int)] ∧ Bs w A s.l.length c s.l ∧ s.at_ ≤ s.l.length
theorem rin_no {w : World} {R : Nat} {A : Option Addr} {n c : Nat} {x y z : Int} (h : Var w R 67 #[.slice A n c, .int .i64 x, .int .i64 y, .int .i64 z]) : ∀ o b, w.cell? ⟨R, o, none⟩ ≠ some (B8 b) := fun o b e => by
  rw [h.cell o] at e
  match o, e with
  | 0, e => simp [B8] at e
  | 1, e => simp [B8] at e
  | 2, e => simp [B8] at e
  | 3, e => simp [B8] at e
  | o + 4, e => simp at e
theorem RInAt.lt {w : World} {R : Nat} {s : Ist} (h : RInAt w R s) : R < w.heap.size := by obtain ⟨A, c, hv, _⟩ := h; exact hv.lt
theorem RInAt.keep {w w' : World} {R : Nat} {s : Ist} (h : RInAt w R s) (hb : Below w.heap.size w w') : RInAt w' R s := by obtain ⟨A, c, hv, hs, h1⟩ := h; exact ⟨A, c, hv.keep hb, hs.below hb, h1⟩
theorem RInAt.fits {w : World} {R : Nat} {s : Ist} (h : RInAt w R s) : s.at_ ≤ s.l.length := by obtain ⟨A, c, hv, hs, hat⟩ := h; exact hat
def RTook (R : Nat) (w : World) (s : Ist) (e : Ending) (v : Value) (w' : World) : Prop := e = .returned v ∧ RInAt w' R s ∧ Upd R w w'

set_option maxRecDepth 100000 in
theorem rfail_any (R : Nat) (s : Ist) (at_ code : Nat) (w : World) (h : RInAt w R s) (hat : at_ ≤ s.l.length) (hc : ¬ code = 0) :
    Calls Try.prog 93 #[.pointer (some ⟨R, 0, none⟩), .int .i64 (at_ : Int), .int .i64 (code : Int)] w fun e w' => Void e ∧ RInAt w' R ⟨s.l, at_, code⟩ ∧ Upd R w w' := by
  obtain ⟨A, c, hv, hs, hat'⟩ := h
  have c1 : w.cell? ⟨R, 1, none⟩ = some (.int .i64 (s.at_ : Int)) := hv.cell 1
  have c2 : w.cell? ⟨R, 2, none⟩ = some (.int .i64 (s.code : Int)) := hv.cell 2
  have c3 : w.cell? ⟨R, 3, none⟩ = some (.int .i64 (faultOf s : Int)) := hv.cell 3
  have f1 := hv.free 1
  have f2 := hv.free 2
  have f3 := hv.free 3
  have HH := Lib.hid hc
  clear hc
  go_enter Try.func93, Try.ntmps93
  go_wp2
  go_end0
  have hv1 := hv.store 2 (.int .i64 (code : Int))
  have hv2 := hv1.store 3 (.int .i64 (at_ : Int))
  have hf : faultOf ⟨s.l, at_, code⟩ = at_ := by unfold faultOf; rw [if_neg HH.out]
  refine ⟨⟨_, rfl⟩, ⟨A, c, ?_, bs_upd (bs_upd (bs_upd hs (Upd.set _) (rin_no hv)) (Upd.set _) (rin_no hv1)) (Upd.set _) (rin_no hv2), hat⟩, ((Upd.set _).trans (Upd.set _)).trans (Upd.set _)⟩
  rw [hf]
  exact hv2.store 1 (.int .i64 (at_ : Int))

theorem or_low {v b : Nat} (hv : v < 72057594037927936) (hb : b < 256) : bits .or .u64 ((v : Int) * 256) (b : Int) = ((b + 256 * v : Nat) : Int) := by
  have e1 : ((v : Int) * 256) = ((v * 256 : Nat) : Int) := by omega
  rw [e1, u64_or_nat _ _ (by omega) (by omega), show v * 256 = 2 ^ 8 * v by omega, ← Nat.two_pow_add_eq_or_of_lt (show b < 2 ^ 8 by omega), Nat.add_comm]

set_option maxRecDepth 100000 in
set_option maxHeartbeats 800000 in
theorem rfixed_any (R : Nat) (s : Ist) (n : Nat) (w : World) (h : RInAt w R s) (hn : n ≤ 8) :
    Calls Try.prog 72 #[.pointer (some ⟨R, 0, none⟩), .int .i64 (n : Int)] w fun e w' => RTook R w (s.fixed n).2 e (.int .u64 ((s.fixed n).1 : Int)) w' := by
  have HI := Lib.hid h
  have HF := Lib.hid (fun W h => rfail_any R s s.at_ 30 W h (RInAt.fits h) (by omega))
  obtain ⟨A, c, hv, hs, hat⟩ := h
  have hcap := hs.cap
  have hbig := hs.big
  unfold maxLen at hbig
  obtain ⟨l, at_, code⟩ := s
  have c0 : w.cell? ⟨R, 0, none⟩ = some (.slice A l.length c) := hv.cell 0
  have c1 : w.cell? ⟨R, 1, none⟩ = some (.int .i64 (at_ : Int)) := hv.cell 1
  have c2 : w.cell? ⟨R, 2, none⟩ = some (.int .i64 (code : Int)) := hv.cell 2
  have f1 := hv.free 1
  have hlt := hv.lt
  simp only [] at hat hs hv HF
  unfold Ist.fixed
  rcases Nat.eq_zero_or_pos code with h0 | h0
  · subst h0
    rcases Nat.lt_or_ge (l.length - at_) n with hl | hl
    · have e1 : Ist.some at_ n ⟨l, at_, 0⟩ = ([], ⟨l, at_, 30⟩) := by unfold Ist.some; rw [if_pos rfl, if_pos hl]
      rw [e1]
      obtain ⟨m, hm⟩ : ∃ z, l.length = z := ⟨_, rfl⟩
      rw [hm] at c0 hl hat hcap
      have hl' : (m : Int) - (at_ : Int) < (n : Int) := by omega
      clear hm hs hv e1
      go_enter Try.func72, Try.ntmps72
      go_wp2_with fail
      have hq_w := @wd_cell w
      refine wp_region_wd (by kernel_rfl) (by kernel_rfl) ?_
      repeat (go_big_quiet_step (fail))
      refine wpQuiet_nil ?_
      rintro w1 ⟨⟨wx, hb_w1⟩, hwx⟩
      obtain rfl : w1 = wx := hwx
      clear hq_w
      have hz_w1 := hb_w1.size
      obtain ⟨hc_w1, hf_w1⟩ := bcell hb_w1
      have hB_w1 : Below w.heap.size w w1 := Below.trans (by go_grown) (hb_w1.mono (by go_size))
      have hs_w1_0 : R < w1.heap.size := Nat.lt_of_lt_of_le (by assumption) hb_w1.size
      have c11 := (hc_w1 R 1 hlt).trans c1
      go_wp2_with fail
      refine (HF.out _ (HI.out.keep hb_w1)).mono ?_
      rintro e w2 ⟨⟨_, rfl⟩, hI2, hU2⟩
      go_wp2_with fail
      go_ret
      exact ⟨rfl, hI2, (Upd.of_below hb_w1).trans hU2⟩
    · have e1 : Ist.some at_ n ⟨l, at_, 0⟩ = ((l.take (at_ + n)).drop at_, ⟨l, at_ + n, 0⟩) := by unfold Ist.some; rw [if_pos rfl, if_neg (by show ¬ (l.length - at_ < n); omega)]
      rw [e1]
      obtain ⟨seg, hseg⟩ : ∃ z, (l.take (at_ + n)).drop at_ = z := ⟨_, rfl⟩
      have hsl : seg.length = n := by rw [← hseg, List.length_drop, List.length_take]; omega
      have hget : ∀ j (hj : j < seg.length), l[at_ + j]? = some seg[j] := fun j hj => by
        subst hseg
        rw [List.getElem_drop, List.getElem_take, List.getElem?_eq_getElem]
      rw [hseg]
      obtain ⟨m, hm⟩ : ∃ z, l.length = z := ⟨_, rfl⟩
      have hfl : faultOf ⟨l, at_ + n, 0⟩ = 0 := rfl
      have HX := Lib.hid (And.intro hv (And.intro hs (And.intro hget (And.intro hm hsl))))
      have HL := Lib.hid (And.intro hl hat)
      rw [hm] at c0 hl hat hcap
      have hl' : ¬ ((m : Int) - (at_ : Int) < (n : Int)) := by omega
      clear hm hs hv e1 hseg hget hsl hfl HF
      go_enter Try.func72, Try.ntmps72
      go_wp2_with fail
      have hq_w := @wd_cell w
      refine wp_region_wd (by kernel_rfl) (by kernel_rfl) ?_
      repeat (go_big_quiet_step (fail))
      refine wpQuiet_nil ?_
      rintro w1 ⟨⟨wx, hb_w1⟩, hwx⟩
      obtain rfl : w1 = wx := hwx
      clear hq_w
      have hz_w1 := hb_w1.size
      obtain ⟨hc_w1, hf_w1⟩ := bcell hb_w1
      have hB_w1 : Below w.heap.size w w1 := Below.trans (by go_grown) (hb_w1.mono (by go_size))
      have hs_w1_0 : R < w1.heap.size := Nat.lt_of_lt_of_le (by assumption) hb_w1.size
      go_wp2_with fail
      go_loopw [5, 6] (fun v t wr => ∃ j : Nat, ∃ z : Int, j ≤ n ∧ t = .int .i64 z ∧ z + 1 = (j : Int) ∧ v = .int .u64 ((num (seg.drop j) : Nat) : Int) ∧ Below w.heap.size w wr) (fun _ t _ => (intOf t + 1).toNat)
      case atStart => exact ⟨n, (n : Int) - 1, by omega, by first | rfl | go_num, by omega, by rw [List.drop_eq_nil_of_le (by rw [HX.out.2.2.2.2]; exact Nat.le_refl _)]; rfl, hb_w1⟩
      case round =>
        obtain ⟨j, z, hj, rfl, hz, rfl, hBr⟩ := hrel
        have hvr := HX.out.1.keep hBr
        have hsr := HX.out.2.1.below hBr
        have d0 : wr.cell? ⟨R, 0, none⟩ = some (.slice A m c) := ((bcell hBr).1 R 0 hlt).trans c0
        have d1 : wr.cell? ⟨R, 1, none⟩ = some (.int .i64 (at_ : Int)) := ((bcell hBr).1 R 1 hlt).trans c1
        have dz : R < wr.heap.size := Nat.lt_of_lt_of_le hlt hBr.size
        rcases Nat.eq_zero_or_pos j with hj0 | hj0
        · subst hj0
          obtain rfl : z = -1 := by omega
          rw [List.drop_zero]
          have df := hvr.free 1
          have HV := Lib.hid (And.intro hvr hsr)
          clear hvr hsr
          go_wp2_with fail
          go_ret
          refine ⟨rfl, ⟨A, c, HV.out.1.store 1 (.int .i64 ((at_ + n : Nat) : Int)), bs_upd HV.out.2 (Upd.set _) (rin_no HV.out.1), ?_⟩, (Upd.of_below hBr).trans (Upd.set _)⟩
          show at_ + n ≤ l.length
          rw [HX.out.2.2.2.1]
          omega
        · obtain ⟨i, rfl⟩ : ∃ i, j = i + 1 := ⟨j - 1, by omega⟩
          obtain rfl : z = (i : Int) := by omega
          have hi : i < seg.length := by rw [HX.out.2.2.2.2]; omega
          obtain ⟨g, o, rfl, hg, hc⟩ := hsr.pos (by rw [HX.out.2.2.2.1]; omega)
          have hci := hc (at_ + i) _ (HX.out.2.2.1 i hi)
          unfold B8 at hci
          obtain ⟨b, hb⟩ : ∃ z : Nat, seg[i].toNat = z := ⟨_, rfl⟩
          have hb2 : b < 256 := by rw [← hb]; exact UInt8.toNat_lt _
          rw [hb] at hci
          have hn1 : num (seg.drop i) = b + 256 * num (seg.drop (i + 1)) := by rw [List.drop_eq_getElem_cons hi]; simp only [num]; rw [hb]
          have hlo := num_lt (seg.drop (i + 1))
          rw [List.length_drop, HX.out.2.2.2.2] at hlo
          have h56 : (2 : Nat) ^ (8 * (n - (i + 1))) ≤ 2 ^ 56 := Nat.pow_le_pow_right (by omega) (by omega)
          obtain ⟨v, hv⟩ : ∃ z : Nat, num (seg.drop (i + 1)) = z := ⟨_, rfl⟩
          rw [hv] at hn1 hlo
          rw [hv]
          have hv56 : v < 72057594037927936 := by omega
          have HO := Lib.hid (or_low hv56 hb2)
          have HN := Lib.hid hn1
          have hix : at_ + i < m := by omega
          have hix' : (at_ : Int) + (i : Int) < (m : Int) := by omega
          have hb3 : (b : Int) < 256 := by omega
          have hgz := hg
          clear hc hv hn1 hlo h56 hvr hsr hb hi
          go_wp2_with fail
          have hq_wr := @wd_cell wr
          refine wp_region_wd (by kernel_rfl) (by kernel_rfl) ?_
          repeat (go_big_quiet_step (fail))
          refine wpQuiet_nil ?_
          rintro w4 ⟨⟨wx, hb_w4⟩, hwx⟩
          obtain rfl : w4 = wx := hwx
          clear hq_wr
          have hz_w4 := hb_w4.size
          obtain ⟨hc_w4, hf_w4⟩ := bcell hb_w4
          have hs_w4_0 : R < w4.heap.size := Nat.lt_of_lt_of_le (by assumption) hb_w4.size
          have hs_w4_1 : g < w4.heap.size := Nat.lt_of_lt_of_le (by assumption) hb_w4.size
          go_wp2_with fail
          go_roundw
          case rel => exact ⟨i, (i : Int) - 1, by omega, by first | rfl | go_num, by omega, congrArg (Value.int .u64) (by rw [HN.out]; exact HO.out), hBr.trans (hb_w4.mono hBr.size)⟩
          case measure => (first | (simp only [intOf]; omega) | (simp [intOf]; omega))
  · have e1 : Ist.some at_ n ⟨l, at_, code⟩ = ([], ⟨l, at_, code⟩) := by unfold Ist.some; rw [if_neg (by show ¬ code = 0; omega)]
    rw [e1]
    have h1 : ((code : Int) != 0) = true := by simp; omega
    have h2 : ¬ (code : Int) = 0 := by omega
    clear e1 hs hv
    go_enter Try.func72, Try.ntmps72
    go_wp2_with fail
    go_ret
    exact ⟨rfl, HI.out.keep (by go_grown), Upd.of_below (by go_grown)⟩

theorem isNaN_read (b : Nat) : (Ieee.double.read b).isNaN = decide (9218868437227405312 < b % 9223372036854775808) := by
  have e1 : Ieee.double.signWeight = 9223372036854775808 := by decide +kernel
  have e2 : Ieee.double.infRung = 9218868437227405312 := by decide +kernel
  have e3 : Ieee.double.binade = 4503599627370496 := by decide +kernel
  unfold Ieee.Format.read
  simp only [e1, e2, e3]
  split
  · rw [decide_eq_false (by omega)]; rfl
  · split
    · rw [decide_eq_false (by omega)]; rfl
    · split
      · rw [decide_eq_false (by omega)]; rfl
      · rw [decide_eq_true (by omega)]; rfl
theorem order_self (d : Ieee.Datum) : (d.order d != some Ordering.eq) = d.isNaN := by
  have hc : ∀ x : Nat, compare x x = Ordering.eq := fun x => Nat.compare_eq_eq.2 rfl
  have hi : ∀ x : Int, compare x x = Ordering.eq := fun x => by simp
  cases d with
  | number s m i => simp [Ieee.Datum.order, Ieee.Datum.isNaN]
  | infinity s => simp [Ieee.Datum.order, Ieee.Datum.isNaN]
  | nan s f => rfl
theorem nan_eq (b : Nat) : nan b = decide (9218868437227405312 < b % 9223372036854775808) := by
  rw [← isNaN_read, ← order_self]
  rfl
theorem and_2047 (a : Nat) (ha : a < 18446744073709551616) : bits .and .u64 (a : Int) 2047 = ((a % 2048 : Nat) : Int) := by
  have h := bits_and_u64_nat a 2047 ha (by omega)
  have e : a &&& 2047 = a % 2048 := Nat.and_two_pow_sub_one_eq_mod a 11
  rw [e] at h
  exact h

set_option maxRecDepth 100000 in
theorem none_any (v : Nat) (hv : v < 18446744073709551616) (w : World) :
    Calls Try.prog 89 #[.int .u64 (v : Int)] w fun e w' => e = .returned (.bool (nan v)) ∧ Below w.heap.size w w' := by
  rw [nan_eq]
  obtain ⟨q, hq⟩ : ∃ z, v / 4503599627370496 = z := ⟨_, rfl⟩
  have hq1 : (v : Int) / 4503599627370496 = (q : Int) := by omega
  have ha := and_2047 q (by omega)
  obtain ⟨m, hm⟩ : ∃ z, q % 2048 = z := ⟨_, rfl⟩
  rw [hm] at ha
  rcases Decidable.em (m = 2047) with h1 | h1
  · subst h1
    rcases Decidable.em (v % 4503599627370496 = 0) with h2 | h2
    · rw [decide_eq_false (by omega)]
      have hsh : IntKind.u64.wrap ((v : Int) * 4096) = 0 := by rw [IntKind.wrap_u64]; omega
      go_enter Try.func89, Try.ntmps89
      go_wp2_with fail
      go_ret
      exact ⟨rfl, by go_grown⟩
    · rw [decide_eq_true (by omega)]
      obtain ⟨z, hz⟩ : ∃ z, IntKind.u64.wrap ((v : Int) * 4096) = z := ⟨_, rfl⟩
      have hz0 : (z != 0) = true := by
        have h5 : ¬ z = 0 := by rw [← hz, IntKind.wrap_u64]; omega
        simp [h5]
      go_enter Try.func89, Try.ntmps89
      go_wp2_with fail
      go_ret
      exact ⟨rfl, by go_grown⟩
  · rw [decide_eq_false (by omega)]
    have h3 : ((m : Int) == 2047) = false := by simp; omega
    have h4 : ¬ (m : Int) = 2047 := by omega
    go_enter Try.func89, Try.ntmps89
    go_wp2_with fail
    go_ret
    exact ⟨rfl, by go_grown⟩

theorem RInAt.c1 {w : World} {R : Nat} {s : Ist} (h : RInAt w R s) : w.cell? ⟨R, 1, none⟩ = some (.int .i64 (s.at_ : Int)) := by obtain ⟨A, c, hv, _⟩ := h; exact hv.cell 1
theorem RInAt.c2 {w : World} {R : Nat} {s : Ist} (h : RInAt w R s) : w.cell? ⟨R, 2, none⟩ = some (.int .i64 (s.code : Int)) := by obtain ⟨A, c, hv, _⟩ := h; exact hv.cell 2
theorem RInAt.c3 {w : World} {R : Nat} {s : Ist} (h : RInAt w R s) : w.cell? ⟨R, 3, none⟩ = some (.int .i64 (faultOf s : Int)) := by obtain ⟨A, c, hv, _⟩ := h; exact hv.cell 3
theorem fixed_zero {s : Ist} {n : Nat} (h : ¬ (s.fixed n).2.code = 0) : (s.fixed n).1 = 0 := by
  unfold Ist.fixed at h ⊢
  simp only [] at h ⊢
  rw [some_nil h]
  rfl

set_option maxRecDepth 100000 in
theorem rfloat_any (R : Nat) (s : Ist) (w : World) (h : RInAt w R s) :
    Calls Try.prog 73 #[.pointer (some ⟨R, 0, none⟩)] w fun e w' => RTook R w s.float.2 e (.tuple #[.int .u64 (s.float.1 : Int), .bool (decide (s.float.2.code = 0))]) w' := by
  have HF := Lib.hid (rfixed_any R s 8 w h (by omega))
  have hl := s.fixed_l 8
  have hv64 := s.fixed_lt 8
  have hz := fixed_zero (s := s) (n := 8)
  have hat := h.fits
  have c1 := h.c1
  unfold Ist.float
  obtain ⟨s', hs'⟩ : ∃ z, (s.fixed 8).2 = z := ⟨_, rfl⟩
  obtain ⟨v, hv⟩ : ∃ z, (s.fixed 8).1 = z := ⟨_, rfl⟩
  have hsv : s.fixed 8 = (v, s') := by rw [← hv, ← hs']
  rw [hs'] at hl
  rw [← hl] at hat
  rw [hs', hv] at HF hz
  rw [hv] at hv64
  rw [hs', hv, hsv]
  have hv2 : v < 18446744073709551616 := by omega
  clear hs' hv hsv hl hv64 h
  have HX := Lib.hid (fun W h => rfail_any R s' s.at_ 35 W h hat (by omega))
  have HN := Lib.hid (fun W => none_any v hv2 W)
  rcases Decidable.em (s'.code = 0) with hc | hc
  · rcases Decidable.em (nan v = true ∧ ¬ v = 9221120237041090561) with hn | hn
    · rw [if_pos hn]
      obtain ⟨hn, h0⟩ := hn
      rw [hn] at HN
      have h1 : ((v : Int) != 9221120237041090561) = true := by simp; omega
      have h2 : ¬ (v : Int) = 9221120237041090561 := by omega
      go_enter Try.func73, Try.ntmps73
      go_wp2_with fail
      refine HF.out.mono ?_
      rintro e w2 ⟨rfl, hI2, hU2⟩
      have k2 := hI2.c2
      rw [hc] at k2
      go_wp2_with fail
      refine (HN.out _).mono ?_
      rintro e w3 ⟨rfl, hb_w3⟩
      obtain ⟨hc_w3, hf_w3⟩ := bcell hb_w3
      have hz_w3 := hb_w3.size
      try simp at hz_w3
      have hI3 := hI2.keep hb_w3
      go_wp2_with fail
      refine (HX.out _ hI3).mono ?_
      rintro e w4 ⟨⟨_, rfl⟩, hI4, hU4⟩
      go_wp2_with fail
      go_ret2
      exact ⟨rfl, hI4, (hU2.trans (Upd.of_below hb_w3)).trans hU4⟩
    · rw [if_neg hn]
      simp only []
      rw [decide_eq_true hc]
      go_enter Try.func73, Try.ntmps73
      go_wp2_with fail
      refine HF.out.mono ?_
      rintro e w2 ⟨rfl, hI2, hU2⟩
      have k2 := hI2.c2
      rw [hc] at k2
      go_wp2_with fail
      cases hn1 : nan v
      · rw [hn1] at HN
        refine (HN.out _).mono ?_
        rintro e w3 ⟨rfl, hb_w3⟩
        obtain ⟨hc_w3, hf_w3⟩ := bcell hb_w3
        have hz_w3 := hb_w3.size
        try simp at hz_w3
        have hI3 := hI2.keep hb_w3
        go_wp2_with fail
        go_ret2
        exact ⟨rfl, hI3, hU2.trans (Upd.of_below hb_w3)⟩
      · rw [hn1] at HN
        have h0 : v = 9221120237041090561 := Decidable.byContradiction fun h => hn ⟨hn1, h⟩
        subst h0
        refine (HN.out _).mono ?_
        rintro e w3 ⟨rfl, hb_w3⟩
        obtain ⟨hc_w3, hf_w3⟩ := bcell hb_w3
        have hz_w3 := hb_w3.size
        try simp at hz_w3
        have hI3 := hI2.keep hb_w3
        go_wp2_with fail
        go_ret2
        exact ⟨rfl, hI3, hU2.trans (Upd.of_below hb_w3)⟩
  · obtain rfl : v = 0 := hz hc
    rw [if_neg (fun h => by rw [nan0] at h; cases h.1), decide_eq_false hc]
    have h1 : ((s'.code : Int) != 0) = true := by simp; omega
    have h2 : ¬ (s'.code : Int) = 0 := by omega
    go_enter Try.func73, Try.ntmps73
    go_wp2_with fail
    refine HF.out.mono ?_
    rintro e w2 ⟨rfl, hI2, hU2⟩
    have k2 := hI2.c2
    go_wp2_with fail
    go_ret2
    exact ⟨rfl, hI2, hU2⟩

set_option maxRecDepth 100000 in
theorem rcount_any (R : Nat) (s : Ist) (most : Int) (w : World) (h : RInAt w R s) :
    Calls Try.prog 75 #[.pointer (some ⟨R, 0, none⟩), .int .i64 most] w fun e w' => RTook R w (s.count most).2 e (.int .i64 ((s.count most).1 : Int)) w' := by
  have HF := Lib.hid (rfixed_any R s 2 w h (by omega))
  have hlt := s.fixed_lt 2
  have hl := s.fixed_l 2
  have hat := h.fits
  have c1 := h.c1
  unfold Ist.count
  obtain ⟨s', hs'⟩ : ∃ z, (s.fixed 2).2 = z := ⟨_, rfl⟩
  obtain ⟨v, hv⟩ : ∃ z, (s.fixed 2).1 = z := ⟨_, rfl⟩
  have hsv : s.fixed 2 = (v, s') := by rw [← hv, ← hs']
  rw [hs'] at hl
  rw [← hl] at hat
  rw [hs', hv] at HF
  rw [hv] at hlt
  rw [hs', hv, hsv]
  clear hs' hv hsv hl h
  have HX := Lib.hid (fun W h => rfail_any R s' s.at_ 31 W h hat (by omega))
  have hv' : (v : Int) < 65536 := by omega
  rcases Decidable.em (s'.code = 0) with hn | hn
  · obtain ⟨m, hm⟩ : ∃ m, max most 0 = m := ⟨_, rfl⟩
    rw [hm]
    have hm' : (if most < 0 then 0 else most) = m := by rw [← hm]; split <;> omega
    have HM := Lib.hid hm
    rcases Int.lt_or_le m (v : Int) with h0 | h0
    · rw [if_pos ⟨hn, h0⟩]
      clear hm
      go_enter Try.func75, Try.ntmps75
      go_wp2_with fail
      refine HF.out.mono ?_
      rintro e w2 ⟨rfl, hI2, hU2⟩
      have k2 := hI2.c2
      rw [hn] at k2
      go_wp2_with fail
      refine (HX.out _ hI2).mono ?_
      rintro e w5 ⟨⟨_, rfl⟩, hI5, hU5⟩
      go_wp2_with fail
      go_ret
      exact ⟨rfl, hI5, hU2.trans hU5⟩
    · rw [if_neg (fun h => absurd h.2 (by omega))]
      have hd : decide (m < (v : Int)) = false := by simpa using h0
      have hd2 : ¬ m < (v : Int) := by omega
      clear hm hlt h0
      go_enter Try.func75, Try.ntmps75
      go_wp2_with fail
      refine HF.out.mono ?_
      rintro e w2 ⟨rfl, hI2, hU2⟩
      have k2 := hI2.c2
      rw [hn] at k2
      go_wp2_with fail
      go_ret
      exact ⟨rfl, hI2, hU2⟩
  · rw [if_neg (fun h => hn h.1)]
    have h1 : ((s'.code : Int) == 0) = false := by simp [hn]
    have h2 : ¬ (s'.code : Int) = 0 := by omega
    go_enter Try.func75, Try.ntmps75
    go_wp2_with fail
    refine HF.out.mono ?_
    rintro e w2 ⟨rfl, hI2, hU2⟩
    have k2 := hI2.c2
    go_wp2_with fail
    go_ret
    exact ⟨rfl, hI2, hU2⟩

set_option maxRecDepth 100000 in
set_option maxHeartbeats 800000 in
theorem rtext_any (R : Nat) (s : Ist) (most : Int) (w : World) (h : RInAt w R s) :
    Calls Try.prog 74 #[.pointer (some ⟨R, 0, none⟩), .int .i64 most] w fun e w' => RTook R w (s.text most).2 e (.string ⟨(s.text most).1.toArray⟩) w' := by
  have HC := Lib.hid (rcount_any R s most w h)
  have hl := s.count_l most
  have hat := h.fits
  have c1 := h.c1
  unfold Ist.text
  obtain ⟨s', hs'⟩ : ∃ z, (s.count most).2 = z := ⟨_, rfl⟩
  obtain ⟨v, hv⟩ : ∃ z, (s.count most).1 = z := ⟨_, rfl⟩
  rw [hs'] at hl
  rw [← hl] at hat
  rw [hs', hv] at HC
  rw [hs', hv]
  clear hs' hv hl h
  have HX := Lib.hid (fun W h => rfail_any R s' s.at_ 30 W h hat (by omega))
  rcases Decidable.em (s'.code = 0) with hc | hc
  · rcases Nat.lt_or_ge (s'.l.length - s'.at_) v with h0 | h0
    · have e1 : s'.some s.at_ v = ([], ⟨s'.l, s.at_, 30⟩) := by unfold Ist.some; rw [if_pos hc, if_pos h0]
      rw [e1]
      go_enter Try.func74, Try.ntmps74
      go_wp2_with fail
      refine HC.out.mono ?_
      rintro e w2 ⟨rfl, hI2, hU2⟩
      have HI2 := Lib.hid hI2
      obtain ⟨A, c, hv2, hs2, hat2⟩ := hI2
      have k0 : w2.cell? ⟨R, 0, none⟩ = some (.slice A s'.l.length c) := hv2.cell 0
      have k1 : w2.cell? ⟨R, 1, none⟩ = some (.int .i64 (s'.at_ : Int)) := hv2.cell 1
      have k2 : w2.cell? ⟨R, 2, none⟩ = some (.int .i64 (s'.code : Int)) := hv2.cell 2
      rw [hc] at k2
      have hz2 := hv2.lt
      have hcap := hs2.cap
      have hbig := hs2.big
      unfold maxLen at hbig
      have hl' : (s'.l.length : Int) - (s'.at_ : Int) < (v : Int) := by omega
      clear hv2 hs2
      go_wp2_with fail
      have hq_w2 := @wd_cell w2
      refine wp_region_wd (by kernel_rfl) (by kernel_rfl) ?_
      repeat (go_big_quiet_step (fail))
      refine wpQuiet_nil ?_
      rintro w3 ⟨⟨wx, hb_w3⟩, hwx⟩
      obtain rfl : w3 = wx := hwx
      clear hq_w2
      have hz_w3 := hb_w3.size
      obtain ⟨hc_w3, hf_w3⟩ := bcell hb_w3
      have hs_w3_0 : R < w3.heap.size := Nat.lt_of_lt_of_le (by assumption) hb_w3.size
      have hI3 := HI2.out.keep hb_w3
      go_wp2_with fail
      refine (HX.out _ hI3).mono ?_
      rintro e w5 ⟨⟨_, rfl⟩, hI5, hU5⟩
      go_wp2_with fail
      go_ret
      exact ⟨rfl, hI5, (hU2.trans (Upd.of_below hb_w3)).trans hU5⟩
    · have e1 : s'.some s.at_ v = ((s'.l.take (s'.at_ + v)).drop s'.at_, ⟨s'.l, s'.at_ + v, 0⟩) := by unfold Ist.some; rw [if_pos hc, if_neg (by omega)]
      rw [e1]
      obtain ⟨l, a, code⟩ := s'
      obtain rfl : code = 0 := hc
      simp only [] at h0 hat ⊢
      clear e1 HX
      go_enter Try.func74, Try.ntmps74
      go_wp2_with fail
      refine HC.out.mono ?_
      rintro e w2 ⟨rfl, hI2, hU2⟩
      obtain ⟨A, c, hv2, hs2, hat2⟩ := hI2
      simp only [] at hs2 hat2 hv2
      have hcap := hs2.cap
      have hbig := hs2.big
      unfold maxLen at hbig
      have hsub := hs2.sub (lo := a) (hi := a + v) (by omega) (by omega)
      rw [show a + v - a = v by omega] at hsub
      have HV := Lib.hid (And.intro hv2 (And.intro hs2 hsub))
      obtain ⟨m, hm⟩ : ∃ z, l.length = z := ⟨_, rfl⟩
      have HM := Lib.hid hm
      rw [hm] at h0 hat2 hcap
      have k0 : w2.cell? ⟨R, 0, none⟩ = some (.slice A m c) := by rw [← hm]; exact hv2.cell 0
      have k1 : w2.cell? ⟨R, 1, none⟩ = some (.int .i64 (a : Int)) := hv2.cell 1
      have k2 : w2.cell? ⟨R, 2, none⟩ = some (.int .i64 0) := hv2.cell 2
      have hz2 := hv2.lt
      have hl' : ¬ (m : Int) - (a : Int) < (v : Int) := by omega
      have hl2 : (a : Int) + (v : Int) ≤ (c : Int) := by omega
      have g2 := hv2.free 1
      clear hv2 hs2 hsub hm
      rcases Decidable.em (c = a) with hca | hca
      · subst hca
        obtain rfl : v = 0 := by omega
        have hsub' : Bs w2 A 0 0 ((l.take (c + 0)).drop c) := by have h := HV.out.2.2; rw [if_pos rfl, Nat.sub_self] at h; exact h
        have hnil : (l.take (c + 0)).drop c = [] := List.eq_nil_of_length_eq_zero hsub'.len
        have HNIL := Lib.hid hnil
        rw [hnil] at hsub'
        have HS2 := Lib.hid hsub'
        clear hsub' hnil
        go_wp2_with fail
        have hq_w2 := @wd_cell w2
        refine wp_region_wd (by kernel_rfl) (by kernel_rfl) ?_
        repeat (go_big_quiet_step (fail))
        refine wpQuiet_nil ?_
        rintro w3 ⟨⟨wx, hb_w3⟩, hwx⟩
        obtain rfl : w3 = wx := hwx
        clear hq_w2
        have hz_w3 := hb_w3.size
        obtain ⟨hc_w3, hf_w3⟩ := bcell hb_w3
        have hs_w3_0 : R < w3.heap.size := Nat.lt_of_lt_of_le (by assumption) hb_w3.size
        have d0 := (hc_w3 R 0 hz2).trans k0
        have d1 := (hc_w3 R 1 hz2).trans k1
        have hz3 : R < w3.heap.size := Nat.lt_of_lt_of_le hz2 hb_w3.size
        have hcv : ∀ x : Wd w3, (convert 23 9 (.slice A 0 0)).run Try.prog x.w = .ok (.string ⟨#[]⟩) x.w := fun x => bs_str (HS2.out.below (hb_w3.trans (x.h.mono hb_w3.size)))
        go_wp2_with fail
        have hq_w3 := @wd_cell w3
        refine wp_region_wd (by kernel_rfl) (by kernel_rfl) ?_
        repeat (go_big_quiet_step (fail))
        refine wpQuiet_nil ?_
        rintro w4 ⟨⟨wx, hb_w4⟩, hwx⟩
        obtain rfl : w4 = wx := hwx
        clear hq_w3
        have hz_w4 := hb_w4.size
        obtain ⟨hc_w4, hf_w4⟩ := bcell hb_w4
        have hs_w4_0 : R < w4.heap.size := Nat.lt_of_lt_of_le (by assumption) hb_w4.size
        have hv4 := (HV.out.1.keep hb_w3).keep hb_w4
        have hs4 := (HV.out.2.1.below hb_w3).below hb_w4
        have x1 := (hc_w4 R 1 hz3).trans d1
        have f4 := hv4.free 1
        have hz4 := hv4.lt
        go_wp2_with fail
        go_ret
        refine ⟨congrArg (fun z : List UInt8 => Ending.returned (.string ⟨z.toArray⟩)) HNIL.out.symm, ⟨A, c, hv4.store 1 (.int .i64 ((c + 0 : Nat) : Int)), bs_upd hs4 (Upd.set _) (rin_no hv4), by have := HM.out; simp only []; omega⟩, (hU2.trans (Upd.of_below (hb_w3.trans (hb_w4.mono hb_w3.size)))).trans (Upd.set _)⟩
      · have hsub' : Bs w2 (A.map (·.add a)) v (c - a) ((l.take (a + v)).drop a) := by have h := HV.out.2.2; rw [if_neg hca, Nat.mul_one] at h; exact h
        have HS2 := Lib.hid hsub'
        have hnn' : a + v - a = v := by omega
        clear hsub'
        go_wp2_with fail
        have hq_w2 := @wd_cell w2
        refine wp_region_wd (by kernel_rfl) (by kernel_rfl) ?_
        repeat (go_big_quiet_step (fail))
        refine wpQuiet_nil ?_
        rintro w3 ⟨⟨wx, hb_w3⟩, hwx⟩
        obtain rfl : w3 = wx := hwx
        clear hq_w2
        have hz_w3 := hb_w3.size
        obtain ⟨hc_w3, hf_w3⟩ := bcell hb_w3
        have hs_w3_0 : R < w3.heap.size := Nat.lt_of_lt_of_le (by assumption) hb_w3.size
        have d0 := (hc_w3 R 0 hz2).trans k0
        have d1 := (hc_w3 R 1 hz2).trans k1
        have hz3 : R < w3.heap.size := Nat.lt_of_lt_of_le hz2 hb_w3.size
        have hcv : ∀ x : Wd w3, (convert 23 9 (.slice (A.map (·.add a)) v (c - a))).run Try.prog x.w = .ok (.string ⟨((l.take (a + v)).drop a).toArray⟩) x.w := fun x => bs_str (HS2.out.below (hb_w3.trans (x.h.mono hb_w3.size)))
        go_wp2_with fail
        have hq_w3 := @wd_cell w3
        refine wp_region_wd (by kernel_rfl) (by kernel_rfl) ?_
        repeat (go_big_quiet_step (fail))
        refine wpQuiet_nil ?_
        rintro w4 ⟨⟨wx, hb_w4⟩, hwx⟩
        obtain rfl : w4 = wx := hwx
        clear hq_w3
        have hz_w4 := hb_w4.size
        obtain ⟨hc_w4, hf_w4⟩ := bcell hb_w4
        have hs_w4_0 : R < w4.heap.size := Nat.lt_of_lt_of_le (by assumption) hb_w4.size
        have hv4 := (HV.out.1.keep hb_w3).keep hb_w4
        have hs4 := (HV.out.2.1.below hb_w3).below hb_w4
        have x1 := (hc_w4 R 1 hz3).trans d1
        have f4 := hv4.free 1
        have hz4 := hv4.lt
        go_wp2_with fail
        go_ret
        exact ⟨rfl, ⟨A, c, hv4.store 1 (.int .i64 ((a + v : Nat) : Int)), bs_upd hs4 (Upd.set _) (rin_no hv4), by have := HM.out; simp only []; omega⟩, (hU2.trans (Upd.of_below (hb_w3.trans (hb_w4.mono hb_w3.size)))).trans (Upd.set _)⟩
  · have e1 : s'.some s.at_ v = ([], s') := some_bad hc
    rw [e1]
    have h1 : ((s'.code : Int) != 0) = true := by simp; omega
    have h2 : ¬ (s'.code : Int) = 0 := by omega
    go_enter Try.func74, Try.ntmps74
    go_wp2_with fail
    refine HC.out.mono ?_
    rintro e w2 ⟨rfl, hI2, hU2⟩
    have k2 := hI2.c2
    go_wp2_with fail
    go_ret
    exact ⟨rfl, hI2, hU2⟩

set_option maxRecDepth 100000 in
theorem rend_any (R : Nat) (s : Ist) (w : World) (h : RInAt w R s) :
    Calls Try.prog 59 #[.pointer (some ⟨R, 0, none⟩)] w fun e w' => e = .returned (.int .i64 (endOf s : Int)) ∧ Below w.heap.size w w' := by
  obtain ⟨A, c, hv, hs, hat⟩ := h
  have c0 : w.cell? ⟨R, 0, none⟩ = some (.slice A s.l.length c) := hv.cell 0
  have c1 : w.cell? ⟨R, 1, none⟩ = some (.int .i64 (s.at_ : Int)) := hv.cell 1
  have c2 : w.cell? ⟨R, 2, none⟩ = some (.int .i64 (s.code : Int)) := hv.cell 2
  have hlt := hv.lt
  unfold endOf
  obtain ⟨code, hcode⟩ : ∃ z, s.code = z := ⟨_, rfl⟩
  obtain ⟨at_, hat'⟩ : ∃ z, s.at_ = z := ⟨_, rfl⟩
  obtain ⟨n, hn⟩ : ∃ z, s.l.length = z := ⟨_, rfl⟩
  rw [hat'] at c1 hat
  rw [hn] at c0 hat
  rw [hcode] at c2
  rw [hcode, hat', hn]
  clear hcode hv hs hat' hn
  rcases Nat.eq_zero_or_pos code with h0 | h0
  · subst h0
    rcases Nat.lt_or_ge at_ n with hl | hl
    · rw [if_pos ⟨rfl, hl⟩]
      have hd : decide ((at_ : Int) < (n : Int)) = true := by simp; omega
      have hd2 : decide (at_ < n) = true := by simp; omega
      go_enter Try.func59, Try.ntmps59
      go_wp2_with fail
      have hq_w := @wd_cell w
      refine wp_region_wd (by kernel_rfl) (by kernel_rfl) ?_
      repeat (go_big_quiet_step (fail))
      refine wpQuiet_nil ?_
      rintro w4 ⟨⟨wx, hb_w4⟩, hwx⟩
      obtain rfl : w4 = wx := hwx
      clear hq_w
      have hz_w4 := hb_w4.size
      obtain ⟨hc_w4, hf_w4⟩ := bcell hb_w4
      have hB_w4 : Below w.heap.size w w4 := Below.trans (by go_grown) (hb_w4.mono (by go_size))
      have hs_w4_0 : R < w4.heap.size := Nat.lt_of_lt_of_le (by assumption) hb_w4.size
      go_wp2_with fail
      go_ret
      exact ⟨rfl, by go_grown⟩
    · rw [if_neg (by omega)]
      have hd : decide ((at_ : Int) < (n : Int)) = false := by simp; omega
      have hd2 : decide (at_ < n) = false := by simp; omega
      go_enter Try.func59, Try.ntmps59
      go_wp2_with fail
      have hq_w := @wd_cell w
      refine wp_region_wd (by kernel_rfl) (by kernel_rfl) ?_
      repeat (go_big_quiet_step (fail))
      refine wpQuiet_nil ?_
      rintro w4 ⟨⟨wx, hb_w4⟩, hwx⟩
      obtain rfl : w4 = wx := hwx
      clear hq_w
      have hz_w4 := hb_w4.size
      obtain ⟨hc_w4, hf_w4⟩ := bcell hb_w4
      have hB_w4 : Below w.heap.size w w4 := Below.trans (by go_grown) (hb_w4.mono (by go_size))
      have hs_w4_0 : R < w4.heap.size := Nat.lt_of_lt_of_le (by assumption) hb_w4.size
      go_wp2_with fail
      go_ret
      exact ⟨rfl, by go_grown⟩
  · rw [if_neg (by omega)]
    have h1 : ((code : Int) == 0) = false := by simp; omega
    have h2 : ¬ (code : Int) = 0 := by omega
    go_enter Try.func59, Try.ntmps59
    go_wp2_with fail
    have hq_w := @wd_cell w
    refine wp_region_wd (by kernel_rfl) (by kernel_rfl) ?_
    repeat (go_big_quiet_step (fail))
    refine wpQuiet_nil ?_
    rintro w4 ⟨⟨wx, hb_w4⟩, hwx⟩
    obtain rfl : w4 = wx := hwx
    clear hq_w
    have hz_w4 := hb_w4.size
    obtain ⟨hc_w4, hf_w4⟩ := bcell hb_w4
    have hB_w4 : Below w.heap.size w w4 := Below.trans (by go_grown) (hb_w4.mono (by go_size))
    have hs_w4_0 : R < w4.heap.size := Nat.lt_of_lt_of_le (by assumption) hb_w4.size
    go_wp2_with fail
    go_ret
    exact ⟨rfl, by go_grown⟩

end Go.Proofs.Ytiejgandjlldjaa
