/-
  Plain: fractions of whole numbers; the document's meeting of two segments, by them; it is the program's.
-/
import Derived.Test.YtpjgghakeaajbaaSegQ
namespace Go.Proofs.Ytpjgghakeaajbaa

abbrev Q := Int × Int
def qadd (a b : Q) : Q := (a.1 * b.2 + b.1 * a.2, a.2 * b.2)
def qneg (a : Q) : Q := (-a.1, a.2)
def qsub (a b : Q) : Q := qadd a (qneg b)
def qmul (a b : Q) : Q := (a.1 * b.1, a.2 * b.2)
def qquo (a b : Q) : Q := if a.2 * b.1 < 0 then (-(a.1 * b.2), -(a.2 * b.1)) else (a.1 * b.2, a.2 * b.1)
def qcmp (a b : Q) : Int := cmpI (a.1 * b.2) (b.1 * a.2)
def qw (n : Int) : Q := (n, 1)
def qcross (u v : Pt) : Q := qsub (qmul (qw u.1) (qw v.2)) (qmul (qw u.2) (qw v.1))
theorem qcross_is (u v : Pt) : qcross u v = (cr u v, 1) := by
  unfold qcross qsub qneg qadd qmul qw cr
  simp only [Int.mul_one, Prod.mk.injEq]
  exact ⟨by omega, trivial⟩
theorem qquo_w (x y : Int) : qquo (qw x) (qw y) = if y < 0 then (-x, -y) else (x, y) := by
  unfold qquo qw
  simp only [Int.mul_one, Int.one_mul]
theorem qquo_c (x y : Int) : qquo (x, 1) (y, 1) = if y < 0 then (-x, -y) else (x, y) := qquo_w x y
def qalong (a b p : Pt) : Q := if a.1 ≠ b.1 then qquo (qw (p.1 - a.1)) (qw (b.1 - a.1)) else qquo (qw (p.2 - a.2)) (qw (b.2 - a.2))
def onR (p a b : Pt) : Bool := if a = b then decide (p = a) else if cr (sb a b) (sb a p) ≠ 0 then false else decide (0 ≤ (qalong a b p).1) && decide (qcmp (qalong a b p) (qw 1) ≤ 0)
/-- The fraction q is z by L. -/
def Eqv (L : Int) (q : Q) (z : Int) : Prop := 0 < q.2 ∧ q.1 * L = z * q.2

theorem mul_pos_lt {a b c : Int} (hc : 0 < c) : a * c < b * c ↔ a < b := ⟨fun h => Int.lt_of_mul_lt_mul_right h (Int.le_of_lt hc), fun h => Int.mul_lt_mul_of_pos_right h hc⟩
theorem cmpI_scale {a b c : Int} (hc : 0 < c) : cmpI (a * c) (b * c) = cmpI a b := by
  unfold cmpI
  simp only [mul_pos_lt hc, Int.mul_eq_mul_right_iff (Int.ne_of_gt hc)]
theorem eqv_cmp {L : Int} (hL : 0 < L) {q r : Q} {x y : Int} (hq : Eqv L q x) (hr : Eqv L r y) : qcmp q r = cmpI x y := by
  obtain ⟨h1, h2⟩ := hq
  obtain ⟨h3, h4⟩ := hr
  have hp : 0 < q.2 * r.2 := Int.mul_pos h1 h3
  unfold qcmp
  rw [← cmpI_scale hL, ← cmpI_scale (a := x) hp]
  rw [Int.mul_right_comm q.1 r.2 L, h2, Int.mul_right_comm r.1 q.2 L, h4, Int.mul_assoc x, Int.mul_assoc y, Int.mul_comm r.2 q.2]
theorem eqv_0 {L : Int} : Eqv L (0, 1) 0 := ⟨by decide, by simp⟩
theorem eqv_1 {L : Int} : Eqv L (1, 1) L := ⟨by decide, by simp⟩
theorem eqv_nn {L : Int} (hL : 0 < L) {q : Q} {x : Int} (hq : Eqv L q x) : 0 ≤ q.1 ↔ 0 ≤ x := by
  obtain ⟨h1, h2⟩ := hq
  constructor
  · intro h
    have := Int.mul_nonneg h (Int.le_of_lt hL)
    rw [h2] at this
    rcases Int.lt_or_le x 0 with hx | hx
    · have := Int.mul_neg_of_neg_of_pos hx h1; omega
    · exact hx
  · intro h
    have := Int.mul_nonneg h (Int.le_of_lt h1)
    rw [← h2] at this
    rcases Int.lt_or_le q.1 0 with hx | hx
    · have := Int.mul_neg_of_neg_of_pos hx hL; omega
    · exact hx

theorem fr_scale (n d k : Nat) (hk : 0 < k) : fr ((n * k : Nat) : Int) ((d * k : Nat) : Int) = fr (n : Int) (d : Int) := by
  unfold fr
  simp only [Int.natAbs_natCast]
  rw [Nat.gcd_mul_right, ← Int.natCast_ediv, ← Int.natCast_ediv, ← Int.natCast_ediv, ← Int.natCast_ediv, Nat.mul_div_mul_right _ _ hk, Nat.mul_div_mul_right _ _ hk]
theorem fr_nat {n d x l : Nat} (hd : 0 < d) (hl : 0 < l) (e : n * l = x * d) : fr (n : Int) (d : Int) = fr (x : Int) (l : Int) := by
  rw [← fr_scale n d l hl, ← fr_scale x l d hd, e, Nat.mul_comm d l]
theorem fr_eqv {L : Int} (hL : 0 < L) {q : Q} {x : Int} (hq : Eqv L q x) (h0 : 0 ≤ x) : fr q.1 q.2 = fr x L := by
  have hn := (eqv_nn hL hq).2 h0
  obtain ⟨q1, q2⟩ := q
  obtain ⟨h1, h2⟩ := hq
  dsimp only at hn h1 h2 ⊢
  obtain ⟨n, rfl⟩ := Int.eq_ofNat_of_zero_le hn
  obtain ⟨d, rfl⟩ := Int.eq_ofNat_of_zero_le (Int.le_of_lt h1)
  obtain ⟨x', rfl⟩ := Int.eq_ofNat_of_zero_le h0
  obtain ⟨l, rfl⟩ := Int.eq_ofNat_of_zero_le (Int.le_of_lt hL)
  exact fr_nat (by omega) (by omega) (by exact_mod_cast h2)

/-- Two segments of one line, as the document has it. -/
def oneR0 (f t : Q) : Mt :=
  if 0 < qcmp (if f.1 < 0 then qw 0 else f) (if 0 < qcmp t (qw 1) then qw 1 else t) then mt0
  else ⟨if qcmp (if f.1 < 0 then qw 0 else f) (if 0 < qcmp t (qw 1) then qw 1 else t) = 0 then 1 else 2, false, fr (if f.1 < 0 then qw 0 else f).1 (if f.1 < 0 then qw 0 else f).2, fr (if 0 < qcmp t (qw 1) then qw 1 else t).1 (if 0 < qcmp t (qw 1) then qw 1 else t).2⟩
def oneR (f t : Q) : Mt := if 0 < qcmp f t then oneR0 t f else oneR0 f t

theorem cmpI_gt {a b : Int} : 0 < cmpI a b ↔ b < a := by unfold cmpI; (repeat' split) <;> omega
theorem cmpI_zero {a b : Int} : cmpI a b = 0 ↔ a = b := by unfold cmpI; (repeat' split) <;> omega
theorem oneR0_is {L : Int} (hL : 0 < L) {f t : Q} {x y : Int} (hf : Eqv L f x) (ht : Eqv L t y) :
    oneR0 f t = if min L y < max 0 x then mt0 else if max 0 x = min L y then mtOne (max 0 x) L false else ⟨2, false, fr (max 0 x) L, fr (min L y) L⟩ := by
  have h1 : Eqv L (if f.1 < 0 then qw 0 else f) (max 0 x) := by
    have := eqv_nn hL hf
    split
    · rw [show max 0 x = 0 by omega]; exact eqv_0
    · rw [show max 0 x = x by omega]; exact hf
  have h2 : Eqv L (if 0 < qcmp t (qw 1) then qw 1 else t) (min L y) := by
    rw [show qcmp t (qw 1) = cmpI y L from eqv_cmp hL ht eqv_1]
    have := @cmpI_gt y L
    split
    · rw [show min L y = L by omega]; exact eqv_1
    · rw [show min L y = y by omega]; exact ht
  unfold oneR0
  generalize (if f.1 < 0 then qw 0 else f) = f' at *
  generalize (if 0 < qcmp t (qw 1) then qw 1 else t) = t' at *
  rw [eqv_cmp hL h1 h2]
  have hp := @cmpI_gt (max 0 x) (min L y)
  have hz := @cmpI_zero (max 0 x) (min L y)
  by_cases c1 : min L y < max 0 x
  · rw [if_pos (hp.2 c1), if_pos c1]
  · rw [if_neg (fun h => c1 (hp.1 h)), if_neg c1, fr_eqv hL h1 (by omega), fr_eqv hL h2 (by omega)]
    by_cases c2 : max 0 x = min L y
    · rw [if_pos (hz.2 c2), if_pos c2, ← c2]
      rfl
    · rw [if_neg (fun h => c2 (hz.1 h)), if_neg c2]
theorem oneR_is {L : Int} (hL : 0 < L) {f t : Q} {x y : Int} (hf : Eqv L f x) (ht : Eqv L t y) : oneR f t = mtAlong L x y := by
  unfold oneR mtAlong
  rw [eqv_cmp hL hf ht]
  have hp := @cmpI_gt x y
  by_cases h : y < x
  · rw [if_pos (hp.2 h), oneR0_is hL ht hf, show min x y = y by omega, show max x y = x by omega]
  · rw [if_neg (fun h' => h (hp.1 h')), oneR0_is hL hf ht, show min x y = x by omega, show max x y = y by omega]

theorem qquo_eqv {L n d z : Int} (hd : d ≠ 0) (h : n * L = z * d) : Eqv L (qquo (qw n) (qw d)) z := by
  rw [qquo_w]
  split
  · exact ⟨by show 0 < -d; omega, by show -n * L = z * -d; rw [Int.neg_mul, h, Int.mul_neg]⟩
  · exact ⟨by show 0 < d; omega, h⟩
theorem along_eqv {a b p : Pt} (hab : ¬ a = b) (h : cr (sb a b) (sb a p) = 0) : Eqv (dt (sb a b) (sb a b)) (qalong a b p) (dt (sb a p) (sb a b)) := by
  unfold qalong
  split
  · rename_i hne
    refine qquo_eqv (by omega) ?_
    simp only [cr, dt, sb] at h ⊢
    grind
  · rename_i he
    have hx0 : b.1 = a.1 := by omega
    refine qquo_eqv (fun h0 => hab (Prod.ext (by omega) (by omega))) ?_
    simp only [dt, sb]
    rw [hx0]
    grind
theorem onR_is {p a b : Pt} : onR p a b = onP p (a, b) := by
  rw [Bool.eq_iff_iff, onP_iff]
  unfold onR
  by_cases hab : a = b
  · subst hab
    rw [if_pos rfl, decide_eq_true_eq, on_same]
  · rw [if_neg hab, on_iff hab]
    by_cases h0 : cr (sb a b) (sb a p) = 0
    · rw [if_neg (by simp [h0])]
      have hE := along_eqv hab h0
      have hL := sb_pos hab
      have h1 := eqv_nn hL hE
      have h2 : qcmp (qalong a b p) (qw 1) = cmpI (dt (sb a p) (sb a b)) (dt (sb a b) (sb a b)) := eqv_cmp hL hE eqv_1
      have h3 := @cmpI_gt (dt (sb a p) (sb a b)) (dt (sb a b) (sb a b))
      rw [Bool.and_eq_true, decide_eq_true_eq, decide_eq_true_eq, h1, h2]
      constructor
      · rintro ⟨h4, h5⟩
        exact ⟨h0, h4, by omega⟩
      · rintro ⟨_, h4, h5⟩
        exact ⟨h4, by omega⟩
    · rw [if_pos h0]
      constructor
      · intro h; cases h
      · intro h; exact absurd h.1 h0

/-- How two segments meet, as the document has it. -/
def meetR (a b c d : Pt) : Mt :=
  if inP a && inP b && inP c && inP d then
    if a = b then (if onR a c d then ⟨1, false, (0, 1), (0, 1)⟩ else mt0)
    else if cr (sb a b) (sb a c) = 0 ∧ cr (sb a b) (sb a d) = 0 then oneR (qalong a b c) (qalong a b d)
    else if c = d then mt0
    else if cr (sb a b) (sb c d) = 0 then mt0
    else
      if (qquo (qcross (sb a c) (sb c d)) (qcross (sb a b) (sb c d))).1 < 0 ∨ 0 < qcmp (qquo (qcross (sb a c) (sb c d)) (qcross (sb a b) (sb c d))) (qw 1) ∨ (qquo (qcross (sb a c) (sb a b)) (qcross (sb a b) (sb c d))).1 < 0 ∨ 0 < qcmp (qquo (qcross (sb a c) (sb a b)) (qcross (sb a b) (sb c d))) (qw 1) then mt0
      else ⟨1, decide (0 < (qquo (qcross (sb a c) (sb c d)) (qcross (sb a b) (sb c d))).1 ∧ qcmp (qquo (qcross (sb a c) (sb c d)) (qcross (sb a b) (sb c d))) (qw 1) < 0 ∧ 0 < (qquo (qcross (sb a c) (sb a b)) (qcross (sb a b) (sb c d))).1 ∧ qcmp (qquo (qcross (sb a c) (sb a b)) (qcross (sb a b) (sb c d))) (qw 1) < 0),
        fr (qquo (qcross (sb a c) (sb c d)) (qcross (sb a b) (sb c d))).1 (qquo (qcross (sb a c) (sb c d)) (qcross (sb a b) (sb c d))).2, fr (qquo (qcross (sb a c) (sb c d)) (qcross (sb a b) (sb c d))).1 (qquo (qcross (sb a c) (sb c d)) (qcross (sb a b) (sb c d))).2⟩
  else mt0
theorem cmpI_neg' {a b : Int} : cmpI a b < 0 ↔ a < b := by unfold cmpI; (repeat' split) <;> omega
theorem quo_sg {n D : Int} : qquo (n, 1) (D, 1) = (sg D * n, sg D * D) := by
  rw [qquo_c]
  unfold sg
  split <;> simp
theorem cmp_one (n D : Int) : qcmp (n, D) (qw 1) = cmpI n D := by unfold qcmp qw; simp
theorem meetR_is (a b c d : Pt) : meetR a b c d = meet a b c d := by
  unfold meetR meet
  split
  · split
    · rw [onR_is]
      split
      · simp [mtOne, fr]
      · rfl
    · rename_i hin hab
      have hsum : cr (sb a b) (sb c d) = cr (sb a b) (sb a d) - cr (sb a b) (sb a c) := by
        simp only [cr, sb]
        grind
      by_cases h1 : cr (sb a b) (sb a c) = 0 ∧ cr (sb a b) (sb a d) = 0
      · rw [if_pos h1, if_pos (by omega), if_pos h1.1]
        exact oneR_is (sb_pos hab) (along_eqv hab h1.1) (along_eqv hab h1.2)
      · rw [if_neg h1]
        by_cases hcd : c = d
        · subst hcd
          rw [if_pos rfl, if_pos (by omega), if_neg (fun h => h1 ⟨h, h⟩)]
        · rw [if_neg hcd]
          by_cases hD : cr (sb a b) (sb c d) = 0
          · rw [if_pos hD, if_pos hD, if_neg (fun h => h1 ⟨h, by omega⟩)]
          · rw [if_neg hD, if_neg hD, qcross_is, qcross_is, qcross_is, quo_sg, quo_sg]
            unfold mtCross mtOne
            rw [cmp_one, cmp_one]
            simp only [cmpI_gt, cmpI_neg']
  · rfl

end Go.Proofs.Ytpjgghakeaajbaa
