/-
  Plain: how far a point is off a segment, as the program tells it and as the document does; which points are kept.
-/
import Derived.Test.YtcpojadinkonnaaRing
import Derived.Test.YtcpojadinkonnaaTurnMath
namespace Go.Proofs.Ytcpojadinkonnaa

def lng (a b : Pt) : Int := (b.1 - a.1) * (b.1 - a.1) + (b.2 - a.2) * (b.2 - a.2)
def dtt (o a b : Pt) : Int := (a.1 - o.1) * (b.1 - o.1) + (a.2 - o.2) * (b.2 - o.2)
def crz (o a b : Pt) : Int := crs o.1 o.2 a.1 a.2 b.1 b.2
def offP (a b p : Pt) : Int := if lng a b = 0 then lng a p else if dtt a b p ≤ 0 then lng a p * lng a b else if dtt b a p ≤ 0 then lng b p * lng a b else crz a b p * crz a b p
def offN (a b p : Pt) : Int := if a = b ∨ dtt a b p ≤ 0 then lng a p else if dtt b a p ≤ 0 then lng b p else crz a b p * crz a b p
def offD (a b p : Pt) : Int := if a = b ∨ dtt a b p ≤ 0 then 1 else if dtt b a p ≤ 0 then 1 else lng a b
def mx1 (x : Int) : Int := if x ≤ 1 then 1 else x
theorem mx1_pos (x : Int) : 0 < mx1 x := by unfold mx1; split <;> omega
theorem lng_nonneg (a b : Pt) : 0 ≤ lng a b := dist_nonneg _ _
theorem lng_zero {a b : Pt} : lng a b = 0 ↔ a = b := by
  unfold lng
  rw [dist_nought]
  constructor
  · rintro ⟨h1, h2⟩
    exact Prod.ext (by omega) (by omega)
  · rintro rfl
    exact ⟨by omega, by omega⟩
theorem offD_pos (a b p : Pt) : 0 < offD a b p := by
  unfold offD
  split
  · omega
  · split
    · omega
    · rename_i h _
      have h1 := lng_nonneg a b
      have h2 : lng a b ≠ 0 := fun e => h (.inl (lng_zero.1 e))
      omega
theorem dtt_self {a p : Pt} : dtt a a p = 0 := by unfold dtt; simp
theorem off_eq (a b p : Pt) : offP a b p * offD a b p = offN a b p * mx1 (lng a b) := by
  unfold offP offD offN
  by_cases h0 : lng a b = 0
  · have hab := lng_zero.1 h0
    rw [if_pos h0, if_pos (.inl hab), if_pos (.inl hab), h0]
    rfl
  · have hab : ¬ a = b := fun e => h0 (lng_zero.2 e)
    have h1 := lng_nonneg a b
    have hm : mx1 (lng a b) = lng a b := by unfold mx1; split <;> omega
    rw [if_neg h0, hm]
    by_cases h2 : dtt a b p ≤ 0
    · rw [if_pos h2, if_pos (.inr h2), if_pos (.inr h2), Int.mul_one]
    · have h3 : ¬ (a = b ∨ dtt a b p ≤ 0) := fun h => h.elim hab h2
      rw [if_neg h2, if_neg h3, if_neg h3]
      by_cases h4 : dtt b a p ≤ 0
      · rw [if_pos h4, if_pos h4, if_pos h4, Int.mul_one]
      · rw [if_neg h4, if_neg h4, if_neg h4]
theorem frac_lt {P1 P2 n1 n2 d1 d2 M : Int} (hM : 0 < M) (h1 : 0 < d1) (h2 : 0 < d2) (e1 : P1 * d1 = n1 * M) (e2 : P2 * d2 = n2 * M) : n2 * d1 < n1 * d2 ↔ P2 < P1 := by
  have ha : n2 * d1 * M = P2 * (d1 * d2) := by
    have : n2 * d1 * M = n2 * M * d1 := by rw [Int.mul_assoc, Int.mul_comm d1 M, ← Int.mul_assoc]
    rw [this, ← e2, Int.mul_assoc, Int.mul_comm d2 d1]
  have hb : n1 * d2 * M = P1 * (d1 * d2) := by
    have : n1 * d2 * M = n1 * M * d2 := by rw [Int.mul_assoc, Int.mul_comm d2 M, ← Int.mul_assoc]
    rw [this, ← e1, Int.mul_assoc]
  have hd : 0 < d1 * d2 := Int.mul_pos h1 h2
  constructor
  · intro h
    have := Int.mul_lt_mul_of_pos_right h hM
    rw [ha, hb] at this
    exact Int.lt_of_mul_lt_mul_right this (Int.le_of_lt hd)
  · intro h
    have := Int.mul_lt_mul_of_pos_right h hd
    rw [← ha, ← hb] at this
    exact Int.lt_of_mul_lt_mul_right this (Int.le_of_lt hM)
/-- Of two points which is further off: the same by both. -/
theorem off_lt (a b p q : Pt) : offN a b q * offD a b p < offN a b p * offD a b q ↔ offP a b q < offP a b p := frac_lt (mx1_pos _) (offD_pos a b p) (offD_pos a b q) (off_eq a b p) (off_eq a b q)
/-- Whether one is within a tolerance: the same by both. -/
theorem off_within (a b p : Pt) (t : Int) : t * offD a b p < offN a b p * 1 ↔ t * mx1 (lng a b) < offP a b p :=
  frac_lt (mx1_pos (lng a b)) (offD_pos a b p) (by omega : (0 : Int) < 1) (off_eq a b p) (by rw [Int.mul_one])

/-- The first of the furthest ones among the m behind i. -/
def scanR (f : Nat → Int) (i : Nat) : Nat → Option Nat
  | 0 => none
  | m + 1 => match scanR f i m with
    | none => some (i + 1 + m)
    | some x => if f x < f (i + 1 + m) then some (i + 1 + m) else some x
/-- The same, of those that are further than b. -/
def scanP (f : Nat → Int) (b : Int) (i : Nat) : Nat → Option Nat
  | 0 => none
  | m + 1 => match scanP f b i m with
    | none => if b < f (i + 1 + m) then some (i + 1 + m) else none
    | some x => if f x < f (i + 1 + m) then some (i + 1 + m) else some x
theorem scan_eq (f : Nat → Int) (b : Int) (i m : Nat) : scanP f b i m = (scanR f i m).bind fun x => if b < f x then some x else none := by
  induction m with
  | zero => rfl
  | succ m ih =>
    unfold scanP scanR
    rw [ih]
    cases hR : scanR f i m with
    | none => rfl
    | some x =>
      simp only [Option.bind_some]
      by_cases hb : b < f x
      · rw [if_pos hb]
        by_cases h : f x < f (i + 1 + m)
        · simp only [if_pos h, Option.bind_some]
          rw [if_pos (by omega)]
        · simp only [if_neg h, Option.bind_some]
          rw [if_pos hb]
      · rw [if_neg hb]
        by_cases h : f x < f (i + 1 + m)
        · simp only [if_pos h, Option.bind_some]
        · simp only [if_neg h, Option.bind_some]
          rw [if_neg hb, if_neg (by omega)]
theorem scanR_none {f : Nat → Int} {i m : Nat} (h : scanR f i m = none) : m = 0 := by
  cases m with
  | zero => rfl
  | succ m =>
    unfold scanR at h
    split at h
    · cases h
    · split at h <;> cases h
theorem scanR_bd {f : Nat → Int} {i m a : Nat} (h : scanR f i m = some a) : i < a ∧ a < i + 1 + m := by
  induction m generalizing a with
  | zero => cases h
  | succ m ih =>
    unfold scanR at h
    split at h
    · injection h with h; omega
    · rename_i x hx
      have := ih hx
      split at h <;> (injection h with h; omega)
theorem scanP_bd {f : Nat → Int} {b : Int} {i m a : Nat} (h : scanP f b i m = some a) : i < a ∧ a < i + 1 + m := by
  rw [scan_eq] at h
  cases hR : scanR f i m with
  | none => rw [hR] at h; cases h
  | some x =>
    rw [hR] at h
    have := scanR_bd hR
    simp only [Option.bind_some] at h
    split at h
    · injection h with h; omega
    · cases h

/-- Which places are kept: by a choice s of a place between two. -/
def kp (s : Nat → Nat → Option Nat) : Nat → Nat → Nat → Nat → Bool
  | 0, _, _, _ => false
  | m + 1, i, j, k => match s i j with
    | none => false
    | some a => k == a || kp s m i a k || kp s m a j k
def Between (s : Nat → Nat → Option Nat) : Prop := ∀ i j a, s i j = some a → i < a ∧ a < j
theorem kp_fuel {s : Nat → Nat → Option Nat} (hs : Between s) (k : Nat) : ∀ m m' i j, j - i ≤ m → j - i ≤ m' → kp s m i j k = kp s m' i j k
  | 0, 0, _, _, _, _ => rfl
  | 0, m' + 1, i, j, h, _ => by
    unfold kp
    split
    · rfl
    · rename_i a ha
      have := hs i j a ha
      omega
  | m + 1, 0, i, j, _, h => by
    unfold kp
    split
    · rfl
    · rename_i a ha
      have := hs i j a ha
      omega
  | m + 1, m' + 1, i, j, h, h' => by
    unfold kp
    split
    · rfl
    · rename_i a ha
      have := hs i j a ha
      rw [kp_fuel hs k m m' i a (by omega) (by omega), kp_fuel hs k m m' a j (by omega) (by omega)]
def kept (s : Nat → Nat → Option Nat) (i j k : Nat) : Bool := kp s (j - i) i j k
theorem kept_none {s : Nat → Nat → Option Nat} {i j : Nat} (h : s i j = none) (k : Nat) : kept s i j k = false := by
  unfold kept
  cases j - i with
  | zero => rfl
  | succ m => unfold kp; rw [h]
theorem kept_some {s : Nat → Nat → Option Nat} (hs : Between s) {i j a : Nat} (h : s i j = some a) (k : Nat) : kept s i j k = (k == a || kept s i a k || kept s a j k) := by
  have hb := hs i j a h
  unfold kept
  obtain ⟨m, hm⟩ : ∃ m, j - i = m + 1 := ⟨j - i - 1, by omega⟩
  rw [hm]
  show (match s i j with | none => false | some a => k == a || kp s m i a k || kp s m a j k) = _
  rw [h]
  show (k == a || kp s m i a k || kp s m a j k) = _
  rw [kp_fuel hs k m (a - i) i a (by omega) (by omega), kp_fuel hs k m (j - a) a j (by omega) (by omega)]

/-- The choice: the furthest one, where it is further off than the tolerance. -/
def far (ps : List Pt) (t : Int) (i j : Nat) : Option Nat := scanP (fun k => offP (gp ps i) (gp ps j) (gp ps k)) (t * mx1 (lng (gp ps i) (gp ps j))) i (j - 1 - i)
theorem far_between (ps : List Pt) (t : Int) : Between (far ps t) := fun i j a h => by
  unfold far at h
  have := scanP_bd h
  omega
/-- What is left of the first m points. -/
def leftF (ps : List Pt) (f : Nat → Bool) : Nat → List Pt
  | 0 => []
  | m + 1 => leftF ps f m ++ (if f m then [gp ps m] else [])
theorem leftF_length (ps : List Pt) (f : Nat → Bool) (m : Nat) : (leftF ps f m).length ≤ m := by
  induction m with
  | zero => simp [leftF]
  | succ m ih => unfold leftF; rw [List.length_append]; split <;> simp <;> omega
theorem leftF_eq {ps : List Pt} {f g : Nat → Bool} {m : Nat} (h : ∀ k, k < m → f k = g k) : leftF ps f m = leftF ps g m := by
  induction m with
  | zero => rfl
  | succ m ih => unfold leftF; rw [ih (fun k hk => h k (by omega)), h m (by omega)]
theorem leftF_all {ps : List Pt} {f : Nat → Bool} (h : ∀ k, k < ps.length → f k = true) : leftF ps f ps.length = ps := by
  have : ∀ m, m ≤ ps.length → leftF ps f m = ps.take m := fun m hm => by
    induction m with
    | zero => simp [leftF]
    | succ m ih =>
      unfold leftF
      rw [ih (by omega), h m (by omega), List.take_add_one]
      unfold gp
      rw [List.getElem?_eq_getElem (by omega)]
      rfl
  rw [this _ (Nat.le_refl _), List.take_length]
/-- What Thin answers. -/
def endsK (n : Nat) (f : Nat → Bool) (k : Nat) : Bool := f k || k == 0 || k == n - 1
def thinF (ps : List Pt) (tol : Int) : List Pt := leftF ps (endsK ps.length (kept (far ps (tol * tol)) 0 (ps.length - 1))) ps.length
theorem thinF_few {ps : List Pt} {tol : Int} (h : ps.length < 3) : thinF ps tol = ps := by
  unfold thinF
  refine leftF_all fun k hk => ?_
  unfold endsK
  have : k = 0 ∨ k = ps.length - 1 := by omega
  rcases this with h | h
  · simp [h]
  · simp [h]

end Go.Proofs.Ytcpojadinkonnaa
