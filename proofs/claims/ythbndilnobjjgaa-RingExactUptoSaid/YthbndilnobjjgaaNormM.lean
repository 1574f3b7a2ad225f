/-
  Plain: the one form of a ring, convexity.
-/
import Derived.Test.YthbndilnobjjgaaArea
import Derived.Test.YthbndilnobjjgaaCheckM
import Derived.Test.YthbndilnobjjgaaCmpP
namespace Go.Proofs.Ythbndilnobjjgaa

/-- Does the ring bend at its k-th point? -/
def bendAt (ps : List Pt) (k : Nat) : Bool := !(t6 (gp ps ((k + ps.length - 1) % ps.length)) (gp ps k) (gp ps ((k + 1) % ps.length)) == 0)
def bendsTo (ps : List Pt) (k : Nat) : List Pt := ((List.range k).filter (bendAt ps)).map (gp ps)
theorem bends_yes {ps : List Pt} {k : Nat} (h : bendAt ps k = true) : bendsTo ps (k + 1) = bendsTo ps k ++ [gp ps k] := by
  unfold bendsTo
  rw [List.range_succ, List.filter_append, List.map_append, List.filter_cons_of_pos h]
  rfl
theorem bends_no {ps : List Pt} {k : Nat} (h : bendAt ps k = false) : bendsTo ps (k + 1) = bendsTo ps k := by
  unfold bendsTo
  rw [List.range_succ, List.filter_append, List.map_append, List.filter_cons_of_neg (by rw [h]; decide)]
  exact List.append_nil _
theorem bends_len (ps : List Pt) (k : Nat) : (bendsTo ps k).length ≤ k := by
  unfold bendsTo
  rw [List.length_map]
  exact Nat.le_trans (List.length_filter_le _ _) (by rw [List.length_range]; exact Nat.le_refl _)
/-- Which is the least of the first k points, the first one. -/
def lessPt (p q : Pt) : Bool := decide (ptCmp p.1 p.2 q.1 q.2 < 0)
def firstTo (l : List Pt) : Nat → Nat
  | 0 => 0
  | k + 1 => if lessPt (gp l k) (gp l (firstTo l k)) then k else firstTo l k
theorem first_lt {l : List Pt} : ∀ {k : Nat}, firstTo l k ≤ k - 1
  | 0 => Nat.le_refl _
  | k + 1 => by
    have := @first_lt l k
    unfold firstTo
    split <;> omega
def rotF (l : List Pt) (f : Nat) : List Pt := l.drop f ++ l.take f
theorem rot_len {l : List Pt} {f : Nat} (h : f ≤ l.length) : (rotF l f).length = l.length := by
  unfold rotF
  rw [List.length_append, List.length_drop, List.length_take]
  omega
/-- The points where it bends, counter-clockwise. -/
def normL (ps : List Pt) : List Pt := if areaP ps < 0 then (bendsTo ps ps.length).reverse else bendsTo ps ps.length
def normP (ps : List Pt) : List Pt := rotF (normL ps) (firstTo (normL ps) (normL ps).length)
theorem normL_len (ps : List Pt) : (normL ps).length = (bendsTo ps ps.length).length := by
  unfold normL
  split
  · rw [List.length_reverse]
  · rfl
theorem normP_len (ps : List Pt) : (normP ps).length = (normL ps).length := rot_len (by have := @first_lt (normL ps) (normL ps).length; omega)
/-- Does it turn one way alone? (Of the one form.) -/
def leftAt (l : List Pt) (k : Nat) : Bool := decide (0 ≤ t6 (gp l k) (gp l ((k + 1) % l.length)) (gp l ((k + 2) % l.length)))
def convL (l : List Pt) : Bool := (List.range l.length).all (leftAt l)
theorem all_range {f : Nat → Bool} {k : Nat} (h : ∀ j, j < k → f j = true) : (List.range k).all f = true := List.all_eq_true.2 fun j hj => h j (List.mem_range.1 hj)
theorem all_not {f : Nat → Bool} {k j : Nat} (hj : j < k) (h : f j = false) : (List.range k).all f = false := by
  rw [Bool.eq_false_iff]
  intro h'
  rw [List.all_eq_true.1 h' j (List.mem_range.2 hj)] at h
  cases h

/-- Twice the area of at most 64 points of 32 bits. -/
theorem arS_bd {s : Pt × Pt} (h1 : I32 s.1.1) (h2 : I32 s.1.2) (h3 : I32 s.2.1) (h4 : I32 s.2.2) : (arS s).natAbs ≤ 9223372036854775808 := by
  have m : ∀ p q : Int, I32 p → I32 q → (p * q).natAbs ≤ 4611686018427387904 := fun p q hp hq => by
    unfold I32 at hp hq
    rw [Int.natAbs_mul]
    have := Nat.mul_le_mul (show p.natAbs ≤ 2147483648 by omega) (show q.natAbs ≤ 2147483648 by omega)
    rw [show 2147483648 * 2147483648 = 4611686018427387904 from rfl] at this
    exact this
  have e1 := m _ _ h1 h4
  have e2 := m _ _ h2 h3
  unfold arS
  generalize s.1.1 * s.2.2 = p at *
  generalize s.1.2 * s.2.1 = q at *
  omega
theorem tot_ar_bd : ∀ l : List (Pt × Pt), (∀ s ∈ l, I32 s.1.1 ∧ I32 s.1.2 ∧ I32 s.2.1 ∧ I32 s.2.2) → (tot arS l).natAbs ≤ l.length * 9223372036854775808
  | [], _ => Nat.zero_le _
  | s :: l, h => by
    have h1 := h s (List.mem_cons_self ..)
    have h2 := arS_bd h1.1 h1.2.1 h1.2.2.1 h1.2.2.2
    have h3 := tot_ar_bd l (fun t ht => h t (List.mem_cons_of_mem _ ht))
    have e : tot arS (s :: l) = arS s + tot arS l := rfl
    rw [e, List.length_cons]
    generalize tot arS l = x at *
    generalize arS s = y at *
    omega
theorem area_bd {ps : List Pt} (hps : ∀ p ∈ ps, IPt p) : (areaP ps).natAbs ≤ ps.length * 9223372036854775808 := by
  have h := tot_ar_bd (sides ps) (fun s hs => by
    unfold sides at hs
    obtain ⟨k, _, rfl⟩ := List.mem_map.1 hs
    have a := gp_i hps k
    have b := gp_i hps ((k + 1) % ps.length)
    exact ⟨a.1, a.2, b.1, b.2⟩)
  have e : (sides ps).length = ps.length := by unfold sides; simp
  rw [e] at h
  exact h
theorem in_128 {x : Int} {n : Nat} (h : x.natAbs ≤ n * 9223372036854775808) (hn : n ≤ 64) : In128 x := by
  unfold In128
  omega
theorem area_128 {ps : List Pt} (hps : ∀ p ∈ ps, IPt p) (h : ps.length ≤ 64) : In128 (areaP ps) := in_128 (area_bd hps) h

end Go.Proofs.Ythbndilnobjjgaa
