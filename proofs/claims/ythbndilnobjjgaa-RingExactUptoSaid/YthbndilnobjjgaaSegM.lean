/-
  Plain: two segments; how they meet; the nearest point; no program.
-/
import Derived.Test.YthbndilnobjjgaaRing
namespace Go.Proofs.Ythbndilnobjjgaa

def sb (p q : Pt) : Pt := (q.1 - p.1, q.2 - p.2)
def cr (u w : Pt) : Int := u.1 * w.2 - u.2 * w.1
def dt (u w : Pt) : Int := u.1 * w.1 + u.2 * w.2
def inP (p : Pt) : Bool := decide ((-1073741823 ≤ p.1 ∧ p.1 ≤ 1073741823) ∧ (-1073741823 ≤ p.2 ∧ p.2 ≤ 1073741823))
/-- A fraction in lowest terms. -/
def fr (n d : Int) : Int × Int := (n / (Nat.gcd n.natAbs d.natAbs : Int), d / (Nat.gcd n.natAbs d.natAbs : Int))

/-- How two segments meet. -/
structure Mt where
  k : Int
  inn : Bool
  f : Int × Int
  t : Int × Int

def mt0 : Mt := ⟨0, false, (0, 0), (0, 0)⟩
def mtOne (n d : Int) (i : Bool) : Mt := ⟨1, i, fr n d, fr n d⟩
def mtAlong (long c d : Int) : Mt :=
  if min long (max c d) < max 0 (min c d) then mt0
  else if max 0 (min c d) = min long (max c d) then mtOne (max 0 (min c d)) long false
  else ⟨2, false, fr (max 0 (min c d)) long, fr (min long (max c d)) long⟩
def sg (z : Int) : Int := if z < 0 then -1 else 1
def mtCross (D t s : Int) : Mt :=
  if t < 0 ∨ D < t ∨ s < 0 ∨ D < s then mt0 else mtOne t D (decide (0 < t ∧ t < D ∧ 0 < s ∧ s < D))
def meet (a b c d : Pt) : Mt :=
  if inP a && inP b && inP c && inP d then
    if a = b then (if onP a (c, d) then mtOne 0 1 false else mt0)
    else if cr (sb a b) (sb c d) = 0 then
      (if cr (sb a b) (sb a c) = 0 then mtAlong (dt (sb a b) (sb a b)) (dt (sb a c) (sb a b)) (dt (sb a d) (sb a b)) else mt0)
    else mtCross (sg (cr (sb a b) (sb c d)) * cr (sb a b) (sb c d)) (sg (cr (sb a b) (sb c d)) * cr (sb a c) (sb c d)) (sg (cr (sb a b) (sb c d)) * cr (sb a c) (sb a b))
  else mt0
def touches (a b c d : Pt) : Bool := decide ((meet a b c d).k ≠ 0)
def foot (p a b : Pt) : Int × Int :=
  if inP p && inP a && inP b then
    if a = b then (0, 1) else fr (min (max (dt (sb a p) (sb a b)) 0) (dt (sb a b) (sb a b))) (dt (sb a b) (sb a b))
  else (0, 1)
/-- Is p no further than r off the segment from a to b? (r a number that is no radius of all the lattice.) -/
def nearR (p a b : Pt) (r : Int) : Bool :=
  if 0 < dt (sb a p) (sb a b) ∧ dt (sb a p) (sb a b) < dt (sb a b) (sb a b) then decide (cr (sb a b) (sb a p) * cr (sb a b) (sb a p) ≤ r * r * dt (sb a b) (sb a b))
  else if 0 < dt (sb a p) (sb a b) then decide (dt (sb b p) (sb b p) ≤ r * r) else decide (dt (sb a p) (sb a p) ≤ r * r)
def near (p a b : Pt) (r : Int) : Bool :=
  if r < 0 then false else if inP p && inP a && inP b then (if 3037000498 ≤ r then true else nearR p a b r) else false
def nearSeg (a b c d : Pt) (r : Int) : Bool :=
  if r < 0 then false else if inP a && inP b && inP c && inP d then near a c d r || near b c d r || near c a b r || near d a b r || touches a b c d else false

end Go.Proofs.Ythbndilnobjjgaa
