/-
  Plain lemmas of PointTurns.
-/
import Derived.Test.YtcpojadinkonnaaTurnE
import Derived.Test.YtcpojadinkonnaaTail
namespace Go.Proofs.Ytcpojadinkonnaa
open Go.RowKit

theorem in_bd {x y : Int} (h : inB x y = true) : (-1073741823 ≤ x ∧ x ≤ 1073741823) ∧ (-1073741823 ≤ y ∧ y ≤ 1073741823) := by
  unfold inB at h; exact of_decide_eq_true h
theorem prod_bd {a b : Int} (ha : -2147483646 ≤ a ∧ a ≤ 2147483646) (hb : -2147483646 ≤ b ∧ b ≤ 2147483646) : -4611686009837453316 ≤ a * b ∧ a * b ≤ 4611686009837453316 := by
  have h1 : a.natAbs ≤ 2147483646 := by omega
  have h2 : b.natAbs ≤ 2147483646 := by omega
  have h3 := Nat.mul_le_mul h1 h2
  rw [← Int.natAbs_mul] at h3
  omega
theorem crs_val {ox oy ax ay bx by_ : Int} (h1 : inB ox oy = true) (h2 : inB ax ay = true) (h3 : inB bx by_ = true) : wrap64 (crs ox oy ax ay bx by_) = crs ox oy ax ay bx by_ := by
  have := in_bd h1
  have := in_bd h2
  have := in_bd h3
  have p1 := @prod_bd (ax - ox) (by_ - oy) (by omega) (by omega)
  have p2 := @prod_bd (ay - oy) (bx - ox) (by omega) (by omega)
  unfold crs; unfold wrap64; omega
theorem dist_val {ox oy ax ay : Int} (h1 : inB ox oy = true) (h2 : inB ax ay = true) : wrap64 ((ax - ox) * (ax - ox) + (ay - oy) * (ay - oy)) = (ax - ox) * (ax - ox) + (ay - oy) * (ay - oy) := by
  have := in_bd h1
  have := in_bd h2
  have p1 := @prod_bd (ax - ox) (ax - ox) (by omega) (by omega)
  have p2 := @prod_bd (ay - oy) (ay - oy) (by omega) (by omega)
  unfold wrap64; omega
theorem wrap32_bd (z : Int) : I32 (wrap32 z) := by unfold I32 wrap32; omega
theorem on_first (ax ay bx by_ : Int) : onB ax ay ax ay bx by_ = true := by
  unfold onB hasB; rw [trn_first]; simp; omega
theorem on_last (ax ay bx by_ : Int) : onB bx by_ ax ay bx by_ = true := by
  unfold onB hasB; rw [trn_twice]; simp; omega

end Go.Proofs.Ytcpojadinkonnaa
