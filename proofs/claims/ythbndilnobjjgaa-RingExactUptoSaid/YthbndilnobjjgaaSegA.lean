/-
  Package seg: lattice, way, cross, dot, frac, one, along.
-/
import Derived.Test.YthbndilnobjjgaaSegM
import Derived.Test.YthbndilnobjjgaaGcd
namespace Go.Proofs.Ythbndilnobjjgaa
open Go.RowKit

theorem way_any (p q : Pt) (hp : I32 p.1 ∧ I32 p.2) (hq : I32 q.1 ∧ I32 q.2) (w : World) :
    Calls Try.prog 68 #[.agg #[.int .i32 p.1, .int .i32 p.2], .agg #[.int .i32 q.1, .int .i32 q.2]] w fun e w' => e = .returned (.agg #[.int .i64 (sb p q).1, .int .i64 (sb p q).2]) ∧ Below w.heap.size w w' := by
  obtain ⟨p1, p2⟩ := p
  obtain ⟨q1, q2⟩ := q
  unfold sb
  simp only at hp hq ⊢
  have e1 := wrap_sub hq.1 hp.1
  have e2 := wrap_sub hq.2 hp.2
  have w1 : wrap64 p1 = p1 := by have := hp.1; unfold I32 at this; unfold wrap64; omega
  have w2 : wrap64 p2 = p2 := by have := hp.2; unfold I32 at this; unfold wrap64; omega
  have w3 : wrap64 q1 = q1 := by have := hq.1; unfold I32 at this; unfold wrap64; omega
  have w4 : wrap64 q2 = q2 := by have := hq.2; unfold I32 at this; unfold wrap64; omega
  rw [w1, w3] at e1
  rw [w2, w4] at e2
  clear hp hq
  go_enter Try.func68, Try.ntmps68
  go_wp2_with fail
  refine bodyPost_ret (by simp [results, Try.results68, go_sem, *]; try rfl) rfl ?_
  exact ⟨rfl, by go_grown⟩

/-- A way between two points of the lattice. -/
def DvS (u : Pt) : Prop := (-2147483646 ≤ u.1 ∧ u.1 ≤ 2147483646) ∧ (-2147483646 ≤ u.2 ∧ u.2 ≤ 2147483646)
theorem pr_bd {a b : Int} (ha : -2147483646 ≤ a ∧ a ≤ 2147483646) (hb : -2147483646 ≤ b ∧ b ≤ 2147483646) : -4611686009837453316 ≤ a * b ∧ a * b ≤ 4611686009837453316 := by
  have h : ∀ x y : Int, 0 ≤ x → x ≤ 2147483646 → 0 ≤ y → y ≤ 2147483646 → 0 ≤ x * y ∧ x * y ≤ 4611686009837453316 := fun x y h1 h2 h3 h4 => by
    have := Int.mul_le_mul h2 h4 h3 (by omega)
    exact ⟨Int.mul_nonneg h1 h3, by omega⟩
  rcases Int.le_total 0 a with h1 | h1
  · rcases Int.le_total 0 b with h2 | h2
    · have := h a b h1 ha.2 h2 hb.2; omega
    · have := h a (-b) h1 ha.2 (by omega) (by omega); rw [Int.mul_neg] at this; omega
  · rcases Int.le_total 0 b with h2 | h2
    · have := h (-a) b (by omega) (by omega) h2 hb.2; rw [Int.neg_mul] at this; omega
    · have := h (-a) (-b) (by omega) (by omega) (by omega) (by omega); rw [Int.neg_mul_neg] at this; omega

theorem vcross_any (u v : Pt) (hu : DvS u) (hv : DvS v) (w : World) :
    Calls Try.prog 69 #[.agg #[.int .i64 u.1, .int .i64 u.2], .agg #[.int .i64 v.1, .int .i64 v.2]] w fun e w' => e = .returned (.int .i64 (cr u v)) ∧ Below w.heap.size w w' := by
  unfold cr
  have b1 := pr_bd hu.1 hv.2
  have b2 := pr_bd hu.2 hv.1
  obtain ⟨m, hm⟩ : ∃ m, u.1 * v.2 = m := ⟨_, rfl⟩
  obtain ⟨n, hn⟩ : ∃ n, u.2 * v.1 = n := ⟨_, rfl⟩
  rw [hm, hn]
  rw [hm] at b1
  rw [hn] at b2
  clear hu hv
  go_enter Try.func69, Try.ntmps69
  go_wp2_with fail
  go_ret
  exact ⟨rfl, by go_grown⟩

theorem vdot_any (u v : Pt) (hu : DvS u) (hv : DvS v) (w : World) :
    Calls Try.prog 71 #[.agg #[.int .i64 u.1, .int .i64 u.2], .agg #[.int .i64 v.1, .int .i64 v.2]] w fun e w' => e = .returned (.int .i64 (dt u v)) ∧ Below w.heap.size w w' := by
  unfold dt
  have b1 := pr_bd hu.1 hv.1
  have b2 := pr_bd hu.2 hv.2
  obtain ⟨m, hm⟩ : ∃ m, u.1 * v.1 = m := ⟨_, rfl⟩
  obtain ⟨n, hn⟩ : ∃ n, u.2 * v.2 = n := ⟨_, rfl⟩
  rw [hm, hn]
  rw [hm] at b1
  rw [hn] at b2
  clear hu hv
  go_enter Try.func71, Try.ntmps71
  go_wp2_with fail
  go_ret
  exact ⟨rfl, by go_grown⟩

/-- A fraction that is told. -/
def Fr (n d : Int) : Prop := (0 ≤ n ∧ n ≤ 9223372036854775807) ∧ 0 < d ∧ d ≤ 9223372036854775807
theorem fr_g {n d : Int} {G : Nat} (h : Fr n d) (hG : Nat.gcd n.natAbs d.natAbs = G) : ¬ (G : Int) = 0 ∧ (G : Int) ≤ 9223372036854775807 ∧ n.tdiv (G : Int) = n / (G : Int) ∧ d.tdiv (G : Int) = d / (G : Int) ∧ (0 ≤ n / (G : Int) ∧ n / (G : Int) ≤ 9223372036854775807) ∧ (0 ≤ d / (G : Int) ∧ d / (G : Int) ≤ 9223372036854775807) := by
  obtain ⟨⟨h1, h2⟩, h3, h4⟩ := h
  have hd : 0 < d.natAbs := by omega
  have hp : 0 < G := by rw [← hG]; exact Nat.gcd_pos_of_pos_right _ hd
  have hle : G ≤ d.natAbs := by rw [← hG]; exact Nat.gcd_le_right _ hd
  have hG0 : (0 : Int) < G := by omega
  refine ⟨by omega, by omega, Int.tdiv_eq_ediv_of_nonneg h1, Int.tdiv_eq_ediv_of_nonneg (by omega), ⟨Int.ediv_nonneg h1 (by omega), ?_⟩, Int.ediv_nonneg (by omega) (by omega), ?_⟩
  · have := Int.ediv_le_self (a := n) (G : Int) h1; omega
  · have := Int.ediv_le_self (a := d) (G : Int) (by omega); omega

set_option maxHeartbeats 400000 in
theorem frac_any (n d : Int) (h : Fr n d) (w : World) :
    Calls Try.prog 78 #[.int .i64 n, .int .i64 d] w fun e w' => e = .returned (.agg #[.int .i64 (fr n d).1, .int .i64 (fr n d).2]) ∧ Below w.heap.size w w' := by
  have HG := Lib.hid (fun W => gcd_any n d (by unfold I64; obtain ⟨h1, h2, h3⟩ := h; omega) (by unfold I64; obtain ⟨h1, h2, h3⟩ := h; omega) W)
  unfold fr
  simp only
  obtain ⟨G, hG⟩ : ∃ G, Nat.gcd n.natAbs d.natAbs = G := ⟨_, rfl⟩
  obtain ⟨g0, g1, g2, g3, g4, g5⟩ := fr_g h hG
  rw [hG] at HG ⊢
  obtain ⟨x, hx⟩ : ∃ x, n / (G : Int) = x := ⟨_, rfl⟩
  obtain ⟨y, hy⟩ : ∃ y, d / (G : Int) = y := ⟨_, rfl⟩
  rw [hx] at g2 g4 ⊢
  rw [hy] at g3 g5 ⊢
  have g6 : ¬ G = 0 := fun e => g0 (by rw [e]; rfl)
  clear hx hy hG h
  go_enter Try.func78, Try.ntmps78
  go_wp2_with fail
  refine (HG.out _).mono ?_
  rintro e w1 ⟨rfl, hb_w1⟩
  obtain ⟨hc_w1, hf_w1⟩ := bcell hb_w1
  have hz_w1 := hb_w1.size
  try simp at hz_w1
  have hB_w1 : Below w.heap.size w w1 := Below.trans (by go_grown) (hb_w1.mono (by go_size))
  have hs_w1_w_0 : w.heap.size < w1.heap.size := by omega
  go_wp2_with fail
  go_region
  go_wp2_with fail
  refine bodyPost_ret (by simp [results, Try.results78, go_sem, *]; try rfl) rfl ?_
  exact ⟨rfl, by go_grown⟩

end Go.Proofs.Ythbndilnobjjgaa
