/-
  hull.Thin: plain facts of its two loops.
-/
import Derived.Test.YtcpojadinkonnaaThinP1
namespace Go.Proofs.Ytcpojadinkonnaa
open Go.RowKit

open Classical in
theorem contains_ok (ps : List Pt) (M : Nat) (A : Option Addr) (c : Nat) (w : World) (hP : PtsAt M w (.slice A ps.length c) ps) (hM : M ≤ w.heap.size) (hlen : ps.length ≤ 4096) (h : IsL ps) :
    Calls Try.prog 28 #[.slice A ps.length c, .func (.func 29) #[] #[]] w fun e w' => e = .returned (.bool false) ∧ Below w.heap.size w w' :=
  (contains_any ps M A c w hP hM hlen).mono fun _ _ ⟨he, hb⟩ => ⟨by rw [he]; exact ret_bool (decide_eq_false (fun h2 => h2 h)), hb⟩
open Classical in
theorem contains_bad (ps : List Pt) (M : Nat) (A : Option Addr) (c : Nat) (w : World) (hP : PtsAt M w (.slice A ps.length c) ps) (hM : M ≤ w.heap.size) (hlen : ps.length ≤ 4096) (h : ¬ IsL ps) :
    Calls Try.prog 28 #[.slice A ps.length c, .func (.func 29) #[] #[]] w fun e w' => e = .returned (.bool true) ∧ Below w.heap.size w w' :=
  (contains_any ps M A c w hP hM hlen).mono fun _ _ ⟨he, hb⟩ => ⟨by rw [he]; exact ret_bool (decide_eq_true h), hb⟩
theorem eltS : Elt Try.prog 48 47 (.agg #[.int .i64 0, .int .i64 0]) 2 16 := ⟨Try.underlying48, by kernel_rfl, rfl, by omega⟩
/-- A list of stretches as cells. -/
def flatS : List (Nat × Nat) → List Value
  | [] => []
  | s :: l => .int .i64 (s.1 : Int) :: .int .i64 (s.2 : Int) :: flatS l
theorem flatS_app : ∀ (l k : List (Nat × Nat)), flatS (l ++ k) = flatS l ++ flatS k
  | [], _ => rfl
  | s :: l, k => by rw [List.cons_append, flatS, flatS, flatS_app l k]; rfl
theorem flatS_length : ∀ l : List (Nat × Nat), (flatS l).length = l.length * 2
  | [] => rfl
  | s :: l => by rw [flatS, List.length_cons, List.length_cons, List.length_cons, flatS_length l]; omega
def msr : List (Nat × Nat) → Nat
  | [] => 0
  | s :: l => 2 * (s.2 - s.1) - 1 + msr l
theorem msr_app : ∀ (l k : List (Nat × Nat)), msr (l ++ k) = msr l + msr k
  | [], _ => by simp [msr]
  | s :: l, k => by rw [List.cons_append, msr, msr, msr_app l k]; omega
/-- A row cut short. -/
theorem own_short {W : World} {b : Nat} {e : TypeId} {size n m c : Nat} {A : Option Addr} {xs ys : List Value} (h : W.ownsRow b e size (.slice A n c) n (xs ++ ys)) (hm : xs.length = m * size) (hle : m ≤ n) (hn : 0 < n) : W.ownsRow b e size (.slice A m c) m xs := by
  refine ⟨hm, ?_⟩
  rcases h.2 with ⟨_, h0⟩ | ⟨g, cap, cur, hv, hb, hg, h1, h2, h3, h4⟩
  · omega
  · injection hv with hA _ hc
    subst hA hc
    refine .inr ⟨g, c, cur, rfl, hb, hg, by omega, h2, h3, ?_⟩
    have : (cur.toList.take (n * size)).take (m * size) = xs := by rw [h4, ← hm, List.take_left']; rfl
    rw [List.take_take] at this
    rw [← this]
    congr 1
    exact (Nat.min_eq_left (Nat.mul_le_mul_right size hle)).symm
/-- A cell of a row of one's own. -/
theorem own_at {W : World} {b : Nat} {e : TypeId} {size n c : Nat} {A : Option Addr} {xs : List Value} (h : W.ownsRow b e size (.slice A n c) n xs) (hn : 0 < n) : ∃ h', A = some ⟨h', 0, none⟩ ∧ b ≤ h' ∧ h' < W.heap.size ∧ n ≤ c ∧ ∀ j u, xs[j]? = some u → W.cell? ⟨h', j, none⟩ = some u := by
  rcases h.2 with ⟨_, h0⟩ | ⟨g, cap, cur, hv, hb, hg, h1, h2, h3, h4⟩
  · omega
  · have hv' := hv
    injection hv with hA _ hc
    subst hA hc
    refine ⟨g, rfl, hb, (h.lt g rfl).2, h1, fun j u hj => ?_⟩
    have hc := h.cells (g := g) rfl j u hj
    rwa [add_at] at hc

def farV (F : Nat → Int) (b : Int) : Option Nat → Int
  | none => b
  | some x => F x
theorem scanP_new {F : Nat → Int} {b : Int} {i m : Nat} (h : farV F b (scanP F b i m) < F (i + 1 + m)) : scanP F b i (m + 1) = some (i + 1 + m) := by
  unfold scanP
  cases hS : scanP F b i m with
  | none => rw [hS] at h; simp only [farV] at h; simp only [if_pos h]
  | some x => rw [hS] at h; simp only [farV] at h; simp only [if_pos h]
theorem scanP_old {F : Nat → Int} {b : Int} {i m : Nat} (h : ¬ farV F b (scanP F b i m) < F (i + 1 + m)) : scanP F b i (m + 1) = scanP F b i m := by
  conv => lhs; unfold scanP
  cases hS : scanP F b i m with
  | none => rw [hS] at h; simp only [farV] at h; simp only [if_neg h]
  | some x => rw [hS] at h; simp only [farV] at h; simp only [if_neg h]

/-- What holds at the head of the outer loop. -/
structure Wt (w : World) (s : Nat → Nat → Option Nat) (n g base : Nat) (G : Nat → Bool) (L : List (Nat × Nat)) (v : Value) (W : World) : Prop where
  own : W.ownsRow base 47 2 v L.length (flatS L)
  bd : ∀ x ∈ L, x.1 < x.2 ∧ x.2 < n
  kept : ∃ f, KeptAt W g n f ∧ ∀ k, (f k || L.any (fun x => kept s x.1 x.2 k)) = G k
  below : Below w.heap.size w W
  size : base ≤ W.heap.size
  few : msr L ≤ 8192
theorem len_msr : ∀ {L : List (Nat × Nat)}, (∀ x ∈ L, x.1 < x.2) → L.length ≤ msr L
  | [], _ => Nat.zero_le _
  | s :: l, h => by
    have h1 := len_msr (L := l) (fun x hx => h x (by simp [hx]))
    have h2 := h s (by simp)
    rw [List.length_cons, msr]
    omega
theorem any_none2 {s : Nat → Nat → Option Nat} {L : List (Nat × Nat)} {i j : Nat} (h : s i j = none) (k : Nat) : (L ++ [(i, j)]).any (fun x => kept s x.1 x.2 k) = L.any (fun x => kept s x.1 x.2 k) := by
  rw [List.any_append, List.any_cons, List.any_nil, kept_none h]
  simp
theorem any_some2 {s : Nat → Nat → Option Nat} (hs : Between s) {L : List (Nat × Nat)} {i j a : Nat} (h : s i j = some a) (f : Nat → Bool) (k : Nat) :
    ((f k || k == a) || (L ++ [(i, a), (a, j)]).any (fun x => kept s x.1 x.2 k)) = (f k || (L ++ [(i, j)]).any (fun x => kept s x.1 x.2 k)) := by
  rw [List.any_append, List.any_append, List.any_cons, List.any_cons, List.any_nil, List.any_cons, List.any_nil, kept_some hs h]
  cases f k <;> cases (k == a) <;> cases kept s i a k <;> cases kept s a j k <;> cases L.any (fun x => kept s x.1 x.2 k) <;> rfl

end Go.Proofs.Ytcpojadinkonnaa
