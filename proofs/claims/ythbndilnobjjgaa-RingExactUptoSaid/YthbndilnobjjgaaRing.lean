/-
  Rings of points: sides, what is told of them; told from another point on, backwards, shifted. Plain lemmas.
-/
import Derived.Test.YthbndilnobjjgaaTurnB
namespace Go.Proofs.Ythbndilnobjjgaa
open Go.RowKit

abbrev Pt := Int × Int
def gp (ps : List Pt) (i : Nat) : Pt := ps[i]?.getD (0, 0)
def sid (ps : List Pt) (i : Nat) : Pt × Pt := (gp ps i, gp ps ((i + 1) % ps.length))
def sides (ps : List Pt) : List (Pt × Pt) := (List.range ps.length).map (sid ps)
def onP (p : Pt) (s : Pt × Pt) : Bool := onB p.1 p.2 s.1.1 s.1.2 s.2.1 s.2.2
def trP (p : Pt) (s : Pt × Pt) : Int := trn s.1.1 s.1.2 s.2.1 s.2.2 p.1 p.2
def rise (p : Pt) (s : Pt × Pt) : Bool := decide (s.1.2 ≤ p.2 ∧ p.2 < s.2.2 ∧ 0 < trP p s)
def fall (p : Pt) (s : Pt × Pt) : Bool := decide (p.2 < s.1.2 ∧ s.2.2 ≤ p.2 ∧ trP p s < 0)
def tot (f : Pt × Pt → Int) : List (Pt × Pt) → Int
  | [] => 0
  | s :: l => f s + tot f l
def one (b : Bool) : Int := if b then 1 else 0
def fc (p : Pt) (s : Pt × Pt) : Int := one (rise p s) + one (fall p s)
def fw (p : Pt) (s : Pt × Pt) : Int := one (rise p s) - one (fall p s)
def edge (ps : List Pt) (p : Pt) : Bool := (sides ps).any (onP p)
def crossings (ps : List Pt) (p : Pt) : Int := tot (fc p) (sides ps)
def winding (ps : List Pt) (p : Pt) : Int := tot (fw p) (sides ps)
def covers (ps : List Pt) (p : Pt) : Bool := edge ps p || decide (crossings ps p % 2 = 1)

theorem tot_app (f : Pt × Pt → Int) : ∀ a b : List (Pt × Pt), tot f (a ++ b) = tot f a + tot f b
  | [], b => by rw [List.nil_append, tot]; omega
  | s :: a, b => by rw [List.cons_append, tot, tot, tot_app f a b]; omega
theorem tot_snoc (f : Pt × Pt → Int) (a : List (Pt × Pt)) (s : Pt × Pt) : tot f (a ++ [s]) = tot f a + f s := by
  rw [tot_app, tot, tot]; omega
theorem tot_perm (f : Pt × Pt → Int) {a b : List (Pt × Pt)} (h : a.Perm b) : tot f a = tot f b := by
  induction h with
  | nil => rfl
  | cons x _ ih => rw [tot, tot, ih]
  | swap x y l => rw [tot, tot, tot, tot]; omega
  | trans _ _ ih1 ih2 => exact ih1.trans ih2
theorem any_perm (f : Pt × Pt → Bool) {a b : List (Pt × Pt)} (h : a.Perm b) : a.any f = b.any f := by
  rw [Bool.eq_iff_iff, List.any_eq_true, List.any_eq_true]
  exact ⟨fun ⟨x, hx, hf⟩ => ⟨x, h.mem_iff.1 hx, hf⟩, fun ⟨x, hx, hf⟩ => ⟨x, h.mem_iff.2 hx, hf⟩⟩
theorem tot_map (f : Pt × Pt → Int) (g : Pt × Pt → Pt × Pt) : ∀ a : List (Pt × Pt), tot f (a.map g) = tot (fun s => f (g s)) a
  | [] => rfl
  | s :: a => by rw [List.map_cons, tot, tot, tot_map f g a]
theorem tot_neg (f : Pt × Pt → Int) : ∀ a : List (Pt × Pt), tot (fun s => -f s) a = -tot f a
  | [] => rfl
  | s :: a => by rw [tot, tot, tot_neg f a]; omega
theorem tot_bd (f : Pt × Pt → Int) (h : ∀ s, -1 ≤ f s ∧ f s ≤ 1) : ∀ a : List (Pt × Pt), -(a.length : Int) ≤ tot f a ∧ tot f a ≤ a.length
  | [] => by rw [tot]; decide
  | s :: a => by
    have := tot_bd f h a
    have := h s
    rw [tot, List.length_cons]
    omega
theorem tot_pos (f : Pt × Pt → Int) (h : ∀ s, 0 ≤ f s) : ∀ a : List (Pt × Pt), 0 ≤ tot f a
  | [] => by rw [tot]; decide
  | s :: a => by
    have := tot_pos f h a
    have := h s
    rw [tot]
    omega
theorem one_bd (b : Bool) : 0 ≤ one b ∧ one b ≤ 1 := by cases b <;> decide
theorem fw_bd (p : Pt) (s : Pt × Pt) : -1 ≤ fw p s ∧ fw p s ≤ 1 := by
  unfold fw
  have := one_bd (rise p s)
  have := one_bd (fall p s)
  omega
theorem not_both (p : Pt) (s : Pt × Pt) : rise p s = false ∨ fall p s = false := by
  unfold rise fall
  rcases Int.lt_or_le p.2 s.1.2 with h | h
  · left; exact decide_eq_false (fun h' => by omega)
  · right; exact decide_eq_false (fun h' => by omega)
theorem fc_bd (p : Pt) (s : Pt × Pt) : -1 ≤ fc p s ∧ fc p s ≤ 1 := by
  unfold fc
  have := one_bd (rise p s)
  have := one_bd (fall p s)
  rcases not_both p s with h | h <;> rw [h] <;> have : one false = 0 := rfl <;> omega
theorem fc_pos (p : Pt) (s : Pt × Pt) : 0 ≤ fc p s := by
  unfold fc
  have := one_bd (rise p s)
  have := one_bd (fall p s)
  omega
theorem sides_length (ps : List Pt) : (sides ps).length = ps.length := by unfold sides; rw [List.length_map, List.length_range]

theorem rot_one (n : Nat) (h : Nat → Nat) (hn : h n = h 0) : ((List.range n).map fun i => h (i + 1)).Perm ((List.range n).map h) := by
  cases n with
  | zero => exact List.Perm.refl _
  | succ m =>
    have e1 : ((List.range (m + 1)).map fun i => h (i + 1)) = ((List.range m).map fun i => h (i + 1)) ++ [h 0] := by
      rw [List.range_succ, List.map_append, ← hn]; rfl
    have e2 : (List.range (m + 1)).map h = h 0 :: (List.range m).map fun i => h (i + 1) := by
      rw [List.range_succ_eq_map, List.map_cons, List.map_map]; rfl
    rw [e1, e2]
    exact List.perm_append_singleton _ _
theorem rot_perm (n : Nat) : ∀ r : Nat, ((List.range n).map fun i => (r + i) % n).Perm (List.range n)
  | 0 => by
    have : ((List.range n).map fun i => (0 + i) % n) = List.range n := by
      rw [show (List.range n) = (List.range n).map id from (List.map_id _).symm, List.map_map]
      exact List.map_congr_left fun i hi => by
        have := List.mem_range.1 hi
        show (0 + i) % n = i
        rw [Nat.zero_add, Nat.mod_eq_of_lt this]
    rw [this]
  | r + 1 => by
    have h := rot_one n (fun i => (r + i) % n) (by show (r + n) % n = (r + 0) % n; rw [Nat.add_mod_right, Nat.add_zero])
    have e : ((List.range n).map fun i => (r + 1 + i) % n) = (List.range n).map fun i => (fun j => (r + j) % n) (i + 1) := List.map_congr_left fun i _ => by
      show (r + 1 + i) % n = (r + (i + 1)) % n
      rw [show r + 1 + i = r + (i + 1) by omega]
    rw [e]
    exact h.trans (rot_perm n r)
theorem back_perm (n : Nat) : ((List.range n).map fun i => n - 1 - i).Perm (List.range n) := by
  have e : ((List.range n).map fun i => n - 1 - i) = (List.range n).reverse := by
    apply List.ext_getElem
    · simp
    · intro i h1 h2
      simp
  rw [e]
  exact List.reverse_perm _

/-- Told from another point on: the sides are the same ones. -/
theorem sides_rot {ps w : List Pt} (r : Nat) (hl : w.length = ps.length) (h : ∀ i, i < ps.length → gp w i = gp ps ((r + i) % ps.length)) : (sides w).Perm (sides ps) := by
  have e : sides w = ((List.range ps.length).map fun i => (r + i) % ps.length).map (sid ps) := by
    unfold sides
    rw [hl, List.map_map]
    refine List.map_congr_left fun i hi => ?_
    have hi := List.mem_range.1 hi
    have hn : 0 < ps.length := by omega
    show sid w i = sid ps ((r + i) % ps.length)
    unfold sid
    rw [hl, h i hi, h _ (Nat.mod_lt _ hn), Nat.add_mod_mod, Nat.mod_add_mod, show r + (i + 1) = r + i + 1 by omega]
  rw [e]
  exact (rot_perm ps.length r).map _
theorem back_next {n k : Nat} (hk : k < n) : (n - 1 - (k + 1) % n + 1) % n = n - 1 - k := by
  rcases Nat.lt_or_ge (k + 1) n with h | h
  · rw [Nat.mod_eq_of_lt h, Nat.mod_eq_of_lt (by omega)]; omega
  · have : k + 1 = n := by omega
    rw [this, Nat.mod_self, show n - 1 - 0 + 1 = n by omega, Nat.mod_self]
    omega
/-- Told backwards: each side is gone the other way. -/
theorem sides_back {ps w : List Pt} (r : Nat) (hl : w.length = ps.length) (h : ∀ i, i < ps.length → gp w i = gp ps (ps.length - 1 - (r + i) % ps.length)) : (sides w).Perm ((sides ps).map Prod.swap) := by
  have e : sides w = (((List.range ps.length).map fun i => (r + 1 + i) % ps.length).map fun i => ps.length - 1 - i).map (fun j => (sid ps j).swap) := by
    unfold sides
    rw [hl, List.map_map, List.map_map]
    refine List.map_congr_left fun i hi => ?_
    have hi := List.mem_range.1 hi
    have hn : 0 < ps.length := by omega
    show sid w i = (sid ps (ps.length - 1 - (r + 1 + i) % ps.length)).swap
    unfold sid
    have hk : (r + i) % ps.length < ps.length := Nat.mod_lt _ hn
    have e1 : (r + 1 + i) % ps.length = ((r + i) % ps.length + 1) % ps.length := by rw [Nat.mod_add_mod, show r + 1 + i = r + i + 1 by omega]
    have e2 : (r + (i + 1) % ps.length) % ps.length = ((r + i) % ps.length + 1) % ps.length := by rw [Nat.add_mod_mod, Nat.mod_add_mod, show r + (i + 1) = r + i + 1 by omega]
    rw [hl, h i hi, h _ (Nat.mod_lt _ hn), e1, e2, back_next hk]
    rfl
  rw [e]
  have h1 : (((List.range ps.length).map fun i => (r + 1 + i) % ps.length).map fun i => ps.length - 1 - i).Perm (List.range ps.length) := ((rot_perm ps.length (r + 1)).map _).trans (back_perm ps.length)
  have h2 := h1.map (fun j => (sid ps j).swap)
  have h3 : (List.range ps.length).map (fun j => (sid ps j).swap) = (sides ps).map Prod.swap := by unfold sides; rw [List.map_map]; rfl
  rw [h3] at h2
  exact h2
theorem trn_turn (ax ay bx by_ px py : Int) : trn bx by_ ax ay px py = -trn ax ay bx by_ px py := by
  rw [trn_round, trn_back, ← trn_round]
theorem on_swap (p : Pt) (s : Pt × Pt) : onP p s.swap = onP p s := by
  unfold onP onB
  have h1 : trn s.swap.1.1 s.swap.1.2 s.swap.2.1 s.swap.2.2 p.1 p.2 = -trn s.1.1 s.1.2 s.2.1 s.2.2 p.1 p.2 := trn_turn _ _ _ _ _ _
  have h2 : hasB (min s.swap.1.1 s.swap.2.1) (min s.swap.1.2 s.swap.2.2) (max s.swap.1.1 s.swap.2.1) (max s.swap.1.2 s.swap.2.2) p.1 p.2 = hasB (min s.1.1 s.2.1) (min s.1.2 s.2.2) (max s.1.1 s.2.1) (max s.1.2 s.2.2) p.1 p.2 := by
    show hasB (min s.2.1 s.1.1) (min s.2.2 s.1.2) (max s.2.1 s.1.1) (max s.2.2 s.1.2) p.1 p.2 = _
    rw [Int.min_comm, Int.min_comm s.2.2, Int.max_comm, Int.max_comm s.2.2]
  rw [h1, h2]
  congr 1
  exact decide_eq_decide.2 (by omega)
theorem tr_swap (p : Pt) (s : Pt × Pt) : trP p s.swap = -trP p s := trn_turn _ _ _ _ _ _
theorem rise_swap (p : Pt) (s : Pt × Pt) : rise p s.swap = fall p s := by
  unfold rise fall
  rw [tr_swap]
  exact decide_eq_decide.2 (by show s.2.2 ≤ p.2 ∧ p.2 < s.1.2 ∧ 0 < -trP p s ↔ _; omega)
theorem fall_swap (p : Pt) (s : Pt × Pt) : fall p s.swap = rise p s := by
  unfold rise fall
  rw [tr_swap]
  exact decide_eq_decide.2 (by show p.2 < s.2.2 ∧ s.1.2 ≤ p.2 ∧ -trP p s < 0 ↔ _; omega)
theorem told_rot {ps w : List Pt} (p : Pt) (h : (sides w).Perm (sides ps)) : edge w p = edge ps p ∧ crossings w p = crossings ps p ∧ winding w p = winding ps p ∧ covers w p = covers ps p := by
  have h1 : edge w p = edge ps p := any_perm _ h
  have h2 : crossings w p = crossings ps p := tot_perm _ h
  exact ⟨h1, h2, tot_perm _ h, by unfold covers; rw [h1, h2]⟩
theorem told_back {ps w : List Pt} (p : Pt) (h : (sides w).Perm ((sides ps).map Prod.swap)) : edge w p = edge ps p ∧ crossings w p = crossings ps p ∧ winding w p = -winding ps p ∧ covers w p = covers ps p := by
  have h1 : edge w p = edge ps p := by
    unfold edge
    rw [any_perm _ h, List.any_map]
    congr 1
    funext s
    exact on_swap p s
  have h2 : crossings w p = crossings ps p := by
    unfold crossings
    rw [tot_perm _ h, tot_map]
    congr 1
    funext s
    unfold fc
    rw [rise_swap, fall_swap]; omega
  have h3 : winding w p = -winding ps p := by
    unfold winding
    rw [tot_perm _ h, tot_map, ← tot_neg]
    congr 1
    funext s
    unfold fw
    rw [rise_swap, fall_swap]; omega
  exact ⟨h1, h2, h3, by unfold covers; rw [h1, h2]⟩
def mv (d : Pt) (p : Pt) : Pt := (p.1 + d.1, p.2 + d.2)
theorem told_move {ps w : List Pt} (p d : Pt) (hl : w.length = ps.length) (h : ∀ i, i < ps.length → gp w i = mv d (gp ps i)) : edge w (mv d p) = edge ps p ∧ crossings w (mv d p) = crossings ps p ∧ winding w (mv d p) = winding ps p ∧ covers w (mv d p) = covers ps p := by
  have hs : sides w = (sides ps).map fun s => (mv d s.1, mv d s.2) := by
    unfold sides
    rw [hl, List.map_map]
    refine List.map_congr_left fun i hi => ?_
    have hi := List.mem_range.1 hi
    show sid w i = (mv d (gp ps i), mv d (gp ps ((i + 1) % ps.length)))
    unfold sid
    rw [hl, h i hi, h _ (Nat.mod_lt _ (by omega))]
  have ht : ∀ s : Pt × Pt, trP (mv d p) (mv d s.1, mv d s.2) = trP p s := fun s => trn_move _ _ _ _ _ _ _ _
  have ho : ∀ s : Pt × Pt, onP (mv d p) (mv d s.1, mv d s.2) = onP p s := fun s => by
    unfold onP onB
    have := ht s
    unfold trP at this
    rw [this]
    congr 1
    simp only [hasB, mv]
    exact decide_eq_decide.2 (by omega)
  have hr : ∀ s : Pt × Pt, rise (mv d p) (mv d s.1, mv d s.2) = rise p s := fun s => by
    unfold rise
    rw [ht]
    simp only [mv]
    exact decide_eq_decide.2 (by omega)
  have hf : ∀ s : Pt × Pt, fall (mv d p) (mv d s.1, mv d s.2) = fall p s := fun s => by
    unfold fall
    rw [ht]
    simp only [mv]
    exact decide_eq_decide.2 (by omega)
  have h1 : edge w (mv d p) = edge ps p := by
    unfold edge
    rw [hs, List.any_map]
    congr 1
    funext s
    exact ho s
  have h2 : crossings w (mv d p) = crossings ps p := by
    unfold crossings
    rw [hs, tot_map]
    congr 1
    funext s
    unfold fc
    rw [hr, hf]
  have h3 : winding w (mv d p) = winding ps p := by
    unfold winding
    rw [hs, tot_map]
    congr 1
    funext s
    unfold fw
    rw [hr, hf]
  exact ⟨h1, h2, h3, by unfold covers; rw [h1, h2]⟩

end Go.Proofs.Ythbndilnobjjgaa
