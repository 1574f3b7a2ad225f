/-
  Plain: dues, their order, a heap of them.
-/
import Derived.Test.YtlogidnadfimlaaWideMath
namespace Go.Proofs.Ytlogidnadfimlaa

/-- A due: at, object, fence. -/
abbrev Du := Int × Int × Int
def duLt (a b : Du) : Prop := a.1 < b.1 ∨ (a.1 = b.1 ∧ (a.2.1 < b.2.1 ∨ (a.2.1 = b.2.1 ∧ a.2.2 < b.2.2)))
instance (a b : Du) : Decidable (duLt a b) := by unfold duLt; infer_instance
def or3 (a b c : Int) : Int := if a = 0 then (if b = 0 then c else b) else a
def duC (a b : Du) : Int := or3 (cmpI a.1 b.1) (cmpI a.2.1 b.2.1) (cmpI a.2.2 b.2.2)
theorem duC_lt {a b : Du} : duC a b < 0 ↔ duLt a b := by
  unfold duC or3 cmpI duLt
  repeat' split
  all_goals omega
theorem duC_zero {a b : Du} : duC a b = 0 ↔ a = b := by
  have e : a = b ↔ a.1 = b.1 ∧ a.2.1 = b.2.1 ∧ a.2.2 = b.2.2 := ⟨fun h => by subst h; exact ⟨rfl, rfl, rfl⟩, fun ⟨h1, h2, h3⟩ => Prod.ext h1 (Prod.ext h2 h3)⟩
  rw [e]
  unfold duC or3 cmpI
  repeat' split
  all_goals omega
theorem du_irr {a : Du} : ¬ duLt a a := by unfold duLt; omega
theorem du_asymm {a b : Du} (h : duLt a b) : ¬ duLt b a := by unfold duLt at *; omega
theorem du_le_trans {a b c : Du} (h : ¬ duLt b a) (k : ¬ duLt c b) : ¬ duLt c a := by unfold duLt at *; omega
theorem du_lt_le {a b c : Du} (h : duLt a b) (k : ¬ duLt c b) : duLt a c := by unfold duLt at *; omega
theorem du_eq {a b : Du} (h : ¬ duLt a b) (k : ¬ duLt b a) : a = b := by
  refine Prod.ext ?_ (Prod.ext ?_ ?_) <;> (unfold duLt at *; omega)
def gd (l : List Du) (i : Nat) : Du := (l[i]?).getD (0, 0, 0)
theorem gd_get {l : List Du} {i : Nat} (h : i < l.length) : l[i]? = some (gd l i) := by unfold gd; rw [List.getElem?_eq_getElem h]; rfl
theorem gd_mem {l : List Du} {i : Nat} (h : i < l.length) : gd l i ∈ l := List.mem_of_getElem? (gd_get h)
theorem gd_of_mem {l : List Du} {x : Du} (h : x ∈ l) : ∃ i, i < l.length ∧ gd l i = x := by
  obtain ⟨i, hi, e⟩ := List.mem_iff_getElem.1 h
  exact ⟨i, hi, by unfold gd; rw [List.getElem?_eq_getElem hi, e]; rfl⟩
def swp (l : List Du) (i j : Nat) : List Du := (l.set i (gd l j)).set j (gd l i)
theorem swp_len (l : List Du) (i j : Nat) : (swp l i j).length = l.length := by unfold swp; rw [List.length_set, List.length_set]
theorem swp_at {l : List Du} {i j : Nat} (hi : i < l.length) (hj : j < l.length) (k : Nat) : gd (swp l i j) k = if k = j then gd l i else if k = i then gd l j else gd l k := by
  obtain ⟨x, hx⟩ : ∃ x, gd l i = x := ⟨_, rfl⟩
  obtain ⟨y, hy⟩ : ∃ y, gd l j = y := ⟨_, rfl⟩
  unfold swp
  rw [hx, hy]
  unfold gd
  rw [List.getElem?_set, List.getElem?_set, List.length_set]
  by_cases h1 : k = j
  · subst h1; simp [hj]
  · by_cases h2 : k = i
    · subst h2; rw [if_neg (fun e => h1 e.symm), if_pos rfl, if_pos hi, if_neg h1, if_pos rfl]; rfl
    · rw [if_neg (fun e => h1 e.symm), if_neg (fun e => h2 e.symm), if_neg h1, if_neg h2]
theorem swp_perm {l : List Du} {i j : Nat} (hi : i < l.length) (hj : j < l.length) : (swp l i j).Perm l := by
  have e : ∀ k (hk : k < l.length), gd l k = l[k] := fun k hk => by unfold gd; rw [List.getElem?_eq_getElem hk]; rfl
  unfold swp
  rw [e i hi, e j hj]
  exact List.set_set_perm hi hj

/-- The parent is not above k. -/
def Edge (l : List Du) (k : Nat) : Prop := ¬ duLt (gd l k) (gd l ((k - 1) / 2))
def HeapL (l : List Du) : Prop := ∀ k, 0 < k → k < l.length → Edge l k
/-- A heap but for the edges at i. -/
def Near (l : List Du) (i : Nat) : Prop := (∀ k, 0 < k → k < l.length → k ≠ i → (k - 1) / 2 ≠ i → Edge l k) ∧ (0 < i → ∀ k, 0 < k → k < l.length → (k - 1) / 2 = i → ¬ duLt (gd l k) (gd l ((i - 1) / 2)))
/-- A heap but for the edge above i. -/
def UpI (l : List Du) (i : Nat) : Prop := (∀ k, 0 < k → k < l.length → k ≠ i → Edge l k) ∧ (0 < i → ∀ k, 0 < k → k < l.length → (k - 1) / 2 = i → ¬ duLt (gd l k) (gd l ((i - 1) / 2)))
/-- A heap but for the edges below i. -/
def DownI (l : List Du) (i : Nat) : Prop := Near l i ∧ (0 < i → Edge l i)
theorem near_up {l : List Du} {i : Nat} (h : Near l i) (h0 : 0 < i) (hl : duLt (gd l i) (gd l ((i - 1) / 2))) : UpI l i := by
  refine ⟨fun k k0 kl ki => ?_, h.2⟩
  by_cases c : (k - 1) / 2 = i
  · unfold Edge
    rw [c]
    exact fun hc => h.2 h0 k k0 kl c (by
      have := h.2 h0 k k0 kl c
      unfold duLt at *; omega)
  · exact h.1 k k0 kl ki c
theorem up_step {l : List Du} {i : Nat} (h : UpI l i) (h0 : 0 < i) (hi : i < l.length) (hl : duLt (gd l i) (gd l ((i - 1) / 2))) : UpI (swp l i ((i - 1) / 2)) ((i - 1) / 2) := by
  have hp : (i - 1) / 2 < i := by omega
  have sw := swp_at hi (show (i - 1) / 2 < l.length by omega)
  refine ⟨fun k k0 kl kp => ?_, fun p0 k k0 kl kc => ?_⟩
  · rw [swp_len] at kl
    unfold Edge
    rw [sw k, sw ((k - 1) / 2), if_neg kp]
    by_cases ki : k = i
    · subst ki
      rw [if_pos rfl, if_pos rfl]
      exact du_asymm hl
    · rw [if_neg ki]
      by_cases c1 : (k - 1) / 2 = (i - 1) / 2
      · rw [if_pos c1]
        have := h.1 k k0 kl ki
        unfold Edge at this
        rw [c1] at this
        exact du_asymm (du_lt_le hl this)
      · rw [if_neg c1]
        by_cases c2 : (k - 1) / 2 = i
        · rw [if_pos c2]
          exact h.2 h0 k k0 kl c2
        · rw [if_neg c2]
          exact h.1 k k0 kl ki
  · rw [swp_len] at kl
    have e1 : ¬ ((i - 1) / 2 - 1) / 2 = (i - 1) / 2 := by omega
    have e2 : ¬ ((i - 1) / 2 - 1) / 2 = i := by omega
    have hpp := h.1 ((i - 1) / 2) p0 (by omega) (by omega)
    unfold Edge at hpp
    rw [sw k, sw (((i - 1) / 2 - 1) / 2), if_neg e1, if_neg e2, if_neg (show ¬ k = (i - 1) / 2 by omega)]
    by_cases ki : k = i
    · rw [if_pos ki]
      exact hpp
    · rw [if_neg ki]
      have := h.1 k k0 kl ki
      unfold Edge at this
      rw [kc] at this
      exact du_le_trans hpp this
theorem up_done {l : List Du} {i : Nat} (h : UpI l i) (hi : 0 < i → Edge l i) : HeapL l := fun k k0 kl => by
  by_cases c : k = i
  · subst c; exact hi k0
  · exact h.1 k k0 kl c
theorem heap_down {l : List Du} (h : HeapL l) (i : Nat) (hi : i < l.length) : DownI l i :=
  ⟨⟨fun k k0 kl _ _ => h k k0 kl, fun i0 k k0 kl c => by
    have a := h k k0 kl
    have b := h i i0 hi
    unfold Edge at a b
    rw [c] at a
    exact du_le_trans b a⟩, fun i0 => h i i0 hi⟩
theorem down_exit {l : List Du} {i : Nat} (h : DownI l i) (hc : ∀ k, 0 < k → k < l.length → (k - 1) / 2 = i → ¬ duLt (gd l k) (gd l i)) : HeapL l := fun k k0 kl => by
  by_cases c : k = i
  · subst c; exact h.2 k0
  · by_cases c2 : (k - 1) / 2 = i
    · have := hc k k0 kl c2
      unfold Edge
      rw [c2]
      exact this
    · exact h.1.1 k k0 kl c c2
theorem down_step {l : List Du} {i c : Nat} (h : DownI l i) (hi : i < l.length) (c0 : 0 < c) (hc : c < l.length) (hp : (c - 1) / 2 = i) (hl : duLt (gd l c) (gd l i)) (hm : ∀ k, 0 < k → k < l.length → (k - 1) / 2 = i → ¬ duLt (gd l k) (gd l c)) : DownI (swp l i c) c := by
  have sw := swp_at hi hc
  have hic : ¬ i = c := by omega
  refine ⟨⟨fun k k0 kl kc kpc => ?_, fun _ k k0 kl kpc => ?_⟩, fun _ => ?_⟩
  · rw [swp_len] at kl
    unfold Edge
    rw [sw k, sw ((k - 1) / 2), if_neg kc, if_neg kpc]
    by_cases ki : k = i
    · rw [if_pos ki]
      subst ki
      rw [if_neg (show ¬ (k - 1) / 2 = k by omega)]
      exact fun hh => h.1.2 k0 c c0 hc hp hh
    · rw [if_neg ki]
      by_cases c2 : (k - 1) / 2 = i
      · rw [if_pos c2]
        exact hm k k0 kl c2
      · rw [if_neg c2]
        exact h.1.1 k k0 kl ki c2
  · rw [swp_len] at kl
    rw [sw k, sw ((c - 1) / 2), hp, if_neg hic, if_pos rfl, if_neg (show ¬ k = c by omega), if_neg (show ¬ k = i by omega)]
    have := h.1.1 k k0 kl (by omega) (by omega)
    unfold Edge at this
    rw [kpc] at this
    exact this
  · unfold Edge
    rw [sw c, sw ((c - 1) / 2), hp, if_pos rfl, if_neg hic, if_pos rfl]
    exact du_asymm hl
theorem gd_app {l : List Du} {v : Du} {k : Nat} : gd (l ++ [v]) k = if k < l.length then gd l k else if k = l.length then v else (0, 0, 0) := by
  unfold gd
  by_cases c : k < l.length
  · rw [if_pos c, List.getElem?_append_left c]
  · rw [if_neg c, List.getElem?_append_right (by omega)]
    by_cases c2 : k = l.length
    · rw [if_pos c2, c2, Nat.sub_self]; rfl
    · rw [if_neg c2, List.getElem?_eq_none (by simp; omega)]; rfl
theorem push_near {l : List Du} (h : HeapL l) (v : Du) : Near (l ++ [v]) l.length := by
  refine ⟨fun k k0 kl ki _ => ?_, fun _ k k0 kl c => ?_⟩
  · rw [List.length_append, List.length_singleton] at kl
    unfold Edge
    rw [gd_app, gd_app, if_pos (by omega), if_pos (by omega)]
    exact h k k0 (by omega)
  · rw [List.length_append, List.length_singleton] at kl
    omega
theorem push_done {l : List Du} {i : Nat} (h : DownI l i) (hi : l.length = i + 1) : HeapL l := down_exit h fun k k0 kl c => by omega
theorem gd_take {l : List Du} {k m : Nat} (h : k < m) : gd (l.take m) k = gd l k := by unfold gd; rw [List.getElem?_take_of_lt h]
theorem cut_near {l : List Du} {i m : Nat} (h : HeapL l) (hm : l.length = m + 1) (hi : i < m) : Near ((swp l i m).take m) i := by
  have sw := swp_at (show i < l.length by omega) (show m < l.length by omega)
  have hlen : ((swp l i m).take m).length = m := by rw [List.length_take, swp_len]; omega
  refine ⟨fun k k0 kl ki c => ?_, fun i0 k k0 kl c => ?_⟩
  · rw [hlen] at kl
    unfold Edge
    rw [gd_take kl, gd_take (show (k - 1) / 2 < m by omega), sw k, sw ((k - 1) / 2), if_neg (show ¬ k = m by omega), if_neg ki, if_neg (show ¬ (k - 1) / 2 = m by omega), if_neg c]
    exact h k k0 (by omega)
  · rw [hlen] at kl
    rw [gd_take kl, gd_take (show (i - 1) / 2 < m by omega), sw k, sw ((i - 1) / 2), if_neg (show ¬ k = m by omega), if_neg (show ¬ k = i by omega), if_neg (show ¬ (i - 1) / 2 = m by omega), if_neg (show ¬ (i - 1) / 2 = i by omega)]
    have a := h k k0 (by omega)
    have b := h i i0 (by omega)
    unfold Edge at a b
    rw [c] at a
    exact du_le_trans b a
theorem cut_last {l : List Du} {m : Nat} (h : HeapL l) (hm : l.length = m + 1) : HeapL ((swp l m m).take m) := fun k k0 kl => by
  have sw := swp_at (show m < l.length by omega) (show m < l.length by omega)
  have hlen : ((swp l m m).take m).length = m := by rw [List.length_take, swp_len]; omega
  rw [hlen] at kl
  unfold Edge
  rw [gd_take kl, gd_take (show (k - 1) / 2 < m by omega), sw k, sw ((k - 1) / 2), if_neg (show ¬ k = m by omega), if_neg (show ¬ k = m by omega), if_neg (show ¬ (k - 1) / 2 = m by omega), if_neg (show ¬ (k - 1) / 2 = m by omega)]
  exact h k k0 (by omega)
theorem cut_perm {l : List Du} {i m : Nat} (hm : l.length = m + 1) (hi : i ≤ m) : l.Perm (gd l i :: (swp l i m).take m) := by
  have hp := swp_perm (show i < l.length by omega) (show m < l.length by omega)
  have sw := swp_at (show i < l.length by omega) (show m < l.length by omega) m
  rw [if_pos rfl] at sw
  have e : (swp l i m) = (swp l i m).take m ++ [gd l i] := by
    have hl : (swp l i m).length = m + 1 := by rw [swp_len]; exact hm
    have h1 : (swp l i m).take (m + 1) = (swp l i m).take m ++ [gd l i] := by
      rw [List.take_add_one, gd_get (by omega), sw]; rfl
    rw [← h1, List.take_of_length_le (by omega)]
  rw [e] at hp
  exact hp.symm.trans List.perm_append_comm
theorem heap_min {l : List Du} (h : HeapL l) : ∀ k, k < l.length → ¬ duLt (gd l k) (gd l 0) := by
  intro k
  induction k using Nat.strongRecOn with
  | _ k ih =>
    intro hk
    rcases Nat.eq_zero_or_pos k with rfl | h0
    · exact du_irr
    · have a := h k h0 hk
      have b := ih ((k - 1) / 2) (by omega) (by omega)
      unfold Edge at a
      exact du_le_trans b a

/-- In order. -/
def SortD (l : List Du) : Prop := l.Pairwise fun a b => ¬ duLt b a
theorem sort_eq : ∀ {l k : List Du}, l.Perm k → SortD l → SortD k → l = k
  | [], k, h, _, _ => (List.nil_perm.1 h).symm
  | x :: l, [], h, _, _ => absurd h.length_eq (by simp)
  | x :: l, y :: k, h, hl, hk => by
    obtain ⟨l1, l2⟩ := List.pairwise_cons.1 hl
    obtain ⟨k1, k2⟩ := List.pairwise_cons.1 hk
    have e : x = y := by
      have hx : x ∈ y :: k := h.mem_iff.1 (List.mem_cons_self ..)
      have hy : y ∈ x :: l := h.mem_iff.2 (List.mem_cons_self ..)
      rcases List.mem_cons.1 hx with e | hx
      · exact e
      · rcases List.mem_cons.1 hy with e | hy
        · exact e.symm
        · exact du_eq (k1 x hx) (l1 y hy)
    subst e
    rw [sort_eq ((List.perm_cons x).1 h) l2 k2]
theorem heap_first {l k : List Du} (h : HeapL l) (hs : SortD k) (hp : l.Perm k) (h0 : 0 < l.length) : gd l 0 = gd k 0 := by
  have hk : 0 < k.length := by rw [← hp.length_eq]; exact h0
  obtain ⟨y, k', rfl⟩ : ∃ y k', k = y :: k' := by
    cases k with
    | nil => simp at hk
    | cons y k' => exact ⟨y, k', rfl⟩
  obtain ⟨k1, _⟩ := List.pairwise_cons.1 hs
  have hy : gd (y :: k') 0 = y := rfl
  rw [hy]
  obtain ⟨i, hi, e⟩ := gd_of_mem (hp.mem_iff.2 (List.mem_cons_self ..))
  have a := heap_min h i hi
  rw [e] at a
  rcases List.mem_cons.1 (hp.mem_iff.1 (gd_mem h0)) with e2 | h2
  · exact e2
  · exact du_eq (k1 _ h2) a

/-- The document's list with one more. -/
def insD (x : Du) : List Du → List Du
  | [] => [x]
  | y :: r => if duLt x y then x :: y :: r else y :: insD x r
theorem insD_perm (x : Du) : ∀ l, (insD x l).Perm (x :: l)
  | [] => List.Perm.refl _
  | y :: r => by
    unfold insD
    split
    · exact List.Perm.refl _
    · exact ((insD_perm x r).cons y).trans (List.Perm.swap x y r)
theorem insD_sort (x : Du) : ∀ l, SortD l → SortD (insD x l)
  | [], _ => List.pairwise_singleton _ _
  | y :: r, h => by
    obtain ⟨h1, h2⟩ := List.pairwise_cons.1 h
    unfold insD
    split
    · rename_i c
      refine List.pairwise_cons.2 ⟨fun z hz => ?_, h⟩
      rcases List.mem_cons.1 hz with rfl | hz
      · exact du_asymm c
      · exact fun hc => h1 z hz (by unfold duLt at *; omega)
    · rename_i c
      refine List.pairwise_cons.2 ⟨fun z hz => ?_, insD_sort x r h2⟩
      rcases List.mem_cons.1 ((insD_perm x r).mem_iff.1 hz) with rfl | hz
      · exact c
      · exact h1 z hz
theorem insD_at {x : Du} : ∀ {l : List Du} {k : Nat}, k < l.length → (∀ i, i < k → ¬ duLt x (gd l i)) → duLt x (gd l k) → insD x l = l.take k ++ x :: l.drop k
  | [], k, h, _, _ => absurd h (Nat.not_lt_zero _)
  | y :: r, 0, _, _, h => by
    have : duLt x y := h
    unfold insD
    rw [if_pos this]
    rfl
  | y :: r, k + 1, hk, hi, h => by
    have h0 : ¬ duLt x y := hi 0 (Nat.succ_pos _)
    unfold insD
    rw [if_neg h0, insD_at (l := r) (k := k) (by simpa using hk) (fun i hi' => hi (i + 1) (by omega)) h]
    rfl
theorem insD_end {x : Du} : ∀ {l : List Du}, (∀ i, i < l.length → ¬ duLt x (gd l i)) → insD x l = l ++ [x]
  | [], _ => rfl
  | y :: r, h => by
    have h0 : ¬ duLt x y := h 0 (by simp)
    unfold insD
    rw [if_neg h0, insD_end (l := r) (fun i hi => h (i + 1) (by simpa using hi))]
    rfl
/-- No object and fence stand twice. -/
def KeysD (l : List Du) : Prop := l.Pairwise fun a b => ¬ a.2 = b.2
theorem keys_perm {l k : List Du} (h : l.Perm k) (hk : KeysD l) : KeysD k := (h.pairwise_iff (R := fun a b : Du => ¬ a.2 = b.2) (fun {a b} (h : ¬ a.2 = b.2) e => h e.symm)).1 hk
theorem sort_filter {l : List Du} (f : Du → Bool) (h : SortD l) : SortD (l.filter f) := h.filter _
theorem cut_filter {l r : List Du} {x : Du} (h : l.Perm (x :: r)) (hk : KeysD l) : r.Perm (l.filter fun y => !(y.2 == x.2)) := by
  have h2 := keys_perm h hk
  obtain ⟨h3, _⟩ := List.pairwise_cons.1 h2
  refine List.Perm.trans ?_ ((h.filter _).symm)
  rw [List.filter_cons_of_neg (by simp), List.filter_eq_self.2 (fun y hy => by
    have := h3 y hy
    simp
    exact fun e => this e.symm)]
theorem take_tail {l k : List Du} {x : Du} (h : l.Perm k) (hs : SortD k) (hl : HeapL l) (h0 : 0 < l.length) {r : List Du} (hr : l.Perm (gd l 0 :: r)) (hx : gd l 0 = x) : ∃ k', k = x :: k' ∧ r.Perm k' := by
  have hf := heap_first hl hs h h0
  have hk : 0 < k.length := by rw [← h.length_eq]; exact h0
  obtain ⟨y, k', rfl⟩ : ∃ y k', k = y :: k' := by
    cases k with
    | nil => simp at hk
    | cons y k' => exact ⟨y, k', rfl⟩
  have hy : gd (y :: k') 0 = y := rfl
  rw [hy, hx] at hf
  subst hf
  rw [hx] at hr
  exact ⟨k', rfl, (List.perm_cons x).1 (hr.symm.trans h)⟩
/-- Of hs are left cur; n that f picks are gone. -/
def AllR (f : Du → Bool) (hs cur : List Du) (n : Nat) : Prop := ∃ rem : List Du, hs.Perm (cur ++ rem) ∧ rem.length = n ∧ ∀ x ∈ rem, f x = true
theorem allR_start (f : Du → Bool) (hs : List Du) : AllR f hs hs 0 := ⟨[], by rw [List.append_nil], rfl, fun x h => by cases h⟩
theorem allR_cut {f : Du → Bool} {hs cur r : List Du} {n : Nat} {x : Du} (h : AllR f hs cur n) (hp : cur.Perm (x :: r)) (hx : f x = true) : AllR f hs r (n + 1) := by
  obtain ⟨rem, h1, h2, h3⟩ := h
  refine ⟨x :: rem, h1.trans ((hp.append_right rem).trans ?_), by simp [h2], fun y hy => ?_⟩
  · exact List.perm_middle.symm
  · rcases List.mem_cons.1 hy with rfl | hy
    · exact hx
    · exact h3 y hy
theorem allR_end {f : Du → Bool} {hs cur : List Du} {n : Nat} (h : AllR f hs cur n) (hc : ∀ k, k < cur.length → f (gd cur k) = false) : cur.Perm (hs.filter fun x => !f x) ∧ n = (hs.filter f).length := by
  obtain ⟨rem, h1, h2, h3⟩ := h
  have hcur : ∀ x ∈ cur, f x = false := fun x hx => by
    obtain ⟨i, hi, e⟩ := gd_of_mem hx
    rw [← e]; exact hc i hi
  constructor
  · refine List.Perm.trans ?_ ((h1.filter _).symm)
    rw [List.filter_append, List.filter_eq_self.2 (fun x hx => by rw [hcur x hx]; rfl), List.filter_eq_nil_iff.2 (fun x hx => by rw [h3 x hx]; decide), List.append_nil]
  · rw [(h1.filter f).length_eq, List.filter_append, List.filter_eq_nil_iff.2 (fun x hx => by rw [hcur x hx]; decide), List.filter_eq_self.2 (fun x hx => h3 x hx), List.nil_append, h2]
end Go.Proofs.Ytlogidnadfimlaa
