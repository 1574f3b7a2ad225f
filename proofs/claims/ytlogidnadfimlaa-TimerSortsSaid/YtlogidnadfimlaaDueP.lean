/-
  Plain: the map of places beside a heap of dues.
-/
import Derived.Test.YtlogidnadfimlaaDueW
namespace Go.Proofs.Ytlogidnadfimlaa
open Go.RowKit Go.Maps

def i64L (i : Nat) : DataW Unit := .lit (.int .i64 (i : Int))
/-- The map D: each due of l at its place; besides, the keys of ext. -/
structure PlaceD (D : DataW Unit) (l : List Du) (ext : List (Int × Int)) : Prop where
  tidy : Tidy D
  place : ∀ i, i < l.length → D.atKey (KL (gd l i).2) (i64L 0) = i64L i
  keys : ∀ k, UK k → (Maps.has D (KL k) = true ↔ (∃ x ∈ l, x.2 = k) ∨ k ∈ ext)
  count : Maps.size D = l.length + ext.length
def UD (x : Du) : Prop := U32 x.1 ∧ UK x.2
theorem keys_at {l : List Du} (h : KeysD l) {i j : Nat} (hi : i < l.length) (hj : j < l.length) (e : (gd l i).2 = (gd l j).2) : i = j := by
  have hg : ∀ k (hk : k < l.length), gd l k = l[k] := fun k hk => by unfold gd; rw [List.getElem?_eq_getElem hk]; rfl
  rw [hg i hi, hg j hj] at e
  rcases Nat.lt_trichotomy i j with c | c | c
  · exact absurd e (List.pairwise_iff_getElem.1 h i j hi hj c)
  · exact c
  · exact absurd e.symm (List.pairwise_iff_getElem.1 h j i hj hi c)
theorem ud_at {l : List Du} (h : ∀ x ∈ l, UD x) {i : Nat} (hi : i < l.length) : UD (gd l i) := h _ (gd_mem hi)
theorem ud_swp {l : List Du} {i j : Nat} (h : ∀ x ∈ l, UD x) (hi : i < l.length) (hj : j < l.length) : ∀ x ∈ swp l i j, UD x := fun x hx => h x ((swp_perm hi hj).mem_iff.1 hx)
theorem keys_swp {l : List Du} {i j : Nat} (h : KeysD l) (hi : i < l.length) (hj : j < l.length) : KeysD (swp l i j) := keys_perm (swp_perm hi hj).symm h
theorem kl_ne {l : List Du} (h : KeysD l) (hu : ∀ x ∈ l, UD x) {i j : Nat} (hi : i < l.length) (hj : j < l.length) (hij : i ≠ j) : KL (gd l i).2 ≠ KL (gd l j).2 := fun e =>
  hij (keys_at h hi hj (KL_inj (ud_at hu hi).2 (ud_at hu hj).2 e))
theorem place_has {D : DataW Unit} {l : List Du} {ext : List (Int × Int)} (h : PlaceD D l ext) (hu : ∀ x ∈ l, UD x) {i : Nat} (hi : i < l.length) : Maps.has D (KL (gd l i).2) = true :=
  (h.keys _ (ud_at hu hi).2).2 (.inl ⟨_, gd_mem hi, rfl⟩)
theorem place_put {D : DataW Unit} {l : List Du} {ext : List (Int × Int)} (h : PlaceD D l ext) (hu : ∀ x ∈ l, UD x) {i : Nat} (hi : i < l.length) (v : DataW Unit) : Maps.size (D.put (KL (gd l i).2) v) = Maps.size D ∧ ∀ k, UK k → (Maps.has (D.put (KL (gd l i).2) v) (KL k) = Maps.has D (KL k)) := by
  have hh := place_has h hu hi
  refine ⟨by rw [size_put h.tidy, if_pos hh], fun k hk => ?_⟩
  by_cases e : KL k = KL (gd l i).2
  · rw [e, has_put_same h.tidy.isMap (KL_key _), hh]
  · exact has_put_other e v
theorem place_swap {D : DataW Unit} {l : List Du} {ext : List (Int × Int)} (h : PlaceD D l ext) (hk : KeysD l) (hu : ∀ x ∈ l, UD x) {i j : Nat} (hi : i < l.length) (hj : j < l.length) :
    PlaceD ((D.put (KL (gd l j).2) (i64L i)).put (KL (gd l i).2) (i64L j)) (swp l i j) ext := by
  have t1 : Tidy (D.put (KL (gd l j).2) (i64L i)) := h.tidy.put (KL_key _) _
  have p1 := place_put h hu hj (i64L i)
  have h1 : Maps.has (D.put (KL (gd l j).2) (i64L i)) (KL (gd l i).2) = true := by rw [p1.2 _ (ud_at hu hi).2]; exact place_has h hu hi
  refine ⟨t1.put (KL_key _) _, fun k hkl => ?_, fun k hk' => ?_, ?_⟩
  · rw [swp_len] at hkl
    rw [swp_at hi hj k]
    by_cases c1 : k = j
    · subst c1
      rw [if_pos rfl]
      exact atKey_put_same t1.isMap (KL_key _) _ _
    · rw [if_neg c1]
      by_cases c2 : k = i
      · subst c2
        rw [if_pos rfl, atKey_put_other (kl_ne hk hu hj hi (fun e => c1 e.symm))]
        exact atKey_put_same h.tidy.isMap (KL_key _) _ _
      · rw [if_neg c2, atKey_put_other (kl_ne hk hu hkl hi c2), atKey_put_other (kl_ne hk hu hkl hj c1)]
        exact h.place k hkl
  · have e2 : Maps.has ((D.put (KL (gd l j).2) (i64L i)).put (KL (gd l i).2) (i64L j)) (KL k) = Maps.has D (KL k) := by
      by_cases e : KL k = KL (gd l i).2
      · rw [e, has_put_same t1.isMap (KL_key _), place_has h hu hi]
      · rw [has_put_other e, p1.2 k hk']
    rw [e2, h.keys k hk']
    constructor
    · rintro (⟨x, hx, e⟩ | e)
      · exact .inl ⟨x, (swp_perm hi hj).mem_iff.2 hx, e⟩
      · exact .inr e
    · rintro (⟨x, hx, e⟩ | e)
      · exact .inl ⟨x, (swp_perm hi hj).mem_iff.1 hx, e⟩
      · exact .inr e
  · rw [size_put t1, if_pos h1, p1.1, h.count, swp_len]
theorem place_push {D : DataW Unit} {l : List Du} (h : PlaceD D l []) (hu : ∀ x ∈ l, UD x) {v : Du} (hv : UD v) (hn : Maps.has D (KL v.2) = false) :
    PlaceD (D.put (KL v.2) (i64L l.length)) (l ++ [v]) [] := by
  have hne : ∀ x ∈ l, ¬ x.2 = v.2 := fun x hx e => by
    have := (h.keys v.2 hv.2).2 (.inl ⟨x, hx, e⟩)
    rw [hn] at this; cases this
  refine ⟨h.tidy.put (KL_key _) _, fun k hk => ?_, fun k hk => ?_, ?_⟩
  · rw [List.length_append, List.length_singleton] at hk
    rw [gd_app]
    by_cases c : k < l.length
    · rw [if_pos c, atKey_put_other (fun e => hne _ (gd_mem c) (KL_inj (ud_at hu c).2 hv.2 e))]
      exact h.place k c
    · rw [if_neg c, if_pos (by omega), show k = l.length by omega]
      exact atKey_put_same h.tidy.isMap (KL_key _) _ _
  · by_cases e : KL k = KL v.2
    · have ek := KL_inj hk hv.2 e
      rw [e, has_put_same h.tidy.isMap (KL_key _)]
      exact ⟨fun _ => .inl ⟨v, by simp, ek.symm⟩, fun _ => rfl⟩
    · rw [has_put_other e, h.keys k hk]
      constructor
      · rintro (⟨x, hx, e'⟩ | e')
        · exact .inl ⟨x, by simp [hx], e'⟩
        · cases e'
      · rintro (⟨x, hx, e'⟩ | e')
        · rcases List.mem_append.1 hx with hx | hx
          · exact .inl ⟨x, hx, e'⟩
          · rw [List.mem_singleton] at hx
            subst hx
            exact absurd (by rw [e']) e
        · cases e'
  · rw [size_put h.tidy, hn, h.count]
    simp
theorem place_cut {D : DataW Unit} {l r : List Du} {v : Du} (h : PlaceD D l []) (hp : l = r ++ [v]) : PlaceD D r [v.2] := by
  subst hp
  refine ⟨h.tidy, fun k hk => ?_, fun k hk => ?_, ?_⟩
  · have := h.place k (by rw [List.length_append]; omega)
    rw [gd_app, if_pos hk] at this
    exact this
  · rw [h.keys k hk]
    constructor
    · rintro (⟨x, hx, e'⟩ | e')
      · rcases List.mem_append.1 hx with hx | hx
        · exact .inl ⟨x, hx, e'⟩
        · rw [List.mem_singleton] at hx
          subst hx
          exact .inr (by rw [e']; simp)
      · cases e'
    · rintro (⟨x, hx, e'⟩ | e')
      · exact .inl ⟨x, by simp [hx], e'⟩
      · rw [List.mem_singleton] at e'
        exact .inl ⟨v, by simp, e'.symm⟩
  · rw [h.count]; simp
theorem place_del {D : DataW Unit} {l : List Du} {k : Int × Int} (hk : UK k) (h : PlaceD D l [k]) (hu : ∀ x ∈ l, UD x) (hne : ∀ x ∈ l, ¬ x.2 = k) : PlaceD (D.del (KL k)) l [] := by
  refine ⟨h.tidy.del _, fun i hi => ?_, fun j hj => ?_, ?_⟩
  · rw [atKey_del_other (fun e => hne _ (gd_mem hi) (KL_inj (ud_at hu hi).2 hk e))]
    exact h.place i hi
  · by_cases e : KL j = KL k
    · have ek := KL_inj hj hk e
      rw [e, has_del_same]
      constructor
      · intro c
        cases c
      · rintro (⟨x, hx, e'⟩ | c)
        · exact absurd (e'.trans ek) (hne x hx)
        · cases c
    · rw [has_del_other e, h.keys j hj]
      constructor
      · rintro (⟨x, hx, e'⟩ | e')
        · exact .inl ⟨x, hx, e'⟩
        · rw [List.mem_singleton] at e'
          exact absurd (by rw [e']) e
      · rintro (⟨x, hx, e'⟩ | e')
        · exact .inl ⟨x, hx, e'⟩
        · cases e'
  · have hh : Maps.has D (KL k) = true := (h.keys k hk).2 (.inr (by simp))
    have := size_del (k := KL k) h.tidy
    rw [if_pos hh, h.count] at this
    simp at this ⊢
    omega
end Go.Proofs.Ytlogidnadfimlaa
