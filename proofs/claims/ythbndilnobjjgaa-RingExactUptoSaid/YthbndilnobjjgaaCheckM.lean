/-
  Plain: what is wrong with a ring first, and where.
-/
import Derived.Test.YthbndilnobjjgaaTouchM
namespace Go.Proofs.Ythbndilnobjjgaa

/-- Two neighbouring edges, to b and from b: have they more in common than b? -/
def foldF (a b c : Pt) : Bool := decide (t6 a b c = 0) && (onP a (b, c) || onP c (a, b))
/-- What is wrong with edges i < j. -/
def pairF (ps : List Pt) (i j : Nat) : Int :=
  if j = i + 1 then (if foldF (gp ps i) (gp ps ((i + 1) % ps.length)) (gp ps ((j + 1) % ps.length)) then 63 else 0)
  else if i = 0 ∧ j = ps.length - 1 then (if foldF (gp ps j) (gp ps ((j + 1) % ps.length)) (gp ps ((i + 1) % ps.length)) then 63 else 0)
  else if touches (gp ps i) (gp ps ((i + 1) % ps.length)) (gp ps j) (gp ps ((j + 1) % ps.length)) then 64 else 0
def InAt (ps : List Pt) (k : Nat) : Prop := inP (gp ps k) = true
def DiffAt (ps : List Pt) (k : Nat) : Prop := gp ps k ≠ gp ps ((k + 1) % ps.length)
def FineAt (ps : List Pt) (i j : Nat) : Prop := ∀ i' j', i' < j' → j' < ps.length → (i' < i ∨ (i' = i ∧ j' < j)) → pairF ps i' j' = 0
/-- What is wrong first. -/
def ChkIs (ps : List Pt) (r : Int × Nat × Nat) : Prop :=
  ((ps.length < 3 ∨ 64 < ps.length) ∧ r = (60, 0, 0)) ∨ ((3 ≤ ps.length ∧ ps.length ≤ 64) ∧
    ((∃ k, k < ps.length ∧ ¬ InAt ps k ∧ (∀ m, m < k → InAt ps m) ∧ r = (61, k, 0)) ∨ ((∀ m, m < ps.length → InAt ps m) ∧
      ((∃ k, k < ps.length ∧ ¬ DiffAt ps k ∧ (∀ m, m < k → DiffAt ps m) ∧ r = (62, k, (k + 1) % ps.length)) ∨ ((∀ m, m < ps.length → DiffAt ps m) ∧
        ((∃ i j, i < j ∧ j < ps.length ∧ pairF ps i j ≠ 0 ∧ FineAt ps i j ∧ r = (pairF ps i j, i, j)) ∨ (FineAt ps ps.length 0 ∧ r = (0, 0, 0)))))))) 
theorem chk_one {ps : List Pt} {r s : Int × Nat × Nat} (h : ChkIs ps r) (k : ChkIs ps s) : r = s := by
  rcases h with ⟨h1, rfl⟩ | ⟨h1, h⟩
  · rcases k with ⟨_, rfl⟩ | ⟨k1, _⟩
    · rfl
    · omega
  rcases k with ⟨k1, _⟩ | ⟨_, k⟩
  · omega
  rcases h with ⟨a, ha, hna, hla, rfl⟩ | ⟨h2, h⟩
  · rcases k with ⟨b, hb, hnb, hlb, rfl⟩ | ⟨k2, _⟩
    · rcases Nat.lt_trichotomy a b with e | rfl | e
      · exact absurd (hlb a e) hna
      · rfl
      · exact absurd (hla b e) hnb
    · exact absurd (k2 a ha) hna
  rcases k with ⟨b, hb, hnb, _⟩ | ⟨_, k⟩
  · exact absurd (h2 b hb) hnb
  rcases h with ⟨a, ha, hna, hla, rfl⟩ | ⟨h3, h⟩
  · rcases k with ⟨b, hb, hnb, hlb, rfl⟩ | ⟨k2, _⟩
    · rcases Nat.lt_trichotomy a b with e | rfl | e
      · exact absurd (hlb a e) hna
      · rfl
      · exact absurd (hla b e) hnb
    · exact absurd (k2 a ha) hna
  rcases k with ⟨b, hb, hnb, _⟩ | ⟨_, k⟩
  · exact absurd (h3 b hb) hnb
  rcases h with ⟨i, j, hij, hj, hne, hf, rfl⟩ | ⟨hf, rfl⟩
  · rcases k with ⟨i', j', hij', hj', hne', hf', rfl⟩ | ⟨hf', _⟩
    · have e : i = i' ∧ j = j' := by
        rcases Nat.lt_trichotomy i i' with e | e | e
        · exact absurd (hf' i j hij hj (.inl e)) hne
        · rcases Nat.lt_trichotomy j j' with e2 | e2 | e2
          · exact absurd (hf' i j hij hj (.inr ⟨e, e2⟩)) hne
          · exact ⟨e, e2⟩
          · exact absurd (hf i' j' hij' hj' (.inr ⟨e.symm, e2⟩)) hne'
        · exact absurd (hf i' j' hij' hj' (.inl e)) hne'
      rw [e.1, e.2]
    · exact absurd (hf' i j hij hj (.inl (by omega))) hne
  · rcases k with ⟨i', j', hij', hj', hne', _⟩ | ⟨_, rfl⟩
    · exact absurd (hf i' j' hij' hj' (.inl (by omega))) hne'
    · rfl
open Classical in
noncomputable def chk (ps : List Pt) : Int × Nat × Nat := if h : ∃ r, ChkIs ps r then h.choose else (0, 0, 0)
theorem chk_is {ps : List Pt} {r : Int × Nat × Nat} (h : ChkIs ps r) : chk ps = r := by
  have hx : ∃ r, ChkIs ps r := ⟨r, h⟩
  unfold chk
  rw [dif_pos hx]
  exact chk_one hx.choose_spec h
theorem pairF_cases (ps : List Pt) (i j : Nat) : pairF ps i j = 0 ∨ pairF ps i j = 63 ∨ pairF ps i j = 64 := by
  unfold pairF
  repeat' split
  all_goals simp
theorem fine_start (ps : List Pt) : FineAt ps 0 1 := fun i' j' h _ h2 => by omega
theorem fine_step {ps : List Pt} {i j : Nat} (h : FineAt ps i j) (h0 : pairF ps i j = 0) : FineAt ps i (j + 1) := fun i' j' h1 h2 h3 => by
  rcases h3 with h3 | ⟨h3, h4⟩
  · exact h i' j' h1 h2 (.inl h3)
  · rcases Nat.lt_or_ge j' j with h5 | h5
    · exact h i' j' h1 h2 (.inr ⟨h3, h5⟩)
    · rw [h3, show j' = j by omega]; exact h0
theorem fine_next {ps : List Pt} {i : Nat} (h : FineAt ps i ps.length) : FineAt ps (i + 1) (i + 1 + 1) := fun i' j' h1 h2 h3 => by
  rcases Nat.lt_or_ge i' i with h4 | h4
  · exact h i' j' h1 h2 (.inl h4)
  · rcases Nat.lt_or_ge i i' with h5 | h5
    · omega
    · exact h i' j' h1 h2 (.inr ⟨by omega, h2⟩)
theorem fine_end {ps : List Pt} {i j : Nat} (h : FineAt ps i j) (hi : ps.length ≤ i + 1) : FineAt ps ps.length 0 := fun i' j' h1 h2 h3 => by
  exact h i' j' h1 h2 (.inl (by omega))

end Go.Proofs.Ythbndilnobjjgaa
