/-
  A law for regions that draw their order: a head of operations that answer one value in every world behind the first, in whatever order, and of allocations that wait for nothing; then a tail whose order is fixed. One walk serves every order: the blocks that the allocations lay have whatever numbers.
-/
import Derived.StillTail
import Derived.BigQuiet
import Derived.Test.YthbndilnobjjgaaMem
namespace Go.Proofs.Ythbndilnobjjgaa
open Go.RowKit

section
variable {P : Program} {ops : Array Oper} {md : Region.Mode} {W0 : World}

/-- One value in every world behind W0; what lay there lies there. -/
def YieldsR (P : Program) (ops : Array Oper) (W0 : World) (o : Oper) (v : Value) (a : Act) : Prop :=
  Region.wanted o (yielded ops a.tmps) = true ∧ ∀ W1, Below W0.heap.size W0 W1 → o.quietAt P a (fun w' => Below W1.heap.size W1 w') W1 v

/-- A block that is laid. -/
structure Fr0 where
  ix : Nat
  dst : Tmp
  ty : TypeId
  cells : Array Value

def ptr (g : Nat) : Value := .pointer (some ⟨g, 0, none⟩)

/-- Operation i comes up: one that is laid yields whatever block; another one its value. -/
def fOp (P : Program) (ops : Array Oper) (W0 : World) (fs : List Fr0) (i : Nat) (K : Act → Prop) (a : Act) : Prop :=
  ∃ o, ops[i]? = some o ∧ ((∃ f ∈ fs, f.ix = i ∧ ∀ g : Nat, K (a.put o.dst (ptr g))) ∨ ((∀ f ∈ fs, f.ix ≠ i) ∧ ∃ v, YieldsR P ops W0 o v a ∧ K (a.put o.dst v)))

/-- The head, whatever order is picked; behind it L. -/
def headF (P : Program) (md : Region.Mode) (ops : Array Oper) (W0 : World) (fs : List Fr0) (n : Nat) (L : Array Bool → Act → Prop) : Nat → Array Bool → Act → Prop
  | 0, listed, a => L listed a
  | f + 1, listed, a => Region.ready md ops listed ≠ [] ∧ ∀ i ∈ Region.ready md ops listed, i < n ∧ fOp P ops W0 fs i (headF P md ops W0 fs n L f (listed.setIfInBounds i true)) a

theorem YieldsR.put {oi oj : Oper} {v u : Value} {a : Act} (hap : oi.apart ops oj = true) (hsi : ∀ cs b, oi.op ≠ .select cs b) (hy : YieldsR P ops W0 oi v a) : YieldsR P ops W0 oi v (a.put oj.dst u) := by
  obtain ⟨h1, h2, h3⟩ := Oper.apart_spec hap
  unfold YieldsR Oper.quietAt at *
  rw [execOp_put oi hsi a oj.dst u h3, wanted_put oi a oj.dst u h3]
  exact hy
theorem YieldsR.back {oi oj : Oper} {v u : Value} {a : Act} (hap : oi.apart ops oj = true) (hsj : ∀ cs b, oj.op ≠ .select cs b) (hy : YieldsR P ops W0 oj u (a.put oi.dst v)) : YieldsR P ops W0 oj u a := by
  obtain ⟨h1, h2, h3⟩ := Oper.apart_spec hap
  unfold YieldsR Oper.quietAt at *
  rw [execOp_put oj hsj a oi.dst v h1, wanted_put oj a oi.dst v h1] at hy
  exact hy

theorem headF_first {fs : List Fr0} {n i : Nat} {oi : Oper} {v : Value} {L : Array Bool → Act → Prop} (hi : ops[i]? = some oi) (hq : ∀ f ∈ fs, f.ix ≠ i) (hsel : ∀ (j : Nat) (o : Oper) cs b, ops[j]? = some o → o.op ≠ .select cs b)
    (hs : Region.sinkB md ops n = true) (hc : Region.chainB md ops n = true) (hn : n < ops.size) (hin : i < n)
    (hdone : ∀ listed a, L listed a → ∀ j ∈ Region.ready md ops listed, n ≤ j) :
    ∀ (f : Nat) (listed : Array Bool) (a : Act), HeadInv md ops n listed →
      (∀ j oj, ops[j]? = some oj → j ≠ i → listed.getD j true = false → (∀ e ∈ oj.after, Region.binds md e = true → e.on ≠ i) → oi.apart ops oj = true) →
      i ∈ Region.ready md ops listed → YieldsR P ops W0 oi v a →
      headF P md ops W0 fs n L f (listed.setIfInBounds i true) (a.put oi.dst v) → headF P md ops W0 fs n L (f + 1) listed a := by
  intro f
  induction f with
  | zero =>
    intro listed a inv _ hr hy H
    have hun := (mem_ready.1 hr).1
    refine ⟨List.ne_nil_of_mem hr, fun j hj => ?_⟩
    have hjn : j < n := (Nat.lt_or_ge j n).resolve_right fun h => tail_waits hs hc hn inv _ i rfl hin hun j h hj
    refine ⟨hjn, ?_⟩
    by_cases hji : j = i
    · subst hji; exact ⟨oi, hi, .inr ⟨hq, v, hy, H⟩⟩
    · have := hdone _ _ H j (ready_mono hj hji)
      omega
  | succ f ih =>
    intro listed a inv hfree hr hy H
    have hun := (mem_ready.1 hr).1
    refine ⟨List.ne_nil_of_mem hr, fun j hj => ?_⟩
    have hjn : j < n := (Nat.lt_or_ge j n).resolve_right fun h => tail_waits hs hc hn inv _ i rfl hin hun j h hj
    refine ⟨hjn, ?_⟩
    by_cases hji : j = i
    · subst hji; exact ⟨oi, hi, .inr ⟨hq, v, hy, H⟩⟩
    · obtain ⟨oj, hoj, h1⟩ := (H.2 j (ready_mono hj hji)).2
      obtain ⟨hjun, oj', hoj', hall⟩ := mem_ready.1 hj
      obtain rfl : oj' = oj := Option.some.inj (hoj'.symm.trans hoj)
      have hnot : ∀ e ∈ oj'.after, Region.binds md e = true → e.on ≠ i := fun e he hb heq => by
        have h2 := hall e he hb
        rw [heq, getD_both hun] at h2
        cases h2
      have hap := hfree j oj' hoj hji hjun hnot
      have hfree' : ∀ k ok, ops[k]? = some ok → k ≠ i → (listed.setIfInBounds j true).getD k true = false →
          (∀ e ∈ ok.after, Region.binds md e = true → e.on ≠ i) → oi.apart ops ok = true := fun k ok hk hki hk0 hno => by
        refine hfree k ok hk hki ?_ hno
        by_cases hjk : j = k
        · subst hjk; exact hjun
        · rw [getD_set_ne true hjk] at hk0; exact hk0
      have hcm := (Oper.apart_spec hap).2.1
      have go : ∀ u, headF P md ops W0 fs n L f ((listed.setIfInBounds i true).setIfInBounds j true) ((a.put oi.dst v).put oj'.dst u) → headF P md ops W0 fs n L (f + 1) (listed.setIfInBounds j true) (a.put oj'.dst u) := fun u hu => by
        refine ih (listed.setIfInBounds j true) _ (inv.set hj hjn) hfree' (ready_mono hr (Ne.symm hji)) (hy.put hap (fun cs b => hsel i oi cs b hi)) ?_
        rw [Array.setIfInBounds_comm _ _ (Ne.symm hji)] at hu
        rw [← Act.put_comm a v u hcm]
        exact hu
      refine ⟨oj', hoj, ?_⟩
      rcases h1 with ⟨f0, hf0, hfi, hg⟩ | ⟨hnf, u, hyu, hk⟩
      · exact .inl ⟨f0, hf0, hfi, fun g => go _ (hg g)⟩
      · exact .inr ⟨hnf, u, hyu.back hap (fun cs b => hsel j oj' cs b hoj), go u hk⟩

theorem headF_new {fs : List Fr0} {n i : Nat} {oi : Oper} {f0 : Fr0} {L : Array Bool → Act → Prop} (hi : ops[i]? = some oi) (hf0 : f0 ∈ fs) (hfi : f0.ix = i)
    (hs : Region.sinkB md ops n = true) (hc : Region.chainB md ops n = true) (hn : n < ops.size) (hin : i < n)
    (hdone : ∀ listed a, L listed a → ∀ j ∈ Region.ready md ops listed, n ≤ j) :
    ∀ (f : Nat) (listed : Array Bool) (a : Act), HeadInv md ops n listed →
      (∀ j oj, ops[j]? = some oj → j ≠ i → listed.getD j true = false → (∀ e ∈ oj.after, Region.binds md e = true → e.on ≠ i) → oi.apart ops oj = true) →
      (∀ j, j < n → listed.getD j true = false → ∃ f ∈ fs, f.ix = j) →
      i ∈ Region.ready md ops listed →
      (∀ g, headF P md ops W0 fs n L f (listed.setIfInBounds i true) (a.put oi.dst (ptr g))) → headF P md ops W0 fs n L (f + 1) listed a := by
  intro f
  induction f with
  | zero =>
    intro listed a inv _ _ hr H
    have hun := (mem_ready.1 hr).1
    refine ⟨List.ne_nil_of_mem hr, fun j hj => ?_⟩
    have hjn : j < n := (Nat.lt_or_ge j n).resolve_right fun h => tail_waits hs hc hn inv _ i rfl hin hun j h hj
    refine ⟨hjn, ?_⟩
    by_cases hji : j = i
    · subst hji; exact ⟨oi, hi, .inl ⟨f0, hf0, hfi, H⟩⟩
    · have := hdone _ _ (H 0) j (ready_mono hj hji)
      omega
  | succ f ih =>
    intro listed a inv hfree hall hr H
    have hun := (mem_ready.1 hr).1
    refine ⟨List.ne_nil_of_mem hr, fun j hj => ?_⟩
    have hjn : j < n := (Nat.lt_or_ge j n).resolve_right fun h => tail_waits hs hc hn inv _ i rfl hin hun j h hj
    refine ⟨hjn, ?_⟩
    by_cases hji : j = i
    · subst hji; exact ⟨oi, hi, .inl ⟨f0, hf0, hfi, H⟩⟩
    · obtain ⟨hjun, oj, hoj, hdep⟩ := mem_ready.1 hj
      have hnot : ∀ e ∈ oj.after, Region.binds md e = true → e.on ≠ i := fun e he hb heq => by
        have h2 := hdep e he hb
        rw [heq, getD_both hun] at h2
        cases h2
      have hap := hfree j oj hoj hji hjun hnot
      have hcm := (Oper.apart_spec hap).2.1
      obtain ⟨f1, hf1, hfj⟩ := hall j hjn hjun
      refine ⟨oj, hoj, .inl ⟨f1, hf1, hfj, fun u => ?_⟩⟩
      refine ih (listed.setIfInBounds j true) _ (inv.set hj hjn) (fun k ok hk hki hk0 hno => ?_) (fun k hk hk0 => ?_) (ready_mono hr (Ne.symm hji)) (fun g => ?_)
      · refine hfree k ok hk hki ?_ hno
        by_cases hjk : j = k
        · subst hjk; exact hjun
        · rw [getD_set_ne true hjk] at hk0; exact hk0
      · refine hall k hk ?_
        by_cases hjk : j = k
        · subst hjk; exact hjun
        · rw [getD_set_ne true hjk] at hk0; exact hk0
      · obtain ⟨oj', hoj', h1⟩ := ((H g).2 j (ready_mono hj hji)).2
        obtain rfl : oj = oj' := Option.some.inj (hoj.symm.trans hoj')
        rcases h1 with ⟨_, _, _, hg⟩ | ⟨hnf, _⟩
        · have := hg u
          rw [Array.setIfInBounds_comm _ _ (Ne.symm hji)] at this
          rw [← Act.put_comm a (ptr g) (ptr u) hcm]
          exact this
        · exact absurd hfj (hnf f1 hf1)

/-- The lexical walk of the operations that answer one value. -/
def wpRel (P : Program) (ops : Array Oper) (W0 : World) (Q : Act → Prop) : List Oper → Act → Prop
  | [], a => Q a
  | o :: rest, a => ∃ v, YieldsR P ops W0 o v a ∧ wpRel P ops W0 Q rest (a.put o.dst v)
theorem wpRel_cons {Q : Act → Prop} {o : Oper} {rest : List Oper} {a : Act} (v : Value) (hg : o.guard = none) (h : ∀ W1, Below W0.heap.size W0 W1 → o.quietAt P a (fun w' => Below W1.heap.size W1 w') W1 v) (k : wpRel P ops W0 Q rest (a.put o.dst v)) : wpRel P ops W0 Q (o :: rest) a :=
  ⟨v, ⟨by unfold Region.wanted; rw [hg], h⟩, k⟩
/-- The blocks laid behind them, whatever their numbers. -/
def newAll (Q : Act → Prop) : List Oper → Act → Prop
  | [], a => Q a
  | o :: rest, a => ∀ g, newAll Q rest (a.put o.dst (ptr g))

theorem headF_lexN {fs : List Fr0} {n g : Nat} {Lq : Act → Prop} (hs : Region.sinkB md ops n = true) (hc : Region.chainB md ops n = true) (hn : n < ops.size) :
    ∀ (l : List Oper) (k : Nat) (listed : Array Bool) (a : Act), (∀ j, j < l.length → l[j]? = ops[k + j]?) → k + l.length = n → HeadInv md ops n listed → (∀ j, j < k → listed.getD j true = true) →
    (∀ j, k ≤ j → j < n → ∃ f ∈ fs, f.ix = j) → Region.lexHead md ops g l.length k listed = true → newAll Lq l a →
    headF P md ops W0 fs n (fun listed' a' => (HeadInv md ops n listed' ∧ Region.seqB md ops g n listed' = true) ∧ Lq a') l.length listed a
  | [], k, listed, a, _, hk, inv, _, _, hB, h => by
    have : k = n := by simpa using hk
    subst this
    exact ⟨⟨inv, by simpa [Region.lexHead] using hB⟩, h⟩
  | o :: l, k, listed, a, hl, hk, inv, hpre, hfs, hB, h => by
    have h0 : ops[k]? = some o := by simpa using (hl 0 (by simp)).symm
    simp only [List.length_cons, Region.lexHead, Bool.and_eq_true] at hB
    obtain ⟨⟨hr, hf⟩, hB'⟩ := hB
    have hkn : k < n := by simp only [List.length_cons] at hk; omega
    have hr' : k ∈ Region.ready md ops listed := by simpa using hr
    obtain ⟨f0, hf0, hfi⟩ := hfs k (Nat.le_refl _) hkn
    refine headF_new h0 hf0 hfi hs hc hn hkn (fun listed' a' hL => seqB_ready hL.1.2) l.length listed a inv (Region.free_spec h0 hf) (fun j hj hj0 => ?_) hr' (fun u => ?_)
    · refine hfs j ?_ hj
      rcases Nat.lt_or_ge j k with h1 | h1
      · rw [hpre j h1] at hj0; cases hj0
      · exact h1
    · exact headF_lexN hs hc hn l (k + 1) _ _ (fun j hj => by have := hl (j + 1) (by simp; omega); simpa [Nat.add_assoc, Nat.add_comm 1 j] using this) (by simp only [List.length_cons] at hk; omega) (inv.set hr' hkn)
        (fun j hj => by
          by_cases hjk : k = j
          · subst hjk
            rw [Array.getD_eq_getD_getElem?, Array.getElem?_setIfInBounds_self_of_lt (by rw [inv.size]; omega)]
            rfl
          · rw [getD_set_ne true hjk]; exact hpre j (by omega))
        (fun j hj hjn => hfs j (by omega) hjn) hB' (h u)

theorem headF_lex {fs : List Fr0} {n g q : Nat} {Lq : Act → Prop} {lf : List Oper} (hsel : Region.noSelect ops = true) (hs : Region.sinkB md ops n = true) (hc : Region.chainB md ops n = true) (hn : n < ops.size) (hq : ∀ f ∈ fs, q ≤ f.ix) (hfs : ∀ j, q ≤ j → j < n → ∃ f ∈ fs, f.ix = j) :
    ∀ (l : List Oper) (k : Nat) (listed : Array Bool) (a : Act), (∀ j, j < (l ++ lf).length → (l ++ lf)[j]? = ops[k + j]?) → k + l.length = q → q + lf.length = n → HeadInv md ops n listed → (∀ j, j < k → listed.getD j true = true) →
    Region.lexHead md ops g (l ++ lf).length k listed = true → wpRel P ops W0 (newAll Lq lf) l a →
    headF P md ops W0 fs n (fun listed' a' => (HeadInv md ops n listed' ∧ Region.seqB md ops g n listed' = true) ∧ Lq a') (l ++ lf).length listed a
  | [], k, listed, a, hl, hk, hqn, inv, hpre, hB, h => by
    have hkq : k = q := by simpa using hk
    subst hkq
    exact headF_lexN hs hc hn lf k listed a (by simpa using hl) hqn inv hpre hfs (by simpa using hB) h
  | o :: l, k, listed, a, hl, hk, hqn, inv, hpre, hB, h => by
    have h0 : ops[k]? = some o := by simpa using (hl 0 (by simp)).symm
    simp only [List.cons_append, List.length_cons, Region.lexHead, Bool.and_eq_true] at hB
    obtain ⟨⟨hr, hf⟩, hB'⟩ := hB
    have hkq : k < q := by simp only [List.length_cons] at hk; omega
    have hkn : k < n := by omega
    have hr' : k ∈ Region.ready md ops listed := by simpa using hr
    obtain ⟨v, hy, hK⟩ := h
    exact headF_first h0 (fun f hf => by have := hq f hf; omega) (Region.noSelect_spec hsel) hs hc hn hkn (fun listed' a' hL => seqB_ready hL.1.2) (l ++ lf).length listed a inv (Region.free_spec h0 hf) hr' hy
      (headF_lex hsel hs hc hn hq hfs l (k + 1) _ _ (fun j hj => by have := hl (j + 1) (by simp at hj ⊢; omega); simpa [Nat.add_assoc, Nat.add_comm 1 j] using this) (by simp only [List.length_cons] at hk; omega) hqn (inv.set hr' hkn)
        (fun j hj => by
          by_cases hjk : k = j
          · subst hjk
            rw [Array.getD_eq_getD_getElem?, Array.getElem?_setIfInBounds_self_of_lt (by rw [inv.size]; omega)]
            rfl
          · rw [getD_set_ne true hjk]; exact hpre j (by omega)) hB' hK)

/-- What is known of the blocks that are laid. -/
structure Got (W0 : World) (fs : List Fr0) (listed : Array Bool) (a : Act) (w : World) : Prop where
  beh : Below W0.heap.size W0 w
  got : ∀ f ∈ fs, listed.getD f.ix false = true → ∃ g, a.tmps[f.dst]? = some (ptr g) ∧ W0.heap.size ≤ g ∧ Var w g f.ty f.cells
  far : ∀ f ∈ fs, ∀ f' ∈ fs, f.ix ≠ f'.ix → listed.getD f.ix false = true → listed.getD f'.ix false = true → ∀ g, a.tmps[f.dst]? = some (ptr g) → a.tmps[f'.dst]? ≠ some (ptr g)

/-- What an allocation does. -/
structure LaysB (P : Program) (ops : Array Oper) (f : Fr0) : Prop where
  op : ∃ o, ops[f.ix]? = some o ∧ o.dst = some f.dst ∧ o.guard = none ∧ ∀ (ρ : Operand → Value) w, (execOp ρ o).run P w = .ok (.value (ptr w.heap.size)) (w.alloc (.cells f.cells f.ty))
  own : ∀ j o, ops[j]? = some o → j ≠ f.ix → o.dst ≠ some f.dst

theorem put_other {a : Act} {d : Option Tmp} {v : Value} {t : Tmp} (h : d ≠ some t) : (a.put d v).tmps[t]? = a.tmps[t]? := by
  cases d with
  | none => rfl
  | some x =>
    unfold Act.put
    rw [Array.getElem?_setIfInBounds_ne (fun e => h (by rw [e]))]
theorem put_self {a : Act} {v : Value} {t : Tmp} (h : t < a.tmps.size) : (a.put (some t) v).tmps[t]? = some v := by
  unfold Act.put
  rw [Array.getElem?_setIfInBounds_self_of_lt h]
theorem put_size {a : Act} {d : Option Tmp} {v : Value} : (a.put d v).tmps.size = a.tmps.size := by
  cases d with
  | none => rfl
  | some x => unfold Act.put; simp
theorem getD_set_false {listed : Array Bool} {i j : Nat} (h : (listed.setIfInBounds i true).getD j false = true) (hne : i ≠ j) : listed.getD j false = true := by
  rw [getD_set_ne false hne] at h
  exact h

theorem Got.quiet {fs : List Fr0} {listed : Array Bool} {a : Act} {w w' : World} {i : Nat} {o : Oper} {v : Value} (h : Got W0 fs listed a w) (hf : ∀ f ∈ fs, LaysB P ops f) (hi : ops[i]? = some o) (hne : ∀ f ∈ fs, f.ix ≠ i) (hb : Below w.heap.size w w') : Got W0 fs (listed.setIfInBounds i true) (a.put o.dst v) w' := by
  refine ⟨h.beh.trans (hb.mono h.beh.size), fun f hm hl => ?_, fun f hm f' hm' hd hl hl' g hg => ?_⟩
  · obtain ⟨g, hg, hge, hv⟩ := h.got f hm (getD_set_false hl (Ne.symm (hne f hm)))
    exact ⟨g, by rw [put_other ((hf f hm).own i o hi (Ne.symm (hne f hm)))]; exact hg, hge, hv.keep hb⟩
  · rw [put_other ((hf f hm).own i o hi (Ne.symm (hne f hm)))] at hg
    rw [put_other ((hf f' hm').own i o hi (Ne.symm (hne f' hm')))]
    exact h.far f hm f' hm' hd (getD_set_false hl (Ne.symm (hne f hm))) (getD_set_false hl' (Ne.symm (hne f' hm'))) g hg

theorem Got.laid {fs : List Fr0} {listed : Array Bool} {a : Act} {w : World} {f0 : Fr0} {o : Oper} (h : Got W0 fs listed a w) (hf : ∀ f ∈ fs, LaysB P ops f) (hu : ∀ f ∈ fs, ∀ f' ∈ fs, f.ix = f'.ix → f = f') (hm0 : f0 ∈ fs) (hi : ops[f0.ix]? = some o) (hd0 : o.dst = some f0.dst) (hsz : f0.dst < a.tmps.size) :
    Got W0 fs (listed.setIfInBounds f0.ix true) (a.put o.dst (ptr w.heap.size)) (w.alloc (.cells f0.cells f0.ty)) := by
  have old : ∀ f ∈ fs, f.ix ≠ f0.ix → (a.put o.dst (ptr w.heap.size)).tmps[f.dst]? = a.tmps[f.dst]? := fun f hm hne => put_other ((hf f hm).own f0.ix o hi (Ne.symm hne))
  have new : (a.put o.dst (ptr w.heap.size)).tmps[f0.dst]? = some (ptr w.heap.size) := by rw [hd0]; exact put_self hsz
  refine ⟨h.beh.alloc h.beh.size _, fun f hm hl => ?_, fun f hm f' hm' hd hl hl' g hg => ?_⟩
  · by_cases he : f.ix = f0.ix
    · obtain rfl := hu f hm f0 hm0 he
      exact ⟨w.heap.size, new, h.beh.size, Var.new _ _ _⟩
    · obtain ⟨g, hg, hge, hv⟩ := h.got f hm (getD_set_false hl (Ne.symm he))
      exact ⟨g, by rw [old f hm he]; exact hg, hge, hv.alloc _⟩
  · by_cases he : f.ix = f0.ix
    · obtain rfl := hu f hm f0 hm0 he
      rw [new] at hg
      rw [old f' hm' (Ne.symm hd)]
      intro e
      obtain ⟨g', hg', _, hv⟩ := h.got f' hm' (getD_set_false hl' hd)
      rw [hg'] at e
      have e1 : ptr w.heap.size = ptr g := Option.some.inj hg
      have e2 : ptr g' = ptr g := Option.some.inj e
      have := hv.lt
      unfold ptr at e1 e2
      simp at e1 e2
      omega
    · by_cases he' : f'.ix = f0.ix
      · obtain rfl := hu f' hm' f0 hm0 he'
        rw [new]
        rw [old f hm he] at hg
        intro e
        obtain ⟨g', hg', _, hv⟩ := h.got f hm (getD_set_false hl (Ne.symm he))
        rw [hg'] at hg
        have e1 : ptr w.heap.size = ptr g := Option.some.inj e
        have e2 : ptr g' = ptr g := Option.some.inj hg
        have := hv.lt
        unfold ptr at e1 e2
        simp at e1 e2
        omega
      · rw [old f hm he] at hg
        rw [old f' hm' he']
        exact h.far f hm f' hm' hd (getD_set_false hl (Ne.symm he)) (getD_set_false hl' (Ne.symm he')) g hg

theorem headF_any {fs : List Fr0} {n g N : Nat} {L : Array Bool → Act → Prop} {Q' : Exit → Act → World → Prop} (hf : ∀ f ∈ fs, LaysB P ops f) (hu : ∀ f ∈ fs, ∀ f' ∈ fs, f.ix = f'.ix → f = f') (hN : ∀ f ∈ fs, f.dst < N)
    (hL : ∀ listed a w, Got W0 fs listed a w → L listed a → wpAny P md ops Q' g listed a w) :
    ∀ (f : Nat) (listed : Array Bool) (a : Act) (w : World), a.tmps.size = N → Got W0 fs listed a w → headF P md ops W0 fs n L f listed a → wpAny P md ops Q' (f + g) listed a w
  | 0, listed, a, w, _, hg, h => by rw [Nat.zero_add]; exact hL _ _ _ hg h
  | f + 1, listed, a, w, hsz, hg, h => by
    rw [show f + 1 + g = (f + g) + 1 by omega]
    refine ⟨fun h0 => absurd h0 h.1, fun i hi => ?_⟩
    obtain ⟨_, o, ho, h1⟩ := h.2 i hi
    unfold wpOp
    simp only [ho]
    rcases h1 with ⟨f0, hm0, hfi, hk⟩ | ⟨hne, v, hy, hk⟩
    · subst hfi
      obtain ⟨o', ho', hd0, hgd, hrun⟩ := (hf f0 hm0).op
      obtain rfl : o = o' := Option.some.inj (ho.symm.trans ho')
      have hw : Region.wanted o (yielded ops a.tmps) = true := by unfold Region.wanted; rw [hgd]
      simp only [hw, if_true]
      refine .inl ?_
      unfold Oper.wp
      rw [hrun]
      simp only [Oper.upon]
      exact headF_any hf hu hN hL f _ _ _ (by rw [put_size]; exact hsz) (hg.laid hf hu hm0 ho hd0 (by rw [hsz]; exact hN f0 hm0)) (hk _)
    · obtain ⟨hw, hv⟩ := hy
      simp only [hw, if_true]
      refine .inl ?_
      have h3 := hv w hg.beh
      unfold Oper.quietAt at h3
      unfold Oper.wp
      have step : ∀ w', Below w.heap.size w w' → wpAny P md ops Q' (f + g) (listed.setIfInBounds i true) (a.put o.dst v) w' := fun w' hb =>
        headF_any hf hu hN hL f _ _ _ (by rw [put_size]; exact hsz) (hg.quiet hf ho hne hb) hk
      generalize (execOp a.eval o).run P w = r at *
      cases r with
      | ok x w' =>
        cases x <;> simp only [Oper.quietUpon] at h3 <;> simp only [Oper.upon]
        case value u =>
          obtain ⟨e1, e2⟩ := h3
          rw [e1, e2]
          exact step _ (Below.refl _ _)
        case skip =>
          obtain ⟨e1, e2⟩ := h3
          rw [e1, ← e2]
          exact step _ (Below.refl _ _)
        case enter f' args =>
          obtain ⟨e1, hcl⟩ := h3
          rw [e1]
          exact hcl.mono fun e w'' ⟨he, hw''⟩ => by subst he; exact step _ hw''
      | halt x w' => simp only [Oper.quietUpon] at h3

/-- What is known of them behind the head. -/
structure Done (W0 : World) (fs : List Fr0) (a : Act) (w : World) : Prop where
  is : ∃ listed, Got W0 fs listed a w ∧ ∀ f ∈ fs, listed.getD f.ix false = true

theorem wp_region_fresh {id : Nat} {Q : Exit → Act → World → Prop} {a : Act} {w : World} {lq lf lt : List Oper} (fs : List Fr0) (N : Nat) (hm : P.follows .mixedOrders = true) (hB : Region.lexTailB .any (lq ++ lf ++ lt).toArray (lq.length + lf.length) = true)
    (hq : ∀ f ∈ fs, lq.length ≤ f.ix) (hfn : ∀ f ∈ fs, f.ix < lq.length + lf.length) (hfs : ∀ j, lq.length ≤ j → j < lq.length + lf.length → ∃ f ∈ fs, f.ix = j) (hf : ∀ f ∈ fs, LaysB P (lq ++ lf ++ lt).toArray f) (hu : ∀ f ∈ fs, ∀ f' ∈ fs, f.ix = f'.ix → f = f') (hN : ∀ f ∈ fs, f.dst < N) (hsz : a.tmps.size = N)
    (h : wpRel P (lq ++ lf ++ lt).toArray w (newAll (fun a' => ∀ w', Done w fs a' w' → wpList P (lq ++ lf ++ lt).toArray Q lt a' w') lf) lq a) : (Code.region id (lq ++ lf ++ lt).toArray true).wp P Q a w := by
  obtain ⟨ops, hops⟩ : ∃ ops, (lq ++ lf ++ lt).toArray = ops := ⟨_, rfl⟩
  obtain ⟨n, hn'⟩ : ∃ n, lq.length + lf.length = n := ⟨_, rfl⟩
  have hsize : ops.size = n + lt.length := by rw [← hops, ← hn']; simp; omega
  have hget : ∀ j, (lq ++ lf ++ lt)[j]? = ops[j]? := fun j => by rw [← hops, List.getElem?_toArray]
  rw [hops] at hB hf h ⊢
  rw [hn'] at hB hfs hfn
  simp only [Region.lexTailB, Bool.and_eq_true, decide_eq_true_eq] at hB
  obtain ⟨⟨⟨⟨hsel, hn⟩, hs⟩, hc⟩, hlex⟩ := hB
  have inv0 : HeadInv .any ops n (Array.replicate ops.size false) :=
    ⟨by simp, fun j oj _ hl => (by rw [getD_replicate_false] at hl; cases hl), fun t _ ht => getD_in (by simpa using ht) (getD_replicate_false _ _)⟩
  have H := headF_lex (P := P) (W0 := w) (md := .any) (g := ops.size - n) hsel hs hc hn hq hfs lq 0 _ a (fun j hj => by
    rw [Nat.zero_add, ← hget j, List.getElem?_append_left hj]) (by simp) hn' inv0 (fun j hj => absurd hj (Nat.not_lt_zero _)) (by rw [List.length_append, hn']; exact hlex) h
  refine wp_region_any hm ?_
  have hl : (lq ++ lf).length = n := by rw [List.length_append, hn']
  rw [hl] at H
  have G0 : Got w fs (Array.replicate ops.size false) a { w with drawn := w.drawn + 1 } :=
    ⟨⟨rfl, rfl, rfl, Nat.le_refl _, fun _ _ => rfl⟩, fun f _ hl => (by rw [getD_replicate_false] at hl; cases hl), fun f _ f' _ _ hl => (by rw [getD_replicate_false] at hl; cases hl)⟩
  have conv : ∀ L, headF P .any ops w fs n L n (Array.replicate ops.size false) a → (∀ listed a' w', Got w fs listed a' w' → L listed a' → wpAny P .any ops Q (ops.size - n) listed a' w') → wpAny P .any ops Q (n + (ops.size - n)) (Array.replicate ops.size false) a { w with drawn := w.drawn + 1 } :=
    fun L H hL => headF_any hf hu hN hL n _ a _ hsz G0 H
  rw [show n + (ops.size - n) = ops.size by omega] at conv
  refine conv _ H (fun listed a' w' hg hL => ?_)
  have hlt : lt.length = ops.size - n := by omega
  have hall : ∀ f ∈ fs, listed.getD f.ix false = true := fun f hm => by
    cases hun : listed.getD f.ix false with
    | true => rfl
    | false =>
      have hfn' : f.ix < n := hfn f hm
      have h0 := getD_in (by rw [hL.1.1.size]; omega) hun
      have hw := tail_waits hs hc hn hL.1.1 _ f.ix rfl hfn' h0 n (Nat.le_refl _)
      have hsq := hL.1.2
      rw [show ops.size - n = (ops.size - n - 1) + 1 by omega] at hsq
      simp only [Region.seqB, Bool.and_eq_true, decide_eq_true_eq] at hsq
      rw [hsq.1] at hw
      exact absurd (List.mem_singleton.2 rfl) hw
  have := wpAny_of_seq (P := P) (md := .any) (Q' := Q) lt n listed a' w' (fun j => by
    rw [← hget, List.getElem?_append_right (by rw [hl]; omega), hl]
    congr 1
    omega) (by rw [hlt]; exact hL.1.2) (hL.2 w' ⟨listed, hg, hall⟩)
  rwa [hlt] at this

theorem wp_region_fresh_lit {id : Nat} {Q : Exit → Act → World → Prop} {a : Act} {w : World} {l : List Oper} (q m : Nat) (fs : List Fr0) (N : Nat) (hm : P.follows .mixedOrders = true) (hlen : q + m ≤ l.length) (hB : Region.lexTailB .any l.toArray (q + m) = true)
    (hq : ∀ f ∈ fs, q ≤ f.ix) (hfn : ∀ f ∈ fs, f.ix < q + m) (hfs : ∀ j, q ≤ j → j < q + m → ∃ f ∈ fs, f.ix = j) (hf : ∀ f ∈ fs, LaysB P l.toArray f) (hu : ∀ f ∈ fs, ∀ f' ∈ fs, f.ix = f'.ix → f = f') (hN : ∀ f ∈ fs, f.dst < N) (hsz : a.tmps.size = N)
    (h : wpRel P l.toArray w (newAll (fun a' => ∀ w', Done w fs a' w' → wpList P l.toArray Q (l.drop (q + m)) a' w') ((l.drop q).take m)) (l.take q) a) : (Code.region id l.toArray true).wp P Q a w := by
  have e : l.take q ++ (l.drop q).take m ++ l.drop (q + m) = l := by
    rw [← List.drop_drop, List.append_assoc, List.take_append_drop, List.take_append_drop]
  have l1 : (l.take q).length = q := by rw [List.length_take]; omega
  have l2 : ((l.drop q).take m).length = m := by rw [List.length_take, List.length_drop]; omega
  have := wp_region_fresh (P := P) (id := id) (Q := Q) (a := a) (w := w) (lq := l.take q) (lf := (l.drop q).take m) (lt := l.drop (q + m)) fs N hm (by rw [e, l1, l2]; exact hB) (by rw [l1]; exact hq) (by rw [l1, l2]; exact hfn) (by rw [l1, l2]; exact hfs) (by rw [e]; exact hf) hu hN hsz (by rw [e]; exact h)
  rw [e] at this
  exact this

def ownB (ops : Array Oper) (ix : Nat) (d : Tmp) : Bool := (List.range ops.size).all fun j => j == ix || ((ops[j]?).bind (·.dst)) != some d
theorem laysB_of {f : Fr0} {o : Oper} (h0 : ops[f.ix]? = some o) (hd : o.dst = some f.dst) (hg : o.guard = none) (hr : ∀ (ρ : Operand → Value) w, (execOp ρ o).run P w = .ok (.value (ptr w.heap.size)) (w.alloc (.cells f.cells f.ty))) (h : ownB ops f.ix f.dst = true) : LaysB P ops f := by
  refine ⟨⟨o, h0, hd, hg, hr⟩, fun j o' hj hne => ?_⟩
  have h1 := List.all_eq_true.1 h j (List.mem_range.2 (Array.getElem?_eq_some_iff.1 hj).1)
  simp only [Bool.or_eq_true, beq_iff_eq, hne, false_or, hj, Option.bind_some, bne_iff_ne, ne_eq] at h1
  exact h1
theorem below_cells {W W1 : World} (hb : Below W.heap.size W W1) : ∀ b o, b < W.heap.size → W1.cell? ⟨b, o, none⟩ = W.cell? ⟨b, o, none⟩ := fun b _ h => hb.cell (p := ⟨b, _, none⟩) h

theorem Done.beh {fs : List Fr0} {a : Act} {w : World} (h : Done W0 fs a w) : Below W0.heap.size W0 w := by
  obtain ⟨listed, hg, _⟩ := h.is
  exact hg.beh
theorem Done.one {fs : List Fr0} {a : Act} {w : World} (h : Done W0 fs a w) (f : Fr0) (hm : f ∈ fs) {g : Nat} (hg : a.tmps[f.dst]? = some (ptr g)) : W0.heap.size ≤ g ∧ Var w g f.ty f.cells := by
  obtain ⟨listed, hgot, hall⟩ := h.is
  obtain ⟨g', e, h1, h2⟩ := hgot.got f hm (hall f hm)
  rw [hg] at e
  have e1 : ptr g = ptr g' := Option.some.inj e
  unfold ptr at e1
  simp only [Value.pointer.injEq, Option.some.injEq, Addr.mk.injEq, and_true] at e1
  rw [e1]
  exact ⟨h1, h2⟩
theorem Done.ne {fs : List Fr0} {a : Act} {w : World} (h : Done W0 fs a w) (f f' : Fr0) (hm : f ∈ fs) (hm' : f' ∈ fs) (hne : f.ix ≠ f'.ix) {g g' : Nat} (hg : a.tmps[f.dst]? = some (ptr g)) (hg' : a.tmps[f'.dst]? = some (ptr g')) : g ≠ g' := fun e => by
  obtain ⟨listed, hgot, hall⟩ := h.is
  exact hgot.far f hm f' hm' hne (hall f hm) (hall f' hm') g hg (by rw [hg', e])
end

end Go.Proofs.Ythbndilnobjjgaa
