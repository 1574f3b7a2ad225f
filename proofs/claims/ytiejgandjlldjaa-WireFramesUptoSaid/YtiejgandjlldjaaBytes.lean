/-
  Byte slices in memory; two laws: append of one byte slice behind another. Plain lemmas and laws; no walk.
-/
import Derived.Test.YtiejgandjlldjaaMem
import Derived.Deep.AppendSrc
import Derived.Deep.DeepAppendWide
import Derived.Laws.AppendOwn
import Derived.Laws.IdiomStrings
import Derived.Lib.Hide
namespace Go.Proofs.Ytiejgandjlldjaa
open Go.RowKit

theorem elt8 : Elt Try.prog 23 5 (.int .u8 0) 1 1 := ⟨Try.underlying23, by kernel_rfl, rfl, by omega⟩
def B8 (b : UInt8) : Value := .int .u8 (b.toNat : Int)

theorem map_get {l : List UInt8} {j : Nat} {u : Value} (hu : (l.map B8)[j]? = some u) : ∃ b, l[j]? = some b ∧ u = B8 b := by
  rw [List.getElem?_map] at hu
  cases hlj : l[j]? with
  | none => rw [hlj] at hu; cases hu
  | some b => rw [hlj] at hu; injection hu with hu; exact ⟨b, rfl, hu.symm⟩

/-- A slice of bytes: what it reads as. -/
structure Bs (w : World) (A : Option Addr) (n c : Nat) (l : List UInt8) : Prop where
  len : l.length = n
  cap : n ≤ c
  big : c ≤ maxLen
  at_ : n = 0 ∨ ∃ g o, A = some ⟨g, o, none⟩ ∧ g < w.heap.size ∧ ∀ j b, l[j]? = some b → w.cell? ⟨g, o + j, none⟩ = some (B8 b)
section
variable {w w' : World} {A B : Option Addr} {n m c d : Nat} {l k : List UInt8}
theorem Bs.below (h : Bs w A n c l) (hb : Below w.heap.size w w') : Bs w' A n c l := by
  refine ⟨h.len, h.cap, h.big, ?_⟩
  rcases h.at_ with h0 | ⟨g, o, e, hg, hc⟩
  · exact .inl h0
  · exact .inr ⟨g, o, e, Nat.lt_of_lt_of_le hg hb.size, fun j b hj => (hb.cell (p := ⟨g, o + j, none⟩) hg).trans (hc j b hj)⟩
theorem Bs.nil (w : World) : Bs w none 0 0 [] := ⟨rfl, Nat.le_refl _, Nat.zero_le _, .inl rfl⟩
theorem Bs.empty (w : World) (A : Option Addr) (hc : c ≤ maxLen) : Bs w A 0 c [] := ⟨rfl, Nat.zero_le _, hc, .inl rfl⟩
theorem Bs.clip (h : Bs w A n c l) : Bs w A n n l := ⟨h.len, Nat.le_refl _, Nat.le_trans h.cap h.big, h.at_⟩
theorem Bs.pos (h : Bs w A n c l) (hn : 0 < n) : ∃ g o, A = some ⟨g, o, none⟩ ∧ g < w.heap.size ∧ ∀ j b, l[j]? = some b → w.cell? ⟨g, o + j, none⟩ = some (B8 b) := by
  rcases h.at_ with h0 | h
  · omega
  · exact h
theorem Bs.src (h : Bs w A n c l) : Src Try.prog 1 23 (.slice A n c) n (l.map B8) w := by
  have h1 : ∀ u ∈ l.map B8, u.oneCell' = true := fun u hu => by
    obtain ⟨b, _, rfl⟩ := List.mem_map.1 hu
    rfl
  have hl := h.len
  rcases h.at_ with h0 | ⟨g, o, rfl, hg, hc⟩
  · subst h0
    have hl0 : l = [] := List.eq_nil_of_length_eq_zero hl
    subst hl0
    cases A with
    | none => exact Src.ofNil w Try.underlying23 c
    | some a => exact Src.ofSlice w Try.underlying23 a 0 c [] rfl (fun j u hu => by simp at hu) h1
  · refine Src.ofSlice w Try.underlying23 _ n c _ (by simp [hl]) (fun j u hu => ?_) h1
    have ha : ((⟨g, o, none⟩ : Addr).add j) = ⟨g, o + j, none⟩ := by
      unfold Addr.add
      by_cases hj0 : j = 0 <;> simp [hj0]
    rw [ha]
    obtain ⟨b, hlj, rfl⟩ := map_get hu
    exact hc j b hlj
theorem bs_of_own {base : Nat} (h : w.ownsRow base 5 1 (.slice A n c) n (l.map B8)) : Bs w A n c l := by
  have hl : l.length = n := by have := h.1; simpa using this
  rcases h.2 with ⟨hv, h0⟩ | ⟨g, cap, cur, hv, _, hcur, hle, hm, hsz, htk⟩
  · injection hv with _ _ hc
    exact ⟨hl, by omega, by omega, .inl h0⟩
  · injection hv with hA _ hc
    subst hA hc
    have hlt : g < w.heap.size := by
      rcases Nat.lt_or_ge g w.heap.size with h0 | h0
      · exact h0
      · rw [Array.getElem?_eq_none h0] at hcur; cases hcur
    refine ⟨hl, hle, hm, .inr ⟨g, 0, rfl, hlt, fun j b hj => ?_⟩⟩
    rw [cell_of_row w g (0 + j) cur _ (0, 0) hcur, Nat.zero_add]
    have hjn : j < n := by
      rcases Nat.lt_or_ge j l.length with h0 | h0
      · omega
      · rw [List.getElem?_eq_none h0] at hj; cases hj
    have hu : (l.map B8)[j]? = some (B8 b) := by rw [List.getElem?_map, hj]; rfl
    rw [← htk, List.getElem?_take_of_lt (by omega)] at hu
    simpa using hu

theorem empty_load (a : Addr) (w : World) : (loadCells a 0).run Try.prog w = .ok #[] w := run_loadCells_list w a [] (fun j v h => by simp at h)

theorem take_front (xs : List Value) (z : Array Value) (n : Nat) (h : xs.length = n) : (xs.toArray ++ z).toList.take (n * 1) = xs := by
  subst h
  simp
/-- 'append(a[:n:n], b...)': nothing that was there is written to. -/
theorem run_join (ty : TypeId) (ha : Bs w A n n l) (hb : Bs w B m d k) (hbytes : n + m ≤ 225000000000000) :
    ∃ A' c' w', (Builtin.append_ #[23, 23] ty #[.slice A n n, .slice B m d]).run Try.prog w = .ok (.slice A' (n + m) c') w' ∧ Bs w' A' (n + m) c' (l ++ k) ∧ Below w.heap.size w w' ∧
      (0 < m → w'.ownsRow w.heap.size 5 1 (.slice A' (n + m) c') (n + m) ((l ++ k).map B8)) := by
  obtain ⟨i, hi, hz, hsz, hby⟩ := info_parts elt8.info
  have hs := hb.src
  rw [← hsz] at hs
  rcases Nat.eq_zero_or_pos m with h0 | h0
  · subst h0
    have hk0 : k = [] := List.eq_nil_of_length_eq_zero hb.len
    subst hk0
    refine ⟨A, n, w, ?_, by rw [List.append_nil]; exact ha, Below.refl _ _, fun h => absurd h (by omega)⟩
    rcases hs.kind with ⟨e', hk⟩ | hk <;> cases A <;> simp [Builtin.append_, run_underlying Try.underlying23, sizeOf, typeInfo, hi, hs.len, hs.cells, storeCells]
  · have hgl : ∀ w' : World, (∀ a, w'.cell? a = w.cell? a) → (Builtin.firstCells i.size n (.slice A n n)).run Try.prog w' = .ok (l.map B8).toArray w' := fun w1 hw1 => by
      rw [hsz]
      rcases ha.at_ with h1 | ⟨g, o, rfl, hg, hc⟩
      · subst h1
        have hl0 : l = [] := List.eq_nil_of_length_eq_zero ha.len
        subst hl0
        cases A with
        | none => exact run_firstCells_none w1 1 0 0 0
        | some a => simp [Builtin.firstCells, empty_load]
      · refine run_firstCells_some w1 1 n _ n n _ (by simp [ha.len]) (fun j u hu => ?_)
        have hadd : ((⟨g, o, none⟩ : Addr).add j) = ⟨g, o + j, none⟩ := by
          unfold Addr.add
          by_cases hj0 : j = 0 <;> simp [hj0]
        rw [hadd, hw1]
        obtain ⟨b, hlj, rfl⟩ := map_get hu
        exact hc j b hlj
    have hr := run_append_grow_src w 23 23 ty 5 i (.int .u8 0) Try.underlying23 hi hz A n n (l.map B8) (hgl w.drew (fun _ => rfl)) _ m (k.map B8) hs (by omega) (by omega) (by rw [hby]; exact growslice_fits_wide (by omega) (by omega))
    have hc1 := grownCap_ge w (n + m) n 5
    have hc2 := grownCap_le_maxLen w (n + m) n 5 (by unfold maxLen; omega)
    have hll := ha.len
    have hkl := hb.len
    obtain ⟨c', hc'⟩ : ∃ z, grownCap w (n + m) n 5 = z := ⟨_, rfl⟩
    rw [hc'] at hr hc1 hc2
    have hown : (w.drew.alloc (.cells ((l.map B8 ++ k.map B8).toArray ++ Builtin.zeroCells (Value.int .u8 0).cells (c' - (n + m))) 5)).ownsRow w.heap.size 5 1 (.slice (some ⟨w.heap.size, 0, none⟩) (n + m) c') (n + m) ((l ++ k).map B8) := by
      refine ⟨by simp [hll, hkl], .inr ⟨w.heap.size, c', _, rfl, Nat.le_refl _, heap_alloc_new w.drew _, hc1, hc2, ?_, ?_⟩⟩
      · simp [Builtin.zeroCells, Value.cells, hll, hkl]; omega
      · rw [List.map_append]
        exact take_front _ _ _ (by simp [hll, hkl])
    exact ⟨_, _, _, hr, bs_of_own hown, (Below.refl _ _).drew.alloc (by simp) _, fun _ => hown⟩

theorem wpList_join {ops : Array Oper} {rest : List Oper} {o : Oper} {a : Act} {Q : Exit → Act → World → Prop} (hgd : o.guard = none) (s x : Operand)
    (ho : o.op = .call { callee := .builtin .append, args := #[s, x], argTypes := #[23, 23] })
    (hs : a.eval s = .slice A n n) (hx : a.eval x = .slice B m d) (ha : Bs w A n n l) (hb : Bs w B m d k) (hbytes : n + m ≤ 225000000000000)
    (h : ∀ A' c' w', Bs w' A' (n + m) c' (l ++ k) → Below w.heap.size w w' → (0 < m → w'.ownsRow w.heap.size 5 1 (.slice A' (n + m) c') (n + m) ((l ++ k).map B8)) → wpList Try.prog ops Q rest (a.put o.dst (.slice A' (n + m) c')) w') :
    wpList Try.prog ops Q (o :: rest) a w := by
  refine wpList_plain hgd fun K hK => ?_
  obtain ⟨A', c', w', hr, h2, h3, h4⟩ := run_join (ty := o.type) ha hb hbytes
  unfold Oper.wp execOp
  simp only [ho, resolve, invoke, builtin, Sem.run_bind, Sem.run_pure, Result.andThen_ok, List.map_toArray, List.map_cons, List.map_nil, hs, hx, hr]
  exact hK _ _ (h A' c' w' h2 h3 h4)
end

end Go.Proofs.Ytiejgandjlldjaa
