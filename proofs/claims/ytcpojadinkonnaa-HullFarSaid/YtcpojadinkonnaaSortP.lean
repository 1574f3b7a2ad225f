/-
  slices.SortFunc at points of a row of one's own, under point.Cmp.
-/
import Derived.Test.YtcpojadinkonnaaSortL
import Derived.Test.YtcpojadinkonnaaSortR
namespace Go.Proofs.Ytcpojadinkonnaa
open Go.Shelf Go.RowKit Go.Lib Go.Sort

def encP (p : Pt) : List Value := [.int .i32 p.1, .int .i32 p.2]
theorem flat_at {qs : List Pt} {t : Nat} (h : t < qs.length * 2) : (flat qs)[t]? = some ((encP (gp qs (t / 2)))[t % 2]!) := by
  obtain ⟨e1, e2⟩ := flat_get qs (t / 2) (by omega)
  rcases Nat.mod_two_eq_zero_or_one t with h0 | h0
  · rw [h0]
    rw [show t / 2 * 2 = t by omega] at e1
    rw [e1]; rfl
  · rw [h0]
    rw [show t / 2 * 2 + 1 = t by omega] at e2
    rw [e2]; rfl
theorem arr_gp (d : Array Pt) (i : Nat) (h : i < d.size) : d[i]! = gp d.toList i := by
  unfold gp
  simp [h]
theorem flatK_at (d : Array Pt) {t : Nat} (h : t < d.size * 2) : (flat d.toList)[t]? = some ((flatK encP 2 d)[t]!) := by
  rw [get_flatK _ _ _ _ h, flat_at (by simpa using h), arr_gp d (t / 2) (by omega)]

theorem holds_own {W : World} {b n c g : Nat} {ps : List Pt} (h : W.ownsRow b 32 2 (.slice (some ⟨g, 0, none⟩) n c) n (flat ps)) (hn : ps.length = n) : HoldsK encP 2 W g 0 ps.toArray := fun j hj => by
  have hj' : j < n * 2 := by
    have := hj
    simp only [size_flatK, List.size_toArray, hn] at this
    exact this
  refine ⟨?_, ?_⟩
  · rw [Nat.zero_add, h.cellAt j hj']
    have := flatK_at ps.toArray (t := j) (by simpa [hn] using hj')
    simpa using this
  · rw [Nat.zero_add]
    exact h.frozenAt j

theorem sorted_own {W : World} {b n c g m : Nat} {xs : List Value} {d : Array Pt} {os : Array Obj} (h : W.ownsRow b 32 2 (.slice (some ⟨g, 0, none⟩) n c) n xs) (hd : d.size = n) (h0 : 0 < n) :
    (sortWorldK encP 2 W g 0 m d os).ownsRow b 32 2 (.slice (some ⟨g, 0, none⟩) n c) n (flat d.toList) ∧ W.grownBy (sortWorldK encP 2 W g 0 m d os) (some g) := by
  have hg := (h.lt g rfl).2
  have hold : ∀ k, k < W.heap.size → (sortWorldK encP 2 W g 0 m d os).heap[k]? = (putRowK encP 2 (Sort.ahead W m) g 0 d).heap[k]? := fun k hk => heap_grow_old _ os (by unfold putRowK putRow mapBlock Sort.ahead; simpa using hk)
  refine ⟨⟨by rw [flat_length]; simp [hd], ?_⟩, ⟨rfl, rfl, rfl, ?_, fun k hk hne => ?_⟩⟩
  · rcases h.2 with ⟨_, h1⟩ | ⟨g', cap, cur, hv, hb, hc, h1, h2, h3, h4⟩
    · omega
    · injection hv with hA _ hcap
      injection hA with hA
      injection hA with hA
      subst hA hcap
      refine .inr ⟨g, c, putCells id 0 (flatK encP 2 d) cur, rfl, hb, ?_, h1, h2, by simp [putCells, h3], ?_⟩
      · rw [hold g hg]
        unfold putRowK putRow mapBlock Sort.ahead
        simp only [Array.getElem?_modify, if_true]
        rw [hc]
        rfl
      · refine List.ext_getElem? fun t => ?_
        rcases Nat.lt_or_ge t (n * 2) with ht | ht
        · rw [List.getElem?_take_of_lt ht, flatK_at d (by rw [hd]; exact ht), Array.getElem?_toList]
          unfold putCells
          rw [Array.getElem?_mapIdx, Array.getElem?_eq_getElem (by rw [h3]; exact Nat.lt_of_lt_of_le ht (Nat.mul_le_mul_right 2 h1)), Option.map_some, if_pos ⟨Nat.zero_le _, by rw [size_flatK, hd]; omega⟩]
          rfl
        · rw [List.getElem?_eq_none (by rw [List.length_take]; omega), List.getElem?_eq_none (by rw [flat_length]; simp [hd]; omega)]
  · show W.heap.size ≤ (grow _ os).heap.size
    rw [size_grow]
    unfold putRowK putRow mapBlock Sort.ahead
    simp
  · rw [hold k hk]
    unfold putRowK putRow mapBlock Sort.ahead
    simp only [Array.getElem?_modify]
    rw [if_neg (fun e => hne (congrArg some e.symm))]

theorem pCf_ltOf : (ltOf fun x y : Pt => ptCmp x.1 x.2 y.1 y.2) = pLt := rfl
theorem perm_all {d d' : Array Pt} (h : PermIn 0 d.size d d') : d'.toList.Perm d.toList := by
  have h2 := h.2.2
  have e1 : d'.extract 0 d.size = d' := by rw [← h.1]; exact Array.extract_size
  rw [e1, Array.extract_size] at h2
  exact h2
theorem ord_all {d : Array Pt} {n : Nat} (hn : d.size = n) (h : SortedIn pLt 0 n d) : Ord d.toList := by
  refine List.pairwise_iff_getElem.2 fun i j hi hj hij => ?_
  have := h i j (Nat.zero_le _) hij (by rw [← hn]; simpa using hj)
  simp at hi hj
  rw [getElem!_pos d j hj, getElem!_pos d i hi] at this
  simpa using this

set_option maxHeartbeats 1000000 in
theorem sortFunc_any (ps : List Pt) (b n c : Nat) (A : Option Addr) (hn : ps.length = n) (hlen : n < 4611686018427387904) (w : World) (hown : w.ownsRow b 32 2 (.slice A n c) n (flat ps)) :
    Calls Try.prog 89 #[.slice A n c, .func (.func 70) #[] #[]] w fun e w' => e = .returned (.tuple #[]) ∧ ∃ qs, qs.Perm ps ∧ Ord qs ∧ w'.ownsRow b 32 2 (.slice A n c) n (flat qs) ∧ w.grownBy w' (Value.slice A n c).ownBlock := by
  rcases Nat.eq_zero_or_pos n with h0 | h0
  · subst h0
    refine (AnyF.slices_SortFunc_none (P := Try.prog) ptSort A c _ w).mono ?_
    rintro e w' ⟨rfl, rfl⟩
    exact ⟨rfl, ps, List.Perm.refl _, by rw [List.eq_nil_of_length_eq_zero hn]; exact List.Pairwise.nil, hown, World.grownBy.refl _ _⟩
  · obtain ⟨g, rfl, _⟩ := own_cells hown h0
    have eg : ∀ args w, (callFunc 70 args).run Try.prog w = .ok (.enter 70 args) w := enters_of Try.func70 (by kernel_rfl) rfl
    have hH := holds_own hown hn
    have hcmp : CmpLays Try.prog 70 #[] encP 2 (fun x y : Pt => ptCmp x.1 x.2 y.1 y.2) g 0 ps.toArray.size w := fun m os dk _ x y => pcmp_grown x.1 x.2 y.1 y.2 _
    have hs : ps.toArray.size = n := by simpa using hn
    have hcon := AnyQ.slices_SortFunc ptSort 2 Try.isAgg32 Try.sizeOf32 encP (fun _ => rfl) (fun x v hv => by simp [encP] at hv; rcases hv with rfl | rfl <;> rfl) (fun x y : Pt => ptCmp x.1 x.2 y.1 y.2) (by rw [pCf_ltOf]; exact pLt_swo) 70 #[] g 0 c ps.toArray w eg hcmp hH (hown.lt g rfl).2 (by rw [hs]; exact hlen)
    rw [hs] at hcon
    refine Calls.mono hcon ?_
    rintro e w' ⟨rfl, d', k, os, hp, hso, rfl⟩
    have hd : d'.size = n := by rw [hp.1, hs]
    obtain ⟨h1, h2⟩ := sorted_own (m := k) (os := os) hown hd h0
    refine ⟨rfl, d'.toList, ?_, ord_all hd (by rw [← pCf_ltOf]; exact hso), h1, h2⟩
    have := perm_all (d := ps.toArray) (d' := d') (by rw [hs]; exact hp)
    simpa using this

end Go.Proofs.Ytcpojadinkonnaa
