/-
  Proved: the law WireLays returns true for any Adds and any answers asked. No condition.
-/
import Derived.Test.YtiejgandjlldjaaLaysW
import Derived.Lib.SmallJoins
namespace Go.Proofs.Ytiejgandjlldjaa
open Go.ChangeShapes Go.WideShapes Go.ChangeAt Go.RowKit Go.Deep

theorem weights_mem_all {H : Type} {P : Program} {e : TypeId} {d : DataW H} {n : Nat} (hn : n ∈ d.weights P e) : ∀ {l : List (DataW H)}, d ∈ l → n ∈ DataW.weightsAll P e l
  | d' :: r, h => by
    simp only [DataW.weightsAll, List.mem_append]
    rcases List.mem_cons.1 h with rfl | h1
    · exact .inl hn
    · exact .inr (weights_mem_all hn h1)

section
variable {H : Type} {enc : TypeId × Value → H} {W : World} {base : Nat} {spare : Nat → Bool} {held : Bool}
set_option maxRecDepth 100000 in
theorem open_add2 {fuel : Nat} {cs : List Value} {x : DataW H × List MemPlace} (h : DataW.trod enc Try.prog W base spare held fuel 42 cs = some x) :
    ∃ k, ∃ n : Nat, ∃ s, cs = [.int .i64 k, .int .u64 (n : Int), .string s] ∧ n < 18446744073709551616 ∧ s.size ∈ x.1.weights Try.prog 42 := by
  obtain ⟨xs, n, _, hx, hl, hlen, hf⟩ := DataW.trod_struct Try.underlying42 h
  have hl' : cs.length = 3 := hl.trans (by kernel_rfl)
  have hlen' : xs.length = 3 := hlen
  match cs, hl', xs, hlen' with
  | [u, v, t], _, [y0, y1, y2], _ =>
    have h0 := hf 0 _ rfl
    have h1 := hf 1 _ rfl
    have h2 := hf 2 _ rfl
    obtain ⟨a, e0, _, wa⟩ := DataW.trod_int Try.underlying3 (cs := [u]) (x := y0) h0
    obtain ⟨b, e1, _, wb⟩ := DataW.trod_int Try.underlying40 (cs := [v]) (x := y1) h1
    obtain ⟨s, e2, ex, _⟩ := DataW.trod_string Try.underlying9 (cs := [t]) (x := y2) h2
    simp only [List.cons.injEq, and_true] at e0 e1 e2
    subst e0 e1 e2
    have hb := wf_u64 wb
    refine ⟨a, b.toNat, s, ?_, by omega, ?_⟩
    · rw [Int.toNat_of_nonneg hb.1]
    · rw [hx]
      simp only [DataW.weights, Try.underlying42]
      refine DataW.weights_mem_each (j := 2) rfl rfl _ ?_
      rw [ex]
      simp [DataW.weights]

set_option maxRecDepth 100000 in
theorem open_ad {fuel : Nat} {cs : List Value} {x : DataW H × List MemPlace} (h : DataW.trod enc Try.prog W base spare held fuel 31 cs = some x) (hL : ∀ n ∈ x.1.weights Try.prog 31, n ≤ 140737488351232) :
    ∃ A c b off l, cs = [.slice A l.length c] ∧ Ad W A b off l := by
  rcases open_slice Try.underlying31 h with ⟨rfl, rfl⟩ | ⟨a, len, cap, m, n, D, Pl, rfl, hb, hl, hm, hmm, hx, hi⟩
  · exact ⟨none, 0, 0, 0, [], rfl, ⟨fun h => absurd h (by simp), fun j k n s hj => by simp at hj, by simp, fun a ha => by cases ha⟩⟩
  · have hc3 : Try.prog.cellsOf 42 = 3 := by kernel_rfl
    have hml : len ≤ m := by rw [hmm]; split <;> omega
    subst hx
    have each : ∀ i, i < len → ∃ k, ∃ n : Nat, ∃ s, addOf W a i = (k, n, s) ∧ n < 18446744073709551616 ∧ W.cell? (a.add (i * 3)) = some (.int .i64 k) ∧ W.cell? (a.add (i * 3 + 1)) = some (.int .u64 (n : Int)) ∧ W.cell? (a.add (i * 3 + 2)) = some (.string s) ∧ s.size ≤ 140737488351232 := fun i hi' => by
      obtain ⟨cs', hc, ht⟩ := hi i (by omega)
      rw [hc3] at hc
      obtain ⟨_, hcl, hat⟩ := World.cells?_some hc
      obtain ⟨k, n, s, rfl, hn, hw⟩ := open_add2 ht
      have k0 := hat 0 (by omega)
      have k1 := hat 1 (by omega)
      have k2 := hat 2 (by omega)
      rw [add_add] at k0 k1 k2
      refine ⟨k, n, s, ?_, hn, k0, k1, k2, ?_⟩
      · unfold addOf
        rw [show W.cell? (a.add (i * 3)) = some (.int .i64 k) from k0, show W.cell? (a.add (i * 3 + 1)) = some (.int .u64 (n : Int)) from k1, show W.cell? (a.add (i * 3 + 2)) = some (.string s) from k2]
        simp
      · refine hL _ ?_
        simp only [DataW.weights, Try.underlying31, List.mem_cons, List.mem_append]
        exact .inr (.inl (weights_mem_all hw (List.mem_map.2 ⟨i, List.mem_range.2 hi', rfl⟩)))
    have hsh : ∀ x ∈ (List.range len).map (addOf W a), x.2.2.size ≤ 140737488351232 := fun x hx => by
      obtain ⟨i, hi', rfl⟩ := List.mem_map.1 hx
      obtain ⟨k, n, s, e, _, _, _, _, hs⟩ := each i (List.mem_range.1 hi')
      rw [e]
      exact hs
    have hfew : ((List.range len).map (addOf W a)).length ≤ 140737488351232 := by
      have hb8 : Try.prog.bytesOf 42 = 32 := by kernel_rfl
      have := hL ((((List.range len).map D).length + ((List.range (m - len)).map fun j => D (len + j)).length) * Try.prog.bytesOf 42) (by simp [DataW.weights, Try.underlying31])
      rw [hb8] at this
      simp at this ⊢
      omega
    rcases Nat.eq_zero_or_pos len with h0 | h0
    · subst h0
      exact ⟨some a, cap, 0, 0, [], rfl, ⟨fun h => absurd h (by simp), fun j k n s hj => by simp at hj, by simp, fun a ha => by cases ha⟩⟩
    · obtain ⟨_, _, _, _, _, k0, _⟩ := each 0 h0
      have hlt := World.block_lt_of_cell? W _ k0
      have hsp : a.spot = none := by
        have : a.add (0 * 3) = a := by simp [Addr.add]
        rw [this] at k0
        unfold World.cell? at k0
        split at k0
        · split at k0
          · cases k0
          · rename_i hs; simpa using hs
        · cases k0
      obtain ⟨b, off, sp⟩ := a
      obtain rfl : sp = none := hsp
      have hadd : ∀ j, (⟨b, off, none⟩ : Addr).add j = ⟨b, off + j, none⟩ := fun j => by
        unfold Addr.add
        by_cases hj0 : j = 0 <;> simp [hj0]
      refine ⟨_, cap, b, off, (List.range len).map (addOf W ⟨b, off, none⟩), by simp, ⟨fun _ => ⟨rfl, by rw [hadd] at hlt; exact hlt⟩, fun j k n s hj => ?_, hfew, hsh⟩⟩
      rw [List.getElem?_map] at hj
      have hjl : j < len := by
        rcases Nat.lt_or_ge j len with h1 | h1
        · exact h1
        · rw [List.getElem?_eq_none (by simpa using h1)] at hj; cases hj
      rw [List.getElem?_range hjl] at hj
      injection hj with hj
      obtain ⟨k', n', s', e, hn, c0, c1, c2, _⟩ := each j hjl
      rw [e] at hj
      injection hj with e0 e1
      injection e1 with e1 e2
      subst e0 e1 e2
      rw [hadd] at c0 c1 c2
      exact ⟨hn, c0, c1, c2⟩

/-- The truth at a cell. -/
def boolOf (W : World) (a : Addr) : Bool := match W.cell? a with
  | some (.bool b) => b
  | _ => false
set_option maxRecDepth 100000 in
theorem open_bools {fuel : Nat} {cs : List Value} {x : DataW H × List MemPlace} (h : DataW.trod enc Try.prog W base spare held fuel 32 cs = some x) (hL : ∀ n ∈ x.1.weights Try.prog 32, n ≤ 140737488351232) :
    ∃ A c b off l, cs = [.slice A (List.length (α := Bool) l) c] ∧ (0 < l.length → A = some ⟨b, off, none⟩ ∧ b < W.heap.size) ∧ (∀ (j : Nat) t, l[j]? = some t → W.cell? ⟨b, off + j, none⟩ = some (.bool t)) ∧ l.length ≤ 140737488351232 := by
  have hc1 : Try.prog.cellsOf 4 = 1 := by kernel_rfl
  rcases open_slice1 Try.underlying32 hc1 h with ⟨rfl, rfl⟩ | ⟨a, len, cap, m, n, V, D, Pl, rfl, hb, hl, hm, hmm, hx, hi⟩
  · exact ⟨none, 0, 0, 0, [], rfl, fun h => absurd h (by simp), fun j t hj => by simp at hj, by simp⟩
  · have hml : len ≤ m := by rw [hmm]; split <;> omega
    subst hx
    have each : ∀ i, i < len → W.cell? (a.add i) = some (.bool (boolOf W (a.add i))) := fun i hi' => by
      obtain ⟨hc, ht⟩ := hi i (by omega)
      obtain ⟨z, e0, _⟩ := DataW.trod_bool Try.underlying4 ht
      simp only [List.cons.injEq, and_true] at e0
      rw [e0] at hc
      unfold boolOf
      rw [hc]
    have hfew : len ≤ 140737488351232 := by
      have hb8 : Try.prog.bytesOf 4 = 1 := by kernel_rfl
      have := hL ((((List.range len).map D).length + ((List.range (m - len)).map fun j => D (len + j)).length) * Try.prog.bytesOf 4) (by simp [DataW.weights, Try.underlying32])
      rw [hb8] at this
      simp at this
      omega
    rcases Nat.eq_zero_or_pos len with h0 | h0
    · subst h0
      exact ⟨some a, cap, 0, 0, [], rfl, fun h => absurd h (by simp), fun j t hj => by simp at hj, by simp⟩
    · have k0 := each 0 h0
      have hlt := World.block_lt_of_cell? W _ k0
      have ha0 : a.add 0 = a := by simp [Addr.add]
      have hsp : a.spot = none := by
        rw [ha0] at k0
        unfold World.cell? at k0
        split at k0
        · split at k0
          · cases k0
          · rename_i hs; simpa using hs
        · cases k0
      obtain ⟨b, off, sp⟩ := a
      obtain rfl : sp = none := hsp
      have hadd : ∀ j, (⟨b, off, none⟩ : Addr).add j = ⟨b, off + j, none⟩ := fun j => by
        unfold Addr.add
        by_cases hj0 : j = 0 <;> simp [hj0]
      refine ⟨_, cap, b, off, (List.range len).map fun i => boolOf W ((⟨b, off, none⟩ : Addr).add i), by simp, fun _ => ⟨rfl, by rw [hadd] at hlt; exact hlt⟩, fun j x hj => ?_, by simpa using hfew⟩
      rw [List.getElem?_map] at hj
      have hjl : j < len := by
        rcases Nat.lt_or_ge j len with h1 | h1
        · exact h1
        · rw [List.getElem?_eq_none (by simpa using h1)] at hj; cases hj
      rw [List.getElem?_range hjl] at hj
      injection hj with hj
      have := each j hjl
      rw [← hj]
      show _ = some (Value.bool (boolOf W ((⟨b, off, none⟩ : Addr).add j)))
      rw [hadd] at this ⊢
      exact this
end

set_option maxRecDepth 100000 in
theorem wireLays_walk {H : Type} {enc : TypeId × Value → H} (W : World) (A0 A1 A2 : Option Addr) (n0 c0 n1 c1 n2 c2 : Nat) {d0 d1 d2 : DataW H} {p0 p1 p2 : List MemPlace}
    (h0 : DataW.Trod enc Try.prog W 0 (fun _ => true) true 31 (.slice A0 n0 c0) d0 p0) (h1 : DataW.Trod enc Try.prog W 0 (fun _ => true) true 31 (.slice A1 n1 c1) d1 p1) (h2 : DataW.Trod enc Try.prog W 0 (fun _ => true) true 32 (.slice A2 n2 c2) d2 p2)
    (hsz : (DataW.weightsEach Try.prog [31, 31, 32] [d0, d1, d2]).all (· ≤ reachBytes) = true) :
    Calls Try.prog 5 #[.slice A0 n0 c0, .slice A1 n1 c1, .slice A2 n2 c2] W fun e w' => e = .returned (.bool true) ∧ Below W.heap.size W w' := by
  obtain ⟨f0, h0⟩ := h0
  obtain ⟨f1, h1⟩ := h1
  obtain ⟨f2, h2⟩ := h2
  obtain ⟨A, c, b, off, l, e0, hl⟩ := open_ad h0 (fun m hm => by
    have := List.all_eq_true.1 hsz m (DataW.weights_mem_each (j := 0) rfl rfl m hm)
    have := of_decide_eq_true this
    simpa [reachBytes] using this)
  obtain ⟨B, d, b2, off2, k, e1, hk⟩ := open_ad h1 (fun m hm => by
    have := List.all_eq_true.1 hsz m (DataW.weights_mem_each (j := 1) rfl rfl m hm)
    have := of_decide_eq_true this
    simpa [reachBytes] using this)
  obtain ⟨C, e, b3, off3, q, e2, hq, hqc, hqn⟩ := open_bools h2 (fun m hm => by
    have := List.all_eq_true.1 hsz m (DataW.weights_mem_each (j := 2) rfl rfl m hm)
    have := of_decide_eq_true this
    simpa [reachBytes] using this)
  simp only [Value.cells, List.cons.injEq, and_true] at e0 e1 e2
  rw [e0, e1, e2]
  exact lays_walk A B C b off c b2 off2 d b3 off3 e l k q W hl hk hq hqc hqn

set_option maxRecDepth 100000 in
theorem wireLays_lifted (os : Os) (started : os.Started) (H : Type) (enc : TypeId × Value → H) :
    ReturnsInHanded {} Try.checked os 5 .any (Rows.wireLaysSpec.pre6 enc Try.prog Try.f5 Rows.wireLaysRow.domain false) (Rows.wireLaysSpec.post enc Try.prog Try.f5 false true false false) := by
  refine returnsInHanded_of_change_sized (C := Try.checked) own started (by kernel_rfl) Try.func5
    (ChangeSpec.witness6 (enc := enc) (C := Try.checked) false ⟨#[], #[.slice none 0 0, .slice none 0 0, .slice none 0 0], []⟩ 8 (by kernel_rfl) (by kernel_rfl) (by kernel_rfl) (by kernel_rfl)) ?_
  intro W base args ds gs before hval0 hW hcnd hsz _
  have hval : ∀ (j : Nat) t v, Try.f5.params[j]? = some t → args[j]? = some v → Value.okWide Try.prog W .any base t v := hval0
  have hW' := hW
  obtain ⟨p, q, hA0, hV, rfl, hfz, hnd⟩ := hW
  have hA : DataW.TrodAll enc Try.prog W 0 (fun _ => true) true Try.f5.params.toList args.toList ds p := hA0
  rw [Try.params5] at hA hval
  obtain ⟨v0, v1, v2, d0, d1, d2, p0, p1, p2, rfl, rfl, rfl, h0, h1, h2⟩ := trodAll_three hA
  obtain ⟨rfl, rfl⟩ := trodVars_none hV
  clear hA0 hval0
  obtain ⟨A0, n0, c0, rfl⟩ := okWide_slice Try.underlying31 (hval 0 31 v0 rfl rfl)
  obtain ⟨A1, n1, c1, rfl⟩ := okWide_slice Try.underlying31 (hval 1 31 v1 rfl rfl)
  obtain ⟨A2, n2, c2, rfl⟩ := okWide_slice Try.underlying32 (hval 2 32 v2 rfl rfl)
  refine (wireLays_walk W _ _ _ _ _ _ _ _ _ h0 h1 h2 hsz).mono fun e W' ⟨he, hb⟩ => ?_
  subst he
  exact ⟨_, rfl, law_post laidOut (by kernel_rfl) hW' rfl rfl Try.underlying4 rfl rfl rfl hb⟩

/-- For every input, whatever it is: the call returns true, and each argument reads as it did. -/
theorem wireLays_holds : Rows.WireLaysSaid :=
  OpenClaim.holds_of_wide 5 Try.f5 rfl rfl rfl rfl rfl rfl rfl ⟨rfl, rfl, rfl, rfl, rfl⟩ rfl rfl rfl rfl rfl (by kernel_rfl) Try.func5 (by kernel_rfl)
    (of_decide_eq_true (by kernel_rfl)) (by unfold Func.isWrapper; first | (rw [if_pos (by decide +kernel)]; kernel_rfl) | (rw [if_neg (by decide +kernel)]; exact ⟨rfl, rfl⟩))
    (fun os started H enc _ => wireLays_lifted os started H enc)
#print axioms wireLays_holds

end Go.Proofs.Ytiejgandjlldjaa
