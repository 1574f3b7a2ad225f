/-
  The law's own Spoilt: points that were answered are written over, and grown.
-/
import Derived.Test.YtcpojadinkonnaaLent2
namespace Go.Proofs.Ytcpojadinkonnaa
open Go.RowKit

theorem own_atS {W : World} {b : Nat} {e : TypeId} {size n c : Nat} {A : Option Addr} {xs : List Value} (h : W.ownsRow b e size (.slice A n c) n xs) (hn : 0 < n) : ∃ h', A = some ⟨h', 0, none⟩ ∧ b ≤ h' ∧ h' < W.heap.size ∧ n ≤ c ∧ ∀ j u, xs[j]? = some u → W.cell? ⟨h', j, none⟩ = some u := by
  rcases h.2 with ⟨_, h0⟩ | ⟨g, cap, cur, hv, hb, hg, h1, h2, h3, h4⟩
  · omega
  · have hv' := hv
    injection hv with hA _ hc
    subst hA hc
    refine ⟨g, rfl, hb, (h.lt g rfl).2, h1, fun j u hj => ?_⟩
    have hc := h.cells (g := g) rfl j u hj
    rwa [add_at] at hc

theorem grown_setS (W : World) (g o : Nat) (v : Value) : W.grownBy (W.setCell ⟨g, o, none⟩ v) (some g) := ⟨rfl, rfl, rfl, by simp, fun k _ hne => Below.heap_setCell W ⟨g, o, none⟩ v k (fun e => hne (congrArg some e))⟩
theorem own_put {W : World} {B n c : Nat} {A : Option Addr} {e : TypeId} {xs : List Value} (h : W.ownsRow B e 2 (.slice A n c) n xs) {k : Nat} (hk : k < n) :
    ∃ g, A = some ⟨g, 0, none⟩ ∧ B ≤ g ∧ g < W.heap.size ∧ (∃ u, W.cell? ⟨g, k * 2, none⟩ = some u) ∧ (∃ u, W.cell? ⟨g, k * 2 + 1, none⟩ = some u) ∧ W.frozen? ⟨g, k * 2, none⟩ = false ∧ W.frozen? ⟨g, k * 2 + 1, none⟩ = false ∧
      ∀ p q, ∃ xs', ((W.setCell ⟨g, k * 2, none⟩ p).setCell ⟨g, k * 2 + 1, none⟩ q).ownsRow B e 2 (.slice A n c) n xs' := by
  have hl := h.1
  obtain ⟨g, hA, hB, hg, hc, hget⟩ := own_atS h (by omega)
  have g0 : k * 2 < xs.length := by omega
  have g1 : k * 2 + 1 < xs.length := by omega
  rcases h.2 with ⟨_, h0⟩ | ⟨g', cap, cur, hv, hb, hvar, h1, h2, h3, h4⟩
  · omega
  · have hv' := hv
    injection hv' with hA' _ hc'
    subst hA' hc'
    injection hA with hA
    injection hA with hA
    subst hA
    have vV : Var W g' e cur := hvar
    refine ⟨g', rfl, hB, hg, ⟨_, hget _ _ (List.getElem?_eq_getElem g0)⟩, ⟨_, hget _ _ (List.getElem?_eq_getElem g1)⟩, vV.free _, vV.free _, fun p q => ?_⟩
    have v2 := (vV.store (k * 2) p).store (k * 2 + 1) q
    exact ⟨_, by simp [List.length_take]; omega, .inr ⟨g', c, _, rfl, hb, v2, h1, h2, by simpa using h3, rfl⟩⟩

theorem wpList_push_at {P : Program} {ops : Array Oper} {rest : List Oper} {o : Oper} {a : Act} {Q : Exit → Act → World → Prop} {w0 : World} (hgd : o.guard = none) (s x : Operand) (t : TypeId)
    (ho : o.op = .call { callee := .builtin .append, args := #[s, x], argTypes := #[t, t] })
    {e : TypeId} {z : Value} {size bytes : Nat} (E : Elt P t e z size bytes) (base : Nat) (A : Option Addr) (n c : Nat) (xs : List Value)
    (hs : a.eval s = .slice A n c) (hown : w0.ownsRow base e size (.slice A n c) n xs) (us : List Value) (hx : a.eval x = .slice (some ⟨w0.heap.size, 0, none⟩) 1 1)
    (hl : us.length = size) (h1 : ∀ u ∈ us, u.oneCell' = true) (hn : n + 1 ≤ maxLen) (hbytes : (n + 1) * bytes ≤ 140737488355328) (hbase : base ≤ w0.heap.size)
    (h : ∀ A' c' w', w'.ownsRow base e size (.slice A' (n + 1) c') (n + 1) (xs ++ us) → w0.grownBy w' (Value.slice A n c).ownBlock → (∀ q, (Value.slice A' (n + 1) c').ownBlock = some q → (Value.slice A n c).ownBlock = some q ∨ w0.heap.size ≤ q) → wpList P ops Q rest (a.put o.dst (.slice A' (n + 1) c')) w') :
    wpList P ops Q (o :: rest) a (w0.alloc (.cells us.toArray e)) := by
  obtain ⟨i, hi, hz, hsz, hby⟩ := info_parts E.info
  refine wpList_append_own_at (w := w0.alloc (.cells us.toArray e)) hgd s x t ho base e i z size bytes E.under hi hz hsz hby E.cells E.pos (.slice A n c) n xs hs (hown.alloc _) ⟨w0.heap.size, 0, none⟩ 1 1 us hx (by omega) ?_ h1 hn hbytes (by simp; omega) ?_
  · intro j u hu
    have hj : j < us.length := by
      rcases Nat.lt_or_ge j us.length with h0 | h0
      · exact h0
      · rw [List.getElem?_eq_none h0] at hu; cases hu
    have hc := (Var.new w0 e us.toArray).cell j
    have ha : ((⟨w0.heap.size, 0, none⟩ : Addr).add j) = ⟨w0.heap.size, j, none⟩ := by
      unfold Addr.add
      by_cases hj0 : j = 0 <;> simp [hj0]
    rw [ha, hc]
    simpa using hu
  · intro v' w' hown' hg hnil hat
    have hg' : w0.grownBy w' (Value.slice A n c).ownBlock := ⟨hg.os, hg.tape, hg.output, Nat.le_trans (by simp) hg.size, fun k hk hne => (hg.block k (by simp; omega) hne).trans (Below.heap_alloc w0 _ k hk)⟩
    rcases hown'.2 with ⟨hv, hn0⟩ | ⟨g, cap, cur, hv, _⟩
    · omega
    · subst hv
      refine h _ _ w' hown' hg' (fun q hq => ?_)
      rcases hat with hat | hat
      · exact .inl (hat.symm.trans hq)
      · rw [hat] at hq
        injection hq with hq
        simp at hq
        exact .inr (by omega)
theorem grown_comp {w a b : World} {ob row : Option Nat} (h : w.grownBy a ob) (g : a.grownBy b row) (hr : ∀ q, row = some q → ob = some q ∨ w.heap.size ≤ q) : w.grownBy b ob :=
  ⟨g.os.trans h.os, g.tape.trans h.tape, g.output.trans h.output, Nat.le_trans h.size g.size, fun k hk hne => (g.block k (Nat.lt_of_lt_of_le hk h.size) (fun e => by
    rcases hr k e.symm with h1 | h1
    · exact hne h1.symm
    · omega)).trans (h.block k hk hne)⟩

set_option maxRecDepth 100000 in
set_option maxHeartbeats 400000 in
theorem spoilt_any (v : Value) (n B : Nat) (xs : List Value) (w : World) (hn : n * 8 ≤ 140737488351232) (hown : w.ownsRow B 32 2 v n xs) (hBw : B ≤ w.heap.size) :
    Calls Try.prog 15 #[v] w fun e w' => (∃ u, e = .returned u) ∧ w.grownBy w' v.ownBlock := by
  obtain ⟨A, c, rfl⟩ : ∃ A c, v = .slice A n c := by
    rcases hown.2 with ⟨rfl, rfl⟩ | ⟨g, cap, cur, rfl, _⟩ <;> exact ⟨_, _, rfl⟩
  obtain ⟨ob, hob⟩ : ∃ z, (Value.slice A n c).ownBlock = z := ⟨_, rfl⟩
  rw [hob]
  go_enter Try.func15, Try.ntmps15
  go_wp2_with fail
  go_loopw [2] (fun i wr => ∃ k : Nat, k ≤ n ∧ i = .int .i64 (k : Int) ∧ (∃ ys, wr.ownsRow B 32 2 (.slice A n c) n ys) ∧ w.grownBy wr ob) (fun i _ => n - (intOf i).toNat)
  case atStart => exact ⟨0, by omega, rfl, ⟨xs, hown⟩, World.grownBy.refl _ _⟩
  case round =>
    obtain ⟨k, hk, rfl, ⟨ys, ho⟩, hB⟩ := hrel
    rcases Nat.lt_or_ge k n with hlt | hge
    · have hkI : (k : Int) < (n : Int) := by omega
      obtain ⟨g, rfl, hBg, hgz, ⟨u0, k0⟩, ⟨u1, k1⟩, f0, f1, hput⟩ := own_put ho hlt
      have hobg : ob = some g := hob.symm
      have HP := Lib.hid (And.intro hput (grown_comp hB ((grown_setS wr g (k * 2) (.int .i32 (-5))).trans (grown_setS _ g (k * 2 + 1) (.int .i32 5))) (fun q hq => .inl (hobg.trans hq))))
      clear ho hput hB hown
      go_wp2_with fail
      go_roundw
      case rel => exact ⟨k + 1, by omega, by simp, HP.out.1 _ _, HP.out.2⟩
      case measure => simp [intOf]; omega
    · obtain rfl : k = n := by omega
      have hkI : ¬ (k : Int) < (k : Int) := by omega
      have hz0 := hB.size
      clear hown
      go_wp2_with fail
      go_loopw [0, 3] (fun o i wr => ∃ (r m c : Nat) (A : Option Addr) (ys : List Value), r ≤ 20 ∧ m = k + r ∧ i = .int .i64 (r : Int) ∧ o = .slice A m c ∧ wr.ownsRow B 32 2 (.slice A m c) m ys ∧ w.grownBy wr ob ∧ (∀ q, (Value.slice A m c).ownBlock = some q → ob = some q ∨ w.heap.size ≤ q)) (fun _ i _ => 20 - (intOf i).toNat)
      case atStart => exact ⟨0, k, c, A, ys, by omega, rfl, rfl, rfl, ho, hB, fun q hq => .inl (hob.symm.trans hq)⟩
      case round =>
        obtain ⟨r, _, c2, A2, zs, hr, rfl, rfl, rfl, ho2, hB2, hq2⟩ := hrel
        have hz2 : B ≤ wr.heap.size := Nat.le_trans hBw hB2.size
        rcases Nat.lt_or_ge r 20 with hlt | hge
        · have hrI : (r : Int) < 20 := by omega
          clear ho hB
          go_wp2_with (at_builtin; refine wpList_push_at rfl (.tmp 18) (.tmp 20) 23 rfl eltP B A2 (k + r) c2 zs rfl ho2 [_, _] rfl rfl (two_cells rfl rfl) (le_maxLen (by omega)) (by omega) hz2 ?_; intro A' c' w' hown' hg' hq')
          go_roundw
          case rel => exact ⟨r + 1, k + r + 1, c', A', _, by omega, by omega, by simp, rfl, hown', grown_comp hB2 hg' hq2, fun q hq => (hq' q hq).elim (hq2 q) (fun h => .inr (Nat.le_trans hB2.size h))⟩
          case measure => simp [intOf]; omega
        · have hrI : ¬ (r : Int) < 20 := by omega
          clear ho hB
          go_wp2_with fail
          go_end0
          exact ⟨⟨_, rfl⟩, hB2⟩

end Go.Proofs.Ytcpojadinkonnaa
