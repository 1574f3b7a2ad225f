/-
  ring.Edges: a ring's sides, of a copy of the list, one after another.
-/
import Derived.Test.YthbndilnobjjgaaIter
import Derived.Test.YthbndilnobjjgaaLent
import Derived.Test.YthbndilnobjjgaaEdge
import Derived.Deep.LoopGhost
namespace Go.Proofs.Ythbndilnobjjgaa
open Go.RowKit Go.Shelf

/-- 'append([]E{}, v...)': a row of the call's own that holds what the slice holds. -/
theorem wpList_ontoE {P : Program} {ops : Array Oper} {rest : List Oper} {o : Oper} {a : Act} {Q : Exit → Act → World → Prop} {w : World} (hgd : o.guard = none) (s x : Operand) (t : TypeId) (ho : o.op = .call { callee := .builtin .append, args := #[s, x], argTypes := #[t, t] })
    {e : TypeId} {z : Value} {size bytes : Nat} (E : Elt P t e z size bytes) (ad : Addr) (L c : Nat) (news : List Value) (hs : a.eval s = .slice (some ⟨w.heap.size, 0, none⟩) 0 0) (hx : a.eval x = .slice (some ad) L c)
    (hl : news.length = L * size) (hc : ∀ j u, news[j]? = some u → w.cell? (ad.add j) = some u) (h1 : ∀ u ∈ news, u.oneCell' = true) (hn : L ≤ maxLen) (hb : L * bytes ≤ 140737488355328)
    (h : ∀ A' c' w', w'.ownsRow w.heap.size e size (.slice A' L c') L news → w.grownBy w' none → wpList P ops Q rest (a.put o.dst (.slice A' L c')) w') : wpList P ops Q (o :: rest) a (w.alloc (.cells #[] e)) := by
  obtain ⟨i, hi, hz, hsz, hby⟩ := info_parts E.info
  have hown0 : (w.alloc (.cells #[] e)).ownsRow w.heap.size e size (.slice (some ⟨w.heap.size, 0, none⟩) 0 0) 0 [] := ⟨by simp, .inr ⟨w.heap.size, 0, #[], rfl, Nat.le_refl _, Var.new w e #[], Nat.le_refl _, Nat.zero_le _, by simp, by simp⟩⟩
  refine wpList_append_own (w.alloc (.cells #[] e)) hgd s x t ho w.heap.size e i z size bytes E.under hi hz hsz hby E.cells E.pos (.slice (some ⟨w.heap.size, 0, none⟩) 0 0) 0 [] hs hown0 ad L c news hx hl (fun j u hj => ?_) h1 (by omega) (by rw [Nat.zero_add]; exact hb) (by simp) ?_
  · have h0 := hc j u hj
    have hlt := World.block_lt_of_cell? w _ h0
    exact (World.cell?_alloc_lt _ _ _ hlt).trans h0
  · intro v' w' hown hg _
    rw [Nat.zero_add, List.nil_append] at hown
    have hg' : w.grownBy w' none := ⟨hg.os, hg.tape, hg.output, Nat.le_trans (by simp) hg.size, fun k hk _ => (hg.block k (by simp; omega) (fun e => absurd (Option.some.inj e) (Nat.ne_of_lt hk))).trans (Below.heap_alloc w _ k hk)⟩
    rcases hown.2 with ⟨hv, hn0⟩ | ⟨g, cap, cur, hv, _⟩
    · subst hv
      subst hn0
      exact h none 0 w' hown hg'
    · subst hv
      exact h _ _ w' hown hg'

set_option maxHeartbeats 1000000 in
set_option maxRecDepth 100000 in
theorem clone_ptsE (ps : List Pt) (M : Nat) (A : Option Addr) (c : Nat) (w : World) (hP : PtsAt M w (.slice A ps.length c) ps) (_hM : M ≤ w.heap.size) (hlen : ps.length ≤ 17592186044416) (hA : ps.length = 0 → A = none → c = 0) :
    Calls Try.prog 50 #[.slice A ps.length c] w fun e w' => ∃ v, e = .returned v ∧ w'.ownsRow w.heap.size 28 2 v ps.length (flat ps) ∧ Below w.heap.size w w' := by
  cases A with
  | none =>
    have h0 : ps = [] := by
      rcases hP with ⟨_, h⟩ | ⟨b, off, cap, he, _⟩
      · exact h
      · cases he
    subst h0
    obtain rfl := hA rfl rfl
    have hnil : ∀ W, (binOp .eql 23 (.slice none 0 0) (.slice none 0 0) : Sem Value).run Try.prog W = .ok (.bool true) W := fun _ => by rfl
    show Calls Try.prog 50 #[.slice none 0 0] w _
    go_enter Try.func50, Try.ntmps50
    go_wp2_with fail
    go_ret
    exact ⟨_, rfl, World.ownsRow_nil _ _ _ _, Below.refl _ _⟩
  | some ad =>
    have hcell : ∀ j u, (flat ps)[j]? = some u → w.cell? (ad.add j) = some u := by
      rcases hP with ⟨_, h⟩ | ⟨b, off, cap, he, hb, hc⟩
      · subst h; intro j u hu; simp [flat] at hu
      · injection he with he1 _ _
        injection he1 with he1
        subst he1
        exact flat_cells hc
    obtain ⟨n, hn⟩ : ∃ n, ps.length = n := ⟨_, rfl⟩
    have hnil : ∀ W, (binOp .eql 23 (.slice (some ad) n c) (.slice none 0 0) : Sem Value).run Try.prog W = .ok (.bool false) W := fun _ => by rfl
    have HC := Lib.hid (And.intro hcell hn)
    rw [hn]
    have hn4 : n ≤ 17592186044416 := by omega
    clear hP hA hcell hn hlen
    go_enter Try.func50, Try.ntmps50
    go_wp2_with (at_builtin; refine wpList_ontoE rfl (.tmp 5) (.tmp 6) 23 rfl eltP ad n c (flat ps) rfl rfl (by rw [flat_length, HC.out.2]) HC.out.1 flat_one (le_maxLen (by omega)) (by omega) ?_; intro A1 c1 w1 hown1 hg1)
    have H1 := Lib.hid (And.intro hown1 ((Below.refl w.heap.size w).grown hg1 (Nat.le_refl _) (fun k e => by cases e)))
    clear hown1 hg1
    go_wp2_with fail
    go_ret
    exact ⟨_, rfl, H1.out.1, H1.out.2⟩


section
attribute [local go_sem] Oper.semAt_some
set_option maxRecDepth 100000 in
set_option maxHeartbeats 2000000 in
theorem edges1_in (F : Fence) (n : Nat) (hF : F.fn 51) (hro : F.round = none) (hn : 1 ≤ n) (l Bs B n₀ b off cap : Nat) (ps : List Pt) (m : Nat) (hm : ps.length = m) (hreach : m * 8 ≤ 140737488355328) (hb : b < n₀) (hbB : b ≠ B) (hs : Bs < n₀) (hsB : Bs ≠ B) (J Jx : Nat → World → Prop)
    {N₁ : Nat} (hJ : AbidesFrom N₁ J)
    (hY : ∀ k W, J k W → k < m → YieldAt F (n - 1) Try.prog l #[.agg #[.int .i32 (sid ps k).1.1, .int .i32 (sid ps k).1.2], .agg #[.int .i32 (sid ps k).2.1, .int .i32 (sid ps k).2.2]] W fun e W' =>
      (e = .returned (.bool true) ∧ J (k + 1) W' ∧ Kx B n₀ W W') ∨ (e = .returned (.bool false) ∧ Jx (k + 1) W'))
    (W : World) (hn₀ : n₀ ≤ W.heap.size) (hBs : W.cell? ⟨Bs, 0, none⟩ = some (.slice (some ⟨b, off, none⟩) m cap)) (hc : ∀ j, j < m → W.cell? ⟨b, off + j * 2, none⟩ = some (.int .i32 (gp ps j).1) ∧ W.cell? ⟨b, off + j * 2 + 1, none⟩ = some (.int .i32 (gp ps j).2)) (h0 : J 0 W) :
    CallsIn F n Try.prog 51 #[.func (.yield l) #[] #[], .pointer (some ⟨Bs, 0, none⟩)] W fun e W' => (∃ v, e = .returned v) ∧
      (J m W' ∨ (∃ k, k ≤ m ∧ Jx k W')) := by
  refine callsIn_of_wp Try.func51 rfl hF ?_ hro
  simp only [Try.ntmps51, List.size_toArray, List.length_cons, List.length_nil, Nat.reduceAdd, Nat.reduceSub, Array.replicate_succ, Array.replicate_zero, List.push_toArray, List.append_toArray, List.nil_append, List.cons_append]
  gi_wp2
  gi_loopw [7] (fun i wr => ∃ k : Nat, k ≤ m ∧ i = .int .i64 k ∧ J k wr ∧ Kx B n₀ W wr)
    (fun i _ => m - (intOf i).toNat)
  case atStart => exact ⟨0, Nat.zero_le _, rfl, h0, Kx.refl _ _ _⟩
  case round =>
    obtain ⟨k, hk, rfl, hJs, hKw⟩ := hrel
    have hnx := hKw.2
    have hnz : n₀ ≤ wr.heap.size := Nat.le_trans hn₀ hKw.1
    by_cases hlt : k < m
    · have c1 := (hnx b (off + k * 2) hb hbB).trans (hc k hlt).1
      have c2 := (hnx b (off + k * 2 + 1) hb hbB).trans (hc k hlt).2
      have cs := (hnx Bs 0 hs hsB).trans hBs
      have hmx : Try.prog.follows .mixedOrders = true := by kernel_rfl
      gi_wp2
      refine wpIn_gen (fun W1 hW1 => ?_)
      have hB1 : Below wr.heap.size wr W1 := by rw [← hW1]; exact (Below.refl _ _).alloc (Nat.le_refl _) _
      have keep : ∀ b o, b < n₀ → W1.cell? ⟨b, o, none⟩ = wr.cell? ⟨b, o, none⟩ := fun b o h => hB1.cell (p := ⟨b, o, none⟩) (by show b < wr.heap.size; omega)
      have hk1 : (k + 1) % m < m := Nat.mod_lt _ (by omega)
      have d0 : W1.cell? ⟨wr.heap.size, 0, none⟩ = some (.int .i32 (gp ps k).1) := by rw [← hW1]; simp
      have d1 : W1.cell? ⟨wr.heap.size, 1, none⟩ = some (.int .i32 (gp ps k).2) := by rw [← hW1]; simp
      have ds : W1.cell? ⟨Bs, 0, none⟩ = some (.slice (some ⟨b, off, none⟩) m cap) := (keep _ _ hs).trans cs
      have e1 := ((keep _ _ hb).trans ((hnx b (off + (k + 1) % m * 2) hb hbB).trans (hc _ hk1).1) : W1.cell? _ = _)
      have e2 := ((keep _ _ hb).trans ((hnx b (off + (k + 1) % m * 2 + 1) hb hbB).trans (hc _ hk1).2) : W1.cell? _ = _)
      have hz1 : ((m : Int) == 0) = false := by rw [beq_eq_false_iff_ne]; omega
      have hz2 : ¬ (m : Int) = 0 := by omega
      have hz3 : ¬ m = 0 := by omega
      have hmod := mod_int (k := k) (m := m) (by omega)
      have hwr : IntKind.i64.wrap ((k : Int) + 1) = (k : Int) + 1 := by simp only [IntKind.wrap, IntKind.signed, IntKind.bits]; simp; omega
      have hJ1 : ∀ j, J k (W1.drewN j) := fun j => by
        have hg1 : wr.grownBy W1 none := by rw [← hW1]; exact World.grownBy_alloc wr _ none
        have hg2 : W1.grownBy (W1.drewN j) none := ⟨rfl, rfl, rfl, Nat.le_refl _, fun _ _ _ => rfl⟩
        exact hJ _ _ _ _ (hJ _ _ _ _ hJs hg1 (fun r e => by cases e)) hg2 (fun r e => by cases e)
      have hKx : ∀ j W3, Kx B n₀ (W1.drewN j) W3 → Kx B n₀ W W3 := fun j W3 h => hKw.trans ((Kx.below (hB1.trans ⟨rfl, rfl, rfl, Nat.le_refl _, fun _ _ => rfl⟩) hnz).trans h)
      obtain ⟨q, hq⟩ : ∃ q, (k + 1) % m = q := ⟨_, rfl⟩
      have hsid : sid ps k = (gp ps k, gp ps q) := by unfold sid; rw [hm, hq]
      rw [hq] at hmod hk1 e1 e2
      have hqI : (q : Int) < (m : Int) := by omega
      clear hq hm hW1 keep hc hnx hJs c1 c2 cs h0 hBs hKw
      refine wpIn_region_tail 10 hro (by kernel_rfl) (by kernel_rfl) ?_
      simp only [List.take_succ_cons, List.take_zero, List.drop_succ_cons, List.drop_zero]
      repeat (quiet_step_in (skip))
      refine wpQuietIn_nil ?_
      rintro _ ⟨nq, rfl⟩
      obtain ⟨fn, tmps, assign, body, hy, hR⟩ := hY k (W1.drewN nq) (hJ1 nq) hlt
      rw [hsid] at hy
      dsimp only at hy
      gi_wp2
      refine hR.mono ?_
      rintro e W3 (⟨rfl, hJ3, hk3⟩ | ⟨rfl, hJx3⟩)
      · have hk4 := hKx _ _ hk3
        gi_wp2
        go_roundw
        case rel => exact ⟨k + 1, by omega, by simp, hJ3, hk4⟩
        case measure => simp [intOf]; omega
      · gi_wp2
        refine bodyPost_ret (results_none rfl _ _ _) rfl ?_
        exact ⟨⟨_, rfl⟩, .inr ⟨k + 1, by omega, hJx3⟩⟩
    · obtain rfl : m = k := by omega
      gi_wp2
      go_end0
      exact ⟨⟨_, rfl⟩, .inl hJs⟩

set_option maxRecDepth 100000 in
set_option maxHeartbeats 1000000 in
theorem edges1_nil_in (F : Fence) (n : Nat) (hF : F.fn 51) (hro : F.round = none) (l Bs : Nat) (J : World → Prop) (W : World) (A0 : Option Addr) (c0 : Nat) (hBs : W.cell? ⟨Bs, 0, none⟩ = some (.slice A0 0 c0)) (h0 : J W) :
    CallsIn F n Try.prog 51 #[.func (.yield l) #[] #[], .pointer (some ⟨Bs, 0, none⟩)] W fun e W' => (∃ v, e = .returned v) ∧ J W' := by
  refine callsIn_of_wp Try.func51 rfl hF ?_ hro
  simp only [Try.ntmps51, List.size_toArray, List.length_cons, List.length_nil, Nat.reduceAdd, Nat.reduceSub, Array.replicate_succ, Array.replicate_zero, List.push_toArray, List.append_toArray, List.nil_append, List.cons_append]
  gi_wp2
  gi_loopw [7] (fun i wr => i = .int .i64 0 ∧ J wr) (fun _ _ => 0)
  case atStart => exact ⟨rfl, h0⟩
  case round =>
    obtain ⟨rfl, hJs⟩ := hrel
    gi_wp2
    go_end0
    exact ⟨⟨_, rfl⟩, hJs⟩

end

/-- The slice value sv holds the points ps, in a block below n other than B; or it is nil and there are none. -/
def PtsNe (n B : Nat) (W : World) (sv : Value) (ps : List Pt) : Prop :=
  ((∃ A c, sv = .slice A 0 c) ∧ ps = []) ∨ ∃ b off cap, sv = .slice (some ⟨b, off, none⟩) ps.length cap ∧ b < n ∧ b ≠ B ∧ ∀ j, j < ps.length → W.cell? ⟨b, off + j * 2, none⟩ = some (.int .i32 (gp ps j).1) ∧ W.cell? ⟨b, off + j * 2 + 1, none⟩ = some (.int .i32 (gp ps j).2)
theorem PtsNe.below {n B : Nat} {A C : World} (h : Below n A C) {sv : Value} {ps : List Pt} : PtsNe n B A sv ps → PtsNe n B C sv ps
  | .inl e => .inl e
  | .inr ⟨b, off, cap, e, hb, hne, hc⟩ => .inr ⟨b, off, cap, e, hb, hne, fun j hj => ⟨(h.cell (p := ⟨b, off + j * 2, none⟩) hb).trans (hc j hj).1, (h.cell (p := ⟨b, off + j * 2 + 1, none⟩) hb).trans (hc j hj).2⟩⟩

theorem edges_stops (F : Fence) (n : Nat) (hF : F.fn 51) (hro : F.round = none) (hn : 1 ≤ n) (Bs B n₀ : Nat) (sv : Value) (ps : List Pt) (hps : ∀ p ∈ ps, IPt p) (hreach : ps.length * 8 ≤ 140737488355328) (w : World) (hn₀ : n₀ ≤ w.heap.size)
    (hs : Bs < n₀) (hsB : Bs ≠ B) (hc : w.cell? ⟨Bs, 0, none⟩ = some sv) (hI : PtsNe n₀ B w sv ps) :
    SeqStopsK F n Try.prog 51 #[.pointer (some ⟨Bs, 0, none⟩)] ePt (Kx B n₀) (fun ys => ys = upto (sdS ps hps) ps.length) (fun pre => ∃ k, k ≤ ps.length ∧ pre = upto (sdS ps hps) k) ps.length w := fun l J Jx W hW hJ _ hY h0 => by
  have hc' := (hW.cell (p := ⟨Bs, 0, none⟩) (by show Bs < w.heap.size; omega)).trans hc
  rcases hI.below (hW.mono hn₀) with ⟨⟨A0, c0, rfl⟩, rfl⟩ | ⟨b, off, cap, rfl, hb, hbB, hcs⟩
  · exact (edges1_nil_in F n hF hro l Bs (J []) W A0 c0 hc' h0).mono fun e W' ⟨he, hj⟩ => ⟨he, .inl ⟨_, rfl, hj⟩⟩
  · refine (edges1_in F n hF hro hn l Bs B n₀ b off cap ps _ rfl hreach hb hbB hs hsB (fun k => J (upto (sdS ps hps) k)) (fun k => Jx (upto (sdS ps hps) k)) (fun k => hJ (upto (sdS ps hps) k)) (fun k W1 h hk => ?_) W (Nat.le_trans hn₀ hW.size) hc' hcs h0).mono ?_
    · have := hY _ (sdS ps hps k) W1 h (by rw [upto_length]; exact hk)
      rw [← upto_succ] at this
      exact this
    · rintro e W' ⟨he, hj | ⟨k, hk, hj⟩⟩
      · exact ⟨he, .inl ⟨_, rfl, hj⟩⟩
      · exact ⟨he, .inr ⟨_, ⟨k, hk, rfl⟩, hj⟩⟩

theorem ret_edges {a b : Value} (h : a = b) : Ending.returned a = .returned b := by rw [h]
set_option maxHeartbeats 1000000 in
theorem edges_any (ps : List Pt) (M : Nat) (A : Option Addr) (c : Nat) (w : World) (hP : PtsAt M w (.slice A ps.length c) ps) (hM : M ≤ w.heap.size) (hlen : ps.length ≤ 17592186044416) (hA : ps.length = 0 → A = none → c = 0) :
    Calls Try.prog 31 #[.slice A ps.length c] w fun e w' => ∃ A' c', e = .returned (.func (.func 51) #[] #[.pointer (some ⟨w.heap.size, 0, none⟩)]) ∧ Boxed w' w.heap.size 23 (.slice A' ps.length c') ∧ (∀ B, B < w.heap.size → PtsNe w'.heap.size B w' (.slice A' ps.length c') ps) ∧ Below w.heap.size w w' := by
  have HC := Lib.hid (fun W (h : Below w.heap.size w W) => clone_ptsE ps M A c W (hP.below (h.mono hM)) (Nat.le_trans hM h.size) hlen hA)
  have HF : Hid (∀ (W : World) (base : Nat) (v : Value), W.ownsRow base 28 2 v ps.length (flat ps) → w.heap.size < base → ∃ A' c', v = .slice A' ps.length c' ∧ ∀ u B, B < w.heap.size → PtsNe (W.setCell ⟨w.heap.size, 0, none⟩ u).heap.size B (W.setCell ⟨w.heap.size, 0, none⟩ u) v ps) := Lib.hid (fun W base v h hb => by
    rcases h.2 with ⟨hv, h0⟩ | ⟨g, cap, cur, hv, hg0, hg, h1, h2, h3, h4⟩
    · exact ⟨none, 0, by rw [hv, h0], fun u B _ => .inl ⟨⟨_, _, hv⟩, List.length_eq_zero_iff.1 h0⟩⟩
    · refine ⟨_, cap, hv, fun u B hB => .inr ⟨g, 0, cap, hv, by simp; exact (h.lt g (by rw [hv]; rfl)).2, by omega, fun j hj => ?_⟩⟩
      have hc := h.cells (g := g) (by rw [hv]; rfl)
      obtain ⟨e1, e2⟩ := flat_get ps j hj
      have f1 := hc _ _ e1
      have f2 := hc _ _ e2
      rw [add_at] at f1 f2
      rw [Nat.zero_add]
      have hne : ∀ o, some (Addr.mk g o none).block ≠ some w.heap.size := fun o e => by
        have : g = w.heap.size := Option.some.inj e
        omega
      exact ⟨(grownBy_setCell' W w.heap.size u).cell f1 (hne _), (grownBy_setCell' W w.heap.size u).cell f2 (hne _)⟩)
  obtain ⟨n, hn⟩ : ∃ n, ps.length = n := ⟨_, rfl⟩
  rw [hn] at HC HF ⊢
  clear hP hA hn hlen
  go_enter Try.func31, Try.ntmps31
  go_wp2_with fail
  refine (HC.out _ (by go_grown)).mono ?_
  rintro e w1 ⟨v, rfl, hown, hb1⟩
  obtain ⟨A', c', rfl, hpt⟩ := HF.out w1 _ v hown (by simp)
  have vB : Boxed w1 w.heap.size 23 (.slice A n c) := boxed_below hb1 (by simp) (Boxed.new w 23 _)
  have c0 := vB.cell
  have f0 := vB.frozen
  have H1 := Lib.hid (And.intro hpt (And.intro (vB.set (.slice A' n c')) (((by go_grown : Below w.heap.size w (w.alloc (.cells #[.slice A n c] 23))).trans (hb1.mono (by simp))).setCell (p := ⟨w.heap.size, 0, none⟩) (Nat.le_refl _) (.slice A' n c'))))
  have hz : w.heap.size < w1.heap.size := vB.lt
  clear hown hpt vB hb1
  go_wp2_with fail
  go_ret
  exact ⟨A', c', rfl, H1.out.2.1, fun B hB => H1.out.1 _ B hB, H1.out.2.2⟩

end Go.Proofs.Ythbndilnobjjgaa
