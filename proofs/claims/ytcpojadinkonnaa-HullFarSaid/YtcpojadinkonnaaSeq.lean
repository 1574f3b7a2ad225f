/-
  slices.Values, AppendSeq, Collect at points.
-/
import Derived.Test.YtcpojadinkonnaaPts
import Derived.Test.YtcpojadinkonnaaTold
import Derived.Test.YtcpojadinkonnaaTailIn
import Derived.RangeFuncCalls
import Derived.RangeFuncLeaves
import Derived.OwnWalkIn
import Derived.TacticsInMore
import Derived.LoopNIn
import Derived.LoopIn
namespace Go.Proofs.Ytcpojadinkonnaa
open Go.RowKit

attribute [local go_sem] Oper.semAt_some

theorem values_any (A : Option Addr) (n c : Nat) (w : World) :
    Calls Try.prog 69 #[.slice A n c] w fun e w' => e = .returned (.func (.func 90) #[] #[.pointer (some ⟨w.heap.size, 0, none⟩)]) ∧ Var w' w.heap.size 23 #[.slice A n c] ∧ Below w.heap.size w w' := by
  go_enter Try.func69, Try.ntmps69
  go_wp2_with fail
  go_returns
  exact ⟨rfl, Var.new _ _ _, by go_grown⟩

def ptv (p : Pt) : Array Value := #[.agg #[.int .i32 p.1, .int .i32 p.2]]

set_option maxRecDepth 100000 in
set_option maxHeartbeats 1000000 in
theorem values1_told (n : Nat) (hn : 1 ≤ n) (Bx M cp : Nat) (A : Option Addr) (ps : List Pt) (w : World) (hBx : Var w Bx 23 #[.slice A ps.length cp]) (hP : PtsAt M w (.slice A ps.length cp) ps) (hM : M ≤ w.heap.size) (hlen : ps.length * 8 ≤ 140737488355328) :
    SeqTold n Try.prog 90 #[.pointer (some ⟨Bx, 0, none⟩)] ptv (fun pre x _ => pre ++ [x] <+: ps) (Below w.heap.size) (fun xs => xs = ps) (fun _ => True) w := by
  intro l J Jx W hW hJ hJx hY h0
  have hJk : ∀ pre X Y, J pre X → Below X.heap.size X Y → J pre Y := fun pre X Y h hb => hJ pre X Y none h ⟨hb.os, hb.tape, hb.output, hb.size, fun k hk _ => hb.block k hk⟩ (fun r e => by cases e)
  have hcw : W.cell? ⟨Bx, 0, none⟩ = some (.slice A ps.length cp) := (hBx.keep hW).cell 0
  refine callsIn_of_wp Try.func90 rfl trivial ?_ rfl
  simp only [Try.ntmps90, List.size_toArray, List.length_cons, List.length_nil, Nat.reduceAdd, Nat.reduceSub, Array.replicate_succ, Array.replicate_zero, List.push_toArray, List.append_toArray, List.nil_append, List.cons_append]
  have HP := Lib.hid (And.intro hP (And.intro hY hJk))
  clear hP hY hJk hBx
  gi_wp2
  gi_loopw [7] (fun i wr => ∃ k : Nat, k ≤ ps.length ∧ i = .int .i64 (k : Int) ∧ J (ps.take k) wr ∧ Below w.heap.size w wr) (fun i _ => ps.length - (intOf i).toNat)
  case atStart => exact ⟨0, Nat.zero_le _, rfl, by simpa using h0, hW⟩
  case round =>
    obtain ⟨k, hk, rfl, hJs, hB⟩ := hrel
    clear h0 hcw
    have hz := hB.size
    rcases Nat.lt_or_ge k ps.length with hlt | hge
    · have hkI : (k : Int) < (ps.length : Int) := by omega
      obtain ⟨b, off, rfl, hb, hc⟩ : ∃ b off, A = some ⟨b, off, none⟩ ∧ b < M ∧ ∀ k, k < ps.length → w.cell? ⟨b, off + k * 2, none⟩ = some (.int .i32 (gp ps k).1) ∧ w.cell? ⟨b, off + k * 2 + 1, none⟩ = some (.int .i32 (gp ps k).2) := by
        rcases HP.out.1 with ⟨⟨A0, c0, _⟩, he⟩ | ⟨b, off, cap, he, hb, hc⟩
        · rw [he] at hlt; simp at hlt
        · injection he with he1 he2 he3
          exact ⟨b, off, he1, hb, hc⟩
      have c1 := (hB.cell (p := ⟨b, off + k * 2, none⟩) (show b < w.heap.size by omega)).trans (hc k hlt).1
      have c2 := (hB.cell (p := ⟨b, off + k * 2 + 1, none⟩) (show b < w.heap.size by omega)).trans (hc k hlt).2
      have hkp : k < ps.length := hlt
      have htk : ps.take (k + 1) = ps.take k ++ [gp ps k] := by
        rw [List.take_add_one]
        unfold gp
        rw [List.getElem?_eq_getElem hlt]
        rfl
      obtain ⟨p, hp⟩ : ∃ p, gp ps k = p := ⟨_, rfl⟩
      rw [hp] at c1 c2 htk
      have hpf : ps.take k ++ [p] <+: ps := by rw [← htk]; exact List.take_prefix _ _
      clear hc hp
      obtain ⟨W1, hW1⟩ : ∃ W1, wr.alloc (.cells #[.int .i32 p.1, .int .i32 p.2] 32) = W1 := ⟨_, rfl⟩
      have hJ1 : J (ps.take k) W1 := by rw [← hW1]; exact HP.out.2.2 _ _ _ hJs ((Below.refl _ _).alloc (Nat.le_refl _) _)
      have hB1 : Below w.heap.size w W1 := by rw [← hW1]; exact hB.alloc hz _
      obtain ⟨fn, tmps, assign, body, hy, hR⟩ := HP.out.2.1 _ p W1 hJ1 hpf
      unfold ptv at hy
      have HR := Lib.hid (And.intro hB1 (And.intro htk hR))
      clear hJ1 hB1 hpf htk hR hJs
      subst hW1
      gi_wp2
      refine HR.out.2.2.mono ?_
      rintro e W3 (⟨rfl, hJ3, hk3⟩ | ⟨rfl, hJx3⟩)
      · gi_wp2
        go_roundw
        case rel => exact ⟨k + 1, by omega, by simp, by rw [HR.out.2.1]; exact hJ3, HR.out.1.trans (hk3.mono (Nat.le_refl _))⟩
        case measure => simp [intOf]; omega
      · gi_wp2
        refine bodyPost_ret (results_none rfl _ _ _) rfl ?_
        exact ⟨⟨_, rfl⟩, .inr ⟨_, trivial, hJx3⟩⟩
    · have hkI : ¬ (k : Int) < (ps.length : Int) := by omega
      gi_wp2
      go_end0
      exact ⟨⟨_, rfl⟩, .inl (by rw [List.take_of_length_le (by omega)] at hJs; exact hJs)⟩

theorem own_varS {β : Type} {N : Nat} {t : TypeId} (f : β → Array Value) : Go.Own (fun (s : β) W => Var W N t (f s)) := fun s X Y row hs hg hr =>
  hs.grown hg (fun e => by
    obtain ⟨o, ho, hc⟩ := hr N e.symm
    rw [show X.heap[N]? = _ from hs] at ho
    cases ho
    cases hc)
theorem row_ne {W : World} {base : Nat} {e : TypeId} {size n : Nat} {v : Value} {xs : List Value} (h : W.ownsRow base e size v n xs) {row : Option Nat} (hr : ∀ r, row = some r → ∃ o : Obj, W.heap[r]? = some o ∧ o.isCells = false) : v.ownBlock = none ∨ v.ownBlock ≠ row := by
  rcases h.2 with ⟨rfl, _⟩ | ⟨g, cap, cur, rfl, _, hg, _⟩
  · exact .inl rfl
  · refine .inr fun e => ?_
    obtain ⟨o, ho, hc⟩ := hr g e.symm
    rw [hg] at ho
    cases ho
    cases hc
theorem own_baseS {W : World} {b b' : Nat} {e : TypeId} {size n : Nat} {v : Value} {xs : List Value} (h : W.ownsRow b e size v n xs) (hb : b' ≤ b) : W.ownsRow b' e size v n xs := by
  rcases h with ⟨hl, h1 | ⟨g, cap, cur, h1, h2, h3⟩⟩
  · exact ⟨hl, .inl h1⟩
  · exact ⟨hl, .inr ⟨g, cap, cur, h1, Nat.le_trans hb h2, h3⟩⟩
/-- What the loop of AppendSeq bears: its box holds a slice of its own with the points so far. -/
def SoFar (N : Nat) (pre : List Pt) (W : World) : Prop := ∃ (A : Option Addr) (c : Nat), Var W N 23 #[.slice A pre.length c] ∧ W.ownsRow (N + 1) 32 2 (.slice A pre.length c) pre.length (flat pre)
theorem own_soFar {N : Nat} : Go.Own (SoFar N) := fun s X Y row ⟨A, c, h1, h2⟩ hg hr => ⟨A, c, own_varS (fun _ : Unit => #[.slice A s.length c]) () X Y row h1 hg hr, h2.kept hg (row_ne h2 hr)⟩
theorem keeps_row {W W' : World} {base : Nat} {e : TypeId} {size n : Nat} {v : Value} {xs : List Value} (h : W.ownsRow base e size v n xs) (hg : W.grownBy W' v.ownBlock) : KeepsOthers W W' :=
  KeepsOthers.of_grownBy hg fun j o hj ho => by
    rcases h.2 with ⟨rfl, _⟩ | ⟨g, cap, cur, rfl, _, hg, _⟩
    · cases hj
    · cases hj
      rw [hg] at ho
      cases ho
      rfl

theorem wpListIn_push_at {F : Fence} {N : Nat} {P : Program} {ops : Array Oper} {rest : List Oper} {o : Oper} {a : Act} {Q : Exit → Act → World → Prop} {w0 : World} (hgd : o.guard = none) (s x : Operand) (t : TypeId)
    (ho : o.op = .call { callee := .builtin .append, args := #[s, x], argTypes := #[t, t] })
    {e : TypeId} {z : Value} {size bytes : Nat} (E : Elt P t e z size bytes) (base : Nat) (A : Option Addr) (n c : Nat) (xs : List Value)
    (hs : a.eval s = .slice A n c) (hown : w0.ownsRow base e size (.slice A n c) n xs) (us : List Value) (hx : a.eval x = .slice (some ⟨w0.heap.size, 0, none⟩) 1 1)
    (hl : us.length = size) (h1 : ∀ u ∈ us, u.oneCell' = true) (hn : n + 1 ≤ maxLen) (hbytes : (n + 1) * bytes ≤ 140737488355328) (hbase : base ≤ w0.heap.size)
    (h : ∀ A' c' w', w'.ownsRow base e size (.slice A' (n + 1) c') (n + 1) (xs ++ us) → w0.grownBy w' (Value.slice A n c).ownBlock → KeepsOthers w0 w' → wpListIn F N P ops Q rest (a.put o.dst (.slice A' (n + 1) c')) w') :
    wpListIn F N P ops Q (o :: rest) a (w0.alloc (.cells us.toArray e)) := by
  obtain ⟨i, hi, hz, hsz, hby⟩ := info_parts E.info
  refine wpListIn_append_own (w0.alloc (.cells us.toArray e)) hgd s x t ho base e i z size bytes E.under hi hz hsz hby E.cells E.pos (.slice A n c) n xs hs (hown.alloc _) ⟨w0.heap.size, 0, none⟩ 1 1 us hx (by omega) ?_ h1 hn hbytes (by simp; omega) ?_
  · intro j u hu
    have hj : j < us.length := by
      rcases Nat.lt_or_ge j us.length with h0 | h0
      · exact h0
      · rw [List.getElem?_eq_none h0] at hu; cases hu
    have hc := (Var.new w0 e us.toArray).cell j
    have ha : ((⟨w0.heap.size, 0, none⟩ : Addr).add j) = ⟨w0.heap.size, j, none⟩ := by
      unfold Addr.add
      by_cases hj0 : j = 0 <;> simp [hj0]
    rw [ha, hc]
    simpa using hu
  · intro v' w' hown' hg hnil
    have hg' : w0.grownBy w' (Value.slice A n c).ownBlock := ⟨hg.os, hg.tape, hg.output, Nat.le_trans (by simp) hg.size, fun k hk hne => (hg.block k (by simp; omega) hne).trans (Below.heap_alloc w0 _ k hk)⟩
    rcases hown'.2 with ⟨hv, hn0⟩ | ⟨g, cap, cur, hv, _⟩
    · omega
    · subst hv
      exact h _ _ w' hown' hg' ((KeepsOthers.alloc _ _).trans (keeps_row (hown.alloc _) hg))

set_option maxRecDepth 100000 in
set_option maxHeartbeats 1000000 in
theorem appendSeq_any (Bx M cp : Nat) (A : Option Addr) (ps : List Pt) (w : World) (hBx : Var w Bx 23 #[.slice A ps.length cp]) (hP : PtsAt M w (.slice A ps.length cp) ps) (hM : M ≤ w.heap.size) (hlen : ps.length * 8 ≤ 140737488355328) :
    Calls Try.prog 100 #[.slice none 0 0, .func (.func 90) #[] #[.pointer (some ⟨Bx, 0, none⟩)]] w fun e w' => ∃ A' c', e = .returned (.slice A' ps.length c') ∧ w'.ownsRow w.heap.size 32 2 (.slice A' ps.length c') ps.length (flat ps) ∧ Below w.heap.size w w' := by
  have hseq := values1_told 5 (by omega) Bx M cp A ps w hBx hP hM hlen
  refine (callsIn_wide (n := 6)).1 ?_
  refine callsIn_of_wp_marks Try.func100 rfl trivial ?_ rfl
  simp only [Try.ntmps100, List.size_toArray, List.length_cons, List.length_nil, Nat.reduceAdd, Nat.reduceSub, Array.replicate_succ, Array.replicate_zero, List.push_toArray, List.append_toArray, List.nil_append, List.cons_append]
  have HS := Lib.hid hseq
  clear hseq hBx hP
  gi_wp2
  obtain ⟨N, hN⟩ : ∃ N, w.heap.size = N := ⟨_, rfl⟩
  obtain ⟨W1, hW1⟩ : ∃ W1, w.alloc (.cells #[.slice none 0 0] 23) = W1 := ⟨_, rfl⟩
  have z1 : W1.heap.size = N + 1 := by rw [← hW1, ← hN]; simp
  have b1 : Below w.heap.size w W1 := by rw [← hW1]; exact (Below.refl _ _).alloc (Nat.le_refl _) _
  have v1 : Var W1 N 23 #[.slice none 0 0] := by rw [← hW1, ← hN]; exact Var.new _ _ _
  have hs0 : SoFar N [] W1 := ⟨none, 0, v1, World.ownsRow_nil _ _ _ _⟩
  rw [hN, hW1]
  clear hW1 v1
  refine wpIn_rangeFunc_told (by omega) (gf := 90) (lb := #[.pointer (some ⟨Bx, 0, none⟩)]) rfl (enters_of Try.func90 (by kernel_rfl) rfl)
    HS.out (fun h k => h.trans (k.mono (Nat.le_refl _))) (fun W l o o' hl h h1 h2 => belowK_b b1.size W l o o' hl h h1 h2) b1 (fun _ => rfl)
    (fun pre W => SoFar N pre W ∧ Below w.heap.size w W)
    (fun _ _ _ => False)
    (OwnFrom.and (Go.Own.from own_soFar _) (ownFrom_below (Nat.le_refl _) b1.size))
    (fun c => ownFrom_pure _ _)
    ⟨hs0, b1⟩
    (fun pre x a' W => (∃ C, N < C ∧ Var W C 32 #[.int .i32 x.1, .int .i32 x.2] ∧ a' = { tmps := #[.slice none 0 0, .func (.func 90) #[] #[.pointer (some ⟨Bx, 0, none⟩)], .pointer (some ⟨N, 0, none⟩), undef, .slice none 0 0, .pointer (some ⟨C, 0, none⟩), .func (.func 90) #[] #[.pointer (some ⟨Bx, 0, none⟩)], .agg #[.int .i32 x.1, .int .i32 x.2], undef, undef, undef, undef, undef], defers := [] }) ∧ pre ++ [x] <+: ps)
    (fun pre x a' _ X Y row hs hg hr => by
      obtain ⟨⟨C, h1, h2, h3⟩, h4⟩ := hs
      exact ⟨⟨C, h1, own_varS (fun _ : Unit => #[.int .i32 x.1, .int .i32 x.2]) () X Y row h2 hg (fun r e => (hr r e).2), h3⟩, h4⟩)
    ?assign ?body ?done ?stop
  case assign =>
    rintro l pre x W K ⟨hs, hB⟩ hok hK
    have hz := hB.size
    unfold ptv
    gi_wp2
    refine hK _ _ ((KeepsOthers.alloc _ _).from _) ?_ ?_ ?_
    · exact ((Below.refl _ _).alloc hz _)
    · exact ⟨own_soFar.alloc _ hs, hB.alloc hz _⟩
    · exact ⟨⟨W.heap.size, by obtain ⟨_, _, hv, _⟩ := hs; exact hv.lt, Var.new _ _ _, rfl⟩, hok⟩
  case body =>
    rintro l pre x a' W hl ⟨⟨A1, c1, hv, hrow⟩, hB⟩ ⟨⟨C, hC, vC, rfl⟩, hok⟩
    have hz := hB.size
    have hpl : pre.length + 1 ≤ ps.length := by
      have := hok.length_le
      simpa using this
    have cN := hv.cell 0
    have cC0 := vC.cell 0
    have cC1 := vC.cell 1
    have zC := vC.lt
    have zN := hv.lt
    have HV := Lib.hid (And.intro hv (And.intro vC (And.intro hB hrow)))
    clear hok HS hB hv vC
    gi_wp2_with (gi_at_builtin; refine wpListIn_push_at rfl (.tmp 8) (.tmp 10) 23 rfl eltP (N + 1) A1 pre.length c1 (flat pre) rfl hrow [_, _] rfl rfl (two_cells rfl rfl) (le_maxLen (by omega)) (by omega) zN ?_; intro A' c' w3 hown' hg3 hk3; have v3 := HV.out.1.push hrow (by omega) hg3; have c3 := v3.cell 0; have f3 := v3.free 0)
    have hb3 : Below w.heap.size W w3 := (Below.refl _ W).grown hg3 hz (fun k e => by have := (hrow.lt k e).1; omega)
    have hb4 := hb3.setCell (p := ⟨N, 0, none⟩) (by show w.heap.size ≤ N; omega) (Value.slice A' (pre.length + 1) c')
    refine ⟨(hk3.trans (KeepsOthers.setCell _ _ _)).from _, hb4, ⟨A', c', ?_, ?_⟩, HV.out.2.2.1.trans (hb4.mono (Nat.le_refl _))⟩
    · rw [List.length_append]; exact v3.store 0 _
    · rw [List.length_append, flat_snoc]
      exact hown'.kept (grownBy_setCell' _ _ _) (.inr fun e => by have := (hown'.lt _ e).1; omega)
  case done =>
    rintro D xs W hD rfl ⟨⟨A1, c1, hv, hrow⟩, hB⟩ hKD
    have cN := hv.cell 0
    clear HS
    gi_wp2
    refine ⟨by simp, .inl ⟨_, _, rfl, run_takeDeferred hKD, ?_⟩⟩
    have hb5 : Below w.heap.size W (W.putObj D (.deferred none)) := belowK_b (w := W1) b1.size W D _ _ hD hKD rfl rfl
    refine ⟨.slice A1 xs.length c1, by simp [results, Try.results100, go_sem], A1, c1, rfl, ?_, hB.trans (hb5.mono (Nat.le_refl _))⟩
    have hk := hrow.kept (grownBy_putObj' W D (.deferred none)) (row_ne hrow (fun r e => ⟨_, by cases e; exact hKD, rfl⟩))
    exact own_baseS hk (by omega)
  case stop =>
    rintro D c pre W _ _ h _
    exact h.elim

set_option maxHeartbeats 1000000 in
theorem collect_any (Bx M cp : Nat) (A : Option Addr) (ps : List Pt) (w : World) (hBx : Var w Bx 23 #[.slice A ps.length cp]) (hP : PtsAt M w (.slice A ps.length cp) ps) (hM : M ≤ w.heap.size) (hlen : ps.length * 8 ≤ 140737488355328) :
    Calls Try.prog 88 #[.func (.func 90) #[] #[.pointer (some ⟨Bx, 0, none⟩)]] w fun e w' => ∃ A' c', e = .returned (.slice A' ps.length c') ∧ w'.ownsRow w.heap.size 32 2 (.slice A' ps.length c') ps.length (flat ps) ∧ Below w.heap.size w w' := by
  have H := Lib.hid (appendSeq_any Bx M cp A ps w hBx hP hM hlen)
  clear hBx hP
  go_enter Try.func88, Try.ntmps88
  go_wp2_with fail
  refine H.out.mono ?_
  rintro e w1 ⟨A', c', rfl, h1, h2⟩
  go_wp2_with fail
  go_ret
  exact ⟨A', c', rfl, h1, h2⟩

end Go.Proofs.Ytcpojadinkonnaa
