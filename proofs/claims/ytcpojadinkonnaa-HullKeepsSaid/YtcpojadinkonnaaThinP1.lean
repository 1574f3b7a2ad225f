/-
  What hull.Thin calls of the library: ContainsFunc, Clone.
-/
import Derived.Test.YtcpojadinkonnaaThinR7
import Derived.Test.YtcpojadinkonnaaLent2
namespace Go.Proofs.Ytcpojadinkonnaa
open Go.RowKit

theorem out_any (x y : Int) (w : World) : Calls Try.prog 29 #[(Value.agg #[.int .i32 (x), .int .i32 (y)])] w fun e w' => e = .returned (.bool (!inB x y)) ∧ Below w.heap.size w w' := by
  have H := Lib.hid (fun W => in_any x y W)
  obtain ⟨v, hv⟩ : ∃ z, inB x y = z := ⟨_, rfl⟩
  rw [hv] at H ⊢
  clear hv
  go_enter Try.func29, Try.ntmps29
  go_wp2_with fail
  refine (H.out _).mono ?_
  rintro e w1 ⟨rfl, hb_w1⟩
  obtain ⟨hc_w1, hf_w1⟩ := bcell hb_w1
  have hz_w1 := hb_w1.size
  try simp at hz_w1
  have hB_w1 : Below w.heap.size w w1 := Below.trans (by go_grown) (hb_w1.mono (by go_size))
  have hs_w1_w_0 : w.heap.size < w1.heap.size := by omega
  go_wp2_with fail
  refine bodyPost_ret (by simp [results, Try.results29, go_sem, *]; try rfl) rfl ?_
  exact ⟨rfl, by go_grown⟩

set_option maxHeartbeats 1000000 in
set_option maxRecDepth 100000 in
theorem index_any (ps : List Pt) (M : Nat) (A : Option Addr) (c : Nat) (w : World) (hP : PtsAt M w (.slice A ps.length c) ps) (hM : M ≤ w.heap.size) (hlen : ps.length ≤ 4096) :
    Calls Try.prog 59 #[.slice A ps.length c, .func (.func 29) #[] #[]] w fun e w' => ∃ z : Int, e = .returned (.int .i64 z) ∧ (0 ≤ z ↔ ¬ IsL ps) ∧ Below w.heap.size w w' := by
  obtain ⟨n, hn⟩ : ∃ n, ps.length = n := ⟨_, rfl⟩
  rw [hn] at hP ⊢
  have HP := Lib.hid (And.intro hP hn)
  have hn4 : n ≤ 4096 := by omega
  clear hP hn hlen
  go_enter Try.func59, Try.ntmps59
  go_wp2_with fail
  go_loopw [5, 8] (fun u i wr => ∃ k : Nat, k ≤ n ∧ i = .int .i64 (k : Int) ∧ (∀ m, m < k → IL (gp ps m)) ∧ Below w.heap.size w wr) (fun _ i _ => n - (intOf i).toNat)
  case atStart => exact ⟨0, by omega, rfl, fun m hm => absurd hm (by omega), by go_grown⟩
  case round =>
    obtain ⟨k, hk, rfl, hall, hB⟩ := hrel
    have hzr := hB.size
    rcases Nat.lt_or_ge k n with hlt | hge
    · have hkI : (k : Int) < (n : Int) := by omega
      obtain ⟨b, off, rfl, hb, hc⟩ : ∃ b off, A = some ⟨b, off, none⟩ ∧ b < M ∧ ∀ k, k < ps.length → w.cell? ⟨b, off + k * 2, none⟩ = some (.int .i32 (gp ps k).1) ∧ w.cell? ⟨b, off + k * 2 + 1, none⟩ = some (.int .i32 (gp ps k).2) := by
        rcases HP.out.1 with ⟨⟨A0, c0, _⟩, he⟩ | ⟨b, off, cap, he, hb, hc⟩
        · have := HP.out.2; rw [he] at this; simp at this; omega
        · injection he with he1 he2 he3
          exact ⟨b, off, he1, hb, hc⟩
      have hkp : k < ps.length := by rw [HP.out.2]; exact hlt
      have c1 := (hB.cell (p := ⟨b, off + k * 2, none⟩) (show b < w.heap.size by omega)).trans (hc k hkp).1
      have c2 := (hB.cell (p := ⟨b, off + k * 2 + 1, none⟩) (show b < w.heap.size by omega)).trans (hc k hkp).2
      have hbz : b < wr.heap.size := by omega
      have HX := Lib.hid (And.intro hall (And.intro hB hkp))
      have hI := inB_iff (gp ps k)
      have HI := Lib.hid (fun W => out_any (gp ps k).1 (gp ps k).2 W)
      obtain ⟨v, hv⟩ : ∃ z, inB (gp ps k).1 (gp ps k).2 = z := ⟨_, rfl⟩
      rw [hv] at hI HI
      have HV := Lib.hid hI
      clear hc hall hB hkp hI hv
      cases v with
      | true =>
        go_wp2_with fail
        refine (HI.out _).mono ?_
        rintro e w3 ⟨rfl, hb3⟩
        have H3 := Lib.hid (HX.out.2.1.trans (hb3.mono HX.out.2.1.size))
        clear hb3
        rw [show (!true) = false from rfl]
        go_wp2_with fail
        go_roundw
        case rel =>
          refine ⟨k + 1, by omega, by go_num, fun m hm => ?_, H3.out⟩
          rcases Nat.lt_or_ge m k with h1 | h1
          · exact HX.out.1 m h1
          · obtain rfl : m = k := by omega
            have := HV.out
            simp at this
            exact this
        case measure => simp [intOf]; omega
      | false =>
        go_wp2_with fail
        refine (HI.out _).mono ?_
        rintro e w3 ⟨rfl, hb3⟩
        have H3 := Lib.hid (HX.out.2.1.trans (hb3.mono HX.out.2.1.size))
        clear hb3
        rw [show (!false) = true from rfl]
        go_wp2_with fail
        go_ret
        refine ⟨(k : Int), rfl, ⟨fun _ h => ?_, fun _ => by omega⟩, H3.out⟩
        have h2 := h.gp k
        have := HV.out
        simp at this
        exact this h2
    · have hkI : ¬ (k : Int) < (n : Int) := by omega
      have hps : IsL ps := isL_all (fun m hm => hall m (by have := HP.out.2; omega))
      have HX := Lib.hid (And.intro hps hB)
      clear hall hB hps
      go_wp2_with fail
      go_ret
      exact ⟨-1, rfl, ⟨fun h => absurd h (by omega), fun h => absurd HX.out.1 h⟩, HX.out.2⟩

open Classical in
theorem contains_any (ps : List Pt) (M : Nat) (A : Option Addr) (c : Nat) (w : World) (hP : PtsAt M w (.slice A ps.length c) ps) (hM : M ≤ w.heap.size) (hlen : ps.length ≤ 4096) :
    Calls Try.prog 28 #[.slice A ps.length c, .func (.func 29) #[] #[]] w fun e w' => e = .returned (.bool (decide (¬ IsL ps))) ∧ Below w.heap.size w w' := by
  have H := Lib.hid (index_any ps M A c w hP hM hlen)
  clear hP
  obtain ⟨n, hn⟩ : ∃ n, ps.length = n := ⟨_, rfl⟩
  rw [hn] at H ⊢
  obtain ⟨b, hb⟩ : ∃ z, decide (¬ IsL ps) = z := ⟨_, rfl⟩
  have HB := Lib.hid hb
  rw [hb]
  clear hb hn
  go_enter Try.func28, Try.ntmps28
  go_wp2_with fail
  refine H.out.mono ?_
  rintro e w1 ⟨z, rfl, hz, hb1⟩
  have H1 := Lib.hid (And.intro hz hb1)
  clear hz hb1
  go_wp2_with fail
  go_ret
  exact ⟨ret_bool (by rw [← HB.out]; exact decide_eq_decide.2 H1.out.1), H1.out.2⟩

/-- 'append([]E{}, v...)': a row of the call's own that holds what the slice holds. -/
theorem wpList_onto {P : Program} {ops : Array Oper} {rest : List Oper} {o : Oper} {a : Act} {Q : Exit → Act → World → Prop} {w : World} (hgd : o.guard = none) (s x : Operand) (t : TypeId) (ho : o.op = .call { callee := .builtin .append, args := #[s, x], argTypes := #[t, t] })
    {e : TypeId} {z : Value} {size bytes : Nat} (E : Elt P t e z size bytes) (ad : Addr) (L c : Nat) (news : List Value) (hs : a.eval s = .slice (some ⟨w.heap.size, 0, none⟩) 0 0) (hx : a.eval x = .slice (some ad) L c)
    (hl : news.length = L * size) (hc : ∀ j u, news[j]? = some u → w.cell? (ad.add j) = some u) (h1 : ∀ u ∈ news, u.oneCell' = true) (hn : L ≤ maxLen) (hb : L * bytes ≤ 140737488355328)
    (h : ∀ A' c' w', w'.ownsRow w.heap.size e size (.slice A' L c') L news → w.grownBy w' none → wpList P ops Q rest (a.put o.dst (.slice A' L c')) w') : wpList P ops Q (o :: rest) a (w.alloc (.cells #[] e)) := by
  obtain ⟨i, hi, hz, hsz, hby⟩ := info_parts E.info
  have hown0 : (w.alloc (.cells #[] e)).ownsRow w.heap.size e size (.slice (some ⟨w.heap.size, 0, none⟩) 0 0) 0 [] := ⟨by simp, .inr ⟨w.heap.size, 0, #[], rfl, Nat.le_refl _, Var.new w e #[], Nat.le_refl _, Nat.zero_le _, by simp, by simp⟩⟩
  refine wpList_append_own (w.alloc (.cells #[] e)) hgd s x t ho w.heap.size e i z size bytes E.under hi hz hsz hby E.cells E.pos (.slice (some ⟨w.heap.size, 0, none⟩) 0 0) 0 [] hs hown0 ad L c news hx hl (fun j u hj => ?_) h1 (by omega) (by rw [Nat.zero_add]; exact hb) (by simp) ?_
  · have h0 := hc j u hj
    have hlt := World.block_lt_of_cell? w _ h0
    exact (World.cell?_alloc_lt _ _ _ hlt).trans h0
  · intro v' w' hown hg _
    rw [Nat.zero_add, List.nil_append] at hown
    have hg' : w.grownBy w' none := ⟨hg.os, hg.tape, hg.output, Nat.le_trans (by simp) hg.size, fun k hk _ => (hg.block k (by simp; omega) (fun e => absurd (Option.some.inj e) (Nat.ne_of_lt hk))).trans (Below.heap_alloc w _ k hk)⟩
    rcases hown.2 with ⟨hv, hn0⟩ | ⟨g, cap, cur, hv, _⟩
    · subst hv
      subst hn0
      exact h none 0 w' hown hg'
    · subst hv
      exact h _ _ w' hown hg'

set_option maxHeartbeats 1000000 in
set_option maxRecDepth 100000 in
theorem clone_pts (ps : List Pt) (M : Nat) (A : Option Addr) (c : Nat) (w : World) (hP : PtsAt M w (.slice A ps.length c) ps) (hM : M ≤ w.heap.size) (hlen : ps.length ≤ 4096) (hA : ps.length = 0 → A = none → c = 0) :
    Calls Try.prog 31 #[.slice A ps.length c] w fun e w' => ∃ v, e = .returned v ∧ w'.ownsRow w.heap.size 32 2 v ps.length (flat ps) ∧ Below w.heap.size w w' := by
  cases A with
  | none =>
    have h0 : ps = [] := by
      rcases hP with ⟨_, h⟩ | ⟨b, off, cap, he, _⟩
      · exact h
      · cases he
    subst h0
    obtain rfl := hA rfl rfl
    have hnil : ∀ W, (binOp .eql 23 (.slice none 0 0) (.slice none 0 0) : Sem Value).run Try.prog W = .ok (.bool true) W := fun _ => by rfl
    show Calls Try.prog 31 #[.slice none 0 0] w _
    go_enter Try.func31, Try.ntmps31
    go_wp2_with fail
    go_ret
    exact ⟨_, rfl, World.ownsRow_nil _ _ _ _, Below.refl _ _⟩
  | some ad =>
    have hcell : ∀ j u, (flat ps)[j]? = some u → w.cell? (ad.add j) = some u := by
      rcases hP with ⟨_, h⟩ | ⟨b, off, cap, he, hb, hc⟩
      · subst h; intro j u hu; simp [flat] at hu
      · injection he with he1 _ _
        injection he1 with he1
        subst he1
        exact flat_cells hc
    obtain ⟨n, hn⟩ : ∃ n, ps.length = n := ⟨_, rfl⟩
    have hnil : ∀ W, (binOp .eql 23 (.slice (some ad) n c) (.slice none 0 0) : Sem Value).run Try.prog W = .ok (.bool false) W := fun _ => by rfl
    have HC := Lib.hid (And.intro hcell hn)
    rw [hn]
    have hn4 : n ≤ 4096 := by omega
    clear hP hA hcell hn hlen
    go_enter Try.func31, Try.ntmps31
    go_wp2_with (at_builtin; refine wpList_onto rfl (.tmp 5) (.tmp 6) 23 rfl eltP ad n c (flat ps) rfl rfl (by rw [flat_length, HC.out.2]) HC.out.1 flat_one (le_maxLen (by omega)) (by omega) ?_; intro A1 c1 w1 hown1 hg1)
    have H1 := Lib.hid (And.intro hown1 ((Below.refl w.heap.size w).grown hg1 (Nat.le_refl _) (fun k e => by cases e)))
    clear hown1 hg1
    go_wp2_with fail
    go_ret
    exact ⟨_, rfl, H1.out.1, H1.out.2⟩

end Go.Proofs.Ytcpojadinkonnaa
