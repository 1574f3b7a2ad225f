/-
  RingExact's helpers: an append that leaves the older slice as it was; the one form under one name.
  RingExact's body: what follows the second question. Printed by wip/tools/gen_exact6.py from exact6.part.
  RingExact's body, walked.
  Proved: the law RingExact returns true for any list of points of bulk at most 1048576.
-/
import Derived.Test.YthbndilnobjjgaaEdge6W
import Derived.Test.YthbndilnobjjgaaNorm6W
import Derived.Test.YthbndilnobjjgaaBnd6R
import Derived.Test.YthbndilnobjjgaaSame6
import Derived.Test.YthbndilnobjjgaaOpenPts
import Derived.Lib.SmallJoins
import Derived.JoinedCond
namespace Go.Proofs.Ythbndilnobjjgaa
section
open Go.RowKit Go.Shelf

/-- What stands while the law asks: the roomy list, all older memory. -/
structure St6 (w : World) (g : Nat) (ps : List Pt) (W : World) : Prop where
  r : RoomAt W g ps
  b : Below w.heap.size w W
theorem St6.keep {w W W' : World} {g : Nat} {ps : List Pt} (h : St6 w g ps W) (hb : Below W.heap.size W W') : St6 w g ps W' := ⟨h.r.keep hb, h.b.trans (hb.mono h.b.size)⟩
/-- The one form, or none. -/
def normX (ps : List Pt) (r : Int) : List Pt := if r = 0 then normP ps else []
theorem normX_64 {ps : List Pt} {r : Int × Nat × Nat} (h : ChkIs ps r) : (normX ps r.1).length ≤ 64 := by
  unfold normX
  split
  · rename_i h0
    obtain ⟨a, b, c⟩ := r
    dsimp only at h0
    subst h0
    exact norm_64 (chk_zero h).1.2
  · simp
theorem norm_un {ps : List Pt} {r : Int × Nat × Nat} (hr : ChkIs ps r) {w w' : World} {e : Ending}
    (h : ∃ r, ChkIs ps r ∧ ((r.1 ≠ 0 ∧ e = .returned (.tuple #[.slice none 0 0, .int .i64 r.1])) ∨ (r.1 = 0 ∧ ∃ A' c', e = .returned (.tuple #[.slice A' (normP ps).length c', .int .i64 0]) ∧ w'.ownsRow w.heap.size 28 2 (.slice A' (normP ps).length c') (normP ps).length (flat (normP ps))))) :
    ∃ A' c', e = .returned (.tuple #[.slice A' (normX ps r.1).length c', .int .i64 r.1]) ∧ w'.ownsRow w.heap.size 28 2 (.slice A' (normX ps r.1).length c') (normX ps r.1).length (flat (normX ps r.1)) := by
  obtain ⟨r', hr', h⟩ := h
  obtain rfl := chk_one hr hr'
  rcases h with ⟨h0, rfl⟩ | ⟨h0, A', c', rfl, hown⟩
  · have e : normX ps r.1 = [] := if_neg h0
    rw [e]
    exact ⟨none, 0, rfl, World.ownsRow_nil _ _ _ _⟩
  · have e : normX ps r.1 = normP ps := if_pos h0
    rw [e, h0]
    exact ⟨A', c', rfl, hown⟩
theorem own_turn6 {S : Nat → Prop} {w w' : World} {base : Nat} {e : TypeId} {size n : Nat} {v : Value} {xs : List Value} (h : w.ownsRow base e size v n xs) (ht : Turn S w w') (hg : ∀ k, v.ownBlock = some k → ¬ S k) : w'.ownsRow base e size v n xs := own_turn h ht hg
/-- A point stored into an own row. -/
theorem own_put {W : World} {b n c k g : Nat} {zs : List Pt} (h : W.ownsRow b 28 2 (.slice (some ⟨g, 0, none⟩) n c) n (flat zs)) (hz : zs.length = n) (hk : k < n) (p : Pt) :
    ((W.setCell ⟨g, k * 2, none⟩ (.int .i32 p.1)).setCell ⟨g, k * 2 + 1, none⟩ (.int .i32 p.2)).ownsRow b 28 2 (.slice (some ⟨g, 0, none⟩) n c) n (flat (zs.set k p)) := by
  rw [flat_set]
  exact own_store (own_store h (by rw [flat_length]; omega)) (by rw [List.length_set, flat_length]; omega)
section
variable {P : Program} (w : World)
/-- As run_append_own; the slice that was appended to reads on as it did. -/
theorem run_append_old (base : Nat) (t ty e : TypeId) (i : TypeInfo) (z : Value) (size bytes : Nat) (ht : P.underlying t = some (.slice e)) (hi : P.info? e = some i) (hz : i.zero = some z)
    (hsize : i.size = size) (hby : i.bytes = bytes) (hzs : z.cells.size = size) (hsz : 0 < size)
    (v : Value) (n : Nat) (xs : List Value) (hown : w.ownsRow base e size v n xs)
    (a : Addr) (m c : Nat) (news : List Value) (hl : news.length = m * size) (hnews : ∀ j u, news[j]? = some u → w.cell? (a.add j) = some u) (h1 : ∀ u ∈ news, u.oneCell' = true)
    (h63 : n + m ≤ maxLen) (hbytes : (n + m) * bytes ≤ 140737488355328) (hbase : base ≤ w.heap.size) (hm0 : 0 < m) :
    ∃ v' w', (Builtin.append_ #[t, t] ty #[v, .slice (some a) m c]).run P w = .ok v' w' ∧ w'.ownsRow base e size v' (n + m) (xs ++ news) ∧ w.grownBy w' v.ownBlock ∧ w'.ownsRow base e size v n xs ∧ ((∃ A c, v = .slice A n c ∧ v' = .slice A (n + m) c) ∨ (v'.ownBlock = some w.heap.size ∧ w.grownBy w' none)) := by
  subst hsize
  subst hby
  have hsmall : n + m ≤ 9223372036854775807 := by simp only [maxLen] at h63; omega
  have hlen : (xs ++ news).length = (n + m) * i.size := by rw [List.length_append, hown.1, hl, Nat.add_mul]
  have grown : ∀ (old : Nat), old < n + m → ∀ (row : Option Nat),
      (w.drew.alloc (.cells (xs.toArray ++ news.toArray ++ Builtin.zeroCells z.cells (grownCap w (n + m) old e - (n + m))) e)).ownsRow base e i.size
        (.slice (some ⟨w.heap.size, 0, none⟩) (n + m) (grownCap w (n + m) old e)) (n + m) (xs ++ news) ∧
      w.grownBy (w.drew.alloc (.cells (xs.toArray ++ news.toArray ++ Builtin.zeroCells z.cells (grownCap w (n + m) old e - (n + m))) e)) row := by
    intro old ho row
    have hge := grownCap_ge w (n + m) old e
    have hcm : grownCap w (n + m) old e ≤ maxLen := grownCap_le_maxLen w (n + m) old e h63
    refine ⟨⟨hlen, .inr ⟨w.heap.size, _, _, rfl, hbase, heap_alloc_new w.drew _, hge, hcm, ?_, ?_⟩⟩, ⟨rfl, rfl, rfl, by simp, fun k hk _ => heap_alloc_old w.drew _ k hk⟩⟩
    · simp only [Array.size_append, List.size_toArray, size_zeroCells, hzs, hown.1, hl, ← Nat.add_mul]
      congr 1
      omega
    · simp only [Array.toList_append, List.append_assoc]
      rw [← List.append_assoc, ← hlen]
      exact List.take_left
  have kept : ∀ {W' : World}, w.grownBy W' none → W'.ownsRow base e i.size v n xs := fun hg => hown.kept hg (by cases hv : v.ownBlock <;> simp)
  rcases hown.2 with ⟨rfl, rfl⟩ | ⟨g, cap, cur, rfl, hbg, hg, hnc, hcm, hcs, htake⟩
  · have hx : xs = [] := List.eq_nil_of_length_eq_zero (by simpa using hown.1)
    subst hx
    have hr := run_append_nil (P := P) w t ty e i z ht hi hz a m c news hl hnews (by omega) (by omega) (by have hb := hbytes; simp only [Nat.zero_add] at hb; omega)
    have hgr := grown 0 (by omega) none
    simp only [Nat.zero_add, List.nil_append, Array.empty_append] at hgr ⊢
    exact ⟨_, _, hr, hgr.1, hgr.2, kept hgr.2, .inr ⟨rfl, hgr.2⟩⟩
  · by_cases hroom : n + m ≤ cap
    · have hfit : n * i.size + news.length ≤ cur.size := by rw [hl, hcs, ← Nat.add_mul]; exact Nat.mul_le_mul_right _ hroom
      have hr := run_append_room (P := P) w t ty e i ht hi g n cap cur hg a m c news hl hnews h1 hroom hfit
      have hxl : xs.length = n * i.size := hown.1
      refine ⟨_, _, hr, ⟨hlen, .inr ⟨g, cap, _, rfl, hbg, setRow_heap w g cur _ e _ hg, hroom, hcm, ?_, ?_⟩⟩, ⟨rfl, rfl, rfl, by simp, fun k _ hk => setRow_other w g k _ (fun e => hk (by simp [Value.ownBlock, e]))⟩, ⟨hown.1, .inr ⟨g, cap, _, rfl, hbg, setRow_heap w g cur _ e _ hg, hnc, hcm, ?_, ?_⟩⟩, .inl ⟨_, _, rfl, rfl⟩⟩
      · simp only [List.size_toArray, List.length_append, List.length_take, List.length_drop, Array.length_toList]
        omega
      · rw [htake, ← hlen]
        exact List.take_left
      · simp only [List.size_toArray, List.length_append, List.length_take, List.length_drop, Array.length_toList]
        omega
      · rw [htake, ← hxl, List.append_assoc]
        exact List.take_left
    · have holds : ∀ j u, xs[j]? = some u → w.cell? ((⟨g, 0, none⟩ : Addr).add j) = some u := hown.cells (g := g) rfl
      have hr := run_append_grow (P := P) w t ty e i z ht hi hz ⟨g, 0, none⟩ n cap xs hown.1 holds a m c news hl hnews (by omega) (by omega) (growslice_fits (by omega) hbytes)
      have hgr := grown cap (by omega) none
      exact ⟨_, _, hr, hgr.1, ⟨hgr.2.os, hgr.2.tape, hgr.2.output, hgr.2.size, fun k hk _ => hgr.2.block k hk (by simp)⟩, kept hgr.2, .inr ⟨rfl, hgr.2⟩⟩
end
section
variable {P : Program}
/-- 'y = append(x, u)' onto a row of the call's own: x reads on as it did. -/
theorem wpList_push_old {ops : Array Oper} {rest : List Oper} {o : Oper} {a : Act} {Q : Exit → Act → World → Prop} {w0 : World} (hgd : o.guard = none) (s x : Operand) (t : TypeId)
    (ho : o.op = .call { callee := .builtin .append, args := #[s, x], argTypes := #[t, t] })
    {e : TypeId} {z : Value} {size bytes : Nat} (E : Elt P t e z size bytes) (base : Nat) (A : Option Addr) (n c : Nat) (xs : List Value)
    (hs : a.eval s = .slice A n c) (hown : w0.ownsRow base e size (.slice A n c) n xs) (us : List Value) (hx : a.eval x = .slice (some ⟨w0.heap.size, 0, none⟩) 1 1)
    (hl : us.length = size) (h1 : ∀ u ∈ us, u.oneCell' = true) (hn : n + 1 ≤ maxLen) (hbytes : (n + 1) * bytes ≤ 140737488355328) (hbase : base ≤ w0.heap.size)
    (h : ∀ A' c' w', Hid (w'.ownsRow base e size (.slice A' (n + 1) c') (n + 1) (xs ++ us) ∧ w0.grownBy w' (Value.slice A n c).ownBlock ∧ w'.ownsRow base e size (.slice A n c) n xs ∧ ((A' = A ∧ c' = c) ∨ (∃ k, (Value.slice A' (n + 1) c').ownBlock = some k ∧ w0.heap.size ≤ k))) → wpList P ops Q rest (a.put o.dst (.slice A' (n + 1) c')) w') :
    wpList P ops Q (o :: rest) a (w0.alloc (.cells us.toArray e)) := by
  obtain ⟨i, hi, hz, hsz, hby⟩ := info_parts E.info
  refine wpList_plain hgd fun K hK => ?_
  have hnews : ∀ j u, us[j]? = some u → (w0.alloc (.cells us.toArray e)).cell? ((⟨w0.heap.size, 0, none⟩ : Addr).add j) = some u := by
    intro j u hu
    have hc := (Var.new w0 e us.toArray).cell j
    have ha : ((⟨w0.heap.size, 0, none⟩ : Addr).add j) = ⟨w0.heap.size, j, none⟩ := by
      unfold Addr.add
      by_cases hj0 : j = 0 <;> simp [hj0]
    rw [ha, hc]
    simpa using hu
  obtain ⟨v', w', hr, h2, h3, h4, h5⟩ := run_append_old (P := P) (w0.alloc (.cells us.toArray e)) base t o.type e i z size bytes E.under hi hz hsz hby E.cells E.pos (.slice A n c) n xs (hown.alloc _) ⟨w0.heap.size, 0, none⟩ 1 1 us (by omega) hnews h1 hn hbytes (by simp; omega) (by omega)
  unfold Oper.wp execOp
  simp only [ho, resolve, invoke, builtin, Sem.run_bind, Sem.run_pure, Result.andThen_ok, List.map_toArray, List.map_cons, List.map_nil, hs, hx, hr]
  refine hK _ _ ?_
  have hg' : w0.grownBy w' (Value.slice A n c).ownBlock := ⟨h3.os, h3.tape, h3.output, Nat.le_trans (by simp) h3.size, fun k hk hne => (h3.block k (by simp; omega) hne).trans (Below.heap_alloc w0 _ k hk)⟩
  rcases h2.2 with ⟨hv, hn0⟩ | ⟨g, cap, cur, hv, _⟩
  · omega
  · subst hv
    refine h _ _ w' (Lib.hid ⟨h2, hg', h4, h5.imp (fun ⟨B, d, e1, e2⟩ => ?_) fun ⟨e, _⟩ => ⟨_, e, by simp⟩⟩)
    injection e1 with a1 _ a3
    injection e2 with b1 _ b3
    exact ⟨b1.trans a1.symm, b3.trans a3.symm⟩
end
theorem own_front {W : World} {b m k c : Nat} {A : Option Addr} {e : TypeId} {zs ls : List Pt} (h : W.ownsRow b e 2 (.slice A (m + k) c) (m + k) (flat (zs ++ ls))) (hz : zs.length = m) : W.ownsRow b e 2 (.slice A m c) m (flat zs) := by
  have hf : ∀ (a b : List Pt), flat (a ++ b) = flat a ++ flat b := fun a b => by
    induction a with
    | nil => rfl
    | cons p a ih => simp only [List.cons_append, flat, ih]
  have hl : (flat zs).length = m * 2 := by rw [flat_length, hz]
  refine ⟨hl, ?_⟩
  rcases h.2 with ⟨hv, h0⟩ | ⟨g, cap, cur, hv, hb, hg, hn, hc, hs, ht⟩
  · injection hv with h1 _ h3
    obtain rfl : m = 0 := by omega
    exact .inl ⟨by rw [h1, h3], rfl⟩
  · injection hv with h1 _ h3
    refine .inr ⟨g, cap, cur, by rw [h1, h3], hb, hg, by omega, hc, hs, ?_⟩
    have e1 : cur.toList.take (m * 2) = (cur.toList.take ((m + k) * 2)).take (m * 2) := by rw [List.take_take, Nat.min_eq_left (by omega)]
    rw [e1, ht, hf, ← hl, List.take_left]
theorem gp_left {zs ls : List Pt} {j : Nat} (h : j < zs.length) : gp (zs ++ ls) j = gp zs j := by unfold gp; rw [List.getElem?_append_left h]
theorem gp_set6 {zs : List Pt} {k j : Nat} {p : Pt} (hk : k < zs.length) : gp (zs.set k p) j = if j = k then p else gp zs j := by
  unfold gp
  rw [List.getElem?_set]
  by_cases e : k = j
  · subst e; rw [if_pos rfl, if_pos hk, if_pos rfl]; rfl
  · rw [if_neg e, if_neg (fun h => e h.symm)]
theorem St6.turn {S : Nat → Prop} {w W W' : World} {g : Nat} {ps : List Pt} (h : St6 w g ps W) (ht : Turn S W W') (hs : ∀ k, S k → g < k) (hg : w.heap.size ≤ g) : St6 w g ps W' := by
  obtain ⟨⟨cs, h1, h2⟩, hb⟩ := h
  refine ⟨⟨cs, h1.turn ht (fun e => by have := hs g e; omega), h2⟩, hb.trans (ht.below (fun k hk => by have := hs k hk; omega) hb.size)⟩
/-- What long and x hold while points are laid behind long. -/
structure Long6 (W1 : World) (bx : Nat) (Ax : Option Addr) (cx m : Nat) (zs ls : List Pt) (A2 : Option Addr) (c2 : Nat) (wr : World) : Prop where
  lo : wr.ownsRow bx 28 2 (.slice A2 (m + ls.length) c2) (m + ls.length) (flat (zs ++ ls))
  x : wr.ownsRow bx 28 2 (.slice Ax m cx) m (flat zs)
  at_ : (A2 = Ax ∧ c2 = cx) ∨ ∃ q, (Value.slice A2 (m + ls.length) c2).ownBlock = some q ∧ W1.heap.size ≤ q
  t : Turn (fun b => (Value.slice Ax m cx).ownBlock = some b) W1 wr
theorem Long6.push {W1 wr w' : World} {bx cx m c2 c' : Nat} {Ax A2 A' : Option Addr} {zs ls : List Pt} {p : Pt} (h : Long6 W1 bx Ax cx m zs ls A2 c2 wr) (hz : zs.length = m) (hx1 : ∀ k, (Value.slice Ax m cx).ownBlock = some k → k < W1.heap.size)
    (hown : w'.ownsRow bx 28 2 (.slice A' (m + ls.length + 1) c') (m + ls.length + 1) (flat (zs ++ ls) ++ [.int .i32 p.1, .int .i32 p.2])) (hg : wr.grownBy w' (Value.slice A2 (m + ls.length) c2).ownBlock)
    (hold : w'.ownsRow bx 28 2 (.slice A2 (m + ls.length) c2) (m + ls.length) (flat (zs ++ ls))) (hloc : (A' = A2 ∧ c' = c2) ∨ ∃ k, (Value.slice A' (m + ls.length + 1) c').ownBlock = some k ∧ wr.heap.size ≤ k) :
    Long6 W1 bx Ax cx m zs (ls ++ [p]) A' c' w' := by
  have hl : (ls ++ [p]).length = ls.length + 1 := by simp
  have hob : ∀ (A : Option Addr) (a b c : Nat), (Value.slice A a c).ownBlock = (Value.slice A b c).ownBlock := fun A a b c => by cases A <;> rfl
  refine ⟨?_, ?_, ?_, ?_⟩
  · rw [hl, ← List.append_assoc, flat_snoc]
    exact hown
  · rcases h.at_ with ⟨rfl, rfl⟩ | ⟨q, e, hq⟩
    · exact own_front hold hz
    · refine h.x.kept hg ?_
      rw [e]
      cases hb : (Value.slice Ax m cx).ownBlock with
      | none => exact .inl rfl
      | some k => exact .inr fun e' => by have := hx1 k hb; injection e' with e'; omega
  · have hz1 := h.t.size
    rcases hloc with ⟨rfl, rfl⟩ | ⟨k, e, hk⟩
    · rcases h.at_ with h1 | ⟨q, e, hq⟩
      · exact .inl h1
      · refine .inr ⟨q, ?_, hq⟩
        rw [hl, ← e]
        exact hob _ _ _ _
    · exact .inr ⟨k, by rw [hl]; exact e, by omega⟩
  · refine ⟨hg.os.trans h.t.os, hg.tape.trans h.t.tape, hg.output.trans h.t.output, Nat.le_trans h.t.size hg.size, fun k hk hn => (hg.block k (Nat.lt_of_lt_of_le hk h.t.size) fun e => ?_).trans (h.t.block k hk hn)⟩
    rcases h.at_ with ⟨rfl, rfl⟩ | ⟨q, e', hq⟩
    · exact hn ((hob _ _ _ _).trans e.symm)
    · rw [e'] at e
      injection e with e
      omega
theorem Long6.pushN {W1 wr w' : World} {bx cx m n c2 c' : Nat} {Ax A2 A' : Option Addr} {zs ls : List Pt} {x y : Int} (h : Long6 W1 bx Ax cx m zs ls A2 c2 wr) (hn : ls.length = n) (hz : zs.length = m) (hx1 : ∀ k, (Value.slice Ax m cx).ownBlock = some k → k < W1.heap.size)
    (hown : w'.ownsRow bx 28 2 (.slice A' (m + n + 1) c') (m + n + 1) (flat (zs ++ ls) ++ [.int .i32 x, .int .i32 y])) (hg : wr.grownBy w' (Value.slice A2 (m + n) c2).ownBlock)
    (hold : w'.ownsRow bx 28 2 (.slice A2 (m + n) c2) (m + n) (flat (zs ++ ls))) (hloc : (A' = A2 ∧ c' = c2) ∨ ∃ k, (Value.slice A' (m + n + 1) c').ownBlock = some k ∧ wr.heap.size ≤ k) :
    Long6 W1 bx Ax cx m zs (ls ++ [(x, y)]) A' c' w' := by
  subst hn
  exact h.push (p := (x, y)) hz hx1 hown hg hold hloc
end

section
open Go.RowKit Go.Shelf

set_option maxHeartbeats 4000000 in
set_option maxRecDepth 100000 in
theorem re_tail (w w16 : World) (A Ax Ay Aw : Option Addr) (l c g m cx cy cw bx b2' b3 : Nat) (ps X : List Pt) (_hlen : l ≤ 1048576) (hg : w.heap.size = g) (hX : X.length = m) (hX64 : m ≤ 64) (hgx : g < bx) (HBW : Hid (bx ≤ w16.heap.size))
    (hxz : ∀ k, (Value.slice Ax m cx).ownBlock = some k → bx ≤ k ∧ k < b2' ∧ k < w16.heap.size) (hyz : ∀ k, (Value.slice Ay m cy).ownBlock = some k → b2' ≤ k) (hwz : ∀ k, (Value.slice Aw m cw).ownBlock = some k → b2' ≤ k)
    (HS : Hid (St6 w g ps w16)) (OX : Hid (w16.ownsRow bx 28 2 (.slice Ax m cx) m (flat X))) (OY : Hid (w16.ownsRow b2' 28 2 (.slice Ay m cy) m (flat X))) (OW : Hid (w16.ownsRow b3 28 2 (.slice Aw m cw) m (flat X)))
    (EG : Hid (∀ W, St6 w g ps W → Calls Try.prog 24 #[.slice (some ⟨g, 0, none⟩) l (l + 9), .slice A l c] W fun e w' => e = .returned (.bool true) ∧ RoomAt w' g ps ∧ Below g W w'))
    (LF : Hid (∀ W, St6 w g ps W → Calls Try.prog 17 #[.slice (some ⟨g, 0, none⟩) l (l + 9), .slice A l c] W fun e w' => e = .returned (.bool true) ∧ Below W.heap.size W w'))
    (u1 u2 u4 u5 u6 u7 u8 u9 u10 u11 u12 u13 u14 u15 u17 u19 u21 u22 u23 u24 u25 u26 u27 u28 u29 u30 u31 u32 u33 u34 u35 u36 u37 u38 u39 u40 u41 u42 u43 u44 u45 u46 u47 u48 u49 u50 u51 u52 u53 u54 u55 u56 u57 u58 u59 u60 u61 u62 u63 u64 u65 u66 u67 u68 u69 u70 u71 u72 u73 u74 u75 u76 u77 u78 u79 u80 u81 u82 u83 u84 u85 u86 u87 u88 u89 u90 u91 u92 u93 u94 u95 u96 u97 u98 u99 u100 u101 u102 u103 u104 u105 u106 u107 u108 u109 u110 u111 u112 u113 u114 u115 u116 u117 u118 u119 u120 u121 u122 u123 u124 u125 u126 u127 u128 u129 u130 u131 u132 u133 u134 u135 u136 u137 u138 u139 u140 u141 u142 u143 u144 u145 u146 u147 u148 u149 u150 u151 u152 u153 u154 u155 u156 u157 u158 u159 u160 u161 u162 u163 u164 u165 u166 u167 u168 u169 u170 u171 u172 u173 u174 u175 u176 u177 u178 u179 u180 u181 u182 u183 u184 u185 u186 u187 u188 u189 u190 u191 u192 u193 u194 u195 u196 u197 u198 : Value) :
    (tailT Try.f6 12).wp Try.prog (fun e a' w' => e = .ret ∧ a'.defers = [] ∧ (results Try.f6 a'.tmps).run Try.prog w' = .ok (.bool true) w' ∧ Below w.heap.size w w') { tmps := #[.slice A l c, u1, u2, .slice (some ⟨g, 0, none⟩) l (l + 9), u4, u5, u6, u7, u8, u9, u10, u11, u12, u13, u14, u15, .slice Ax m cx, u17, .slice Ay m cy, u19, .slice Aw m cw, u21, u22, u23, u24, u25, u26, u27, u28, u29, u30, u31, u32, u33, u34, u35, u36, u37, u38, u39, u40, u41, u42, u43, u44, u45, u46, u47, u48, u49, u50, u51, u52, u53, u54, u55, u56, u57, u58, u59, u60, u61, u62, u63, u64, u65, u66, u67, u68, u69, u70, u71, u72, u73, u74, u75, u76, u77, u78, u79, u80, u81, u82, u83, u84, u85, u86, u87, u88, u89, u90, u91, u92, u93, u94, u95, u96, u97, u98, u99, u100, u101, u102, u103, u104, u105, u106, u107, u108, u109, u110, u111, u112, u113, u114, u115, u116, u117, u118, u119, u120, u121, u122, u123, u124, u125, u126, u127, u128, u129, u130, u131, u132, u133, u134, u135, u136, u137, u138, u139, u140, u141, u142, u143, u144, u145, u146, u147, u148, u149, u150, u151, u152, u153, u154, u155, u156, u157, u158, u159, u160, u161, u162, u163, u164, u165, u166, u167, u168, u169, u170, u171, u172, u173, u174, u175, u176, u177, u178, u179, u180, u181, u182, u183, u184, u185, u186, u187, u188, u189, u190, u191, u192, u193, u194, u195, u196, u197, u198], defers := [] } w16 := by
  have SM := Lib.hid (fun (A B : Option Addr) (c d b b' : Nat) (W : World) (h1 : W.ownsRow b 28 2 (.slice A m c) m (flat X)) (h2 : W.ownsRow b' 28 2 (.slice B m d) m (flat X)) => same06_is A B m m c d X X W.heap.size hX hX (by omega) W (Nat.le_refl _) (ptsAt_of_own h1 hX) (ptsAt_of_own h2 hX))
  have e : decide (X = X) = true := by simp
  rw [e] at SM
  clear e
  have HXL := Lib.hid hX
  have HYZ := Lib.hid (And.intro hxz (And.intro hyz hwz))
  clear hX hxz hyz hwz
  show Code.wp _ (Code.seq (Code.seq (Code.region _ _ _) _) _) _ _ _
  go_wp2_with fail
  go_loopw [22] (fun i wr => ∃ (k : Nat) (zs : List Pt), k ≤ m ∧ i = .int .i64 (k : Int) ∧ zs.length = m ∧ (∀ j, j < k → gp zs j = (9, (j : Int))) ∧ wr.ownsRow bx 28 2 (.slice Ax m cx) m (flat zs) ∧ Turn (fun b => (Value.slice Ax m cx).ownBlock = some b) w16 wr) (fun i _ => m - (intOf i).toNat)
  case atStart => exact ⟨0, X, Nat.zero_le _, rfl, HXL.out, fun j hj => absurd hj (Nat.not_lt_zero _), OX.out, Turn.refl _ _⟩
  case round =>
    obtain ⟨k, zs, hk, rfl, hzl, hall, hown, hT⟩ := hrel
    rcases Nat.lt_or_ge k m with hlt | hge
    · have hkI : (k : Int) < (m : Int) := by omega
      obtain ⟨gx, rfl, hgb, hgl, hfz, hcs⟩ := own_cells (qs := zs) hown (by omega)
      obtain ⟨c0, c1⟩ := hcs k (by omega)
      have f0 := hfz (k * 2)
      have f1 := hfz (k * 2 + 1)
      have hcv : IntKind.i32.wrap (k : Int) = (k : Int) := by
        simp only [IntKind.wrap, IntKind.signed, IntKind.bits]
        simp
        omega
      have hT2 : Turn (fun b => (Value.slice (some ⟨gx, 0, none⟩) m cx).ownBlock = some b) w16 ((wr.setCell ⟨gx, k * 2, none⟩ (.int .i32 9)).setCell ⟨gx, k * 2 + 1, none⟩ (.int .i32 (k : Int))) := Turn.set (Turn.set hT (p := ⟨gx, k * 2, none⟩) rfl _) (p := ⟨gx, k * 2 + 1, none⟩) rfl _
      have H := Lib.hid (And.intro hzl (And.intro hall (And.intro (own_put hown hzl hlt (9, (k : Int))) hT2)))
      clear hall hown hT hfz hcs hT2 hzl
      go_wp2_with fail
      go_roundw
      case rel => exact ⟨k + 1, zs.set k (9, (k : Int)), by omega, by simp, by rw [List.length_set]; exact H.out.1, fun j hj => by
        rw [gp_set6 (by rw [H.out.1]; exact hlt)]
        split
        · rename_i e; rw [e]
        · exact H.out.2.1 j (by omega), H.out.2.2.1, H.out.2.2.2⟩
      case measure => simp [intOf]; omega
    · obtain rfl : k = m := by omega
      have hdk : decide ((k : Int) < (k : Int)) = false := by simp
      have L0 : Hid (Long6 wr bx Ax cx k zs [] Ax cx wr) := Lib.hid ⟨by rw [List.append_nil]; exact hown, hown, .inl ⟨rfl, rfl⟩, Turn.refl _ _⟩
      have HZ := Lib.hid (And.intro hzl (And.intro hall hT))
      have hzr := hT.size
      clear hall hown hT hzl hk hge OX
      obtain ⟨wa, rfl⟩ : ∃ z, z = wr := ⟨_, rfl⟩
      go_wp2_with fail
      go_loopw [23, 24] (fun v i wr => ∃ (ls : List Pt) (n : Nat) (A2 : Option Addr) (c2 : Nat), ls.length = n ∧ n ≤ 70 ∧ v = .slice A2 (k + n) c2 ∧ i = .int .i64 (n : Int) ∧ Long6 wa bx Ax cx k zs ls A2 c2 wr) (fun _ i _ => 70 - (intOf i).toNat)
      case atStart => exact ⟨[], 0, Ax, cx, rfl, by omega, rfl, rfl, L0.out⟩
      case round =>
        obtain ⟨ls, n, A2, c2, hn, hn70, rfl, rfl, hL⟩ := hrel
        rcases Nat.lt_or_ge n 70 with hlt | hge
        · have hnI : (n : Int) < 70 := by omega
          have hlo := hL.lo
          have hzw := hL.t.size
          rw [hn] at hlo
          have hbr : bx ≤ wr.heap.size := Nat.le_trans HBW.out (Nat.le_trans hzr hzw)
          have hcv : IntKind.i32.wrap (n : Int) = (n : Int) := by
            simp only [IntKind.wrap, IntKind.signed, IntKind.bits]
            simp
            omega
          have H := Lib.hid (And.intro hn hL)
          clear hL hn
          have hxa : Hid (∀ q, (Value.slice Ax k cx).ownBlock = some q → q < wa.heap.size) := Lib.hid (fun q hq => by have := HYZ.out.1 q hq; omega)
          go_wp2_with (at_builtin; refine wpList_push_old rfl (.tmp 155) (.tmp 159) 23 rfl eltP bx A2 (k + n) c2 (flat (zs ++ ls)) rfl hlo [_, _] rfl rfl (two_cells rfl rfl) (le_maxLen (by omega)) (by omega) hbr ?_; intro A5 c5 w5 H5)
          clear hcv
          go_roundw
          case rel => exact ⟨ls ++ [(8, (n : Int))], n + 1, A5, c5, by rw [List.length_append, H.out.1]; rfl, hlt, rfl, by simp, H.out.2.pushN H.out.1 HZ.out.1 hxa.out H5.out.1 H5.out.2.1 H5.out.2.2.1 H5.out.2.2.2⟩
          case measure => simp [intOf]; omega
        · obtain rfl : n = 70 := by omega
          have HL := Lib.hid (And.intro hn hL)
          have hzw := hL.t.size
          clear hn hL hge hn70 L0
          obtain ⟨wb, rfl⟩ : ∃ z, z = wr := ⟨_, rfl⟩
          go_wp2_with fail
          go_loopw [25] (fun i wr => ∃ j : Nat, j ≤ k ∧ i = .int .i64 (j : Int) ∧ Below wb.heap.size wb wr) (fun i _ => k - (intOf i).toNat)
          case atStart => exact ⟨0, Nat.zero_le _, rfl, Below.refl _ _⟩
          case round =>
            obtain ⟨j, hj, rfl, hbel⟩ := hrel
            rcases Nat.lt_or_ge j k with hlt | hge
            · have hjI : (j : Int) < (k : Int) := by omega
              have hjI2 : (j : Int) < (k : Int) + 70 := by omega
              have hlo := own_keepT (e := 28) HL.out.2.lo hbel
              rw [HL.out.1] at hlo
              obtain ⟨gx, rfl, _, hgl, _, hcs⟩ := own_cells (qs := zs) (own_keepT HL.out.2.x hbel) (by omega)
              obtain ⟨g2, rfl, _, hgl2, _, hcs2⟩ := own_cells (qs := zs ++ ls) hlo (by omega)
              obtain ⟨c0, c1⟩ := hcs j (by rw [HZ.out.1]; exact hlt)
              obtain ⟨e0, e1⟩ := hcs2 j (by rw [List.length_append, HZ.out.1]; omega)
              rw [gp_left (by rw [HZ.out.1]; exact hlt)] at e0 e1
              rw [HZ.out.2.1 j hlt] at c0 c1 e0 e1
              dsimp only at c0 c1 e0 e1
              obtain ⟨y, hy⟩ : ∃ y, (j : Int) = y := ⟨_, rfl⟩
              have hcv : IntKind.i32.wrap (j : Int) = y := by
                rw [← hy]
                simp only [IntKind.wrap, IntKind.signed, IntKind.bits]
                simp
                omega
              have hcv2 : wrap32 (j : Int) = y := by rw [← hy]; unfold wrap32; omega
              have c1' : wr.cell? ⟨gx, j * 2 + 1, none⟩ = some (.int .i32 y) := by rw [← hy]; exact c1
              have e1' : wr.cell? ⟨g2, j * 2 + 1, none⟩ = some (.int .i32 y) := by rw [← hy]; exact e1
              have HBL := Lib.hid hbel
              clear hlo hcs hcs2 c1 e1 hy hbel
              go_upto_region 26 with fail
              have hq_wr := @wd_cell wr
              refine wp_region_wd (by kernel_rfl) (by kernel_rfl) ?_
              repeat (go_big_quiet_step (fail))
              refine wpQuiet_nil ?_
              rintro w4 ⟨⟨wx, hb_w4⟩, hwx⟩
              obtain rfl : w4 = wx := hwx
              clear hq_wr
              have hz_w4 := hb_w4.size
              obtain ⟨hc_w4, hf_w4⟩ := bcell hb_w4
              have HB4 := Lib.hid (HBL.out.trans (hb_w4.mono HBL.out.size))
              clear hb_w4 HBL
              go_wp2_with fail
              go_roundw
              case rel => exact ⟨j + 1, by omega, by simp, HB4.out⟩
              case measure => simp [intOf]; omega
            · obtain rfl : j = k := by omega
              have hdj : decide ((j : Int) < (j : Int)) = false := by simp
              have hTT : Turn (fun b => (Value.slice Ax j cx).ownBlock = some b) w16 wr := HZ.out.2.2.trans ((HL.out.2.t.new (fun k hk => .inl hk)).trans (Turn.of_below hbel))
              have OY := Lib.hid (own_turn OY.out hTT (fun q hq e => by have := HYZ.out.2.1 q hq; have := HYZ.out.1 q e; omega))
              have OW := Lib.hid (own_turn OW.out hTT (fun q hq e => by have := HYZ.out.2.2 q hq; have := HYZ.out.1 q e; omega))
              have HS := Lib.hid (HS.out.turn hTT (fun q hq => by have := HYZ.out.1 q hq; omega) (by omega))
              clear hTT hbel HZ HL hj hge
              go_wp2_with fail
              refine (SM.out _ _ _ _ _ _ _ OY.out OW.out).mono ?_
              rintro e w17 ⟨rfl, hb⟩
              have HS := Lib.hid (HS.out.keep hb)
              clear hb OY OW
              go_wp2_with fail
              refine (EG.out _ HS.out).mono ?_
              rintro e w18 ⟨rfl, hr, hb⟩
              have HS := Lib.hid (St6.mk (w := w) (g := g) hr (HS.out.b.trans (hb.mono (by omega))))
              clear hr hb
              go_wp2_with fail
              refine (LF.out _ HS.out).mono ?_
              rintro e w19 ⟨rfl, hb⟩
              have HS := Lib.hid (HS.out.keep hb)
              clear hb
              go_wp2_with fail
              exact ⟨by simp [results, Try.results6, go_sem], by first | exact HS.out.b | (rw [← hg]; exact HS.out.b)⟩
end

section
open Go.RowKit Go.Shelf

set_option maxHeartbeats 8000000 in
set_option maxRecDepth 100000 in
theorem ringExact_core (w : World) (A : Option Addr) (l c : Nat) (ps : List Pt) (hps : ∀ p ∈ ps, IPt p) (hl : ps.length = l) (hlen : l ≤ 1048576) (hI : PtsAt w.heap.size w (.slice A l c) ps) :
    Calls Try.prog 6 #[.slice A l c] w fun e w' => e = .returned (.bool true) ∧ Below w.heap.size w w' := by
  obtain ⟨g, hg⟩ : ∃ g, w.heap.size = g := ⟨_, rfl⟩
  have RO := Lib.hid (roomy6_any (.slice A l c) ps w.heap.size (by omega) w (Nat.le_refl _) hI)
  obtain ⟨⟨q0, q1, q2, q3⟩, hq⟩ : ∃ q, bnd ps = q := ⟨_, rfl⟩
  have CK := Lib.hid (fun W (h : St6 w g ps W) => check_any meet_says ps hps l hl W.heap.size (l + 9) (some ⟨g, 0, none⟩) W (hl ▸ h.r.pts) (Nat.le_refl _))
  have CK6 := Lib.hid (fun W (h : St6 w g ps W) => check06 ps l hl w.heap.size c A W (hI.below h.b) h.b.size)
  have AR := Lib.hid (fun W (h : St6 w g ps W) => area2_any ps hps l hl (by omega) W.heap.size (l + 9) (some ⟨g, 0, none⟩) W (hl ▸ h.r.pts) (Nat.le_refl _) (fun _ h => by cases h))
  have AR6 := Lib.hid (fun W (h : St6 w g ps W) => area06 ps hps l hl (by omega) w.heap.size c A W (hI.below h.b) h.b.size)
  have BN := Lib.hid (fun W (h : St6 w g ps W) => ringBounds_any ps W.heap.size (some ⟨g, 0, none⟩) (l + 9) l hl (by omega) hq W (hl ▸ h.r.pts) (Nat.le_refl _) (by omega) (by omega))
  have BN6 := Lib.hid (fun W (h : St6 w g ps W) => bounds06 ps w.heap.size A c l hl (by omega) hq W (hI.below h.b) h.b.size)
  have CV := Lib.hid (fun W (h : St6 w g ps W) => convex_any meet_says ps hps l hl W.heap.size (l + 9) (some ⟨g, 0, none⟩) W (hl ▸ h.r.pts) (Nat.le_refl _))
  have CV6 := Lib.hid (fun W (h : St6 w g ps W) => convex06 ps hps l hl w.heap.size c A W (hI.below h.b) h.b.size)
  have NM := Lib.hid (fun W (h : St6 w g ps W) => normal_any meet_says ps hps l hl W.heap.size (l + 9) (some ⟨g, 0, none⟩) W (hl ▸ h.r.pts) (Nat.le_refl _))
  have NM6 := Lib.hid (fun W (h : St6 w g ps W) => norm06 ps hps l hl w.heap.size c A W (hI.below h.b) h.b.size)
  have LF := Lib.hid (fun W (h : St6 w g ps W) => left6_any g (.slice A l c) ps w.heap.size (by omega) W h.b.size (hI.below h.b) h.r)
  have EG := Lib.hid (fun W (h : St6 w g ps W) => edges6_any ps hps g w.heap.size (.slice A l c) (by omega) W h.b.size (by omega) (hI.below h.b) h.r)
  have WK := Lib.hid (fun W => works6_any meet_says W)
  have HP := Lib.hid (And.intro hl (And.intro hps hI))
  rw [hl] at RO LF EG
  clear hps hl hI hq
  go_enter Try.func6, Try.ntmps6
  show Code.wp _ (.seq _ (.seq _ (.seq _ (.seq _ (.seq _ (.seq _ (.seq _ (.seq _ (.seq _ (.seq _ (.seq _ (.seq _ (tailT Try.f6 12))))))))))))) _ _ _
  generalize hTL : tailT Try.f6 12 = TL
  have HTL := Lib.hid hTL
  clear hTL
  go_wp2_with fail
  refine RO.out.mono ?_
  rintro e w1 ⟨rfl, hr1, hb1⟩
  rw [hg]
  have HS := Lib.hid (St6.mk (w := w) (g := g) (ps := ps) (hg ▸ hr1) hb1)
  clear hr1 hb1 RO
  go_wp2_with fail
  refine (CK.out _ HS.out).mono ?_
  rintro e w2 ⟨⟨⟨r0, ri, rj⟩, hr, rfl⟩, hb⟩
  have HR := Lib.hid hr
  have HS := Lib.hid (HS.out.keep hb)
  dsimp only
  clear hr hb CK
  go_wp2_with fail
  refine (CK6.out _ HS.out).mono ?_
  rintro e w3 ⟨⟨r', hr, rfl⟩, hb⟩
  obtain rfl := chk_one HR.out hr
  have HS := Lib.hid (HS.out.keep hb)
  dsimp only
  clear hr hb CK6
  go_wp2_with fail
  refine (AR6.out _ HS.out).mono ?_
  rintro e w4 ⟨rfl, hb⟩
  have HS := Lib.hid (HS.out.keep hb)
  clear hb AR6
  go_wp2_with fail
  refine (BN.out _ HS.out).mono ?_
  rintro e w5 ⟨rfl, hb⟩
  have HS := Lib.hid (HS.out.keep hb)
  obtain ⟨bb, hbb⟩ : ∃ b, decide (0 < l) = b := ⟨_, rfl⟩
  rw [hbb] at BN6 ⊢
  clear hb BN hbb
  go_upto_region 6 with fail
  refine wp_gen (fun W5 hW5 => ?_)
  have vB1 := Lib.hid (show Var W5 w5.heap.size 42 #[.int .i32 q0, .int .i32 q1, .int .i32 q2, .int .i32 q3] by rw [hW5]; exact Var.new _ _ _)
  have HS := Lib.hid (HS.out.keep (W' := W5) (by rw [hW5]; go_grown))
  obtain ⟨b1, hb1⟩ : ∃ z, w5.heap.size = z := ⟨_, rfl⟩
  rw [hb1] at vB1 ⊢
  clear hW5 hb1
  go_wp2_with fail
  refine (BN6.out _ HS.out).mono ?_
  rintro e w6 ⟨rfl, hb⟩
  have HS := Lib.hid (HS.out.keep hb)
  have vB1 := Lib.hid (vB1.out.keep hb)
  clear hb BN6
  go_upto_region 7 with fail
  refine wp_gen (fun W6 hW6 => ?_)
  have vB2 := Lib.hid (show Var W6 w6.heap.size 42 #[.int .i32 q0, .int .i32 q1, .int .i32 q2, .int .i32 q3] by rw [hW6]; exact Var.new _ _ _)
  have vB1 := Lib.hid (show Var W6 b1 42 #[.int .i32 q0, .int .i32 q1, .int .i32 q2, .int .i32 q3] by rw [hW6]; exact vB1.out.alloc _)
  have HS := Lib.hid (HS.out.keep (W' := W6) (by rw [hW6]; go_grown))
  obtain ⟨b2, hb2⟩ : ∃ z, w6.heap.size = z := ⟨_, rfl⟩
  rw [hb2] at vB2 ⊢
  clear hW6 hb2
  go_wp2_with fail
  refine (WK.out _).mono ?_
  rintro e w7 ⟨rfl, hb⟩
  have HS := Lib.hid (HS.out.keep hb)
  have vB1 := Lib.hid (vB1.out.keep hb)
  have vB2 := Lib.hid (vB2.out.keep hb)
  clear hb WK
  go_wp2_with fail
  refine (AR.out _ HS.out).mono ?_
  rintro e w8 ⟨rfl, hb⟩
  have HS := Lib.hid (HS.out.keep hb)
  have vB1 := Lib.hid (vB1.out.keep hb)
  have vB2 := Lib.hid (vB2.out.keep hb)
  have d0 := vB1.out.cell 0
  have d1 := vB1.out.cell 1
  have d2 := vB1.out.cell 2
  have d3 := vB1.out.cell 3
  have f0 := vB2.out.cell 0
  have f1 := vB2.out.cell 1
  have f2 := vB2.out.cell 2
  have f3 := vB2.out.cell 3
  simp only [List.getElem?_toArray, List.getElem?_cons_zero, List.getElem?_cons_succ] at d0 d1 d2 d3 f0 f1 f2 f3
  clear hb AR vB1 vB2
  go_wp2_with fail
  refine (CV.out _ HS.out).mono ?_
  rintro e w9 ⟨⟨r', hr, rfl⟩, hb⟩
  obtain rfl := chk_one HR.out hr
  have HS := Lib.hid (HS.out.keep hb)
  obtain ⟨cv, hcv⟩ : ∃ b, (if r0 = 0 then convL (normP ps) else false) = b := ⟨_, rfl⟩
  dsimp only
  rw [hcv]
  have HCV := Lib.hid hcv
  clear hr hb CV d0 d1 d2 d3 f0 f1 f2 f3 hcv
  go_wp2_with fail
  refine (CV6.out _ HS.out).mono ?_
  rintro e w10 ⟨⟨r', hr, rfl⟩, hb⟩
  obtain rfl := chk_one HR.out hr
  have HS := Lib.hid (HS.out.keep hb)
  dsimp only
  rw [HCV.out]
  clear hr hb CV6 HCV
  go_wp2_with fail
  have HS0 := HS.out.r.lt
  refine (NM.out _ HS.out).mono ?_
  rintro e w11 ⟨hr, hb⟩
  obtain ⟨Ax, cx, rfl, hox⟩ := norm_un HR.out hr
  have HS := Lib.hid (HS.out.keep hb)
  dsimp only at hox ⊢
  have hX64 := normX_64 HR.out
  dsimp only at hX64
  obtain ⟨X, hX⟩ : ∃ X, normX ps r0 = X := ⟨_, rfl⟩
  obtain ⟨m, hm⟩ : ∃ m, X.length = m := ⟨_, rfl⟩
  rw [hX, hm] at hox hX64 ⊢
  have HX := Lib.hid (And.intro hX hm)
  have OX := Lib.hid hox
  obtain ⟨bx, hbx⟩ : ∃ z, w10.heap.size = z := ⟨_, rfl⟩
  rw [hbx] at OX
  have hzx : bx ≤ w11.heap.size := by have := hb.size; omega
  have hxl : ∀ k, (Value.slice Ax m cx).ownBlock = some k → bx ≤ k ∧ k < w11.heap.size := OX.out.lt
  have hgx : g < bx := by rw [← hbx]; exact HS0
  clear hr hb hox hX hm hbx HS0
  go_wp2_with fail
  refine (NM.out _ HS.out).mono ?_
  rintro e w12 ⟨hr, hb⟩
  obtain ⟨Ay, cy, rfl, hoy⟩ := norm_un HR.out hr
  have hzx := Nat.le_trans hzx hb.size
  have HS := Lib.hid (HS.out.keep hb)
  have OX := Lib.hid (own_keepT OX.out hb)
  dsimp only at hoy ⊢
  rw [HX.out.1, HX.out.2] at hoy ⊢
  have OY := Lib.hid hoy
  obtain ⟨b2', hb2'⟩ : ∃ z, w11.heap.size = z := ⟨_, rfl⟩
  rw [hb2'] at OY
  have hzy : b2' ≤ w12.heap.size := by have := hb.size; omega
  have hzxy : ∀ k, (Value.slice Ax m cx).ownBlock = some k → bx ≤ k ∧ k < b2' := by rw [← hb2']; exact hxl
  clear hr hb hoy NM hb2' hxl
  go_wp2_with fail
  refine (NM6.out _ HS.out).mono ?_
  rintro e w13 ⟨hr, hb⟩
  obtain ⟨Aw, cw, rfl, how⟩ := norm_un HR.out hr
  have hzx := Nat.le_trans hzx hb.size
  have HS := Lib.hid (HS.out.keep hb)
  have OX := Lib.hid (own_keepT OX.out hb)
  have OY := Lib.hid (own_keepT OY.out hb)
  dsimp only at how ⊢
  rw [HX.out.1, HX.out.2] at how ⊢
  have OW := Lib.hid how
  clear hr hb how NM6
  have SM := Lib.hid (fun (A B : Option Addr) (c d b b' : Nat) (W : World) (h1 : W.ownsRow b 28 2 (.slice A m c) m (flat X)) (h2 : W.ownsRow b' 28 2 (.slice B m d) m (flat X)) => same06_is A B m m c d X X W.heap.size HX.out.2 HX.out.2 (by omega) W (Nat.le_refl _) (ptsAt_of_own h1 HX.out.2) (ptsAt_of_own h2 HX.out.2))
  have e : decide (X = X) = true := by simp
  rw [e] at SM
  clear e
  obtain ⟨b3, hb3⟩ : ∃ z, w12.heap.size = z := ⟨_, rfl⟩
  rw [hb3] at OW hzy
  clear hb3
  go_wp2_with fail
  refine (SM.out _ _ _ _ _ _ _ OX.out OW.out).mono ?_
  rintro e w14 ⟨rfl, hb⟩
  have hzx := Nat.le_trans hzx hb.size
  have HS := Lib.hid (HS.out.keep hb)
  have OX := Lib.hid (own_keepT OX.out hb)
  have OY := Lib.hid (own_keepT OY.out hb)
  have OW := Lib.hid (own_keepT OW.out hb)
  clear hb
  go_wp2_with fail
  refine (SM.out _ _ _ _ _ _ _ OY.out OW.out).mono ?_
  rintro e w15 ⟨rfl, hb⟩
  have hzx := Nat.le_trans hzx hb.size
  have HS := Lib.hid (HS.out.keep hb)
  have OX := Lib.hid (own_keepT OX.out hb)
  have OY := Lib.hid (own_keepT OY.out hb)
  have OW := Lib.hid (own_keepT OW.out hb)
  clear hb
  go_wp2_with fail
  refine (LF.out _ HS.out).mono ?_
  rintro e w16 ⟨rfl, hb⟩
  have hzx := Nat.le_trans hzx hb.size
  have HS := Lib.hid (HS.out.keep hb)
  have OX := Lib.hid (own_keepT OX.out hb)
  have OY := Lib.hid (own_keepT OY.out hb)
  have OW := Lib.hid (own_keepT OW.out hb)
  have hxz : ∀ k, (Value.slice Ax m cx).ownBlock = some k → k < w16.heap.size := fun k hk => (OX.out.lt k hk).2
  have hyz : ∀ k, (Value.slice Ay m cy).ownBlock = some k → b2' ≤ k := fun k hk => (OY.out.lt k hk).1
  have hwz : ∀ k, (Value.slice Aw m cw).ownBlock = some k → b2' ≤ k := fun k hk => by have := (OW.out.lt k hk).1; omega
  clear hb
  go_wp2_with fail
  rw [← HTL.out]
  refine Code.wp_mono (fun e a' w' h => ?_) (re_tail w w16 A Ax Ay Aw l c g m cx cy cw bx b2' b3 ps X hlen hg HX.out.2 hX64 hgx (Lib.hid hzx) (fun k hk => ⟨(hzxy k hk).1, (hzxy k hk).2, hxz k hk⟩) hyz hwz HS OX OY OW EG LF _ _ _ _ _ _ _ _ _ _ _ _ _ _ _ _ _ _ _ _ _ _ _ _ _ _ _ _ _ _ _ _ _ _ _ _ _ _ _ _ _ _ _ _ _ _ _ _ _ _ _ _ _ _ _ _ _ _ _ _ _ _ _ _ _ _ _ _ _ _ _ _ _ _ _ _ _ _ _ _ _ _ _ _ _ _ _ _ _ _ _ _ _ _ _ _ _ _ _ _ _ _ _ _ _ _ _ _ _ _ _ _ _ _ _ _ _ _ _ _ _ _ _ _ _ _ _ _ _ _ _ _ _ _ _ _ _ _ _ _ _ _ _ _ _ _ _ _ _ _ _ _ _ _ _ _ _ _ _ _ _ _ _ _ _ _ _ _ _ _ _ _ _ _ _ _ _ _ _ _ _ _ _ _ _ _ _ _ _ _ _ _ _ _)
  obtain ⟨rfl, hd8, hres, hb8⟩ := h
  exact ⟨hd8, _, hres, rfl, hb8⟩
end

section
open Go.ChangeShapes Go.WideShapes Go.ChangeAt Go.RowKit Go.Deep

theorem bulk_oneH {H : Type} (d : DataW H) : 1 ≤ Rows.uptoBulk d := by
  cases d with
  | lit l => cases l <;> simp [Rows.uptoBulk]
  | nil => simp [Rows.uptoBulk]
  | ptr d => simp [Rows.uptoBulk]
  | slice elems spare => simp [Rows.uptoBulk]
  | agg parts => simp [Rows.uptoBulk]
  | iface t d => simp [Rows.uptoBulk]
  | map entries => simp [Rows.uptoBulk]
  | held h => simp [Rows.uptoBulk]
theorem bulk_lengthH {H : Type} (l : List (DataW H)) : l.length ≤ Rows.uptoBulkAll l := by
  induction l with
  | nil => simp [Rows.uptoBulkAll]
  | cons x r ih => have := bulk_oneH x; simp only [Rows.uptoBulkAll, List.length_cons]; omega
theorem bulk_pts {H : Type} {enc : TypeId × Value → H} {W : World} {fuel : Nat} {A : Option Addr} {n c : Nat} {x : DataW H × List MemPlace} (h : DataW.trod enc Try.prog W 0 (fun _ => true) true fuel 23 [.slice A n c] = some x) : n ≤ Rows.uptoBulk x.1 := by
  rcases open_slice Try.underlying23 h with ⟨e, rfl⟩ | ⟨a, len, cap, m, k, D, Pl, e, hb, hl, hm, hmm, hx, hi⟩
  · simp only [List.cons.injEq, Value.slice.injEq, and_true] at e
    omega
  · simp only [List.cons.injEq, Value.slice.injEq, and_true] at e
    obtain ⟨_, rfl, _⟩ := e
    rw [hx]
    have := bulk_lengthH ((List.range n).map D)
    simp only [Rows.uptoBulk, List.length_map, List.length_range] at this ⊢
    omega
theorem wf_i64b {n : Int} (h : (Lit.int .i64 n).wf = true) : -9223372036854775808 ≤ n ∧ n ≤ 9223372036854775807 := by
  have h2 : (decide (IntKind.i64.min ≤ n) && decide (n ≤ IntKind.i64.max)) = true := h
  rw [Bool.and_eq_true] at h2
  exact ⟨of_decide_eq_true h2.1, of_decide_eq_true h2.2⟩

set_option maxRecDepth 100000 in
theorem ringExact_walk {H : Type} {enc : TypeId × Value → H} (W : World) (A0 : Option Addr) (n0 c0 : Nat) {d0 : DataW H} {p0 : List MemPlace}
    (h0 : DataW.Trod enc Try.prog W 0 (fun _ => true) true 23 (.slice A0 n0 c0) d0 p0)
    (hk : Rows.uptoSmall H [d0] = true) :
    Calls Try.prog 6 #[.slice A0 n0 c0] W fun e w' => e = .returned (.bool true) ∧ Below W.heap.size W w' := by
  obtain ⟨f0, h0⟩ := h0
  have hb : Rows.uptoBulkAll [d0] ≤ 1048576 := of_decide_eq_true hk
  simp only [Rows.uptoBulkAll] at hb
  have b0 := bulk_pts h0
  dsimp only at b0
  obtain ⟨A', l, c', ps, e0, hP, hI, hl, _⟩ := open_pts h0
  simp only [Value.cells, List.cons.injEq, and_true] at e0
  simp at e0
  obtain ⟨rfl, rfl, rfl⟩ := e0
  exact ringExact_core W A0 n0 c0 ps hI hl (by omega) hP

set_option maxRecDepth 100000 in
theorem ringExact_lifted (os : Os) (started : os.Started) (H : Type) (enc : TypeId × Value → H) (F : Stop.Interp) :
    ReturnsInHanded {} Try.checked os 6 .any ((Rows.OpenSpec.upto Rows.ringExactSpec).pre6 enc Try.prog Try.f6 Rows.ringExactUptoRow.domain false) (((Rows.OpenSpec.upto Rows.ringExactSpec).at F).post enc Try.prog Try.f6 false true false false) := by
  refine returnsInHanded_of_cond (C := Try.checked) (s := Rows.OpenSpec.upto Rows.ringExactSpec) (k := Rows.uptoSmall) rfl own started (by kernel_rfl) Try.func6
    (OpenSpec.witness (enc := enc) (C := Try.checked) (s := Rows.OpenSpec.upto Rows.ringExactSpec) (k := Rows.uptoSmall) rfl false ⟨#[], #[.slice none 0 0], []⟩ 8 (by kernel_rfl) (by kernel_rfl) (by kernel_rfl)
      (x := ([.nil], [], [])) (by kernel_rfl) rfl (by kernel_rfl)) ?_
  intro W base args ds gs before hval0 hW _ hk _
  have hval : ∀ (j : Nat) t v, Try.f6.params[j]? = some t → args[j]? = some v → Value.okWide Try.prog W .any base t v := hval0
  have hW' := hW
  obtain ⟨p, q, hA0, hV, rfl, hfz, hnd⟩ := hW
  have hA : DataW.TrodAll enc Try.prog W 0 (fun _ => true) true Try.f6.params.toList args.toList ds p := hA0
  rw [Try.params6] at hA hval
  obtain ⟨v0, d0, rfl, rfl, h0⟩ := trodAll_one hA
  obtain ⟨rfl, rfl⟩ := trodVars_none hV
  clear hA0 hval0
  obtain ⟨A0, n0, c0, rfl⟩ := okWide_slice Try.underlying23 (hval 0 23 v0 rfl rfl)
  refine (ringExact_walk W A0 n0 c0 h0 hk).mono fun e W' ⟨he, hb⟩ => ?_
  subst he
  exact ⟨_, rfl, law_post laidOut (by kernel_rfl) hW' rfl rfl Try.underlying4 rfl rfl rfl hb⟩

/-- For every input of bulk at most 1048576: the call returns true, and each argument reads as it did. -/
theorem ringExactUpto_holds : Rows.RingExactUptoSaid :=
  OpenClaim.holds_of_cond 6 Try.f6 rfl rfl rfl rfl rfl rfl rfl ⟨rfl, rfl, rfl, rfl, rfl⟩ rfl rfl rfl rfl rfl (by kernel_rfl) Try.func6 (by kernel_rfl)
    (of_decide_eq_true (by kernel_rfl)) (by unfold Func.isWrapper; first | (rw [if_pos (by decide +kernel)]; kernel_rfl) | (rw [if_neg (by decide +kernel)]; exact ⟨rfl, rfl⟩))
    (fun os started H enc _ F => ringExact_lifted os started H enc F)
#print axioms ringExactUpto_holds
end

end Go.Proofs.Ythbndilnobjjgaa
