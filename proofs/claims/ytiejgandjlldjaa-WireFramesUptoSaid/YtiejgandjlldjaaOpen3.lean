/-
  Package wire: Frame, Open.
-/
import Derived.Test.YtiejgandjlldjaaFrm
import Derived.Test.YtiejgandjlldjaaPuts
namespace Go.Proofs.Ytiejgandjlldjaa
open Go.RowKit

/-- Bytes that lie in a block from base on, and may be written to. -/
def Fr (w : World) (base : Nat) (A : Option Addr) (n : Nat) : Prop := n = 0 ∨ ∃ g o cur, A = some ⟨g, o, none⟩ ∧ base ≤ g ∧ Var w g 5 cur ∧ o + n ≤ cur.size
theorem Fr.keep {w w' : World} {base : Nat} {A : Option Addr} {n : Nat} (h : Fr w base A n) (hb : Below w.heap.size w w') : Fr w' base A n := by
  rcases h with h0 | ⟨g, o, cur, e, hg, hv, hc⟩
  · exact .inl h0
  · exact .inr ⟨g, o, cur, e, hg, hv.keep hb, hc⟩
theorem Fr.mono {w : World} {base base' : Nat} {A : Option Addr} {n : Nat} (h : Fr w base A n) (hb : base' ≤ base) : Fr w base' A n := by
  rcases h with h0 | ⟨g, o, cur, e, hg, hv, hc⟩
  · exact .inl h0
  · exact .inr ⟨g, o, cur, e, Nat.le_trans hb hg, hv, hc⟩
theorem Fr.upd {w w' : World} {base O : Nat} {A : Option Addr} {n : Nat} (h : Fr w base A n) (hu : Upd O w w') {T : TypeId} {cs : Array Value} (hO : Var w O T cs) (hT : T ≠ 5) : Fr w' base A n := by
  rcases h with h0 | ⟨g, o, cur, e, hg, hv, hc⟩
  · exact .inl h0
  · have hne : g ≠ O := by
      rintro rfl
      have e : (some (Obj.cells cur 5 (0, 0)) : Option Obj) = some (.cells cs T (0, 0)) := hv.symm.trans hO
      injection e with e
      injection e with _ e
      exact hT e.symm
    exact .inr ⟨g, o, cur, e, hg, (hu.block g hv.lt (fun e => by injection e with e; exact hne e)).trans hv, hc⟩
theorem fr_own {w : World} {base : Nat} {A : Option Addr} {n c : Nat} {xs : List Value} (h : w.ownsRow base 5 1 (.slice A n c) n xs) : Fr w base A n := by
  rcases h.2 with ⟨_, h0⟩ | ⟨g, cap, cur, hv, hb, hg, hc, _, hsz, _⟩
  · exact .inl h0
  · injection hv with hA
    exact .inr ⟨g, 0, cur, hA, hb, hg, by omega⟩

/-- An Out whose bytes lie from base on. -/
def OutFr (w : World) (O base : Nat) (l : List UInt8) : Prop := ∃ A n c, Var w O 35 #[.slice A n c] ∧ Bs w A n c l ∧ Fr w base A n
theorem OutFr.at {w : World} {O base : Nat} {l : List UInt8} (h : OutFr w O base l) : OutAt w O l := by obtain ⟨A, n, c, h1, h2, _⟩ := h; exact ⟨A, n, c, h1, h2⟩
theorem OutFr.keep {w w' : World} {O base : Nat} {l : List UInt8} (h : OutFr w O base l) (hb : Below w.heap.size w w') : OutFr w' O base l := by obtain ⟨A, n, c, h1, h2, h3⟩ := h; exact ⟨A, n, c, h1.keep hb, h2.below hb, h3.keep hb⟩
theorem OutFr.lt {w : World} {O base : Nat} {l : List UInt8} (h : OutFr w O base l) : O < w.heap.size := h.at.lt

/-- Nothing appended. -/
theorem wpList_join0 {ops : Array Oper} {rest : List Oper} {o : Oper} {a : Act} {Q : Exit → Act → World → Prop} {w : World} {A B : Option Addr} {n d : Nat} (hgd : o.guard = none) (s x : Operand)
    (ho : o.op = .call { callee := .builtin .append, args := #[s, x], argTypes := #[23, 23] })
    (hs : a.eval s = .slice A n n) (hx : a.eval x = .slice B 0 d) (hb : Bs w B 0 d []) (h : wpList Try.prog ops Q rest (a.put o.dst (.slice A n n)) w) :
    wpList Try.prog ops Q (o :: rest) a w := by
  refine wpList_plain hgd fun K hK => ?_
  have hr : (Builtin.append_ #[23, 23] o.type #[.slice A n n, .slice B 0 d]).run Try.prog w = .ok (.slice A n n) w := by
    obtain ⟨i, hi, hz, hsz, hby⟩ := info_parts elt8.info
    have hsr := hb.src
    rw [← hsz] at hsr
    rcases hsr.kind with ⟨e', hk⟩ | hk <;> cases A <;> simp [Builtin.append_, run_underlying Try.underlying23, sizeOf, typeInfo, hi, hsr.len, hsr.cells, storeCells]
  unfold Oper.wp execOp
  simp only [ho, resolve, invoke, builtin, Sem.run_bind, Sem.run_pure, Result.andThen_ok, List.map_toArray, List.map_cons, List.map_nil, hs, hx, hr]
  exact hK _ _ h

set_option maxRecDepth 100000 in
set_option maxHeartbeats 800000 in
theorem add_fr (O base : Nat) (l : List UInt8) (B : Option Addr) (m d : Nat) (k : List UInt8) (w : World) (hO : OutFr w O base l) (hbase : base ≤ w.heap.size) (hk : Bs w B m d k) (hlen : l.length + m ≤ 225000000000000) :
    Calls Try.prog 35 #[.pointer (some ⟨O, 0, none⟩), .slice B m d] w fun e w' => Void e ∧ OutFr w' O base (l ++ k) ∧ Upd O w w' := by
  obtain ⟨A, n, c, hv, hs, hfr⟩ := hO
  have hkl := hk.len
  rw [hs.len] at hlen
  have H := Lib.hid (fun W => clip_any A n c W hs.cap hs.big)
  have c0 : w.cell? ⟨O, 0, none⟩ = some (.slice A n c) := hv.cell 0
  have hlt := hv.lt
  rcases Nat.eq_zero_or_pos m with hm | hm
  · subst hm
    have hk0 : k = [] := List.eq_nil_of_length_eq_zero hkl
    subst hk0
    go_enter Try.func35, Try.ntmps35
    go_wp2_with fail
    refine (H.out _).mono ?_
    rintro e w1 ⟨rfl, hb_w1⟩
    obtain ⟨hc_w1, hf_w1⟩ := bcell hb_w1
    have hz_w1 := hb_w1.size
    try simp at hz_w1
    have hB_w1 : Below w.heap.size w w1 := Below.trans (by go_grown) (hb_w1.mono (by go_size))
    have hs_w1_0 : O < w1.heap.size := by omega
    have hv1 := hv.keep hb_w1
    have c1 : w1.cell? ⟨O, 0, none⟩ = some (.slice A n c) := hv1.cell 0
    have f1 := hv1.free 0
    have f0 := hv.free 0
    go_wp2_with (at_builtin; refine wpList_join0 rfl (.tmp 11) (.tmp 12) rfl rfl rfl (hk.below hb_w1) ?_)
    go_end0
    rw [List.append_nil]
    refine ⟨⟨_, rfl⟩, ⟨A, n, n, hv1.store 0 _, bs_upd (hs.below hb_w1).clip (Upd.set _) (out_no hv1), (hfr.keep hb_w1).upd (Upd.set _) hv1 (by decide)⟩, (Upd.of_below hb_w1).trans (Upd.set _)⟩
  · go_enter Try.func35, Try.ntmps35
    go_wp2_with fail
    refine (H.out _).mono ?_
    rintro e w1 ⟨rfl, hb_w1⟩
    obtain ⟨hc_w1, hf_w1⟩ := bcell hb_w1
    have hz_w1 := hb_w1.size
    try simp at hz_w1
    have hB_w1 : Below w.heap.size w w1 := Below.trans (by go_grown) (hb_w1.mono (by go_size))
    have hs_w1_0 : O < w1.heap.size := by omega
    have hv1 := hv.keep hb_w1
    have c1 : w1.cell? ⟨O, 0, none⟩ = some (.slice A n c) := hv1.cell 0
    go_wp2_with (at_builtin; refine wpList_join rfl (.tmp 11) (.tmp 12) rfl rfl rfl (hs.below hb_w1).clip (hk.below hb_w1) (by omega) ?_; intro A' c' w2 hs2 hb2 how; have hv2 := hv1.keep hb2; have c2 : w2.cell? ⟨O, 0, none⟩ = some (.slice A n c) := hv2.cell 0; have f2 := hv2.free 0; have z2 := hv2.lt)
    go_end0
    exact ⟨⟨_, rfl⟩, ⟨A', n + m, c', hv2.store 0 _, bs_upd hs2 (Upd.set _) (out_no hv2), ((fr_own (how hm)).mono (by have := hb_w1.size; omega)).upd (Upd.set _) hv2 (by decide)⟩, (Upd.of_below (hb_w1.trans (hb2.mono hb_w1.size))).trans (Upd.set _)⟩
theorem lays_fr {w : World} {O base : Nat} {l : List UInt8} (h : OutFr w O base l) (hbase : base ≤ w.heap.size) (k : List UInt8) (hlen : l.length + k.length ≤ 225000000000000) : Lays (.pointer (some ⟨O, 0, none⟩)) w k (fun w' => OutFr w' O base (l ++ k) ∧ Upd O w w') := fun W A m d hW hs =>
  (add_fr O base l A m d k W (h.keep hW) (Nat.le_trans hbase hW.size) hs (by rw [← hs.len]; exact hlen)).mono fun _ _ ⟨he, ho, hu⟩ => ⟨he, ho, (Upd.of_below hW).trans hu⟩

/-- A frame around a body. -/
def headB (body : List UInt8) : List UInt8 := [80, 100] ++ leN 2 body.length
def frameB (body : List UInt8) : List UInt8 := headB body ++ leN 4 (crcN (headB body ++ body)) ++ body

theorem headB_length (body : List UInt8) : (headB body).length = 4 := by simp [headB, leN_length]
theorem frameB_length (body : List UInt8) : (frameB body).length = body.length + 8 := by
  unfold frameB
  rw [List.length_append, List.length_append, headB_length, leN_length]
  omega
theorem crcN_lt (l : List UInt8) : crcN l < 4294967296 := by unfold crcN; omega

theorem frame_over (A : Option Addr) (n c : Nat) (w : World) (hn : 8184 < n) :
    Calls Try.prog 11 #[.slice A n c] w fun e w' => e = .returned (.tuple #[.slice none 0 0, .int .i64 31]) ∧ Below w.heap.size w w' := by
  have hn' : (8184 : Int) < (n : Int) := by omega
  go_enter Try.func11, Try.ntmps11
  go_wp2_with fail
  go_ret2
  exact ⟨rfl, by go_grown⟩

end Go.Proofs.Ytiejgandjlldjaa
