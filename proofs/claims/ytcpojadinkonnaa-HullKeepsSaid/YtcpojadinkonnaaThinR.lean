/-
  The document's Off, cmp, Within.
-/
import Derived.Test.YtcpojadinkonnaaThinOff
import Derived.Test.YtcpojadinkonnaaPointR
import Derived.Test.YtcpojadinkonnaaHeldV
namespace Go.Proofs.Ytcpojadinkonnaa
open Go.RowKit

theorem var_inj {w : World} {g : Nat} {t u : TypeId} {cs ds : Array Value} (h : Var w g t cs) (h' : Var w g u ds) : cs = ds := by
  unfold Var at h h'
  rw [h] at h'
  injection h' with h'
  injection h' with h'
theorem set_both {cs : Array Value} {p q u v : Value} (e : (#[p, q] : Array Value) = (cs.setIfInBounds 0 u).setIfInBounds 1 v) : #[p, q] = (#[u, v] : Array Value) := by
  have hs : 2 = cs.size := by
    have := congrArg Array.size e
    rwa [Array.size_setIfInBounds, Array.size_setIfInBounds] at this
  rw [e]
  obtain ⟨l⟩ := cs
  match l, hs with
  | [c0, c1], _ => rfl

/-- Two boxes of numbers, R and the one behind it, are held, and the cells of X. -/
def HeldM (R X : Nat) (x0 x1 : Value) (W0 w' : World) : Prop :=
  Below R W0 w' ∧ R + 1 < w'.heap.size ∧ X < w'.heap.size ∧ (∀ b o, b < R → w'.cell? ⟨b, o, none⟩ = W0.cell? ⟨b, o, none⟩) ∧ w'.cell? ⟨X, 0, none⟩ = some x0 ∧ w'.cell? ⟨X, 1, none⟩ = some x1 ∧
    (∀ o, o < 2 → w'.cell? ⟨R, o, none⟩ = some (rd w' R o)) ∧ (∀ o, o < 2 → w'.cell? ⟨R + 1, o, none⟩ = some (rd w' (R + 1) o)) ∧
    (∀ o, w'.frozen? ⟨R, o, none⟩ = false) ∧ (∀ o, w'.frozen? ⟨R + 1, o, none⟩ = false) ∧ (∃ p q, w'.heap[R]? = some (.cells #[p, q] 64 (0, 0))) ∧ ∃ x y, w'.heap[R + 1]? = some (.cells #[x, y] 64 (0, 0))
section
variable {R X : Nat} {x0 x1 : Value} {W0 W w' : World}
theorem heldM_of {p q x y : Value} (hb : Below R W0 W) (hX : X < W.heap.size) (k0 : W.cell? ⟨X, 0, none⟩ = some x0) (k1 : W.cell? ⟨X, 1, none⟩ = some x1) (h1 : Var W R 64 #[p, q]) (h2 : Var W (R + 1) 64 #[x, y]) : HeldM R X x0 x1 W0 W :=
  ⟨hb, h2.lt, hX, fun b o h => hb.cell (p := ⟨b, o, none⟩) h, k0, k1, fun o ho => rd_eq (u := (#[p, q] : Array Value)[o]) ((h1.cell o).trans (Array.getElem?_eq_getElem ho)), fun o ho => rd_eq (u := (#[x, y] : Array Value)[o]) ((h2.cell o).trans (Array.getElem?_eq_getElem ho)),
    fun o => h1.free o, fun o => h2.free o, ⟨p, q, h1⟩, x, y, h2⟩
theorem heldM_step (hb : Below W.heap.size W w') (h : HeldM R X x0 x1 W0 W) : HeldM R X x0 x1 W0 w' := by
  obtain ⟨h1, h2, h3, _, h4, h5, _, _, _, _, ⟨p, q, h6⟩, x, y, h7⟩ := h
  exact heldM_of (h1.trans (hb.mono (by omega))) (Nat.lt_of_lt_of_le h3 hb.size) ((hb.cell (p := ⟨X, 0, none⟩) h3).trans h4) ((hb.cell (p := ⟨X, 1, none⟩) h3).trans h5) (Var.keep h6 hb) (Var.keep h7 hb)
theorem heldM_store (hX : X ≠ R) (h : HeldM R X x0 x1 W0 W) (o : Nat) (u : Value) : HeldM R X x0 x1 W0 (W.setCell ⟨R, o, none⟩ u) := by
  obtain ⟨h1, h2, h3, _, h4, h5, _, _, _, _, ⟨p, q, h6⟩, x, y, h7⟩ := h
  obtain ⟨p', q', e⟩ := set_two p q u o
  have hs := Var.store h6 o u
  rw [e] at hs
  exact heldM_of (h1.setCell (p := ⟨R, o, none⟩) (Nat.le_refl R) u) (by simpa using h3) ((World.cell?_setCell_far W ⟨R, o, none⟩ ⟨X, 0, none⟩ u (Ne.symm hX)).trans h4) ((World.cell?_setCell_far W ⟨R, o, none⟩ ⟨X, 1, none⟩ u (Ne.symm hX)).trans h5) hs (Var.far h7 (p := ⟨R, o, none⟩) (show R + 1 ≠ R by omega) u)
theorem heldM_store2 (hX : X ≠ R + 1) (h : HeldM R X x0 x1 W0 W) (o : Nat) (u : Value) : HeldM R X x0 x1 W0 (W.setCell ⟨R + 1, o, none⟩ u) := by
  obtain ⟨h1, h2, h3, _, h4, h5, _, _, _, _, ⟨p, q, h6⟩, x, y, h7⟩ := h
  obtain ⟨p', q', e⟩ := set_two x y u o
  have hs := Var.store h7 o u
  rw [e] at hs
  exact heldM_of (h1.setCell (p := ⟨R + 1, o, none⟩) (show R ≤ R + 1 by omega) u) (by simpa using h3) ((World.cell?_setCell_far W ⟨R + 1, o, none⟩ ⟨X, 0, none⟩ u (Ne.symm hX)).trans h4) ((World.cell?_setCell_far W ⟨R + 1, o, none⟩ ⟨X, 1, none⟩ u (Ne.symm hX)).trans h5) (Var.far h6 (p := ⟨R + 1, o, none⟩) (show R ≠ R + 1 by omega) u) hs
/-- All four cells written. -/
theorem heldM_four {a b c d : Value} (h : HeldM R X x0 x1 W0 ((((W.setCell ⟨R, 0, none⟩ a).setCell ⟨R, 1, none⟩ b).setCell ⟨R + 1, 0, none⟩ c).setCell ⟨R + 1, 1, none⟩ d)) :
    ∃ W', (((W.setCell ⟨R, 0, none⟩ a).setCell ⟨R, 1, none⟩ b).setCell ⟨R + 1, 0, none⟩ c).setCell ⟨R + 1, 1, none⟩ d = W' ∧ Below R W0 W' ∧ Var W' R 64 #[a, b] ∧ Var W' (R + 1) 64 #[c, d] ∧ ∀ A n c ds, RawAt W A n c ds → RawAt W' A n c ds := by
  obtain ⟨h1, _, _, _, _, _, _, _, _, _, ⟨p, q, h6⟩, x, y, h7⟩ := h
  have hne : R ≠ R + 1 := by omega
  have hne' : R + 1 ≠ R := by omega
  obtain ⟨_, g7⟩ := unset h7
  obtain ⟨_, g7⟩ := unset g7
  have v7 : ∃ cs, Var W (R + 1) 64 cs := ⟨_, ((Below.heap_setCell _ ⟨R, 0, none⟩ a (R + 1) hne').symm.trans ((Below.heap_setCell _ ⟨R, 1, none⟩ b (R + 1) hne').symm.trans g7))⟩
  have g6 : ∃ cs, Var ((W.setCell ⟨R, 0, none⟩ a).setCell ⟨R, 1, none⟩ b) R 64 cs := ⟨_, ((Below.heap_setCell _ ⟨R + 1, 0, none⟩ c R hne).symm.trans ((Below.heap_setCell _ ⟨R + 1, 1, none⟩ d R hne).symm.trans h6))⟩
  obtain ⟨_, g6⟩ := g6
  obtain ⟨_, g6⟩ := unset g6
  obtain ⟨cs, v6⟩ := unset g6
  obtain ⟨ds, v7⟩ := v7
  have e6 : Var ((((W.setCell ⟨R, 0, none⟩ a).setCell ⟨R, 1, none⟩ b).setCell ⟨R + 1, 0, none⟩ c).setCell ⟨R + 1, 1, none⟩ d) R 64 ((cs.setIfInBounds 0 a).setIfInBounds 1 b) :=
    (((Var.store v6 0 a).store 1 b).far (p := ⟨R + 1, 0, none⟩) hne c).far (p := ⟨R + 1, 1, none⟩) hne d
  have e7 : Var ((((W.setCell ⟨R, 0, none⟩ a).setCell ⟨R, 1, none⟩ b).setCell ⟨R + 1, 0, none⟩ c).setCell ⟨R + 1, 1, none⟩ d) (R + 1) 64 ((ds.setIfInBounds 0 c).setIfInBounds 1 d) :=
    (((Var.far v7 (p := ⟨R, 0, none⟩) hne' a).far (p := ⟨R, 1, none⟩) hne' b).store 0 c).store 1 d
  have z6 := set_both (var_inj h6 e6)
  have z7 := set_both (var_inj h7 e7)
  refine ⟨_, rfl, h1, by rw [← z6]; exact h6, by rw [← z7]; exact h7, fun A n c' ds' hr => ?_⟩
  have r1 := hr.over v6 a b
  exact r1.over (((Var.far v7 (p := ⟨R, 0, none⟩) hne' a).far (p := ⟨R, 1, none⟩) hne' b)) c d
end

theorem results_two_rows {P : Program} {fn : Func} {p q : Tmp} {ty : TypeId} (h : fn.results = #[.cell p ty, .cell q ty]) (tmps : Array Value) (w : World) (g k : Nat) (t u : TypeId) (cs ds : Array Value) (d : TypeDesc)
    (hp : tmps.getD p undef = .pointer (some ⟨g, 0, none⟩)) (hq : tmps.getD q undef = .pointer (some ⟨k, 0, none⟩)) (hg : Var w g t cs) (hk : Var w k u ds)
    (hu : P.underlying ty = some d) (hd : (match d with | .struct _ | .array _ _ => true | _ => false) = true) (hi : (P.info? ty).map (·.size) = some cs.size) (hi' : (P.info? ty).map (·.size) = some ds.size) :
    (results fn tmps).run P w = .ok (.tuple #[.agg cs, .agg ds]) w := by
  have hp' : tmps[p]?.getD undef = .pointer (some ⟨g, 0, none⟩) := by simpa using hp
  have hq' : tmps[q]?.getD undef = .pointer (some ⟨k, 0, none⟩) := by simpa using hq
  simp [results, h, hp', hq', asAddr, run_loadVar_row w g t ty cs (0, 0) d hg hu hd hi, run_loadVar_row w k u ty ds (0, 0) d hk hu hd hi']

theorem inner04 (ox oy ax ay bx by_ : Int) (h1 : I32 ox) (h2 : I32 oy) (h3 : I32 ax) (h4 : I32 ay) (h5 : I32 bx) (h6 : I32 by_) (w : World) :
    Calls Try.prog 85 #[(Value.agg #[.int .i32 (ox), .int .i32 (oy)]), (Value.agg #[.int .i32 (ax), .int .i32 (ay)]), (Value.agg #[.int .i32 (bx), .int .i32 (by_)])] w fun e w' => ∃ u, e = .returned u ∧ NumAt w' u ((ax - ox) * (bx - ox) + (ay - oy) * (by_ - oy)) ∧ Below w.heap.size w w' := by
  have C := Lib.hid (fun W => dot_num ox oy ax ay bx by_ h1 h2 h3 h4 h5 h6 W)
  clear h1 h2 h3 h4 h5 h6
  go_enter Try.func85, Try.ntmps85
  go_wp2_with fail
  refine (open_num (C.out _)).mono ?_
  rintro e w1 ⟨b1, A1, n1, c1, d1, rfl, hs1, hr1, ht1, hv1, hb_w1⟩
  obtain ⟨hc_w1, hf_w1⟩ := bcell hb_w1
  have hz_w1 := hb_w1.size
  try simp at hz_w1
  have hB_w1 : Below w.heap.size w w1 := Below.trans (by go_grown) (hb_w1.mono (by go_size))
  have hs_w1_0 : w.heap.size + 1 + 1 + 1 < w1.heap.size := by omega
  have vR : Var w1 (w.heap.size + 1 + 1 + 1) 64 #[.bool false, .slice none 0 0] := (Var.new' _ _ _ (by simp)).keep hb_w1
  go_wp2_with fail
  refine bodyPost_ret (by simp [results, Try.results85, go_sem, *]; try rfl) rfl ?_
  exact ⟨_, rfl, num_mk (hr1.over vR _ _) ht1 hs1.out hv1.out, by go_grown⟩
theorem product04 (ox oy ax ay bx by_ : Int) (h1 : I32 ox) (h2 : I32 oy) (h3 : I32 ax) (h4 : I32 ay) (h5 : I32 bx) (h6 : I32 by_) (w : World) :
    Calls Try.prog 86 #[(Value.agg #[.int .i32 (ox), .int .i32 (oy)]), (Value.agg #[.int .i32 (ax), .int .i32 (ay)]), (Value.agg #[.int .i32 (bx), .int .i32 (by_)])] w fun e w' => ∃ u, e = .returned u ∧ NumAt w' u ((ax - ox) * (by_ - oy) - (ay - oy) * (bx - ox)) ∧ Below w.heap.size w w' := by
  have C := Lib.hid (fun W => cross_num ox oy ax ay bx by_ h1 h2 h3 h4 h5 h6 W)
  clear h1 h2 h3 h4 h5 h6
  go_enter Try.func86, Try.ntmps86
  go_wp2_with fail
  refine (open_num (C.out _)).mono ?_
  rintro e w1 ⟨b1, A1, n1, c1, d1, rfl, hs1, hr1, ht1, hv1, hb_w1⟩
  obtain ⟨hc_w1, hf_w1⟩ := bcell hb_w1
  have hz_w1 := hb_w1.size
  try simp at hz_w1
  have hB_w1 : Below w.heap.size w w1 := Below.trans (by go_grown) (hb_w1.mono (by go_size))
  have hs_w1_0 : w.heap.size + 1 + 1 + 1 < w1.heap.size := by omega
  have vR : Var w1 (w.heap.size + 1 + 1 + 1) 64 #[.bool false, .slice none 0 0] := (Var.new' _ _ _ (by simp)).keep hb_w1
  go_wp2_with fail
  refine bodyPost_ret (by simp [results, Try.results86, go_sem, *]; try rfl) rfl ?_
  exact ⟨_, rfl, num_mk (hr1.over vR _ _) ht1 hs1.out hv1.out, by go_grown⟩

end Go.Proofs.Ytcpojadinkonnaa
