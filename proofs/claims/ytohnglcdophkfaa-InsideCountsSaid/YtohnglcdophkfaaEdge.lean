/-
  inside.Edge: whether a point lies on a side of a ring.
-/
import Derived.Test.YtohnglcdophkfaaIter
namespace Go.Proofs.Ytohnglcdophkfaa
open Go.RowKit Go.Shelf

attribute [local go_sem] Oper.semAt_some

/-- Block B holds a point (or another struct of two 32-bit numbers). -/
def Two (W : World) (B : Nat) (t : TypeId) (p : Pt) : Prop := W.heap[B]? = some (.cells #[.int .i32 p.1, .int .i32 p.2] t (0, 0))
theorem Two.lt {W : World} {B : Nat} {t : TypeId} {p : Pt} (h : Two W B t p) : B < W.heap.size := (Array.getElem?_eq_some_iff.1 h).1
theorem Two.c0 {W : World} {B : Nat} {t : TypeId} {p : Pt} (h : Two W B t p) : W.cell? ⟨B, 0, none⟩ = some (.int .i32 p.1) := by simp [World.cell?, show W.heap[B]? = _ from h]
theorem Two.c1 {W : World} {B : Nat} {t : TypeId} {p : Pt} (h : Two W B t p) : W.cell? ⟨B, 1, none⟩ = some (.int .i32 p.2) := by simp [World.cell?, show W.heap[B]? = _ from h]
theorem Two.new (W : World) (t : TypeId) (p : Pt) : Two (W.alloc (.cells #[.int .i32 p.1, .int .i32 p.2] t)) W.heap.size t p := World.alloc_heap_new W _
theorem Two.kept {W W' : World} {row : Option Nat} {B : Nat} {t : TypeId} {p : Pt} (h : Two W B t p) (hg : W.grownBy W' row) (hne : some B ≠ row) : Two W' B t p := (hg.block B h.lt hne).trans h
theorem Two.alloc {W : World} {B : Nat} {t : TypeId} {p : Pt} (h : Two W B t p) (o : Obj) : Two (W.alloc o) B t p := h.kept (World.grownBy_alloc W o none) (by simp)
theorem Two.below {W W' : World} {n B : Nat} {t : TypeId} {p : Pt} (hb : Below n W W') (hB : B < n) (h : Two W B t p) : Two W' B t p := (hb.block B hB).trans h
theorem boxed_below {W W' : World} {n B : Nat} {t : TypeId} {v : Value} (hb : Below n W W') (hB : B < n) (h : Boxed W B t v) : Boxed W' B t v := (hb.block B hB).trans h
theorem two_own {β : Type} (B : Nat) (t : TypeId) (f : β → Pt) : Own (fun s W => Two W B t (f s)) := fun s X Y row hs hg hrow =>
  hs.kept hg (fun e' => by obtain ⟨o, ho, hc⟩ := hrow B e'.symm; rw [show X.heap[B]? = _ from hs] at ho; cases ho; cases hc)
theorem keepsFrom_below {B : Nat} {W W' : World} (h : Below W.heap.size W W') : KeepsFrom B W W' := ⟨h.size, fun k _ _ hk _ => (h.block k (Array.getElem?_eq_some_iff.1 hk).1).trans hk⟩

theorem any_upto {f : Pt × Pt → Bool} {ps : List Pt} {k : Nat} (hk : k ≤ ps.length) (h : (upto (sid ps) k).any f = true) : (sides ps).any f = true := by
  rw [List.any_eq_true] at h ⊢
  obtain ⟨x, hx, hf⟩ := h
  refine ⟨x, ?_, hf⟩
  unfold upto at hx
  unfold sides
  rw [List.mem_map] at hx ⊢
  obtain ⟨j, hj, e⟩ := hx
  rw [List.mem_range] at hj
  exact ⟨j, List.mem_range.2 (by omega), e⟩
def vals (l : List Sd) : List (Pt × Pt) := l.map Subtype.val
theorem vals_snoc (l : List Sd) (x : Sd) : vals (l ++ [x]) = vals l ++ [x.1] := by simp [vals]

set_option maxRecDepth 100000 in
set_option maxHeartbeats 2000000 in
theorem edge_any (w : World) (sv : Value) (ps : List Pt) (p : Pt) (hp : IPt p) (hps : ∀ p ∈ ps, IPt p) (hreach : ps.length * 8 ≤ 140737488355328) (hI : PtsAt w.heap.size w sv ps) :
    Calls Try.prog 10 #[sv, .agg #[.int .i32 p.1, .int .i32 p.2]] w fun e w' => e = .returned (.bool (edge ps p)) ∧ Below w.heap.size w w' := by
  obtain ⟨a, len, cap, rfl⟩ : ∃ a len cap, sv = .slice a len cap := by
    rcases hI with ⟨⟨A0, c0, rfl⟩, _⟩ | ⟨b, off, cap, rfl, _⟩ <;> exact ⟨_, _, _, rfl⟩
  refine (callsIn_wide (n := 6)).1 ?_
  have h1 : 1 ≤ 6 := by omega
  refine callsIn_of_wp_marks Try.func10 rfl trivial ?_ rfl
  simp only [Try.ntmps10, List.size_toArray, List.length_cons, List.length_nil, Nat.reduceAdd, Nat.reduceSub, Array.replicate_succ, Array.replicate_zero, List.push_toArray, List.append_toArray, List.nil_append, List.cons_append]
  gi_wp2_with (refine ⟨trivial, ?_⟩; gi_at_call 28; refine (sides_in Fence.wide (6 - 1) trivial rfl _ _ _ _).mono ?_; rintro e w' ⟨rfl, rfl⟩)
  obtain ⟨w1, hw1⟩ : ∃ w1, w.alloc (.cells #[.int .i32 p.1, .int .i32 p.2] 25) = w1 := ⟨_, rfl⟩
  obtain ⟨w2, hw2⟩ : ∃ w2, w1.alloc (.cells #[.bool false] 4) = w2 := ⟨_, rfl⟩
  obtain ⟨W0, hW0⟩ : ∃ W0, w2.alloc (.cells #[.slice a len cap] 22) = W0 := ⟨_, rfl⟩
  have z1 : w1.heap.size = w.heap.size + 1 := by rw [← hw1]; simp
  have z2 : w2.heap.size = w.heap.size + 1 + 1 := by rw [← hw2]; simp [z1]
  have z0 : W0.heap.size = w.heap.size + 1 + 1 + 1 := by rw [← hW0]; simp [z2]
  have bP : Two W0 w.heap.size 25 p := by rw [← hW0, ← hw2, ← hw1]; exact ((Two.new w 25 p).alloc _).alloc _
  have bR : Boxed W0 (w.heap.size + 1) 4 (.bool false) := by rw [← z1, ← hW0, ← hw2]; exact (Boxed.new w1 4 _).alloc _
  have bS : Boxed W0 (w.heap.size + 1 + 1) 22 (.slice a len cap) := by rw [← z2, ← hW0]; exact Boxed.new w2 22 _
  have hB0 : Below w.heap.size w W0 := by rw [← hW0, ← hw2, ← hw1]; exact (((Below.refl _ w).alloc (Nat.le_refl _) _).alloc (by simp) _).alloc (by simp; omega) _
  rw [hw1, hw2, hW0]
  clear hW0 hw1 hw2
  refine wpIn_rangeFunc_ownH rfl h1 (gf := 52) (lb := #[.pointer (some ⟨w.heap.size + 1 + 1, 0, none⟩)]) rfl trivial (enters_of Try.func52 (by kernel_rfl) rfl)
    (sides_stops Fence.wide (6 - 1) trivial rfl (by omega) (w.heap.size + 1 + 1) w.heap.size w.heap.size W0.heap.size (.slice a len cap) ps hps hreach W0 (Nat.le_refl _) (by omega) (by omega) (Nat.le_refl _) (by omega) bS.cell (hI.below hB0)) kx_t (kx_b (Nat.le_refl _)) (Below.refl _ _) (fun _ => rfl)
    (fun pre W => (vals pre).any (onP p) = false ∧ Below W0.heap.size W0 W)
    (fun c pre W => ((c = .ret ∧ (vals pre).any (onP p) = true) ∧ Boxed W (w.heap.size + 1) 4 (.bool true)) ∧ Below w.heap.size w W)
    (OwnFrom.and (ownFrom_pure _ _) (ownFrom_below (Nat.le_refl _) (Nat.le_refl _)))
    (fun c => OwnFrom.and (OwnFrom.and (ownFrom_pure _ _) (Own.from (boxed_own _ _ _) _)) (ownFrom_below (Nat.le_refl _) (by omega)))
    ⟨rfl, Below.refl _ _⟩
    (fun x a' W => ∃ A C, (w.heap.size + 1 < A ∧ Two W A 25 x.1.1) ∧ (w.heap.size + 1 < C ∧ Two W C 25 x.1.2) ∧ a' = { tmps := #[.slice a len cap, .agg #[.int .i32 p.1, .int .i32 p.2], undef, .pointer (some ⟨w.heap.size, 0, none⟩), .pointer (some ⟨w.heap.size + 1, 0, none⟩), .pointer (some ⟨A, 0, none⟩), .pointer (some ⟨C, 0, none⟩), .slice a len cap, .func (.func 52) #[] #[.pointer (some ⟨w.heap.size + 1 + 1, 0, none⟩)], .agg #[.int .i32 x.1.1.1, .int .i32 x.1.1.2], .agg #[.int .i32 x.1.2.1, .int .i32 x.1.2.2], undef, undef, undef, undef], defers := [] })
    (fun x a' _ X Y row hs hg hr => by
      obtain ⟨A, C, ⟨h1, h2⟩, ⟨h3, h4⟩, h5⟩ := hs
      exact ⟨A, C, ⟨h1, two_own A 25 (fun (_ : Unit) => x.1.1) () X Y row h2 hg (fun r e => (hr r e).2)⟩, ⟨h3, two_own C 25 (fun (_ : Unit) => x.1.2) () X Y row h4 hg (fun r e => (hr r e).2)⟩, h5⟩)
    ?assign ?body ?done ?stop
  case assign =>
    rintro l pre x W K ⟨hf, hB1⟩ hK
    have hsz := hB1.size
    unfold ePt
    gi_wp2
    refine hK _ _ (((KeepsOthers.alloc _ _).trans (KeepsOthers.alloc _ _)).from _) (Kx.below (((Below.refl _ W).alloc (Nat.le_refl _) _).alloc (by simp) _) hsz) ⟨hf, (hB1.alloc hB1.size _).alloc (by simp; omega) _⟩ ⟨W.heap.size, W.heap.size + 1, ⟨by omega, (Two.new W 25 x.1.1).alloc _⟩, ⟨by omega, ?_⟩, rfl⟩
    have := Two.new (W.alloc (.cells #[.int .i32 x.1.1.1, .int .i32 x.1.1.2] 25)) 25 x.1.2
    rw [World.size_alloc] at this
    exact this
  case body =>
    rintro l pre x a' W hl _ ⟨hf, hB1⟩ ⟨A, C, ⟨hA, bA⟩, ⟨hC, bC⟩, rfl⟩ hlt
    have bP1 := bP.below hB1 bP.lt
    have bR1 := boxed_below hB1 bR.lt bR
    have cP0 := bP1.c0
    have cP1 := bP1.c1
    have cA0 := bA.c0
    have cA1 := bA.c1
    have cC0 := bC.c0
    have cC1 := bC.c1
    have hxi := x.2
    have H := Lib.hid (fun W => on_any p.1 p.2 x.1.1.1 x.1.1.2 x.1.2.1 x.1.2.2 hp.1 hp.2 x.2.1.1 x.2.1.2 x.2.2.1 x.2.2.2 W)
    gi_wp2
    refine ⟨trivial, ?_⟩
    refine (CallsIn.inRound l (callsIn_wide.2 (H.out _))).mono ?_
    rintro e w' ⟨rfl, hbw⟩
    have bR2 := boxed_below hbw bR1.lt bR1
    have cR2 := bR2.cell
    have fR2 := bR2.frozen
    gi_wp2
    · have hx : onP p x.1 = true := by unfold onP; assumption
      refine ⟨(keepsFrom_below hbw).trans ((KeepsOthers.setCell _ _ _).from _), ⟨⟨rfl, ?_⟩, bR2.set _⟩, ((hB0.trans (hB1.mono (by omega))).trans (hbw.mono (by have := hB1.size; omega))).setCell (p := ⟨w.heap.size + 1, 0, none⟩) (by simp) _⟩
      rw [vals_snoc, List.any_append, List.any_cons, hx]
      simp
    · have hx : onP p x.1 = false := by unfold onP; assumption
      refine ⟨keepsFrom_below hbw, Kx.below hbw hB1.size, ?_, hB1.trans (hbw.mono hB1.size)⟩
      rw [vals_snoc, List.any_append, List.any_cons, hx, hf]
      rfl
  case done =>
    rintro D ys W hD rfl ⟨hf, hB1⟩ hK
    have bR1 := boxed_below hB1 bR.lt bR
    have cR := bR1.cell
    have fR := bR1.frozen
    gi_wp2
    have hK' := (KeepsOthers.setCell W ⟨w.heap.size + 1, 0, none⟩ (.bool false)).same D _ hK rfl
    refine ⟨by simp, .inl ⟨_, _, rfl, run_takeDeferred hK', ?_⟩⟩
    have hc5 := cell_kept (World.cell?_setCell_same' W ⟨w.heap.size + 1, 0, none⟩ (.bool false) (by rw [cR]; rfl)) (grownBy_putObj' _ D (.deferred none)) (fun r e => by cases e; exact ⟨_, hK', rfl⟩)
    refine ⟨.bool false, ?_, ?_, ((hB0.trans (hB1.mono (by omega))).setCell (p := ⟨w.heap.size + 1, 0, none⟩) (by simp) _).trans (belowK_b (w := w) (Nat.le_refl _) _ D _ _ (by omega) hK' rfl rfl)⟩
    · simp [results, Try.f10, go_sem, hc5]
    · unfold vals at hf
      rw [sdS_map] at hf
      rw [show edge ps p = false from hf]
  case stop =>
    rintro D c pre W hD ⟨k, hk, rfl⟩ ⟨⟨⟨rfl, hf⟩, bR1⟩, hB1⟩ hK
    have cR := bR1.cell
    gi_wp2
    refine ⟨by simp, .inl ⟨_, _, rfl, run_takeDeferred hK, ?_⟩⟩
    have hc5 := cell_kept cR (grownBy_putObj' _ D (.deferred none)) (fun r e => by cases e; exact ⟨_, hK, rfl⟩)
    refine ⟨.bool true, ?_, ?_, hB1.trans (belowK_b (w := w) (Nat.le_refl _) _ D _ _ (by omega) hK rfl rfl)⟩
    · simp [results, Try.f10, go_sem, hc5]
    · unfold vals at hf
      rw [sdS_map] at hf
      rw [show edge ps p = true from any_upto hk hf]

end Go.Proofs.Ytohnglcdophkfaa
