/-
  A law of one's own: a range over a function that hands out what lies in memory; jumps among several labels.
  The marks that ranges over functions leave behind, at a function's end; what a range keeps.
-/
import Derived.Test.YthbndilnobjjgaaFrame
import Derived.RangeFuncNested
import Derived.RangeFuncBound
import Derived.ScopeJumps
import Derived.Test.YthbndilnobjjgaaTurnW
namespace Go.Proofs.Ythbndilnobjjgaa
section
open Go.RowKit

/-- As the kit's SeqStopsK at the wide fence; of what is handed out the round is told besides what holds of it (Ok). -/
def SeqTold {α : Type} (n : Nat) (P : Program) (g : Nat) (lb : Array Value) (encs : α → Array Value) (Ok : List α → α → World → Prop) (Kp : World → World → Prop) (S Sp : List α → Prop) (w : World) : Prop :=
  ∀ (l : Nat) (J Jx : List α → World → Prop) (W : World), Below w.heap.size w W → AbidesFrom W.heap.size J → AbidesFrom W.heap.size Jx →
    (∀ pre x W1, J pre W1 → Ok pre x W1 → YieldAt Fence.wide (n - 1) P l (encs x) W1 fun e W' => (e = .returned (.bool true) ∧ J (pre ++ [x]) W' ∧ Kp W1 W') ∨ (e = .returned (.bool false) ∧ Jx (pre ++ [x]) W')) →
    J [] W → CallsIn Fence.wide n P g (#[.func (.yield l) #[] #[]] ++ lb) W fun e W' => (∃ v, e = .returned v) ∧ ((∃ xs, S xs ∧ J xs W') ∨ (∃ pre, Sp pre ∧ Jx pre W'))

section
variable {n : Nat} {P : Program} {w : World} {α : Type} {g : Operand} {ps : Array Tmp} {assign body : Code} {Q : Exit → Act → World → Prop} {a : Act}
/-- The record of the loop, at a state. -/
def recOf (fn : FuncId) (a : Act) (ps : Array Tmp) (assign body : Code) (B : Nat) (st : LoopState) (pe : Option Code) : Loop := { state := st, pending := pe, fn, tmps := a.tmps, params := ps, assign, body, defers := B }

theorem wpIn_rangeFunc_told (h1 : 1 ≤ n) {gf : Nat} {lb : Array Value} (hg : a.eval g = .func (.func gf) #[] lb) (eg : ∀ args w, (callFunc gf args).run P w = .ok (.enter gf args) w)
    {encs : α → Array Value} {Ok : List α → α → World → Prop} {Kp : World → World → Prop} {S Sp : List α → Prop} {w0 : World} (hseq : SeqTold (n - 1) P gf lb encs Ok Kp S Sp w0)
    (hKt : ∀ {A B C : World}, Kp A B → Kp B C → Kp A C) (hKb : ∀ (W : World) (l : Nat) (o o' : Obj), w.heap.size ≤ l → W.heap[l]? = some o → o.isCells = false → o.isWalk = false → Kp W (W.putObj l o')) (hb0 : Below w0.heap.size w0 w) (hps : ∀ x, (encs x).size = ps.size)
    (I : List α → World → Prop) (Ix : Code → List α → World → Prop) (hI : OwnFrom w.heap.size I) (hIx : ∀ c, OwnFrom w.heap.size (Ix c)) (h0 : I [] w) (Ax : List α → α → Act → World → Prop) (hAx : ∀ pre x a', OwnFrom w.heap.size (fun (_ : Unit) W => Ax pre x a' W))
    (hassign : ∀ (l : Nat) (pre : List α) (x : α) (W : World) (K : Act → World → Prop), I pre W → Ok pre x W → (∀ a' W', KeepsFrom w.heap.size W W' → Kp W W' → I pre W' → Ax pre x a' W' → K a' W') →
      assign.wpIn (Fence.wide.inRound l) (n - 1 - 1) P (Exit.then K (fun _ _ _ => False)) { tmps := (ps.zip (encs x)).foldl (fun t (p, v) => t.setIfInBounds p v) a.tmps, defers := [] } W)
    (hbody : ∀ (l : Nat) (pre : List α) (x : α) (a' : Act) (W : World), w.heap.size ≤ l → I pre W → Ax pre x a' W → body.wpIn (Fence.wide.inRound l) (n - 1 - 1) P (ownPostG w.heap.size Kp I Ix (pre ++ [x]) W) a' W)
    (hdone : ∀ (D : Nat) (xs : List α) (W : World), w.heap.size ≤ D → S xs → I xs W → W.heap[D]? = some (.deferred (some [])) → Q .normal { a with defers := { target := .collected D, args := #[] } :: a.defers } W)
    (hstop : ∀ (D : Nat) (c : Code) (pre : List α) (W : World), w.heap.size ≤ D → Sp pre → Ix c pre W → W.heap[D]? = some (.deferred (some [])) → c.wpIn Fence.wide n P Q { a with defers := { target := .collected D, args := #[] } :: a.defers } W) :
    (Code.rangeFunc g ps assign body).wpIn Fence.wide n P Q a w := by
  refine wpIn_rangeFunc fun fn hfn => ?_
  have hro : Fence.wide.round = none := rfl
  rw [hro]
  -- the two blocks of book-keeping: B (the deferred calls), B + 1 (the loop's record)
  obtain ⟨B, hB⟩ : ∃ B, w.heap.size = B := ⟨_, rfl⟩
  have R : ∀ st pe, ∃ r, recOf fn a ps assign body B st pe = r := fun _ _ => ⟨_, rfl⟩
  obtain ⟨W1, hW1⟩ : ∃ W1, (w.alloc (.deferred (some []))).alloc (.loop (recOf fn a ps assign body B .ready none)) = W1 := ⟨_, rfl⟩
  have z1 : W1.heap.size = B + 2 := by rw [← hW1, ← hB]; simp
  have hrec : W1.heap[B + 1]? = some (.loop (recOf fn a ps assign body B .ready none)) := by
    have h := World.alloc_heap_new (w.alloc (.deferred (some []))) (.loop (recOf fn a ps assign body B .ready none))
    rw [World.size_alloc, hB, hW1] at h
    exact h
  have hdef : W1.heap[B]? = some (.deferred (some [])) := by
    rw [← hW1, ← hB]
    exact (Below.heap_alloc _ _ _ (by simp)).trans (World.alloc_heap_new w _)
  have hI1 : I [] W1 := by rw [← hW1]; exact hI.alloc _ (hI.alloc _ h0)
  have hb1 : Below w0.heap.size w0 W1 := by
    rw [← hW1]
    exact hb0.trans ((((Below.refl _ w).alloc (Nat.le_refl _) _).alloc (by simp) _).mono hb0.size)
  have henter := run_enterLoop_outer (P := P) (w := w) fn a.tmps ps assign body
  rw [hB] at henter hI hIx hAx hassign hbody hdone hstop hKb
  refine ⟨B + 1, [{ target := .collected B, args := #[] }], W1, { target := .fn (.func gf) lb, args := #[.func (.yield (B + 1)) #[] #[]] }, W1, gf, #[.func (.yield (B + 1)) #[] #[]] ++ lb, W1, ?_, ?_, fun _ _ => trivial, ?_, fun _ => h1, ?_⟩
  · rw [← hW1]; exact henter
  · simp only [resolve, hg]
    simp [go_sem]
  · simp [invoke, go_sem, eg]
  · -- what stands beside the caller's own word: the two blocks
    have hrow : ∀ {A : World} {row : Option Nat}, (∀ r, row = some r → W1.heap.size ≤ r ∧ ∃ o : Obj, A.heap[r]? = some o ∧ o.isWalk = true) → (∀ r, row = some r → B ≤ r ∧ ∃ o : Obj, A.heap[r]? = some o ∧ o.isCells = false) := fun h r e => by
      obtain ⟨h1, o, h2, h3⟩ := h r e
      exact ⟨by omega, o, h2, Obj.not_cells_of_walk h3⟩
    refine (hseq (B + 1)
      (fun pre W => I pre W ∧ W.heap[B + 1]? = some (.loop (recOf fn a ps assign body B .ready none)) ∧ W.heap[B]? = some (.deferred (some [])))
      (fun pre W => ∃ c, Ix c pre W ∧ W.heap[B + 1]? = some (.loop (recOf fn a ps assign body B .done (some c))) ∧ W.heap[B]? = some (.deferred (some [])))
      W1 hb1 ?_ ?_ ?_ ⟨hI1, hrec, hdef⟩).mono ?_
    · intro s X Y row ⟨h1, h2, h3⟩ hg' hr
      exact ⟨hI s X Y row h1 hg' (hrow hr), (grownBy_keeps hg' (fun r e => (hr r e).2) h2 rfl).trans h2, (grownBy_keeps hg' (fun r e => (hr r e).2) h3 rfl).trans h3⟩
    · rintro s X Y row ⟨c, h1, h2, h3⟩ hg' hr
      exact ⟨c, hIx c s X Y row h1 hg' (hrow hr), (grownBy_keeps hg' (fun r e => (hr r e).2) h2 rfl).trans h2, (grownBy_keeps hg' (fun r e => (hr r e).2) h3 rfl).trans h3⟩
    · rintro pre x W ⟨hi, hl, hk⟩ hok
      have hyld := run_yield (P := P) (args := encs x) hl (hps x)
      refine ⟨fn, _, assign, body, hyld, roundIn_of_wpIn hfn (hassign _ pre x W _ hi hok fun a' V hkf hkp hiV hax => ?_)⟩
      have hlV := hkf.same _ _ (by omega) hl rfl
      have hkV := hkf.same _ _ (Nat.le_refl _) hk rfl
      have hlt : B + 1 < V.heap.size := (Array.getElem?_eq_some_iff.1 hlV).1
      refine ⟨_, run_beginRound hlV rfl, ?_⟩
      -- the round's world: the record is busy
      obtain ⟨U, hU⟩ : ∃ U, V.putObj (B + 1) (.loop (recOf fn a ps assign body B .busy none)) = U := ⟨_, rfl⟩
      have hUe : V.putObj (B + 1) (.loop { recOf fn a ps assign body B .ready none with state := .busy }) = U := hU
      rw [hUe]
      have hlU : U.heap[B + 1]? = some (.loop (recOf fn a ps assign body B .busy none)) := by rw [← hU]; exact World.putObj_heap_same hlt
      have hkU : U.heap[B]? = some (.deferred (some [])) := by rw [← hU]; exact (World.putObj_heap_other (by omega)).trans hkV
      have hKU : Kp V U := by rw [← hU]; exact hKb _ _ _ _ (by omega) hlV rfl rfl
      have hiU : I pre U := by rw [← hU]; exact hI.putObj _ hiV (by omega) hlV rfl
      have haU : Ax pre x a' U := by rw [← hU]; exact (hAx pre x a').putObj (s := ()) _ hax (by omega) hlV rfl
      refine wpIn_mono (hbody _ pre x a' U (by omega) hiU haU) ?_
      have shut : ∀ (jump : Option Code) (V3 : World), KeepsFrom B U V3 → ∃ V4, (Instr.endRound (B + 1) jump).run P V3 = .ok (.bool jump.isNone) V4 ∧ V4 = V3.putObj (B + 1) (.loop (recOf fn a ps assign body B (if jump.isNone then .ready else .done) jump)) ∧
          V3.heap[B + 1]? = some (.loop (recOf fn a ps assign body B .busy none)) ∧ V4.heap[B + 1]? = some (.loop (recOf fn a ps assign body B (if jump.isNone then .ready else .done) jump)) ∧ V4.heap[B]? = some (.deferred (some [])) := fun jump V3 h3 => by
        have hl3 := h3.same _ _ (by omega) hlU rfl
        exact ⟨_, run_endRound (P := P) jump hl3, rfl, hl3, World.putObj_heap_same (Array.getElem?_eq_some_iff.1 hl3).1, (World.putObj_heap_other (by omega)).trans (h3.same _ _ (Nat.le_refl _) hkU rfl)⟩
      have left : ∀ (c : Code) (V3 : World), KeepsFrom B U V3 → Ix c (pre ++ [x]) V3 → ∃ v V4, (Instr.endRound (B + 1) (some c)).run P V3 = .ok v V4 ∧ (v = .bool false ∧ ∃ c, Ix c (pre ++ [x]) V4 ∧ V4.heap[B + 1]? = some (.loop (recOf fn a ps assign body B .done (some c))) ∧ V4.heap[B]? = some (.deferred (some []))) := fun c V3 h3 hx => by
        obtain ⟨V4, e1, e2, e3, e4, e5⟩ := shut (some c) V3 h3
        exact ⟨_, V4, e1, rfl, c, by rw [e2]; exact (hIx c).putObj _ hx (by omega) e3 rfl, e4, e5⟩
      rintro e a3 V3 hp
      cases e with
      | normal =>
        obtain ⟨h3, hkp3, hi3⟩ := hp
        obtain ⟨V4, e1, e2, e3, e4, e5⟩ := shut none V3 h3
        refine ⟨_, V4, e1, .inl ⟨rfl, ⟨by rw [e2]; exact hI.putObj _ hi3 (by omega) e3 rfl, e4, e5⟩, hKt hkp (hKt (hKt hKU hkp3) ?_)⟩⟩
        rw [e2]
        exact hKb _ _ _ _ (by omega) e3 rfl rfl
      | ret =>
        obtain ⟨v, V4, e1, rfl, h4⟩ := left _ V3 hp.1 hp.2
        exact ⟨_, V4, e1, .inr ⟨rfl, h4⟩⟩
      | exit id =>
        obtain ⟨v, V4, e1, rfl, h4⟩ := left _ V3 hp.1 hp.2
        exact ⟨_, V4, e1, .inr ⟨rfl, h4⟩⟩
      | goto t =>
        obtain ⟨v, V4, e1, rfl, h4⟩ := left _ V3 hp.1 hp.2
        exact ⟨_, V4, e1, .inr ⟨rfl, h4⟩⟩
      | panic ch => exact hp.elim
      | outgrown => exact hp.elim
    · rintro e V2 ⟨⟨v, rfl⟩, ⟨xs, hS, hi, hl, hk⟩ | ⟨pre, hSp, c, hi, hl, hk⟩⟩
      · exact ⟨none, _, run_endLoop (P := P) hl (by simp [recOf]), hdone B xs _ (Nat.le_refl _) hS (hI.putObj _ hi (by omega) hl rfl) ((World.putObj_heap_other (by omega)).trans hk)⟩
      · exact ⟨some c, _, run_endLoop (P := P) hl (by simp [recOf]), hstop B c pre _ (Nat.le_refl _) hSp ((hIx c).putObj _ hi (by omega) hl rfl) ((World.putObj_heap_other (by omega)).trans hk)⟩
end

/-- As Q; by a goto to a label: J of that label. -/
def Exit.jumps (J : Nat → Act → World → Prop) (Q : Exit → Act → World → Prop) : Exit → Act → World → Prop
  | .goto l, a, w => J l a w
  | e, a, w => Q e a w
section
variable {P : Program} {a : Act} {w : World} {Q : Exit → Act → World → Prop}
/-- A scope in which the run jumps among labels: what holds at each, and a measure that falls. -/
theorem wp_scope_labels {c : Code} (rest : Nat → Code) (J : Nat → Act → World → Prop) (μ : Nat → Act → World → Nat) (hf : ∀ l a w, J l a w → findLabel c l = some (rest l))
    (first : c.wp P (Exit.jumps J Q) a w)
    (pass : ∀ l a w, J l a w → (rest l).wp P (Exit.jumps (fun l' a' w' => J l' a' w' ∧ μ l' a' w' < μ l a w) Q) a w) : (Code.scope c).wp P Q a w := by
  intro b k cs
  have hg : ∀ l a w, J l a w → gotoIn l (.inScope c :: k) = some (.code (rest l) :: .inScope c :: k) := fun l a w h => by simp [gotoIn, hf l a w h]
  have key : ∀ m l a w, μ l a w = m → J l a w → ∃ e a' w', Q e a' w' ∧ Arrives P (lone (b.at a (.code (rest l) :: .inScope c :: k)) cs w) b k cs e a' w' := by
    intro m
    induction m using Nat.strongRecOn with
    | _ m ih =>
      intro l a w hm hJ
      obtain ⟨e, a1, w1, hq, har⟩ := pass l a w hJ b (.inScope c :: k) cs
      cases e with
      | normal => exact ⟨.normal, a1, w1, hq, Steps.trans har (.one step_inScope)⟩
      | exit id => exact ⟨.exit id, a1, w1, hq, fun k' hk => har k' (by simp [exitTo, hk])⟩
      | goto l' =>
        obtain ⟨hJ', hlt⟩ := hq
        obtain ⟨e2, a2, w2, hq2, har2⟩ := ih _ (by omega) l' a1 w1 rfl hJ'
        exact ⟨e2, a2, w2, hq2, .of_steps (har _ (hg l' a1 w1 hJ')) har2⟩
      | ret => exact ⟨_, a1, w1, hq, har⟩
      | panic ch => exact ⟨_, a1, w1, hq, har⟩
      | outgrown => exact ⟨_, a1, w1, hq, har⟩
  obtain ⟨e, a1, w1, hq, har⟩ := first b (.inScope c :: k) cs
  cases e with
  | normal => exact ⟨.normal, a1, w1, hq, .head step_scope (Steps.trans har (.one step_inScope))⟩
  | exit id => exact ⟨.exit id, a1, w1, hq, fun k' hk => .head step_scope (har k' (by simp [exitTo, hk]))⟩
  | goto l' =>
    obtain ⟨e2, a2, w2, hq2, har2⟩ := key _ l' a1 w1 rfl hq
    exact ⟨e2, a2, w2, hq2, .of_steps (.head step_scope (har _ (hg l' a1 w1 hq))) har2⟩
  | ret => exact ⟨_, a1, w1, hq, .of_steps (.one step_scope) har⟩
  | panic ch => exact ⟨_, a1, w1, hq, .of_steps (.one step_scope) har⟩
  | outgrown => exact ⟨_, a1, w1, hq, .of_steps (.one step_scope) har⟩
theorem wp_scope_found {c : Code} (J : Nat → Act → World → Prop) (μ : Nat → Act → World → Nat) (hf : ∀ l a w, J l a w → findLabel c l = some ((findLabel c l).getD .skip))
    (first : c.wp P (Exit.jumps J Q) a w)
    (pass : ∀ l a w, J l a w → ((findLabel c l).getD .skip).wp P (Exit.jumps (fun l' a' w' => J l' a' w' ∧ μ l' a' w' < μ l a w) Q) a w) : (Code.scope c).wp P Q a w :=
  wp_scope_labels (fun l => (findLabel c l).getD .skip) J μ hf first pass
end
end

section
open Go.RowKit

/-- The marks of loops over iterators, at the end: nothing was deferred in them. -/
def markD (D : Nat) : Deferred := { target := .collected D, args := #[] }
theorem leaves_markD {F : Fence} {n : Nat} {P : Program} {fn : Func} {tmps : Array Value} {R : Ending → World → Prop} {B : Nat} : ∀ (Ds : List Nat) (w : World), Ds.Nodup → (∀ D ∈ Ds, B ≤ D ∧ w.heap[D]? = some (.deferred (some []))) →
    (∀ w', Below B w w' → (∀ (k : Nat) cur t f, w.heap[k]? = some (.cells cur t f) → w'.heap[k]? = some (.cells cur t f)) → LeavesIn F n P fn tmps R [] .returning w') → LeavesInM F n P fn tmps R (Ds.map markD) .returning w
  | [], w, _, _, h => h w (Below.refl _ _) fun _ _ _ _ e => e
  | D :: Ds, w, hn, hD, h => by
    have h0 := hD D (by simp)
    refine ⟨by simp, .inl ⟨D, _, rfl, run_takeDeferred h0.2, ?_⟩⟩
    have hlt : D < w.heap.size := (Array.getElem?_eq_some_iff.1 h0.2).1
    refine leaves_markD (B := B) Ds _ (List.nodup_cons.1 hn).2 (fun D' hD' => ?_) fun w' hb hk => ?_
    · have hne : D' ≠ D := fun e => (List.nodup_cons.1 hn).1 (e ▸ hD')
      exact ⟨(hD D' (by simp [hD'])).1, (World.putObj_heap_other hne).trans (hD D' (by simp [hD'])).2⟩
    · have hb1 : Below B w (w.putObj D (.deferred none)) := (Below.refl B w).grown (grownBy_putObj' w D (.deferred none)) (by omega) (fun k e => by cases e; omega)
      refine h w' (hb1.trans hb) fun k cur t f e => hk k cur t f ?_
      refine (World.putObj_heap_other ?_).trans e
      rintro rfl
      rw [h0.2] at e
      cases e

/-- What turns but S is stable under what an iterator does to its own book-keeping. -/
theorem ownFrom_turn {β : Type} {B : Nat} {S : Nat → Prop} {W1 : World} (hB : W1.heap.size ≤ B) : OwnFrom B (fun (_ : β) W => Turn S W1 W) := fun s X Y row hs hg hr =>
  ⟨hg.os.trans hs.os, hg.tape.trans hs.tape, hg.output.trans hs.output, Nat.le_trans hs.size hg.size, fun k hk hn => (hg.block k (Nat.lt_of_lt_of_le hk hs.size) (fun e => by have := (hr k e.symm).1; omega)).trans (hs.block k hk hn)⟩
end

end Go.Proofs.Ythbndilnobjjgaa
