/-
  A cut behind a region: what is known of the slots that it fills and of the world is said once, whatever order was picked. Plain lemmas besides: a block through stores, calls and new memory.
-/
import Derived.Test.YtcpojadinkonnaaRefI
import Derived.Test.YtcpojadinkonnaaRefF
namespace Go.Proofs.Ytcpojadinkonnaa
open Go.RowKit

def puts (a : Act) : List (Nat × Value) → Act
  | [] => a
  | p :: t => puts (a.put (some p.1) p.2) t
theorem wp_cut {P : Program} {c : Code} {Q : Exit → Act → World → Prop} {a : Act} {w : World} (sl : List Nat) (F : List Value → World → Prop)
    (h1 : c.wp P (fun e a' w' => e = .normal ∧ ∃ vs, a' = puts a (sl.zip vs) ∧ F vs w') a w) (h2 : ∀ vs w', F vs w' → Q .normal (puts a (sl.zip vs)) w') : c.wp P Q a w :=
  Code.wp_mono (fun e a' w' ⟨he, vs, ha, hF⟩ => by subst he; subst ha; exact h2 vs w' hF) h1
theorem wp_cutR {P : Program} {c : Code} {Q : Exit → Act → World → Prop} {a : Act} {w : World} (R : Act → World → Prop) (h1 : c.wp P (fun e a' w' => e = .normal ∧ R a' w') a w) (h2 : ∀ a' w', R a' w' → Q .normal a' w') : c.wp P Q a w :=
  Code.wp_mono (fun e a' w' ⟨he, hR⟩ => by subst he; exact h2 a' w' hR) h1
theorem held_alloc {W0 W : World} (o : Obj) (h : Below W0.heap.size W0 W ∧ (∀ b o, b < W0.heap.size → W.cell? ⟨b, o, none⟩ = W0.cell? ⟨b, o, none⟩)) :
    Below W0.heap.size W0 (W.alloc o) ∧ (∀ b o', b < W0.heap.size → (W.alloc o).cell? ⟨b, o', none⟩ = W0.cell? ⟨b, o', none⟩) :=
  have hB := h.1.alloc h.1.size o
  ⟨hB, (bcell hB).1⟩
theorem held_set {W0 W : World} {g o : Nat} (u : Value) (hg : W0.heap.size ≤ g) (h : Below W0.heap.size W0 W ∧ (∀ b o, b < W0.heap.size → W.cell? ⟨b, o, none⟩ = W0.cell? ⟨b, o, none⟩)) :
    Below W0.heap.size W0 (W.setCell ⟨g, o, none⟩ u) ∧ (∀ b o', b < W0.heap.size → (W.setCell ⟨g, o, none⟩ u).cell? ⟨b, o', none⟩ = W0.cell? ⟨b, o', none⟩) :=
  have hB := h.1.setCell (p := ⟨g, o, none⟩) hg u
  ⟨hB, (bcell hB).1⟩
theorem held_drew {W0 W : World} (h : Below W0.heap.size W0 W ∧ (∀ b o, b < W0.heap.size → W.cell? ⟨b, o, none⟩ = W0.cell? ⟨b, o, none⟩)) :
    Below W0.heap.size W0 W.drew ∧ (∀ b o', b < W0.heap.size → W.drew.cell? ⟨b, o', none⟩ = W0.cell? ⟨b, o', none⟩) := ⟨h.1.drew, h.2⟩
theorem held_refl (W0 : World) : Below W0.heap.size W0 W0 ∧ (∀ b o, b < W0.heap.size → W0.cell? ⟨b, o, none⟩ = W0.cell? ⟨b, o, none⟩) := ⟨Below.refl _ _, fun _ _ _ => rfl⟩
theorem var_two {w : World} {g : Nat} {t : TypeId} {a b : Value} (h : Var w g t #[a, b]) (u v : Value) : Var ((w.setCell ⟨g, 0, none⟩ u).setCell ⟨g, 1, none⟩ v) g t #[u, v] := (h.store 0 u).store 1 v
theorem var_far2 {w : World} {g g' : Nat} {t : TypeId} {cs : Array Value} (h : Var w g t cs) (hg : g ≠ g') (u v : Value) : Var ((w.setCell ⟨g', 0, none⟩ u).setCell ⟨g', 1, none⟩ v) g t cs := (h.far (p := ⟨g', 0, none⟩) hg u).far (p := ⟨g', 1, none⟩) hg v
theorem raw_far2 {w : World} {A : Option Addr} {n c : Nat} {ds : List Nat} {R : Nat} {cs : Array Value} (h : RawAt w A n c ds) (hV : Var w R 64 cs) (x y : Value) : RawAt ((w.setCell ⟨R, 0, none⟩ x).setCell ⟨R, 1, none⟩ y) A n c ds := h.over hV x y

theorem var_twoN {w : World} {g : Nat} {u v : Value} (h : Var w g 64 #[.bool false, .slice none 0 0]) : Var ((w.setCell ⟨g, 0, none⟩ u).setCell ⟨g, 1, none⟩ v) g 64 #[u, v] := var_two h u v
theorem var_farN {w : World} {g g' : Nat} {t : TypeId} {cs : Array Value} {u v : Value} (hg : g ≠ g') (h : Var w g t cs) : Var ((w.setCell ⟨g', 0, none⟩ u).setCell ⟨g', 1, none⟩ v) g t cs := var_far2 h hg u v
theorem raw_farN {w : World} {A : Option Addr} {n c : Nat} {ds : List Nat} {R : Nat} {x y : Value} (hV : Var w R 64 #[.bool false, .slice none 0 0]) (h : RawAt w A n c ds) : RawAt ((w.setCell ⟨R, 0, none⟩ x).setCell ⟨R, 1, none⟩ y) A n c ds := h.over hV x y
theorem small_mod (m : Nat) : Small 9 (m % ((2 : Int) ^ 128).natAbs) := by
  unfold Small
  have h1 : ((2 : Int) ^ 128).natAbs < 65536 ^ 9 := by decide +kernel
  have h2 : 0 < ((2 : Int) ^ 128).natAbs := by decide +kernel
  exact Nat.lt_trans (Nat.mod_lt _ h2) h1
theorem div_bd {m : Nat} (h : m < ((2 : Int) ^ 128).natAbs) : m / ((2 : Int) ^ 64).natAbs ≤ 18446744073709551615 ∧ m % ((2 : Int) ^ 64).natAbs ≤ 18446744073709551615 := by
  rw [show ((2 : Int) ^ 128).natAbs = 340282366920938463463374607431768211456 by decide +kernel] at h
  rw [show ((2 : Int) ^ 64).natAbs = 18446744073709551616 by decide +kernel]
  omega
theorem raw_alloc {w : World} {A : Option Addr} {n c : Nat} {ds : List Nat} (h : RawAt w A n c ds) (o : Obj) : RawAt (w.alloc o) A n c ds := h.below ((Below.refl _ _).alloc (Nat.le_refl _) o)
theorem raw_drew {w : World} {A : Option Addr} {n c : Nat} {ds : List Nat} (h : RawAt w A n c ds) : RawAt w.drew A n c ds := h.below ((Below.refl _ _).drew)
theorem open_div {P : Program} {f : FuncId} {args : Array Value} {w : World} {m m' : Nat} (h : Calls P f args w fun e w' => ∃ v v', e = .returned (.tuple #[v, v']) ∧ MagAt w' v false m ∧ MagAt w' v' false m' ∧ Below w.heap.size w w') :
    Calls P f args w fun e w' => ∃ A n c ds A' n' c' ds', e = .returned (.tuple #[.agg #[.bool false, .slice A n c], .agg #[.bool false, .slice A' n' c']]) ∧ (RawAt w' A n c ds ∧ Tight ds ∧ Hid (val ds = m)) ∧ (RawAt w' A' n' c' ds' ∧ Tight ds' ∧ Hid (val ds' = m')) ∧ Below w.heap.size w w' :=
  h.mono fun _ _ ⟨_, _, he, ⟨A, n, c, ds, hv, hr, ht, hm⟩, ⟨A', n', c', ds', hv', hr', ht', hm'⟩, hb⟩ => ⟨A, n, c, ds, A', n', c', ds', by rw [he, hv, hv'], ⟨hr, ht, Lib.hid hm⟩, ⟨hr', ht', Lib.hid hm'⟩, hb⟩

end Go.Proofs.Ytcpojadinkonnaa
