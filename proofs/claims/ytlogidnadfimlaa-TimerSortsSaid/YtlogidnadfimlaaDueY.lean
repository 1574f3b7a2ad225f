/-
  New dues.
-/
import Derived.Test.YtlogidnadfimlaaDueX
import Derived.Carry
namespace Go.Proofs.Ytlogidnadfimlaa
open Go.RowKit Go.Maps

theorem store_func {P : Program} {W : World} {p : Addr} (f r c) (h1 : W.frozen? p = false) (h2 : (W.cell? p).isSome = true) : (store p (.func f r c)).run P W = .ok () (W.setCell p (.func f r c)) := by
  rw [run_store P W p _ _ rfl]
  cases h : W.cell? p with
  | none => rw [h] at h2; cases h2
  | some u => simp [h1]
set_option maxHeartbeats 1000000 in
set_option maxRecDepth 100000 in
theorem new_any (most : Int) (h1 : 1 ≤ most) (h2 : most ≤ 4096) (w : World) :
    Calls Try.prog 8 #[.int .i64 most] w fun e w' => ∃ d vb mb, e = .returned (.tuple #[.pointer (some ⟨d, 0, none⟩), .int .i64 0]) ∧ DuAt w' d vb mb none 0 0 most [] ∧ Below w.heap.size w w' ∧ w.heap.size ≤ d ∧ w.heap.size ≤ vb ∧ w.heap.size ≤ mb := by
  have hmm := @run_makeMap Try.prog
  have hst := @store_func Try.prog
  have e1 : ¬ most < 1 := by omega
  have e2 : ¬ 4096 < most := by omega
  go_enter Try.func8, Try.ntmps8
  go_upto_region 4 with fail
  refine wp_gen (fun W0 hW0 => ?_)
  have hb0 : Below w.heap.size w W0 := by rw [hW0]; go_grown
  have hm : MapAt W0 w.heap.size (.map []) := by
    rw [hW0]
    exact MapAt.turn (MapAt.turn (MapAt.of (World.ownsMap_made w Try.prog 61 (plainElem Try.prog 3))) (S := fun _ => False) (Turn.of_below ((Below.refl _ _).alloc (Nat.le_refl _) _)) (fun h => h)) (S := fun _ => False) (Turn.of_below ((Below.refl _ _).alloc (Nat.le_refl _) _)) (fun h => h)
  have vd : Var W0 (w.heap.size + 1) 52 #[.slice none 0 0, Value.nilFunc, Value.nilFunc, .map (some w.heap.size), .int .i64 most] := by
    rw [hW0]
    have := (Var.new (w.alloc (.map #[] 0)) 52 #[.slice none 0 0, Value.nilFunc, Value.nilFunc, .map (some w.heap.size), .int .i64 most]).alloc (.cells #[.pointer (some ⟨w.heap.size + 1, 0, none⟩)] 24)
    simpa using this
  have vv : Var W0 (w.heap.size + 1 + 1) 24 #[.pointer (some ⟨w.heap.size + 1, 0, none⟩)] := by
    rw [hW0]
    have := Var.new ((w.alloc (.map #[] 0)).alloc (.cells #[.slice none 0 0, Value.nilFunc, Value.nilFunc, .map (some w.heap.size), .int .i64 most] 52)) 24 #[.pointer (some ⟨w.heap.size + 1, 0, none⟩)]
    simpa using this
  have H0 := Lib.hid (And.intro hb0 (And.intro hm (And.intro vd vv)))
  obtain ⟨d, hd⟩ : ∃ d, w.heap.size + 1 = d := ⟨_, rfl⟩
  obtain ⟨vb, hvb⟩ : ∃ d, w.heap.size + 1 + 1 = d := ⟨_, rfl⟩
  obtain ⟨mb, hmb⟩ : ∃ d, w.heap.size = d := ⟨_, rfl⟩
  rw [hvb, hd, hmb] at H0 ⊢
  have f1 := H0.out.2.2.1.free 1
  have f2 := H0.out.2.2.1.free 2
  have c1 : W0.cell? ⟨d, 1, none⟩ = some Value.nilFunc := H0.out.2.2.1.cell 1
  have c2 : W0.cell? ⟨d, 2, none⟩ = some Value.nilFunc := H0.out.2.2.1.cell 2
  have cv : W0.cell? ⟨vb, 0, none⟩ = some (.pointer (some ⟨d, 0, none⟩)) := H0.out.2.2.2.cell 0
  have yd := H0.out.2.2.1.lt
  have yv := H0.out.2.2.2.lt
  have hne : d ≠ vb := by omega
  have HN := Lib.hid (show mb < d ∧ d < vb ∧ w.heap.size = mb by omega)
  have hne2 : vb ≠ d := Ne.symm hne
  clear hW0 hb0 hm vd vv hmm e1 e2 hd hvb hmb
  go_wp2_with fail
  refine bodyPost_ret (by simp [results, Try.results8, go_sem, *]; try rfl) rfl ?_
  obtain ⟨hb0, hm, vd, vv⟩ := H0.out
  obtain ⟨l1, l2, l3⟩ := HN.out
  rw [← l3] at hb0
  have hT : Turn (· = d) W0 ((W0.setCell ⟨d, 1, none⟩ (.func (.func 20) #[] #[])).setCell ⟨d, 2, none⟩ (.func (.func 21) #[] #[.pointer (some ⟨vb, 0, none⟩)])) := Turn.set (Turn.set (Turn.refl (· = d) W0) (p := ⟨d, 1, none⟩) rfl _) (p := ⟨d, 2, none⟩) rfl _
  refine ⟨d, vb, mb, rfl, ⟨(vd.store 1 _).store 2 _, vv.turn hT (by omega), ⟨rfl, .inl ⟨rfl, rfl⟩⟩, rfl, ⟨.map [], hm.turn hT (by omega), ⟨⟨_, rfl, List.Pairwise.nil⟩, fun i hi => absurd hi (Nat.not_lt_zero _), fun k _ => ⟨fun h => ?_, fun h => ?_⟩, rfl⟩⟩, List.Pairwise.nil, fun x hx => absurd hx List.not_mem_nil, ?_, by omega, by omega, by omega, by omega, fun k hk => ?_⟩, ?_, by omega, by omega, by omega⟩
  · cases h
  · rcases h with ⟨x, hx, _⟩ | h
    · cases hx
    · cases h
  · exact fun k _ h => absurd h (Nat.not_lt_zero _)
  · cases hk
  · exact (hb0.setCell (p := ⟨d, 1, none⟩) (show w.heap.size ≤ d by omega) _).setCell (p := ⟨d, 2, none⟩) (show w.heap.size ≤ d by omega) _
theorem new_bad (most : Int) (h : most < 1 ∨ 4096 < most) (w : World) :
    Calls Try.prog 8 #[.int .i64 most] w fun e w' => e = .returned (.tuple #[.pointer none, .int .i64 2]) ∧ w = w' := by
  rcases (show most < 1 ∨ ¬ most < 1 by omega) with h1 | h1
  · clear h
    go_enter Try.func8, Try.ntmps8
    go_wp2_with fail
    refine bodyPost_ret (by simp [results, Try.results8, go_sem, *]; try rfl) rfl ?_
    exact ⟨rfl, rfl⟩
  · have h2 : 4096 < most := by omega
    have h3 : ¬ most < 1 := by omega
    clear h h1
    go_enter Try.func8, Try.ntmps8
    go_wp2_with fail
    refine bodyPost_ret (by simp [results, Try.results8, go_sem, *]; try rfl) rfl ?_
    exact ⟨rfl, rfl⟩
end Go.Proofs.Ytlogidnadfimlaa
