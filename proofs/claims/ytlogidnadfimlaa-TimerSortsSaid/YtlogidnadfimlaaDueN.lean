/-
  The dues: how many, the first, whether it is due.
-/
import Derived.Test.YtlogidnadfimlaaDueC
import Derived.WalkSpells
namespace Go.Proofs.Ytlogidnadfimlaa
open Go.RowKit Go.Maps

theorem there_any (d mb : Nat) (w : World) (hd : w.cell? ⟨d, 3, none⟩ = some (.map (some mb))) : Calls Try.prog 22 #[.pointer (some ⟨d, 0, none⟩)] w fun e w' => e = .returned (.bool true) ∧ w = w' := by
  have hmn : ∀ W, (binOp .neq 50 (.map (some mb)) (.map none) : Sem Value).run Try.prog W = .ok (.bool true) W := fun W => by
    have := run_neq_map_nil (P := Try.prog) W _ _ _ (some mb) Try.underlying50
    simpa using this
  go_enter Try.func22, Try.ntmps22
  go_wp2_with fail
  refine bodyPost_ret (by simp [results, Try.results22, go_sem, *]; try rfl) rfl ?_
  exact ⟨rfl, rfl⟩
theorem du_some {W : World} {d vb mb cap n : Nat} {A : Option Addr} {most : Int} {l : List Du} (h : DuAt W d vb mb A cap n most l) (h0 : 0 < n) : ∃ g, A = some ⟨g, 0, none⟩ ∧ n ≤ cap := by
  rcases h.row.2 with ⟨_, h1⟩ | ⟨g, cap', cur, hv, _, _, h2, _⟩
  · omega
  · injection hv with e1 _ e3
    exact ⟨g, e1, by omega⟩
theorem len_any (d vb mb cap n : Nat) (A : Option Addr) (most : Int) (l : List Du) (w : World) (H : DuAt w d vb mb A cap n most l) : Calls Try.prog 13 #[.pointer (some ⟨d, 0, none⟩)] w fun e w' => e = .returned (.int .i64 (n : Int)) ∧ w = w' := by
  have TH := Lib.hid (there_any d mb w (H.dv.cell 3))
  have hD : w.cell? ⟨d, 0, none⟩ = some (.slice A n cap) := H.dv.cell 0
  have zd := H.dv.lt
  clear H
  go_enter Try.func13, Try.ntmps13
  go_wp2_with fail
  refine TH.out.mono ?_
  rintro e w1 ⟨rfl, rfl⟩
  clear TH
  go_wp2_with fail
  refine bodyPost_ret (by simp [results, Try.results13, go_sem, *]; try rfl) rfl ?_
  exact ⟨rfl, rfl⟩
theorem ret_first {a b c : Int} {x : Du} {p q : Bool} (h : (a, b, c) = x) (h2 : p = q) : Ending.returned (.tuple #[.agg #[.int .u32 a, .int .u32 b, .int .u32 c], .bool p]) = .returned (.tuple #[.agg #[.int .u32 x.1, .int .u32 x.2.1, .int .u32 x.2.2], .bool q]) := by rw [← h, h2]
set_option maxHeartbeats 1000000 in
theorem first_any (d vb mb cap n : Nat) (A : Option Addr) (most : Int) (l : List Du) (w : World) (H : DuAt w d vb mb A cap n most l) : Calls Try.prog 29 #[.pointer (some ⟨d, 0, none⟩)] w fun e w' => e = .returned (.tuple #[.agg #[.int .u32 (gd l 0).1, .int .u32 (gd l 0).2.1, .int .u32 (gd l 0).2.2], .bool (decide (0 < n))]) ∧ Below w.heap.size w w' := by
  have LN := Lib.hid (fun W (h : Below w.heap.size w W) => len_any d vb mb cap n A most l W (H.below h))
  have zd := H.dv.lt
  rcases Nat.eq_zero_or_pos n with h0 | h0
  · subst h0
    have hl : l = [] := List.eq_nil_of_length_eq_zero H.len
    have hg : ((0, 0, 0) : Du) = gd l 0 := by rw [hl]; rfl
    have HG := Lib.hid hg
    clear H hl hg
    go_enter Try.func29, Try.ntmps29
    go_wp2_with fail
    refine (LN.out _ (by go_grown)).mono ?_
    rintro e w1 ⟨rfl, rfl⟩
    clear LN
    go_wp2_with fail
    refine bodyPost_ret (by simp [results, Try.results29, go_sem, *]; try rfl) rfl ?_
    exact ⟨ret_first HG.out rfl, by go_grown⟩
  · obtain ⟨g, rfl, hnc⟩ := du_some H h0
    have hp := H.hp.1
    obtain ⟨a0, a1, a2⟩ := hp.row.cells (k := 0) (by rw [hp.len]; exact h0)
    rw [Nat.zero_mul] at a0
    rw [show 0 * 3 + 1 = 1 from rfl] at a1
    rw [show 0 * 3 + 2 = 2 from rfl] at a2
    have hD : w.cell? ⟨d, 0, none⟩ = some (.slice (some ⟨g, 0, none⟩) n cap) := H.dv.cell 0
    have zg := hp.row.lt
    have hd0 : decide (0 < n) = true := by simp; omega
    have hn0 : ((n : Int) == 0) = false := by rw [beq_eq_false_iff_ne]; omega
    have h0I : (0 : Int) < (n : Int) := by omega
    obtain ⟨x, hx⟩ : ∃ x, gd l 0 = x := ⟨_, rfl⟩
    rw [hx] at a0 a1 a2 ⊢
    rw [hd0]
    obtain ⟨x0, x1, x2⟩ := x
    dsimp only at a0 a1 a2 ⊢
    clear H hp hx hd0
    go_enter Try.func29, Try.ntmps29
    go_wp2_with fail
    refine (LN.out _ (by go_grown)).mono ?_
    rintro e w1 ⟨rfl, rfl⟩
    clear LN
    go_wp2_with fail
    refine bodyPost_ret (by simp [results, Try.results29, go_sem, *]; try rfl) rfl ?_
    exact ⟨rfl, by go_grown⟩
/-- Is the first one due? -/
def rdyD (l : List Du) (now : Int) : Bool := decide (0 < l.length) && decide ((gd l 0).1 ≤ now)
set_option maxHeartbeats 1000000 in
theorem ready_any (d vb mb cap n : Nat) (A : Option Addr) (most now : Int) (l : List Du) (w : World) (H : DuAt w d vb mb A cap n most l) : Calls Try.prog 24 #[.pointer (some ⟨d, 0, none⟩), .int .u32 now] w fun e w' => e = .returned (.bool (rdyD l now)) ∧ Below w.heap.size w w' := by
  have FS := Lib.hid (first_any d vb mb cap n A most l w H)
  unfold rdyD
  rw [H.len]
  clear H
  obtain ⟨⟨x0, x1, x2⟩, hx⟩ : ∃ x, gd l 0 = x := ⟨_, rfl⟩
  rw [hx] at FS ⊢
  dsimp only at FS ⊢
  clear hx
  cases h0 : decide (0 < n) with
  | false =>
    rw [h0] at FS
    clear h0
    go_enter Try.func24, Try.ntmps24
    go_wp2_with fail
    refine FS.out.mono ?_
    rintro e w1 ⟨rfl, hb1⟩
    have HB := Lib.hid hb1
    clear hb1 FS
    go_wp2_with fail
    refine bodyPost_ret (by simp [results, Try.results24, go_sem, *]; try rfl) rfl ?_
    exact ⟨rfl, HB.out.trans (((Below.refl _ w1).alloc (Nat.le_refl _) _).mono HB.out.size)⟩
  | true =>
    rw [h0] at FS
    clear h0
    obtain ⟨b, hb⟩ : ∃ b, decide (x0 ≤ now) = b := ⟨_, rfl⟩
    rw [hb]
    go_enter Try.func24, Try.ntmps24
    go_wp2_with fail
    refine FS.out.mono ?_
    rintro e w1 ⟨rfl, hb1⟩
    have HB := Lib.hid hb1
    clear hb1 FS
    go_wp2_with fail
    refine bodyPost_ret (by simp [results, Try.results24, go_sem, *]; try rfl) rfl ?_
    exact ⟨by simp, HB.out.trans (((Below.refl _ w1).alloc (Nat.le_refl _) _).mono HB.out.size)⟩
end Go.Proofs.Ytlogidnadfimlaa
