/-
  slices.Grow of no slice, slices.Concat of two slices of points: in new memory.
-/
import Derived.Test.YthbndilnobjjgaaLent
import Derived.Lib.AppendZeros
import Derived.Deep.Cut
namespace Go.Proofs.Ythbndilnobjjgaa
open Go.RowKit Go.Shelf

theorem grow_nil (w : World) : Calls Try.prog 57 #[.slice none 0 0, .int .i64 0] w fun e w' => e = .returned (.slice none 0 0) ∧ Below w.heap.size w w' := by
  go_enter Try.func57, Try.ntmps57
  go_wp2_with fail
  go_ret
  exact ⟨rfl, by go_grown⟩

set_option maxHeartbeats 1000000 in
theorem grow_pts (N : Nat) (h0 : 0 < N) (hN : N ≤ 17592186044416) (w : World) :
    Calls Try.prog 57 #[.slice none 0 0, .int .i64 (N : Int)] w fun e w' => ∃ A c, e = .returned (.slice A 0 c) ∧ w'.ownsRow w.heap.size 28 2 (.slice A 0 c) 0 [] ∧ Below w.heap.size w w' := by
  obtain ⟨i, hi, hz, hsz, hby⟩ := info_parts eltP.info
  have HR := Lib.hid (fun (W : World) (ty : TypeId) => Go.Lib.run_append_nil_zeros (P := Try.prog) W 23 3 ty 28 i _ .i64 .i64 eltP.under (by kernel_rfl) hi hz N h0 (by rw [hsz]; omega) (by omega) (by rw [hby]; omega))
  have hd : decide ((N : Int) < 0) = false := by simp
  have hd2 : decide (0 < (N : Int)) = true := by simp; omega
  go_enter Try.func57, Try.ntmps57
  go_wp2_with (at_builtin; refine Go.Lib.wpList_append_run _ rfl (.tmp 20) (.tmp 21) 23 3 rfl (.slice none 0 0) (.int .i64 (N : Int)) rfl rfl _ _ (HR.out _ _) ?_)
  go_ret
  obtain ⟨C, hC⟩ : ∃ C, grownCap w N 0 28 = C := ⟨_, rfl⟩
  have h1 : N ≤ C := by rw [← hC]; exact grownCap_ge _ _ _ _
  have h2 : C ≤ maxLen := by rw [← hC]; exact grownCap_le_maxLen _ _ _ _ (le_maxLen (by omega))
  rw [hC]
  refine ⟨_, _, rfl, ⟨by simp, .inr ⟨w.heap.size, C, _, rfl, Nat.le_refl _, World.alloc_heap_new w _, Nat.zero_le _, h2, ?_, by simp⟩⟩, ((Below.refl _ w).alloc (Nat.le_refl _) _).drew⟩
  rw [Array.size_append, size_zeroCells, size_zeroCells]
  simp
  omega

/-- What has been laid down behind k slices. -/
def catTo (ps1 ps2 : List Pt) (k : Nat) : List Pt := if k = 0 then [] else if k = 1 then ps1 else ps1 ++ ps2
def catLen (n1 n2 k : Nat) : Nat := if k = 0 then 0 else if k = 1 then n1 else n1 + n2
theorem own_is {W : World} {b n size : Nat} {e : TypeId} {v : Value} {xs : List Value} (h : W.ownsRow b e size v n xs) : ∃ A c, v = .slice A n c := by
  rcases h.2 with ⟨hv, h0⟩ | ⟨g, cap, cur, hv, _⟩
  · exact ⟨none, 0, by rw [hv, h0]⟩
  · exact ⟨_, _, hv⟩
theorem flat_two : ∀ a b : List Pt, flat (a ++ b) = flat a ++ flat b
  | [], _ => rfl
  | q :: a, b => by rw [List.cons_append, flat, flat, flat_two a b]; rfl

set_option maxHeartbeats 2000000 in
set_option maxRecDepth 100000 in
theorem concat2_any (ps1 ps2 : List Pt) (A1 A2 : Addr) (n1 c1 n2 c2 : Nat) (hn1 : ps1.length = n1) (hn2 : ps2.length = n2) (h0 : 0 < n1 + n2) (hlen : n1 + n2 ≤ 17592186044416) (b : Nat) (w : World)
    (hb0 : w.cell? ⟨b, 0, none⟩ = some (.slice (some A1) n1 c1)) (hb1 : w.cell? ⟨b, 1, none⟩ = some (.slice (some A2) n2 c2)) (hC1 : ∀ j u, (flat ps1)[j]? = some u → w.cell? (A1.add j) = some u) (hC2 : ∀ j u, (flat ps2)[j]? = some u → w.cell? (A2.add j) = some u) :
    Calls Try.prog 38 #[.slice (some ⟨b, 0, none⟩) 2 2] w fun e w' => ∃ A c, e = .returned (.slice A (n1 + n2) c) ∧ w'.ownsRow w.heap.size 28 2 (.slice A (n1 + n2) c) (n1 + n2) (flat (ps1 ++ ps2)) ∧ Below w.heap.size w w' := by
  have hbl : b < w.heap.size := World.block_lt_of_cell? w _ hb0
  have GR := Lib.hid (fun W => grow_pts (n1 + n2) h0 hlen W)
  have HC := Lib.hid (And.intro (And.intro hn1 hn2) (And.intro hC1 hC2))
  clear hn1 hn2 hC1 hC2
  have w1 : IntKind.i64.wrap ((0 : Int) + (n1 : Int)) = (n1 : Int) := by simp only [IntKind.wrap, IntKind.signed, IntKind.bits]; simp; omega
  have w2 : IntKind.i64.wrap ((n1 : Int) + (n2 : Int)) = ((n1 + n2 : Nat) : Int) := by simp only [IntKind.wrap, IntKind.signed, IntKind.bits]; simp; omega
  have d1 : decide ((n1 : Int) < 0) = false := by simp
  have d2 : decide (((n1 + n2 : Nat) : Int) < 0) = false := by simp; omega
  go_enter Try.func38, Try.ntmps38
  go_wp2_with fail
  go_loopw [3, 11] (fun s i wr => wr = w ∧ ((s = .int .i64 0 ∧ i = .int .i64 0) ∨ (s = .int .i64 (n1 : Int) ∧ i = .int .i64 1) ∨ (s = .int .i64 ((n1 + n2 : Nat) : Int) ∧ i = .int .i64 2))) (fun _ i _ => 2 - (intOf i).toNat)
  case atStart => exact ⟨rfl, .inl ⟨rfl, rfl⟩⟩
  case round =>
    obtain ⟨rfl, ⟨rfl, rfl⟩ | ⟨rfl, rfl⟩ | ⟨rfl, rfl⟩⟩ := hrel
    · go_wp2_with fail
      go_roundw
      case rel => exact ⟨trivial, .inr (.inl ⟨by simp, by simp⟩)⟩
      case measure => simp [intOf]
    · go_wp2_with fail
      go_roundw
      case rel => exact ⟨trivial, .inr (.inr ⟨by simp, by simp⟩)⟩
      case measure => simp [intOf]
    · go_wp2_with fail
      refine (GR.out _).mono ?_
      rintro e w3 ⟨A, c, rfl, hown, hb3⟩
      have H3 := Lib.hid (And.intro hown hb3)
      have K0 := (hb3.cell (p := ⟨b, 0, none⟩) hbl).trans hb0
      have K1 := (hb3.cell (p := ⟨b, 1, none⟩) hbl).trans hb1
      clear hown hb3 GR
      go_wp2_with fail
      obtain ⟨w, hww⟩ : ∃ z, z = wr := ⟨_, rfl⟩
      subst hww
      go_loopw [6, 27] (fun v i wr => ∃ (k : Nat) (A : Option Addr) (c : Nat), k ≤ 2 ∧ v = .slice A (catLen n1 n2 k) c ∧ i = .int .i64 (k : Int) ∧ wr.ownsRow w.heap.size 28 2 (.slice A (catLen n1 n2 k) c) (catLen n1 n2 k) (flat (catTo ps1 ps2 k)) ∧ Below w.heap.size w wr) (fun _ i _ => 2 - (intOf i).toNat)
      case atStart => exact ⟨0, _, _, by omega, rfl, rfl, H3.out.1, H3.out.2⟩
      case round =>
        obtain ⟨k, A, c, hk, rfl, rfl, hown, hbel⟩ := hrel
        have hsz := hbel.size
        have c0 := (hbel.cell (p := ⟨b, 0, none⟩) hbl).trans hb0
        have c1' := (hbel.cell (p := ⟨b, 1, none⟩) hbl).trans hb1
        rcases (show k = 0 ∨ k = 1 ∨ k = 2 by omega) with rfl | rfl | rfl
        · unfold catLen catTo at hown
          rw [if_pos rfl, if_pos rfl] at hown
          have hcell : ∀ j u, (flat ps1)[j]? = some u → wr.cell? (A1.add j) = some u := fun j u hj => by
            have h := HC.out.2.1 j u hj
            exact (hbel.cell (World.block_lt_of_cell? w _ h)).trans h
          unfold catLen
          rw [if_pos rfl]
          obtain ⟨i, hi, hz, hsz', hby⟩ := info_parts eltP.info
          go_wp2_with (at_builtin; refine wpList_append_own wr rfl (.tmp 31) (.tmp 32) 23 rfl w.heap.size 28 i _ 2 8 eltP.under hi hz hsz' hby eltP.cells (by omega) (.slice A 0 c) 0 (flat []) rfl hown A1 n1 c1 (flat ps1) rfl (by rw [flat_length, HC.out.1.1]) hcell flat_one (le_maxLen (by omega)) (by omega) (by omega) ?_; intro v' w' hown' hg hnil)
          obtain ⟨A', c', rfl⟩ := own_is hown'
          rw [Nat.zero_add] at hown' ⊢
          exact ⟨⟨1, A', c', by omega, rfl, rfl, hown', below_push hbel hown (Nat.le_refl _) hsz hg⟩, by simp [intOf]⟩
        · unfold catLen catTo at hown
          rw [if_neg (by omega), if_pos rfl, if_neg (by omega), if_pos rfl] at hown
          have hcell : ∀ j u, (flat ps2)[j]? = some u → wr.cell? (A2.add j) = some u := fun j u hj => by
            have h := HC.out.2.2 j u hj
            exact (hbel.cell (World.block_lt_of_cell? w _ h)).trans h
          unfold catLen
          rw [if_neg (by omega), if_pos rfl]
          obtain ⟨i, hi, hz, hsz', hby⟩ := info_parts eltP.info
          go_wp2_with (at_builtin; refine wpList_append_own wr rfl (.tmp 31) (.tmp 32) 23 rfl w.heap.size 28 i _ 2 8 eltP.under hi hz hsz' hby eltP.cells (by omega) (.slice A n1 c) n1 (flat ps1) rfl hown A2 n2 c2 (flat ps2) rfl (by rw [flat_length, HC.out.1.2]) hcell flat_one (le_maxLen (by omega)) (by omega) (by omega) ?_; intro v' w' hown' hg hnil)
          obtain ⟨A', c', rfl⟩ := own_is hown'
          exact ⟨⟨2, A', c', by omega, rfl, rfl, by rw [← flat_two] at hown'; exact hown', below_push hbel hown (Nat.le_refl _) hsz hg⟩, by simp [intOf]⟩
        · unfold catLen catTo at hown
          rw [if_neg (by omega), if_neg (by omega), if_neg (by omega), if_neg (by omega)] at hown
          unfold catLen
          rw [if_neg (by omega), if_neg (by omega)]
          go_wp2_with fail
          go_ret
          exact ⟨_, _, rfl, hown, hbel⟩

end Go.Proofs.Ythbndilnobjjgaa
