/-
  The law's own: is one ahead of another, is one in a list.
-/
import Derived.Test.YtlogidnadfimlaaDueY
import Derived.BigQuiet
namespace Go.Proofs.Ytlogidnadfimlaa
open Go.RowKit Go.Maps

theorem eq_due (x0 x1 x2 y0 y1 y2 : Int) (W : World) : (binOp .eql 31 (.agg #[.int .u32 x0, .int .u32 x1, .int .u32 x2]) (.agg #[.int .u32 y0, .int .u32 y1, .int .u32 y2]) : Sem Value).run Try.prog W = .ok (.bool (decide ((x0, x1, x2) = (y0, y1, y2)))) W := by
  by_cases h0 : x0 = y0 <;> by_cases h1 : x1 = y1 <;> by_cases h2 : x2 = y2 <;> simp [go_sem, h0, h1, h2]

instance du_dec (a b : Du) : Decidable (duLt a b) := by unfold duLt; infer_instance
set_option maxHeartbeats 1000000 in
theorem ahead_any (x y : Du) (w : World) :
    Calls Try.prog 11 #[.agg #[.int .u32 x.1, .int .u32 x.2.1, .int .u32 x.2.2], .agg #[.int .u32 y.1, .int .u32 y.2.1, .int .u32 y.2.2]] w fun e w' => e = .returned (.bool (decide (duLt x y))) ∧ Below w.heap.size w w' := by
  obtain ⟨x0, x1, x2⟩ := x
  obtain ⟨y0, y1, y2⟩ := y
  dsimp only
  obtain ⟨t, ht⟩ : ∃ t, decide (duLt (x0, x1, x2) (y0, y1, y2)) = t := ⟨_, rfl⟩
  rw [ht]
  rcases (show x0 ≠ y0 ∨ x0 = y0 by omega) with h0 | h0
  · have e0 : (x0 == y0) = false := by simpa using h0
    have e1 : decide (x0 < y0) = t := by rw [← ht]; exact decide_eq_decide.2 (by unfold duLt; dsimp only; omega)
    clear ht h0
    go_enter Try.func11, Try.ntmps11
    go_wp2_with fail
    refine bodyPost_ret (by simp [results, Try.results11, go_sem, *]; try rfl) rfl ?_
    exact ⟨rfl, by go_grown⟩
  · subst h0
    rcases (show x1 ≠ y1 ∨ x1 = y1 by omega) with h1 | h1
    · have e0 : (x1 == y1) = false := by simpa using h1
      have e1 : decide (x1 < y1) = t := by rw [← ht]; exact decide_eq_decide.2 (by unfold duLt; dsimp only; omega)
      clear ht h1
      go_enter Try.func11, Try.ntmps11
      go_wp2_with fail
      refine bodyPost_ret (by simp [results, Try.results11, go_sem, *]; try rfl) rfl ?_
      exact ⟨rfl, by go_grown⟩
    · subst h1
      have e1 : decide (x2 < y2) = t := by rw [← ht]; exact decide_eq_decide.2 (by unfold duLt; dsimp only; omega)
      clear ht
      go_enter Try.func11, Try.ntmps11
      go_wp2_with fail
      refine bodyPost_ret (by simp [results, Try.results11, go_sem, *]; try rfl) rfl ?_
      exact ⟨rfl, by go_grown⟩

/-- The slice value sv holds the dues l, in a block below n; or it is empty. -/
def DsAt (n : Nat) (W : World) (sv : Value) (l : List Du) : Prop :=
  ((∃ A c, sv = .slice A 0 c) ∧ l = []) ∨ ∃ b off cap, sv = .slice (some ⟨b, off, none⟩) l.length cap ∧ b < n ∧ ∀ j, j < l.length → W.cell? ⟨b, off + j * 3, none⟩ = some (.int .u32 (gd l j).1) ∧ W.cell? ⟨b, off + j * 3 + 1, none⟩ = some (.int .u32 (gd l j).2.1) ∧ W.cell? ⟨b, off + j * 3 + 2, none⟩ = some (.int .u32 (gd l j).2.2)
theorem DsAt.below {n : Nat} {A B : World} (h : Below n A B) {sv : Value} {l : List Du} : DsAt n A sv l → DsAt n B sv l
  | .inl e => .inl e
  | .inr ⟨b, off, cap, e, hb, hc⟩ => .inr ⟨b, off, cap, e, hb, fun j hj => ⟨(h.cell (p := ⟨b, off + j * 3, none⟩) hb).trans (hc j hj).1, (h.cell (p := ⟨b, off + j * 3 + 1, none⟩) hb).trans (hc j hj).2.1, (h.cell (p := ⟨b, off + j * 3 + 2, none⟩) hb).trans (hc j hj).2.2⟩⟩
theorem mem_any {l : List Du} {x : Du} {t : Bool} (h : decide (x ∈ l) = t) : (t = true → ∃ k, k < l.length ∧ gd l k = x) ∧ (t = false → ∀ k, k < l.length → ¬ gd l k = x) := by
  constructor
  · rintro rfl
    exact gd_of_mem (of_decide_eq_true h)
  · rintro rfl k hk e
    exact of_decide_eq_false h (e ▸ gd_mem hk)
set_option maxHeartbeats 1000000 in
set_option maxRecDepth 100000 in
theorem has_any (sv : Value) (l : List Du) (x : Du) (m : Nat) (hl : l.length ≤ 1024) (w : World) (hm : m ≤ w.heap.size) (hI : DsAt m w sv l) :
    Calls Try.prog 12 #[sv, .agg #[.int .u32 x.1, .int .u32 x.2.1, .int .u32 x.2.2]] w fun e w' => e = .returned (.bool (decide (x ∈ l))) ∧ Below w.heap.size w w' := by
  obtain ⟨t, ht⟩ : ∃ t, decide (x ∈ l) = t := ⟨_, rfl⟩
  rw [ht]
  have HX := Lib.hid (mem_any ht)
  have heq := eq_due
  obtain ⟨x0, x1, x2⟩ := x
  dsimp only
  rcases hI with ⟨⟨A0, c0, rfl⟩, rfl⟩ | ⟨b, off, cap, rfl, hb, hc⟩
  · obtain rfl : t = false := by rw [← ht]; simp
    clear ht hl heq
    go_enter Try.func12, Try.ntmps12
    go_wp2_with fail
    go_loopw [5] (fun i wr => i = .int .i64 0 ∧ Below w.heap.size w wr) (fun _ _ => 0)
    case atStart => exact ⟨rfl, by go_grown⟩
    case round =>
      obtain ⟨rfl, hB⟩ := hrel
      go_wp2_with fail
      refine bodyPost_ret (by simp [results, Try.results12, go_sem, *]; try rfl) rfl ?_
      exact ⟨rfl, hB⟩
  · obtain ⟨L, hL⟩ : ∃ L, l.length = L := ⟨_, rfl⟩
    rw [hL] at hl hc HX ⊢
    have HC := Lib.hid hc
    clear hc ht hL
    go_enter Try.func12, Try.ntmps12
    go_upto_region 1 with fail
    refine wp_gen (fun W0 hW0 => ?_)
    have hb0 : Below w.heap.size w W0 := by rw [hW0]; go_grown
    have vB := Lib.hid (show Var W0 w.heap.size 31 #[.int .u32 x0, .int .u32 x1, .int .u32 x2] by rw [hW0]; exact Var.new _ _ _)
    have H0 := Lib.hid hb0
    obtain ⟨B, hB⟩ : ∃ B, w.heap.size = B := ⟨_, rfl⟩
    rw [hB] at vB ⊢
    have HB := Lib.hid hB
    clear hW0 hb0 hB
    go_wp2_with fail
    go_loopw [5] (fun i wr => ∃ k : Nat, i = .int .i64 (k : Int) ∧ k ≤ L ∧ Hid (∀ j, j < k → ¬ gd l j = (x0, x1, x2)) ∧ Below W0.heap.size W0 wr) (fun i _ => L - (intOf i).toNat)
    case atStart => exact ⟨0, rfl, Nat.zero_le _, Lib.hid (fun j hj => absurd hj (Nat.not_lt_zero _)), Below.refl _ _⟩
    case round =>
      obtain ⟨k, rfl, hk, HJ, hBr⟩ := hrel
      have hsz := hBr.size
      have hz0 := H0.out.size
      rcases Nat.lt_or_ge k L with hlt | hge
      · obtain ⟨k0, k1, k2⟩ := HC.out k hlt
        have a0 := ((H0.out.trans (hBr.mono hz0)).cell (p := ⟨b, off + k * 3, none⟩) (by show b < _; omega)).trans k0
        have a1 := ((H0.out.trans (hBr.mono hz0)).cell (p := ⟨b, off + k * 3 + 1, none⟩) (by show b < _; omega)).trans k1
        have a2 := ((H0.out.trans (hBr.mono hz0)).cell (p := ⟨b, off + k * 3 + 2, none⟩) (by show b < _; omega)).trans k2
        have vB1 := vB.out.keep hBr
        have e0 := vB1.cell 0
        have e1 := vB1.cell 1
        have e2 := vB1.cell 2
        simp only [List.getElem?_toArray, List.getElem?_cons_zero, List.getElem?_cons_succ] at e0 e1 e2
        have yB := vB1.lt
        have hbr : b < wr.heap.size := by omega
        obtain ⟨⟨z0, z1, z2⟩, hz⟩ : ∃ z, gd l k = z := ⟨_, rfl⟩
        rw [hz] at a0 a1 a2
        dsimp only at a0 a1 a2
        have HZ := Lib.hid hz
        obtain ⟨u, hu⟩ : ∃ u, decide (((z0, z1, z2) : Du) = (x0, x1, x2)) = u := ⟨_, rfl⟩
        have hq := heq z0 z1 z2 x0 x1 x2
        rw [hu] at hq
        have HU := Lib.hid hu
        clear hz hu k0 k1 k2 vB1 heq
        go_wp2_with fail
        have hq_wr := @wd_cell wr
        refine wp_region_wd (by kernel_rfl) (by kernel_rfl) ?_
        repeat (go_big_quiet_step (fail))
        refine wpQuiet_nil ?_
        rintro w5 ⟨⟨wx, hb_w5⟩, hwx⟩
        obtain rfl : w5 = wx := hwx
        clear hq_wr
        have hz_w5 := hb_w5.size
        obtain ⟨hc_w5, hf_w5⟩ := bcell hb_w5
        have hB5 := Lib.hid (hBr.trans (hb_w5.mono hsz))
        clear hb_w5 hc_w5 hf_w5 hz_w5 a0 a1 a2 e0 e1 e2 yB hbr hBr hq
        cases u with
        | true =>
          go_wp2_with fail
          refine bodyPost_ret (by simp [results, Try.results12, go_sem, *]; try rfl) rfl ?_
          have : t = true := by
            cases t with
            | true => rfl
            | false => exact absurd (HZ.out.trans (of_decide_eq_true HU.out)) (HX.out.2 rfl k hlt)
          rw [this]
          exact ⟨rfl, H0.out.trans (hB5.out.mono H0.out.size)⟩
        | false =>
          go_wp2_with fail
          go_roundw
          case rel => exact ⟨k + 1, by simp, hlt, Lib.hid (fun j hj => by
            by_cases c : j = k
            · rw [c, HZ.out]; exact of_decide_eq_false HU.out
            · exact HJ.out j (by omega)), hB5.out⟩
          case measure => simp [intOf]; omega
      · obtain rfl : k = L := by omega
        go_wp2_with fail
        refine bodyPost_ret (by simp [results, Try.results12, go_sem, *]; try rfl) rfl ?_
        have : t = false := by
          cases t with
          | false => rfl
          | true =>
            obtain ⟨j, hj, e⟩ := HX.out.1 rfl
            exact absurd e (HJ.out j hj)
        rw [this]
        exact ⟨rfl, H0.out.trans (hBr.mono hz0)⟩
end Go.Proofs.Ytlogidnadfimlaa
