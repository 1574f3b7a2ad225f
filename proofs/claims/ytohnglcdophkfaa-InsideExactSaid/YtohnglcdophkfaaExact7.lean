/-
  The law InsideExact, walked.
-/
import Derived.Test.YtohnglcdophkfaaWith
import Derived.Test.YtohnglcdophkfaaLent
namespace Go.Proofs.Ytohnglcdophkfaa
open Go.RowKit Go.Shelf

theorem eltS : Elt Try.prog 23 22 (.slice none 0 0) 1 24 := ⟨Try.underlying23, by kernel_rfl, rfl, by omega⟩

/-- What the j-th lent slice is. -/
def row (h : Nat → List Pt) (G CP : Nat → Nat) (j : Nat) : Value := .slice (some ⟨G j, 0, none⟩) (h j).length (CP j)
def rows (h : Nat → List Pt) (G CP : Nat → Nat) (k : Nat) : List Value := (List.range k).map (row h G CP)
theorem rows_succ (h : Nat → List Pt) (G CP : Nat → Nat) (k : Nat) : rows h G CP (k + 1) = rows h G CP k ++ [row h G CP k] := by simp [rows, List.range_succ]
theorem rows_get {h : Nat → List Pt} {G CP : Nat → Nat} {k j : Nat} (hj : j < k) : (rows h G CP k)[j]? = some (row h G CP j) := by simp [rows, hj]
theorem rows_congr {h : Nat → List Pt} {G CP G' CP' : Nat → Nat} {k : Nat} (e : ∀ j, j < k → G' j = G j ∧ CP' j = CP j) : rows h G' CP' k = rows h G CP k := by
  unfold rows
  apply List.map_congr_left
  intro j hj
  rw [List.mem_range] at hj
  unfold row
  rw [(e j hj).1, (e j hj).2]
def put (f : Nat → Nat) (k v : Nat) : Nat → Nat := fun j => if j = k then v else f j
theorem put_at (f : Nat → Nat) (k v : Nat) : put f k v k = v := by unfold put; rw [if_pos rfl]
theorem put_lt (f : Nat → Nat) {k v j : Nat} (h : j < k) : put f k v j = f j := by unfold put; rw [if_neg (by omega)]

/-- A lent row is not the row of slices that grows. -/
theorem LentAt.push {W W' : World} {g cap b k : Nat} {ps : List Pt} {v : Value} {xs : List Value} (h : LentAt W g cap ps) (hown : W.ownsRow b 22 1 v k xs) (hg : W.grownBy W' v.ownBlock) : LentAt W' g cap ps := by
  have hlt := h.lt
  refine ⟨h.1, ?_⟩
  rcases h.2 with ⟨hv, _⟩ | ⟨g', cap', cur, hv, h0, h1, h2⟩
  · cases hv
  · cases hv
    refine .inr ⟨g, cap, cur, rfl, h0, (hg.block g hlt ?_).trans h1, h2⟩
    rcases hown.2 with ⟨hv, _⟩ | ⟨g2, cap2, cur2, hv, _, h3, _⟩
    · subst hv
      exact fun e => by cases e
    · subst hv
      intro e
      have e' : g = g2 := by simpa [Value.ownBlock] using e
      subst e'
      rw [h1] at h3
      simp at h3

theorem holes_own {W : World} {b n : Nat} {v : Value} {h : Nat → List Pt} {G CP : Nat → Nat} (hown : W.ownsRow b 22 1 v n (rows h G CP n)) (hl : ∀ j, j < n → LentAt W (G j) (CP j) (h j)) : HolesAt W.heap.size W v n (row h G CP) h := by
  refine ⟨?_, fun j hj => (hl j hj).pts⟩
  rcases hown.2 with ⟨hv, h0⟩ | ⟨g, cap, cur, hv, hb, hg, h1, h2, h3, h4⟩
  · subst hv
    exact .inl ⟨h0, _, _, rfl⟩
  · subst hv
    refine .inr ⟨g, 0, cap, rfl, (World.ownsRow.lt hown g rfl).2, fun j hj => ?_⟩
    have := World.ownsRow.cells hown (g := g) rfl j _ (rows_get hj)
    rw [add_at] at this
    rw [Nat.zero_add]
    exact this

set_option maxRecDepth 100000 in
set_option maxHeartbeats 800000 in
theorem insideExact_core (w : World) (sA hA : Option Addr) (sl sc n hc : Nat) (ps : List Pt) (p : Pt) (sv : Nat → Value) (h : Nat → List Pt) (hp : IPt p) (hps : ∀ p ∈ ps, IPt p) (hreach : ps.length * 8 ≤ 140737488351232) (hI : PtsAt w.heap.size w (.slice sA sl sc) ps)
    (hn : n * 24 ≤ 140737488351232) (hok : ∀ j, j < n → (∀ p ∈ h j, IPt p) ∧ (h j).length * 8 ≤ 140737488351232) (hH : HolesAt w.heap.size w (.slice hA n hc) n sv h) :
    Calls Try.prog 6 #[.agg #[.slice sA sl sc, .slice hA n hc, .int .i32 p.1, .int .i32 p.2]] w fun e w' => e = .returned (.bool true) ∧ Below w.heap.size w w' := by
  have hr8 : ps.length * 8 ≤ 140737488355328 := by omega
  have HL := Lib.hid (fun W' (h : Below w.heap.size w W') => lent_any _ ps w.heap.size hreach W' (hI.below h))
  have RE := Lib.hid (fun W' (h : Below w.heap.size w W') => edge_ref _ ps p w.heap.size hp hps hr8 W' h.size (hI.below h))
  have RX := Lib.hid (fun W' (h : Below w.heap.size w W') => crossings_ref _ ps p w.heap.size hp hps hr8 W' h.size (hI.below h))
  have RC := Lib.hid (fun W' (h : Below w.heap.size w W') => covers_ref _ ps p w.heap.size hp hps hr8 W' h.size (hI.below h))
  have RW := Lib.hid (fun W' (h : Below w.heap.size w W') => winding_ref _ ps p w.heap.size hp hps hr8 W' h.size (hI.below h))
  have hok' : HolesOk n h := fun j hj => ⟨(hok j hj).1, by have := (hok j hj).2; omega⟩
  have RT := Lib.hid (fun W' (hb : Below w.heap.size w W') => with_ref _ _ ps n sv h p w.heap.size hp hps hr8 hok' (by omega) W' hb.size (hI.below hb) (hH.below hb))
  have HLH := Lib.hid (fun j (hj : j < n) W' (hb : Below w.heap.size w W') => lent_any (sv j) (h j) w.heap.size (hok j hj).2 W' ((hH.pts j hj).below hb))
  go_enter Try.func6, Try.ntmps6
  go_wp2_with fail
  refine (HL.out _ (by go_grown)).mono ?_
  rintro e w1 ⟨g0, cap0, rfl, hg0, hL0, hb_w1⟩
  obtain ⟨hc_w1, hf_w1⟩ := bcell hb_w1
  have hz_w1 := hb_w1.size
  try simp at hz_w1
  have hB_w1 : Below w.heap.size w w1 := Below.trans (by go_grown) (hb_w1.mono (by go_size))
  have hs_w1_0 : w.heap.size < w1.heap.size := by omega
  have X0 : w1.cell? ⟨w.heap.size, 0, none⟩ = some (.slice sA sl sc) := by first | (go_simp; done) | (simp [*]; done)
  have X1 : w1.cell? ⟨w.heap.size, 1, none⟩ = some (.slice hA n hc) := by first | (go_simp; done) | (simp [*]; done)
  have X2 : w1.cell? ⟨w.heap.size, 2, none⟩ = some (.int .i32 p.1) := by first | (go_simp; done) | (simp [*]; done)
  have X3 : w1.cell? ⟨w.heap.size, 3, none⟩ = some (.int .i32 p.2) := by first | (go_simp; done) | (simp [*]; done)
  clear hc_w1 hf_w1 hb_w1 hz_w1
  have PE := Lib.hid (fun W' (hb : Below w1.heap.size w1 W') => edge_any W' _ ps p hp hps hr8 ((hL0.pts.below hb).up hb.size))
  have PX := Lib.hid (fun W' (hb : Below w1.heap.size w1 W') => crossings_any _ ps p w1.heap.size hp hps hr8 W' hb.size (hL0.pts.below hb))
  have PC := Lib.hid (fun W' (hb : Below w1.heap.size w1 W') => covers_any _ ps p w1.heap.size hp hps hr8 W' hb.size (hL0.pts.below hb))
  have PW := Lib.hid (fun W' (hb : Below w1.heap.size w1 W') => winding_any _ ps p w1.heap.size hp hps hr8 W' hb.size (hL0.pts.below hb))
  have RE1 := Lib.hid (fun W' (hb : Below w1.heap.size w1 W') => RE.out W' (hB_w1.trans (hb.mono hB_w1.size)))
  have RX1 := Lib.hid (fun W' (hb : Below w1.heap.size w1 W') => RX.out W' (hB_w1.trans (hb.mono hB_w1.size)))
  obtain ⟨E, hE⟩ : ∃ E, edge ps p = E := ⟨_, rfl⟩
  obtain ⟨C, hC⟩ : ∃ C, covers ps p = C := ⟨_, rfl⟩
  obtain ⟨V, hV⟩ : ∃ V, winding ps p = V := ⟨_, rfl⟩
  obtain ⟨X, hX⟩ : ∃ X, crossings ps p = X := ⟨_, rfl⟩
  rw [hE] at PE RE1
  rw [hX] at PX RX1
  rw [hC] at PC RC
  rw [hV] at PW RW
  clear hE hC hV hX
  go_wp2_with fail
  have hq_w1 := @wd_cell w1
  refine wp_region_wd (by kernel_rfl) (by kernel_rfl) ?_
  repeat (go_big_quiet_step ((first | (go_at_call 10; with_reducible exact quiet_wd (PE.out _ (Wd.h _))) | (go_at_call 19; with_reducible exact quiet_wd (RE1.out _ (Wd.h _))) | (go_at_call 15; with_reducible exact quiet_wd (PX.out _ (Wd.h _))) | (go_at_call 20; with_reducible exact quiet_wd (RX1.out _ (Wd.h _))))))
  refine wpQuiet_nil ?_
  rintro w2 ⟨⟨wx, hb_w2⟩, hwx⟩
  obtain rfl : w2 = wx := hwx
  clear hq_w1
  obtain ⟨hc_w2, hf_w2⟩ := bcell hb_w2
  have hB_w2 : Below w.heap.size w w2 := Below.trans (by go_grown) (hb_w2.mono (by go_size))
  have hs_w2_0 : w.heap.size < w2.heap.size := Nat.lt_of_lt_of_le (by assumption) hb_w2.size
  have Y0 := (hb_w2.cell (p := ⟨w.heap.size, 0, none⟩) hs_w1_0).trans X0
  have Y2 := (hb_w2.cell (p := ⟨w.heap.size, 2, none⟩) hs_w1_0).trans X2
  have Y3 := (hb_w2.cell (p := ⟨w.heap.size, 3, none⟩) hs_w1_0).trans X3
  have PC2 := Lib.hid (fun W' (hb : Below w2.heap.size w2 W') => PC.out W' (hb_w2.trans (hb.mono hb_w2.size)))
  have PW2 := Lib.hid (fun W' (hb : Below w2.heap.size w2 W') => PW.out W' (hb_w2.trans (hb.mono hb_w2.size)))
  have RC2 := Lib.hid (fun W' (hb : Below w2.heap.size w2 W') => RC.out W' (hB_w2.trans (hb.mono hB_w2.size)))
  have RW2 := Lib.hid (fun W' (hb : Below w2.heap.size w2 W') => RW.out W' (hB_w2.trans (hb.mono hB_w2.size)))
  clear hc_w2 hf_w2 X0 X2 X3 PE RE RE1 PX RX RX1 PC PW RC RW
  go_wp2_with fail
  have hq_w2 := @wd_cell w2
  refine wp_region_wd (by kernel_rfl) (by kernel_rfl) ?_
  repeat (go_big_quiet_step ((first | (go_at_call 11; with_reducible exact quiet_wd (PC2.out _ (Wd.h _))) | (go_at_call 21; with_reducible exact quiet_wd (RC2.out _ (Wd.h _))) | (go_at_call 12; with_reducible exact quiet_wd (PW2.out _ (Wd.h _))) | (go_at_call 22; with_reducible exact quiet_wd (RW2.out _ (Wd.h _))))))
  refine wpQuiet_nil ?_
  rintro w3 ⟨⟨wx, hb_w3⟩, hwx⟩
  obtain rfl : w3 = wx := hwx
  clear hq_w2
  obtain ⟨hc_w3, hf_w3⟩ := bcell hb_w3
  have hB_w3 : Below w.heap.size w w3 := Below.trans (by go_grown) (hb_w3.mono (by go_size))
  have hs_w3_0 : w.heap.size < w3.heap.size := Nat.lt_of_lt_of_le (by assumption) hb_w3.size
  have Z0 := (hb_w3.cell (p := ⟨w.heap.size, 0, none⟩) hs_w2_0).trans Y0
  have Z1 := (hb_w3.cell (p := ⟨w.heap.size, 1, none⟩) hs_w2_0).trans ((hb_w2.cell (p := ⟨w.heap.size, 1, none⟩) hs_w1_0).trans X1)
  have Z2 := (hb_w3.cell (p := ⟨w.heap.size, 2, none⟩) hs_w2_0).trans Y2
  have Z3 := (hb_w3.cell (p := ⟨w.heap.size, 3, none⟩) hs_w2_0).trans Y3
  have L3 : LentAt w3 g0 cap0 ps := LentAt.below (hb_w2.trans (hb_w3.mono hb_w2.size)) hL0.lt hL0
  clear hc_w3 hf_w3 PC2 PW2 RC2 RW2 Y0 Y2 Y3 X1 hb_w2 hb_w3 hL0
  go_wp2_with fail
  go_loopw [4, 5] (fun o i wr => ∃ (k c : Nat) (A : Option Addr) (G CP : Nat → Nat), o = .slice A k c ∧ i = .int .i64 (k : Int) ∧ k ≤ n ∧ wr.ownsRow (w.heap.size + 1) 22 1 (.slice A k c) k (rows h G CP k) ∧
      (∀ j, j < k → LentAt wr (G j) (CP j) (h j)) ∧ LentAt wr g0 cap0 ps ∧ Below (w.heap.size + 1) w3 wr)
    (fun _ i _ => n - (intOf i).toNat)
  case atStart => exact ⟨0, 0, none, fun _ => 0, fun _ => 0, rfl, rfl, Nat.zero_le _, World.ownsRow_nil _ _ _ _, fun j hj => absurd hj (Nat.not_lt_zero _), L3, Below.refl _ _⟩
  case round =>
    obtain ⟨k, c, A, G, CP, rfl, rfl, hk, hown, hls, hl0, hbel⟩ := hrel
    have hB_wr : Below w.heap.size w wr := hB_w3.trans (hbel.mono (Nat.le_succ _))
    have hsz := hbel.size
    have hs_wr : w.heap.size < wr.heap.size := by omega
    have z0 := (hbel.cell (p := ⟨w.heap.size, 0, none⟩) (Nat.lt_succ_self _)).trans Z0
    have z1 := (hbel.cell (p := ⟨w.heap.size, 1, none⟩) (Nat.lt_succ_self _)).trans Z1
    have z2 := (hbel.cell (p := ⟨w.heap.size, 2, none⟩) (Nat.lt_succ_self _)).trans Z2
    have z3 := (hbel.cell (p := ⟨w.heap.size, 3, none⟩) (Nat.lt_succ_self _)).trans Z3
    clear Z0 Z1 Z2 Z3
    rcases Nat.lt_or_ge k n with hlt | hge
    · rcases hH.shape with ⟨h0, _⟩ | ⟨b, off, cap, e, hb, hcl⟩
      · omega
      · simp only [Value.slice.injEq] at e
        obtain ⟨rfl, _, rfl⟩ := e
        have cc := (hB_wr.cell (p := ⟨b, off + k, none⟩) hb).trans (hcl k hlt)
        have HLK := Lib.hid (HLH.out k hlt)
        obtain ⟨q, hq⟩ : ∃ q, sv k = q := ⟨_, rfl⟩
        rw [hq] at cc HLK
        clear hq hcl HLH RT hH hok hok' hI HL
        go_wp2_with fail
        refine (HLK.out _ hB_wr).mono ?_
        rintro e w5 ⟨g, cp, rfl, hg, hLg, hb_w5⟩
        obtain ⟨hc_w5, hf_w5⟩ := bcell hb_w5
        have hz_w5 := hb_w5.size
        try simp at hz_w5
        have hB_w5 : Below w.heap.size w w5 := Below.trans (by go_grown) (hb_w5.mono (by go_size))
        have hs_w5_0 : w.heap.size < w5.heap.size := by omega
        have hown5 := own_keep hown hb_w5
        have hz5 := hb_w5.size
        go_wp2_with (at_builtin; refine wpList_push rfl (.tmp 61) (.tmp 68) 23 rfl eltS (w.heap.size + 1) A k c (rows h G CP k) rfl hown5 [_] rfl rfl (one_cell rfl) (le_maxLen (by omega)) (by omega) (by omega) ?_; intro A' c' w6 hown6 hg6)
        go_roundw
        case rel =>
          refine ⟨k + 1, c', A', put G k g, put CP k cp, rfl, by simp, hlt, ?_, fun j hj => ?_, (hl0.below hb_w5 hl0.lt).push hown5 hg6, below_push (hbel.trans (hb_w5.mono (by omega))) hown5 (Nat.le_refl _) (by omega) hg6⟩
          · rw [rows_succ, rows_congr (fun j hj => ⟨put_lt _ hj, put_lt _ hj⟩)]
            rw [show row h (put G k g) (put CP k cp) k = .slice (some ⟨g, 0, none⟩) (h k).length cp by unfold row; rw [put_at, put_at]]
            exact hown6
          · rcases Nat.lt_or_ge j k with h1 | h1
            · rw [put_lt _ h1, put_lt _ h1]
              exact ((hls j h1).below hb_w5 (hls j h1).lt).push hown5 hg6
            · obtain rfl : j = k := by omega
              rw [put_at, put_at]
              exact hLg.push hown5 hg6
        case measure => simp [intOf]; omega
    · obtain rfl : k = n := by omega
      obtain ⟨wo, hwo⟩ : ∃ wo, wo = wr := ⟨_, rfl⟩
      subst hwo
      have HW := holes_own hown hls
      have PT := Lib.hid (fun W' (hb : Below wo.heap.size wo W') => with_any _ _ ps k _ h p wo.heap.size hp hps hr8 hok' (by omega) W' hb.size (hl0.pts.below hb) (HW.below hb))
      have RT1 := Lib.hid (fun W' (hb : Below wo.heap.size wo W') => RT.out W' (hB_wr.trans (hb.mono hB_wr.size)))
      have LF := Lib.hid (fun W' (hb : Below wo.heap.size wo W') => left_any g0 cap0 (.slice sA sl sc) ps wo.heap.size hr8 W' hb.size hl0.lt (hl0.below hb hl0.lt) (((hI.below hB_wr).up hB_wr.size).below hb))
      obtain ⟨B, hB⟩ : ∃ B, withB ps k h p = B := ⟨_, rfl⟩
      rw [hB] at PT RT1
      clear hB RT HLH HL
      go_wp2_with fail
      have hq_wo := @wd_cell wo
      refine wp_region_wd (by kernel_rfl) (by kernel_rfl) ?_
      repeat (go_big_quiet_step ((first | (go_at_call 23; with_reducible exact quiet_wd (PT.out _ (Wd.h _))) | (go_at_call 24; with_reducible exact quiet_wd (RT1.out _ (Wd.h _))) | (go_at_call 25; with_reducible exact quiet_wd (LF.out _ (Wd.h _))))))
      refine wpQuiet_nil ?_
      rintro w5 ⟨⟨wx, hb_w5⟩, hwx⟩
      obtain rfl : w5 = wx := hwx
      clear hq_wo
      obtain ⟨hc_w5, hf_w5⟩ := bcell hb_w5
      have hB_w5 : Below w.heap.size w w5 := Below.trans (by go_grown) (hb_w5.mono (by go_size))
      have hs_w5_0 : w.heap.size < w5.heap.size := Nat.lt_of_lt_of_le (by assumption) hb_w5.size
      clear hc_w5 hf_w5 PT RT1 LF
      have y1 := (hb_w5.cell (p := ⟨w.heap.size, 1, none⟩) hs_wr).trans z1
      clear z0 z1 z2 z3
      go_wp2_with fail
      go_loopw [6] (fun i wr => ∃ j : Nat, i = .int .i64 (j : Int) ∧ j ≤ k ∧ Below w5.heap.size w5 wr) (fun i _ => k - (intOf i).toNat)
      case atStart => exact ⟨0, rfl, Nat.zero_le _, Below.refl _ _⟩
      case round =>
        obtain ⟨j, rfl, hj, hq5⟩ := hrel
        have hrq : Below wo.heap.size wo wr := hb_w5.trans (hq5.mono hb_w5.size)
        have hwq : Below w.heap.size w wr := hB_wr.trans (hrq.mono hB_wr.size)
        have hzq := hrq.size
        have y1' := (hq5.cell (p := ⟨w.heap.size, 1, none⟩) hs_w5_0).trans y1
        have hs_wq : w.heap.size < wr.heap.size := by omega
        rcases Nat.lt_or_ge j k with hjk | hjk
        · rcases hH.shape with ⟨h0, _⟩ | ⟨b, off, cap, e, hb, hcl⟩
          · omega
          · rcases HW.shape with ⟨h0, _⟩ | ⟨b2, off2, cap2, e2, hb2, hcl2⟩
            · omega
            · simp only [Value.slice.injEq] at e e2
              obtain ⟨rfl, _, rfl⟩ := e
              obtain ⟨rfl, _, rfl⟩ := e2
              have cc := (hwq.cell (p := ⟨b, off + j, none⟩) hb).trans (hcl j hjk)
              have dd := (hrq.cell (p := ⟨b2, off2 + j, none⟩) hb2).trans (hcl2 j hjk)
              unfold row at dd
              have hlj := hls j hjk
              have LJ := Lib.hid (fun W' (hb : Below wr.heap.size wr W') => left_any (G j) (CP j) (sv j) (h j) wo.heap.size (hok' j hjk).2 W' (Nat.le_trans hzq hb.size) hlj.lt (hlj.below (hrq.trans (hb.mono hzq)) hlj.lt) (((hH.pts j hjk).below (hwq.trans (hb.mono hwq.size))).up hB_wr.size))
              obtain ⟨q, hq⟩ : ∃ q, sv j = q := ⟨_, rfl⟩
              rw [hq] at cc LJ
              have hbq : b < wr.heap.size := by omega
              have hbq2 : b2 < wr.heap.size := by omega
              clear hq hcl hcl2 hH hok hok' hI hls HW hlj y1 hown hl0 L3
              go_wp2_with fail
              have hq_wr := @wd_cell wr
              refine wp_region_wd (by kernel_rfl) (by kernel_rfl) ?_
              repeat (go_big_quiet_step ((first | (go_at_call 25; with_reducible exact quiet_wd (LJ.out _ (Wd.h _))))))
              refine wpQuiet_nil ?_
              rintro w6 ⟨⟨wx, hb_w6⟩, hwx⟩
              obtain rfl : w6 = wx := hwx
              clear hq_wr
              obtain ⟨hc_w6, hf_w6⟩ := bcell hb_w6
              have hB_w6 : Below w.heap.size w w6 := Below.trans (by go_grown) (hb_w6.mono (by go_size))
              have hs_w6_0 : w.heap.size < w6.heap.size := Nat.lt_of_lt_of_le (by assumption) hb_w6.size
              have hs_w6_1 : b < w6.heap.size := Nat.lt_of_lt_of_le (by assumption) hb_w6.size
              have hs_w6_2 : b2 < w6.heap.size := Nat.lt_of_lt_of_le (by assumption) hb_w6.size
              go_wp2_with fail
              go_roundw
              case rel => exact ⟨j + 1, by simp, hjk, hq5.trans (hb_w6.mono hq5.size)⟩
              case measure => simp [intOf]; omega
        · obtain rfl : j = k := by omega
          go_wp2_with fail
          go_ret
          exact ⟨rfl, hwq⟩

end Go.Proofs.Ytohnglcdophkfaa
