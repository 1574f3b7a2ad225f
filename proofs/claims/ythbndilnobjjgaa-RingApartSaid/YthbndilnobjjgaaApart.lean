/-
  The program's Apart. Printed by wip/tools/gen_apart.py.
-/
import Derived.Test.YthbndilnobjjgaaArea
import Derived.Test.YthbndilnobjjgaaSegG
namespace Go.Proofs.Ythbndilnobjjgaa
open Go.RowKit Go.Shelf

/-- Does a side meet one of the other ring's? -/
def tchS (qs : List Pt) (s : Pt × Pt) : Bool := (sides qs).any fun t => touches s.1 s.2 t.1 t.2
def apartP (ps qs : List Pt) : Bool := !((sides ps).any (tchS qs))
attribute [local go_sem] Oper.semAt_some

set_option maxRecDepth 100000 in
set_option maxHeartbeats 4000000 in
theorem apart_any (HM : MeetSays) (ps qs : List Pt) (hps : ∀ p ∈ ps, IPt p) (hqs : ∀ p ∈ qs, IPt p) (n m : Nat) (hn : ps.length = n) (hm : qs.length = m) (hlen : n ≤ 17592186044416) (hlen2 : m ≤ 17592186044416) (M c c2 : Nat) (A A2 : Option Addr) (w : World) (hP : PtsAt M w (.slice A n c) ps) (hP2 : PtsAt M w (.slice A2 m c2) qs) (hM : M ≤ w.heap.size) (hA : n = 0 → A = none → c = 0) (hA2 : m = 0 → A2 = none → c2 = 0) :
    Calls Try.prog 15 #[.slice A n c, .slice A2 m c2] w fun e w' => e = .returned (.bool (apartP ps qs)) ∧ Below w.heap.size w w' := by
  have ED := Lib.hid (fun W (h : Below w.heap.size w W) => edges_any ps M A c W (by rw [hn]; exact hP.below (h.mono hM)) (Nat.le_trans hM h.size) (by omega) (by rw [hn]; exact hA))
  have ED2 := Lib.hid (fun W (h : Below w.heap.size w W) => edges_any qs M A2 c2 W (by rw [hm]; exact hP2.below (h.mono hM)) (Nat.le_trans hM h.size) (by omega) (by rw [hm]; exact hA2))
  have HP := Lib.hid (And.intro (And.intro hn hps) (And.intro hm hqs))
  have TC := Lib.hid (fun a b c d W => touch_of HM a b c d W)
  rw [hn] at ED
  rw [hm] at ED2
  clear hn hm hP hP2 hps hqs hA hA2 HM
  obtain ⟨s, hs⟩ : ∃ s, apartP ps qs = s := ⟨_, rfl⟩
  rw [hs]
  have HS := Lib.hid hs
  clear hs
  refine (callsIn_wide (n := 6)).1 ?_
  have h1 : 1 ≤ 6 := by omega
  refine callsIn_of_wp_marks Try.func15 rfl trivial ?_ rfl
  simp only [Try.ntmps15, List.size_toArray, List.length_cons, List.length_nil, Nat.reduceAdd, Nat.reduceSub, Array.replicate_succ, Array.replicate_zero, List.push_toArray, List.append_toArray, List.nil_append, List.cons_append]
  refine wpIn_wide.2 ?_
  go_upto_region 1 with fail
  refine wp_gen (fun W hW => ?_)
  obtain ⟨Bx, hQ⟩ : ∃ Q, w.heap.size = Q := ⟨_, rfl⟩
  obtain ⟨R, hR⟩ : ∃ R, w.heap.size + 1 = R := ⟨_, rfl⟩
  have bX0 : Hid (Boxed W Bx 23 (.slice A2 m c2)) := Lib.hid (by rw [hW, ← hQ]; exact (Boxed.new _ _ _).alloc _)
  have bR0 : Hid (Boxed W R 4 (.bool false)) := Lib.hid (by
    have := Boxed.new (w.alloc (.cells #[.slice A2 m c2] 23)) 4 (.bool false)
    rw [World.size_alloc] at this
    rw [hW, ← hR]; exact this)
  have HB : Hid (Below w.heap.size w W) := Lib.hid (by rw [hW]; go_grown)
  have hzW : W.heap.size = R + 1 := by rw [hW, ← hR]; simp
  rw [hR]
  try rw [hQ]
  clear hW
  go_wp2_with fail
  refine (ED.out W HB.out).mono ?_
  rintro e w3 ⟨A', c', rfl, bS, hPN, hb3⟩
  obtain ⟨S, hSe⟩ : ∃ S, W.heap.size = S := ⟨_, rfl⟩
  rw [hSe] at bS hPN
  have bX0 := Lib.hid (boxed_below hb3 bX0.out.lt bX0.out)
  have bR0 := Lib.hid (boxed_below hb3 bR0.out.lt bR0.out)
  have HB := Lib.hid (HB.out.trans (hb3.mono HB.out.size))
  have hPR := hPN R (by omega)
  have hzS : S < w3.heap.size := bS.lt
  have nSR : S ≠ R := by omega
  have hw3 : w.heap.size ≤ w3.heap.size := by omega
  have hRw : R < w3.heap.size := by omega
  have hwR : w.heap.size ≤ R := by omega
  have hQR : Bx < R := by omega
  have nQR : ¬ Bx = R := by omega
  have hwQ : w.heap.size ≤ Bx := by omega
  rw [hSe]
  have HE := Lib.hid (And.intro hQ (And.intro hR hSe))
  clear hb3 hPN hzW hQ hR hSe ED
  go_wp2_with fail
  refine (wpIn_wide (n := 6)).1 ?_
  refine wpIn_rangeFunc_ownH rfl h1 (gf := 51) (lb := #[.pointer (some ⟨S, 0, none⟩)]) rfl trivial (enters_of Try.func51 (by kernel_rfl) rfl)
    (edges_stops Fence.wide (6 - 1) trivial rfl (by omega) S R w3.heap.size (.slice A' n c') ps HP.out.1.2 (by rw [HP.out.1.1]; omega) w3 (Nat.le_refl _) (by omega) nSR bS.cell hPR) kx_t (kx_b (Nat.le_refl _)) (Below.refl _ _) (fun _ => rfl)
    (fun pre W => (vals pre).any (tchS qs) = false ∧ (Boxed W Bx 23 (.slice A2 m c2) ∧ Boxed W R 4 (.bool false)) ∧ Below w.heap.size w W ∧ w3.heap.size ≤ W.heap.size)
    (fun c pre W => (c = .ret ∧ (vals pre).any (tchS qs) = true) ∧ Boxed W R 4 (.bool false) ∧ Below w.heap.size w W)
    (OwnFrom.and (ownFrom_pure _ _) (OwnFrom.and (OwnFrom.and (Own.from (boxed_own _ _ _) _) (Own.from (boxed_own _ _ _) _)) (OwnFrom.and (ownFrom_below (by omega) (by omega)) (ownFrom_size _ _))))
    (fun c => OwnFrom.and (ownFrom_pure _ _) (OwnFrom.and (Own.from (boxed_own _ _ _) _) (ownFrom_below (by omega) (by omega))))
    ⟨rfl, ⟨bX0.out, bR0.out⟩, HB.out, Nat.le_refl _⟩
    (fun x a' W => ∃ X Y, (R < X ∧ Two W X 28 x.1.1) ∧ (R < Y ∧ Two W Y 28 x.1.2) ∧ a' = { tmps := #[.slice A n c, .slice A2 m c2, undef, .pointer (some ⟨Bx, 0, none⟩), .pointer (some ⟨R, 0, none⟩), .pointer (some ⟨X, 0, none⟩), .pointer (some ⟨Y, 0, none⟩), undef, undef, .slice A n c, .func (.func 51) #[] #[.pointer (some ⟨S, 0, none⟩)], .agg #[.int .i32 x.1.1.1, .int .i32 x.1.1.2], .agg #[.int .i32 x.1.2.1, .int .i32 x.1.2.2], undef, undef, undef, undef, undef, undef, undef, undef, undef], defers := [] })
    (fun x a' _ V V' row hs hg hr => by
      obtain ⟨X, Y, ⟨k1, k2⟩, ⟨k3, k4⟩, k5⟩ := hs
      exact ⟨X, Y, ⟨k1, two_own X 28 (fun (_ : Unit) => x.1.1) () V V' row k2 hg (fun r e => (hr r e).2)⟩, ⟨k3, two_own Y 28 (fun (_ : Unit) => x.1.2) () V V' row k4 hg (fun r e => (hr r e).2)⟩, k5⟩)
    ?assign ?body ?done ?stop
  case assign =>
    rintro l pre x V K ⟨hf, ⟨vQ1, vR1⟩, hB1, hsz⟩ hK
    have hVR := hB1.size
    unfold ePt
    gi_wp2
    refine hK _ _ (((KeepsOthers.alloc _ _).trans (KeepsOthers.alloc _ _)).from _) (Kx.below (((Below.refl _ V).alloc (Nat.le_refl _) _).alloc (by simp) _) hsz) ⟨hf, ⟨(vQ1.alloc _).alloc _, (vR1.alloc _).alloc _⟩, (hB1.alloc (by omega) _).alloc (by simp; omega) _, by simp; omega⟩ ⟨V.heap.size, V.heap.size + 1, ⟨by omega, (Two.new V 28 x.1.1).alloc _⟩, ⟨by omega, ?_⟩, rfl⟩
    have := Two.new (V.alloc (.cells #[.int .i32 x.1.1.1, .int .i32 x.1.1.2] 28)) 28 x.1.2
    rw [World.size_alloc] at this
    exact this
  case body =>
    rintro l pre x a' V hl ⟨r, hr⟩ ⟨hf, ⟨vQ1, vR1⟩, hB1, hsz⟩ ⟨X, Y, ⟨hX, bX⟩, ⟨hY, bY⟩, rfl⟩ hlt
    clear HS
    have h1' : 1 ≤ 6 - 1 - 1 := by omega
    have cB := vQ1.cell
    have HF := Lib.hid hf
    clear hf hlt
    gi_wp2
    refine ⟨trivial, ?_⟩
    refine (CallsIn.inRound l (callsIn_wide.2 (ED2.out V hB1))).mono ?_
    rintro e W4 ⟨A4, c4, rfl, bS4, hPN4, hb4⟩
    obtain ⟨S2, hS2⟩ : ∃ S2, V.heap.size = S2 := ⟨_, rfl⟩
    rw [hS2] at bS4 hPN4 ⊢
    have hz4 := hb4.size
    have hPR4 := hPN4 R (by omega)
    have hr4 : W4.heap[l]? = some (.loop r) := (hb4.block l (Array.getElem?_eq_some_iff.1 hr).1).trans hr
    have hzS2 : S2 < W4.heap.size := bS4.lt
    have nS2R : S2 ≠ R := by omega
    have hXl := bX.lt
    have hYl := bY.lt
    have bX4 := Two.below hb4 bX.lt bX
    have bY4 := Two.below hb4 bY.lt bY
    have vQ4 := boxed_below hb4 vQ1.lt vQ1
    have vR4 := boxed_below hb4 vR1.lt vR1
    clear hPN4 bX bY
    gi_wp2
    refine wpIn_rangeFunc_ownN (l₀ := l) (r₀ := r) rfl hr4 h1' (gf := 51) (lb := #[.pointer (some ⟨S2, 0, none⟩)]) rfl trivial (enters_of Try.func51 (by kernel_rfl) rfl)
      ((edges_stops Fence.wide (6 - 1 - 1 - 1) trivial rfl (by omega) S2 R W4.heap.size (.slice A4 m c4) qs HP.out.2.2 (by rw [HP.out.2.1]; omega) W4 (Nat.le_refl _) (by omega) nS2R bS4.cell hPR4).inRound l) kx_t (kx_b (Nat.le_refl _)) (Below.refl _ _) (fun _ => rfl)
      (fun pre' W' => (vals pre').any (fun t => touches x.1.1 x.1.2 t.1 t.2) = false ∧ ((Two W' X 28 x.1.1 ∧ Two W' Y 28 x.1.2) ∧ (Boxed W' Bx 23 (.slice A2 m c2) ∧ Boxed W' R 4 (.bool false))) ∧ (Below V.heap.size V W' ∧ KeepsFrom w3.heap.size V W') ∧ W4.heap.size ≤ W'.heap.size)
      (fun c pre' W' => (c = .ret ∧ (vals pre').any (fun t => touches x.1.1 x.1.2 t.1 t.2) = true) ∧ Boxed W' R 4 (.bool false) ∧ Below w.heap.size w W' ∧ KeepsFrom w3.heap.size V W')
      (OwnFrom.and (ownFrom_pure _ _) (OwnFrom.and (OwnFrom.and (OwnFrom.and (Own.from (two_own _ _ _) _) (Own.from (two_own _ _ _) _)) (OwnFrom.and (Own.from (boxed_own _ _ _) _) (Own.from (boxed_own _ _ _) _))) (OwnFrom.and (OwnFrom.and (ownFrom_below (by omega) (by omega)) (ownFrom_keepsFrom (by omega))) (ownFrom_size _ _))))
      (fun c => OwnFrom.and (ownFrom_pure _ _) (OwnFrom.and (Own.from (boxed_own _ _ _) _) (OwnFrom.and (ownFrom_below (by omega) (by omega)) (ownFrom_keepsFrom (by omega)))))
      ⟨rfl, ⟨⟨bX4, bY4⟩, vQ4, vR4⟩, ⟨hb4, keepsFrom_below hb4⟩, Nat.le_refl _⟩
      (fun y a'' W => ∃ X2 Y2, (R < X2 ∧ Two W X2 28 y.1.1) ∧ (R < Y2 ∧ Two W Y2 28 y.1.2) ∧ a'' = { tmps := #[.slice A n c, .slice A2 m c2, undef, .pointer (some ⟨Bx, 0, none⟩), .pointer (some ⟨R, 0, none⟩), .pointer (some ⟨X, 0, none⟩), .pointer (some ⟨Y, 0, none⟩), .pointer (some ⟨X2, 0, none⟩), .pointer (some ⟨Y2, 0, none⟩), .slice A n c, .func (.func 51) #[] #[.pointer (some ⟨S, 0, none⟩)], .agg #[.int .i32 x.1.1.1, .int .i32 x.1.1.2], .agg #[.int .i32 x.1.2.1, .int .i32 x.1.2.2], .slice A2 m c2, .func (.func 51) #[] #[.pointer (some ⟨S2, 0, none⟩)], .agg #[.int .i32 y.1.1.1, .int .i32 y.1.1.2], .agg #[.int .i32 y.1.2.1, .int .i32 y.1.2.2], undef, undef, undef, undef, undef], defers := [] })
      (fun y a'' _ V V' row hs hg hr => by
        obtain ⟨X, Y, ⟨k1, k2⟩, ⟨k3, k4⟩, k5⟩ := hs
        exact ⟨X, Y, ⟨k1, two_own X 28 (fun (_ : Unit) => y.1.1) () V V' row k2 hg (fun r e => (hr r e).2)⟩, ⟨k3, two_own Y 28 (fun (_ : Unit) => y.1.2) () V V' row k4 hg (fun r e => (hr r e).2)⟩, k5⟩)
      ?assign2 ?body2 ?done2 ?stop2
    case assign2 =>
      rintro l2 pre' y W' K ⟨hf2, ⟨⟨bX2, bY2⟩, vQ2, vR2⟩, ⟨hBV, hKF⟩, hsz2⟩ hK
      unfold ePt
      gi_wp2
      refine hK _ _ (((KeepsOthers.alloc _ _).trans (KeepsOthers.alloc _ _)).from _) (Kx.below (((Below.refl _ W').alloc (Nat.le_refl _) _).alloc (by simp) _) hsz2) ⟨hf2, ⟨⟨(bX2.alloc _).alloc _, (bY2.alloc _).alloc _⟩, (vQ2.alloc _).alloc _, (vR2.alloc _).alloc _⟩, ⟨(hBV.alloc (by omega) _).alloc (by simp; omega) _, hKF.trans (((KeepsOthers.alloc _ _).trans (KeepsOthers.alloc _ _)).from _)⟩, by simp; omega⟩ ⟨W'.heap.size, W'.heap.size + 1, ⟨by omega, (Two.new W' 28 y.1.1).alloc _⟩, ⟨by omega, ?_⟩, rfl⟩
      have := Two.new (W'.alloc (.cells #[.int .i32 y.1.1.1, .int .i32 y.1.1.2] 28)) 28 y.1.2
      rw [World.size_alloc] at this
      exact this
    case body2 =>
      rintro l2 pre' y a'' W' _ _ ⟨hf2, ⟨⟨bX2, bY2⟩, vQ2, vR2⟩, ⟨hBV, hKF⟩, hsz2⟩ ⟨X2, Y2, ⟨hX2, bC⟩, ⟨hY2, bD⟩, rfl⟩ _
      have cA0 := bX2.c0
      have cA1 := bX2.c1
      have cB0 := bY2.c0
      have cB1 := bY2.c1
      have cC0 := bC.c0
      have cC1 := bC.c1
      have cD0 := bD.c0
      have cD1 := bD.c1
      have H := Lib.hid (fun W => TC.out x.1.1 x.1.2 y.1.1 y.1.2 W)
      obtain ⟨t, ht⟩ : ∃ t, touches x.1.1 x.1.2 y.1.1 y.1.2 = t := ⟨_, rfl⟩
      rw [ht] at H
      have HT := Lib.hid ht
      clear ht
      gi_wp2
      refine ⟨trivial, ?_⟩
      refine (CallsIn.inRound l2 (CallsIn.inRound l (callsIn_wide.2 (H.out _)))).mono ?_
      rintro e w' ⟨rfl, hbw⟩
      have vR3 := boxed_below hbw vR2.lt vR2
      have cR3 := vR3.cell
      have fR3 := vR3.frozen
      have hsw := hbw.size
      cases t
      · gi_wp2
        refine ⟨keepsFrom_below hbw, Kx.below hbw hsz2, ?_, ⟨⟨Two.below hbw bX2.lt bX2, Two.below hbw bY2.lt bY2⟩, boxed_below hbw vQ2.lt vQ2, vR3⟩, ⟨hBV.trans (hbw.mono hBV.size), hKF.trans (keepsFrom_below hbw)⟩, by omega⟩
        rw [vals_snoc, List.any_append, List.any_cons, HT.out, hf2]
        rfl
      · gi_wp2
        refine ⟨(keepsFrom_below hbw).trans ((KeepsOthers.setCell _ _ _).from _), ⟨rfl, ?_⟩, vR3.set _, ((hB1.trans (hBV.mono hB1.size)).trans (hbw.mono (by have := hBV.size; have := hB1.size; omega))).setCell (p := ⟨R, 0, none⟩) hwR _, (hKF.trans (keepsFrom_below hbw)).trans ((KeepsOthers.setCell _ _ _).from _)⟩
        rw [vals_snoc, List.any_append, List.any_cons, HT.out]
        simp
    case done2 =>
      rintro ys' W' rfl ⟨hf2, ⟨⟨bX2, bY2⟩, vQ2, vR2⟩, ⟨hBV, hKF⟩, hsz2⟩
      gi_wp2
      refine ⟨hKF, Kx.below hBV hsz, ?_, ⟨vQ2, vR2⟩, hB1.trans (hBV.mono hB1.size), by have := hBV.size; omega⟩
      have e : tchS qs x.1 = false := by
        unfold vals at hf2
        rw [sdS_map] at hf2
        exact hf2
      rw [vals_snoc, List.any_append, List.any_cons, e, HF.out]
      rfl
    case stop2 =>
      rintro c pre' W' ⟨k, hk, rfl⟩ ⟨⟨rfl, hf2⟩, vR2, hBw, hKF⟩
      gi_wp2
      refine ⟨hKF, ⟨rfl, ?_⟩, vR2, hBw⟩
      have e : tchS qs x.1 = true := by
        unfold vals at hf2
        rw [sdS_map] at hf2
        exact any_upto hk hf2
      rw [vals_snoc, List.any_append, List.any_cons, e]
      simp
  case done =>
    rintro D ys W' hD rfl ⟨hf, ⟨vQ1, vR1⟩, hB1, hsz⟩ hK
    have hv : s = true := by
      unfold vals at hf
      rw [sdS_map] at hf
      rw [← HS.out]
      unfold apartP
      rw [show (sides ps).any (tchS qs) = false from hf]
      rfl
    subst hv
    have cR := vR1.cell
    have fR := vR1.frozen
    go_wp2_with fail
    have hK' := (KeepsOthers.setCell W' ⟨R, 0, none⟩ (.bool true)).same D _ hK rfl
    refine ⟨by simp, .inl ⟨_, _, rfl, run_takeDeferred hK', ?_⟩⟩
    have hc5 := cell_kept (World.cell?_setCell_same' W' ⟨R, 0, none⟩ (.bool true) (by rw [cR]; rfl)) (grownBy_putObj' _ D (.deferred none)) (fun r e => by cases e; exact ⟨_, hK', rfl⟩)
    refine ⟨.bool true, ?_, rfl, (hB1.setCell (p := ⟨R, 0, none⟩) hwR _).trans (belowK_b (w := w) (Nat.le_refl _) _ D _ _ (by omega) hK' rfl rfl)⟩
    simp [results, Try.f15, go_sem, hc5]
  case stop =>
    rintro D c pre W' hD ⟨k, hk, rfl⟩ ⟨⟨rfl, hf⟩, vR1, hB1⟩ hK
    have hv : s = false := by
      unfold vals at hf
      rw [sdS_map] at hf
      rw [← HS.out]
      unfold apartP
      rw [show (sides ps).any (tchS qs) = true from any_upto hk hf]
      rfl
    subst hv
    have cR := vR1.cell
    gi_wp2
    refine ⟨by simp, .inl ⟨_, _, rfl, run_takeDeferred hK, ?_⟩⟩
    have hc5 := cell_kept cR (grownBy_putObj' _ D (.deferred none)) (fun r e => by cases e; exact ⟨_, hK, rfl⟩)
    refine ⟨.bool false, ?_, rfl, hB1.trans (belowK_b (w := w) (Nat.le_refl _) _ D _ _ (by omega) hK rfl rfl)⟩
    simp [results, Try.f15, go_sem, hc5]

end Go.Proofs.Ythbndilnobjjgaa
