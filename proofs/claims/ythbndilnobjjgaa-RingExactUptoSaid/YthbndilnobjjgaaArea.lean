/-
  The program's Area2: twice the area, with a sign. Printed by wip/tools/gen_area.py.
-/
import Derived.Test.YthbndilnobjjgaaEdges
import Derived.Test.YthbndilnobjjgaaTailRd
import Derived.Test.YthbndilnobjjgaaTell
import Derived.Test.YthbndilnobjjgaaMul
import Derived.Test.YthbndilnobjjgaaWide
import Derived.Deep.Cut
namespace Go.Proofs.Ythbndilnobjjgaa
open Go.RowKit Go.Shelf

/-- What a side adds to twice the area. -/
def arS (s : Pt × Pt) : Int := s.1.1 * s.2.2 - s.1.2 * s.2.1
def areaP (ps : List Pt) : Int := tot arS (sides ps)
theorem wideA_d {k : Nat} : Fence.wide.depth.isSome = true → 1 ≤ k := fun h => by cases h
theorem wideA_fn (f : FuncId) : Fence.wide.fn f = True := rfl
theorem own_varA {β : Type} {N : Nat} {t : TypeId} (f : β → Array Value) : Own (fun (s : β) W => Var W N t (f s)) := fun s X Y row hs hg hr =>
  hs.grown hg (fun e => by obtain ⟨o, h1, h2⟩ := hr N e.symm; rw [show X.heap[N]? = _ from hs] at h1; cases h1; cases h2)
theorem i32_wrap {z : Int} (h : I32 z) : IntKind.i64.wrap z = z := by
  unfold I32 at h
  simp only [IntKind.wrap, IntKind.signed, IntKind.bits]
  simp
  omega
theorem i32_64 {z : Int} (h : I32 z) : I64 z := by unfold I32 at h; unfold I64; omega
attribute [local go_sem] Oper.semAt_some wideA_fn
attribute [local simp] wideA_fn

set_option maxRecDepth 100000 in
set_option maxHeartbeats 4000000 in
theorem area_in6 (l k : Nat) (V : World) (R A C : Nat) (s p1 p2 ax ay bx by_ : Int) (cR0 : V.cell? ⟨R, 0, none⟩ = some (.int .i64 (hi64 s))) (cR1 : V.cell? ⟨R, 1, none⟩ = some (.int .u64 (lo64 s))) (fR : V.frozen? ⟨R, 0, none⟩ = false) (fR' : V.frozen? ⟨R, 1, none⟩ = false) (zR : R < V.heap.size) (cA0 : V.cell? ⟨A, 0, none⟩ = some (.int .i32 ax)) (cA1 : V.cell? ⟨A, 1, none⟩ = some (.int .i32 ay)) (zA : A < V.heap.size) (cC0 : V.cell? ⟨C, 0, none⟩ = some (.int .i32 bx)) (cC1 : V.cell? ⟨C, 1, none⟩ = some (.int .i32 by_)) (zC : C < V.heap.size) (w1 : IntKind.i64.wrap ax = ax) (w2 : IntKind.i64.wrap ay = ay) (w3 : IntKind.i64.wrap bx = bx) (w4 : IntKind.i64.wrap by_ = by_)
    (M1 : Hid (∀ W, Calls Try.prog 40 #[.int .i64 ax, .int .i64 by_] W fun e w' => e = .returned (.agg #[.int .i64 (hi64 (p1)), .int .u64 (lo64 (p1))]) ∧ Below W.heap.size W w')) (M2 : Hid (∀ W, Calls Try.prog 40 #[.int .i64 ay, .int .i64 bx] W fun e w' => e = .returned (.agg #[.int .i64 (hi64 (p2)), .int .u64 (lo64 (p2))]) ∧ Below W.heap.size W w'))
    (AD : Hid (∀ W, Calls Try.prog 39 #[.agg #[.int .i64 (hi64 (s)), .int .u64 (lo64 (s))], .agg #[.int .i64 (hi64 (p1)), .int .u64 (lo64 (p1))]] W fun e w' => e = .returned (.agg #[.int .i64 (hi64 (s + p1)), .int .u64 (lo64 (s + p1))]) ∧ Below W.heap.size W w')) (SU : Hid (∀ W, Calls Try.prog 41 #[.agg #[.int .i64 (hi64 (s + p1)), .int .u64 (lo64 (s + p1))], .agg #[.int .i64 (hi64 (p2)), .int .u64 (lo64 (p2))]] W fun e w' => e = .returned (.agg #[.int .i64 (hi64 (s + p1 - p2)), .int .u64 (lo64 (s + p1 - p2))]) ∧ Below W.heap.size W w'))
    (u0 u1 u2 u6 u7 u8 u9 u10 u11 u12 u13 u14 u15 u16 u17 u18 u19 u20 u21 u22 u23 u24 u25 u26 u27 : Value) :
    (regionC Try.f12 5).wpIn (Fence.wide.inRound l) k Try.prog (fun e a' W => e = .normal ∧ (∃ v10 v11 v12 v13 v14 v15 v16 v17 v18 v19 v20 v21 v22 v23 v24 v25 v26, a' = { tmps := #[u0, u1, u2, .pointer (some ⟨R, 0, none⟩), .pointer (some ⟨A, 0, none⟩), .pointer (some ⟨C, 0, none⟩), u6, u7, u8, u9, v10, v11, v12, v13, v14, v15, v16, v17, v18, v19, v20, v21, v22, v23, v24, v25, v26, u27], defers := [] }) ∧ ∃ V1, Below V.heap.size V V1 ∧ W = (V1.setCell ⟨R, 0, none⟩ (.int .i64 (hi64 (s + p1 - p2)))).setCell ⟨R, 1, none⟩ (.int .u64 (lo64 (s + p1 - p2)))) { tmps := #[u0, u1, u2, .pointer (some ⟨R, 0, none⟩), .pointer (some ⟨A, 0, none⟩), .pointer (some ⟨C, 0, none⟩), u6, u7, u8, u9, u10, u11, u12, u13, u14, u15, u16, u17, u18, u19, u20, u21, u22, u23, u24, u25, u26, u27], defers := [] } V := by
  have hmx : Try.prog.follows .mixedOrders = true := by kernel_rfl
  have hq := @wd_cell V
  show Code.wpIn _ _ _ (Code.region _ _ _) _ _ _
  refine wpIn_round_wd_tail 17 (by kernel_rfl) (by kernel_rfl) (by kernel_rfl) ?_
  simp only [List.take_succ_cons, List.take_zero, List.drop_succ_cons, List.drop_zero]
  repeat (gi_big_quiet_step ((refine ⟨wideA_d, ?_⟩; first | (gi_at_call_has 40 (Value.int .i64 ax); with_reducible exact round_wd (M1.out _)) | (gi_at_call_has 40 (Value.int .i64 ay); with_reducible exact round_wd (M2.out _)) | (gi_at_call 39; with_reducible exact round_wd (AD.out _)) | (gi_at_call 41; with_reducible exact round_wd (SU.out _)))))
  refine wpQuietIn_nil ?_
  rintro W1 ⟨⟨wx, hb1⟩, hwx⟩
  obtain rfl : W1 = wx := hwx
  obtain ⟨ce, fr⟩ := bcell hb1
  have fR1 := (fr R 0 zR).trans fR
  have fR2 := (fr R 1 zR).trans fR'
  have c0 := (ce R 0 zR).trans cR0
  have c1 := (ce R 1 zR).trans cR1
  clear fr ce hq
  gi_wp2
  exact ⟨W1, hb1, rfl⟩

theorem ar_zero {W : World} {R : Nat} (h : Var W R 34 #[.int .i64 0, .int .u64 0]) : Var W R 34 #[.int .i64 (hi64 (tot arS (vals []))), .int .u64 (lo64 (tot arS (vals [])))] := by
  have h1 : hi64 (tot arS (vals [])) = 0 := by
    show hi64 0 = 0
    unfold hi64 wrap64
    omega
  have h2 : lo64 (tot arS (vals [])) = 0 := by
    show lo64 0 = 0
    unfold lo64
    omega
  rw [h1, h2]
  exact h
theorem two_ownP {β : Type} (B : Nat) (t : TypeId) (f : β → Pt) : Own (fun s W => Two W B t (f s)) := two_own B t f
/-- What holds between two rounds. -/
def ArI (w : World) (Q R z : Nat) (pre : List Sd) (W : World) : Prop :=
  (Var W Q 34 #[.int .i64 0, .int .u64 0] ∧ Var W R 34 #[.int .i64 (hi64 (tot arS (vals pre))), .int .u64 (lo64 (tot arS (vals pre)))]) ∧ Below w.heap.size w W ∧ z ≤ W.heap.size

set_option maxRecDepth 100000 in
set_option maxHeartbeats 4000000 in
theorem area2_any (ps : List Pt) (hps : ∀ p ∈ ps, IPt p) (n : Nat) (hn : ps.length = n) (hlen : n ≤ 17592186044416) (M c : Nat) (A : Option Addr) (w : World) (hP : PtsAt M w (.slice A n c) ps) (hM : M ≤ w.heap.size) (hA : n = 0 → A = none → c = 0) :
    Calls Try.prog 12 #[.slice A n c] w fun e w' => e = .returned (.agg #[.int .i64 (hi64 (areaP ps)), .int .u64 (lo64 (areaP ps))]) ∧ Below w.heap.size w w' := by
  have ED := Lib.hid (fun W (h : Below w.heap.size w W) => edges_any ps M A c W (by rw [hn]; exact hP.below (h.mono hM)) (Nat.le_trans hM h.size) (by omega) (by rw [hn]; exact hA))
  have HP := Lib.hid (And.intro hn hps)
  rw [hn] at ED
  clear hn hP hps hA
  obtain ⟨s, hs⟩ : ∃ s, areaP ps = s := ⟨_, rfl⟩
  rw [hs]
  have HS := Lib.hid hs
  clear hs
  refine (callsIn_wide (n := 6)).1 ?_
  have h1 : 1 ≤ 6 := by omega
  refine callsIn_of_wp_marks Try.func12 rfl trivial ?_ rfl
  simp only [Try.ntmps12, List.size_toArray, List.length_cons, List.length_nil, Nat.reduceAdd, Nat.reduceSub, Array.replicate_succ, Array.replicate_zero, List.push_toArray, List.append_toArray, List.nil_append, List.cons_append]
  refine wpIn_wide.2 ?_
  go_upto_region 2 with fail
  refine wp_gen (fun W hW => ?_)
  obtain ⟨Q, hQ⟩ : ∃ Q, w.heap.size = Q := ⟨_, rfl⟩
  obtain ⟨R, hR⟩ : ∃ R, w.heap.size + 1 = R := ⟨_, rfl⟩
  have vQ : Hid (Var W Q 34 #[.int .i64 0, .int .u64 0]) := Lib.hid (by rw [hW, ← hQ]; exact (Var.new _ _ _).alloc _)
  have vR : Hid (Var W R 34 #[.int .i64 0, .int .u64 0]) := Lib.hid (by rw [hW, ← hR]; exact Var.new' _ _ _ (by simp))
  have HB : Hid (Below w.heap.size w W) := Lib.hid (by rw [hW]; go_grown)
  have hzW : W.heap.size = R + 1 := by rw [hW, ← hR]; simp
  rw [hR]
  try rw [hQ]
  clear hW
  go_wp2_with fail
  refine (ED.out W HB.out).mono ?_
  rintro e w3 ⟨A', c', rfl, bS, hPN, hb3⟩
  obtain ⟨S, hSe⟩ : ∃ S, W.heap.size = S := ⟨_, rfl⟩
  rw [hSe] at bS hPN
  have vQ := Lib.hid (vQ.out.keep hb3)
  have vR := Lib.hid (vR.out.keep hb3)
  have HB := Lib.hid (HB.out.trans (hb3.mono HB.out.size))
  have hPR := hPN R (by omega)
  have hzS : S < w3.heap.size := bS.lt
  have nSR : S ≠ R := by omega
  have hw3 : w.heap.size ≤ w3.heap.size := by omega
  have hRw : R < w3.heap.size := by omega
  have hwR : w.heap.size ≤ R := by omega
  have hQR : Q < R := by omega
  have nQR : ¬ Q = R := by omega
  have hwQ : w.heap.size ≤ Q := by omega
  rw [hSe]
  have HE := Lib.hid (And.intro hQ (And.intro hR hSe))
  clear hb3 hPN hzW hQ hR hSe ED
  go_wp2_with fail
  refine (wpIn_wide (n := 6)).1 ?_
  refine wpIn_rangeFunc_ownH rfl h1 (gf := 51) (lb := #[.pointer (some ⟨S, 0, none⟩)]) rfl trivial (enters_of Try.func51 (by kernel_rfl) rfl)
    (edges_stops Fence.wide (6 - 1) trivial rfl (by omega) S R w3.heap.size (.slice A' n c') ps HP.out.2 (by rw [HP.out.1]; omega) w3 (Nat.le_refl _) (by omega) nSR bS.cell hPR) kx_t (kx_b (Nat.le_refl _)) (Below.refl _ _) (fun _ => rfl)
    (ArI w Q R w3.heap.size)
    (fun _ _ _ => False)
    (OwnFrom.and (OwnFrom.and (Own.from (own_varA (fun _ => #[.int .i64 0, .int .u64 0])) _) (Own.from (own_varA (fun pre => #[.int .i64 (hi64 (tot arS (vals pre))), .int .u64 (lo64 (tot arS (vals pre)))])) _)) (OwnFrom.and (ownFrom_below (by omega) (by omega)) (ownFrom_size _ _)))
    (fun _ _ _ _ _ hs _ _ => hs)
    ⟨⟨vQ.out, ar_zero vR.out⟩, HB.out, Nat.le_refl _⟩
    (fun x a' W => ∃ X Y, (R < X ∧ Two W X 28 x.1.1) ∧ (R < Y ∧ Two W Y 28 x.1.2) ∧ a' = { tmps := #[.slice A n c, undef, .pointer (some ⟨Q, 0, none⟩), .pointer (some ⟨R, 0, none⟩), .pointer (some ⟨X, 0, none⟩), .pointer (some ⟨Y, 0, none⟩), .slice A n c, .func (.func 51) #[] #[.pointer (some ⟨S, 0, none⟩)], .agg #[.int .i32 x.1.1.1, .int .i32 x.1.1.2], .agg #[.int .i32 x.1.2.1, .int .i32 x.1.2.2], undef, undef, undef, undef, undef, undef, undef, undef, undef, undef, undef, undef, undef, undef, undef, undef, undef, undef], defers := [] })
    (fun x a' _ V V' row hs hg hr => by
      obtain ⟨X, Y, ⟨k1, k2⟩, ⟨k3, k4⟩, k5⟩ := hs
      exact ⟨X, Y, ⟨k1, two_own X 28 (fun (_ : Unit) => x.1.1) () V V' row k2 hg (fun r e => (hr r e).2)⟩, ⟨k3, two_own Y 28 (fun (_ : Unit) => x.1.2) () V V' row k4 hg (fun r e => (hr r e).2)⟩, k5⟩)
    ?assign ?body ?done ?stop
  case assign =>
    rintro l pre x V K ⟨⟨vQ1, vR1⟩, hB1, hsz⟩ hK
    have hVR := hB1.size
    unfold ePt
    gi_wp2
    refine hK _ _ (((KeepsOthers.alloc _ _).trans (KeepsOthers.alloc _ _)).from _) (Kx.below (((Below.refl _ V).alloc (Nat.le_refl _) _).alloc (by simp) _) hsz) ⟨⟨(vQ1.alloc _).alloc _, (vR1.alloc _).alloc _⟩, (hB1.alloc (by omega) _).alloc (by simp; omega) _, by simp; omega⟩ ⟨V.heap.size, V.heap.size + 1, ⟨by omega, (Two.new V 28 x.1.1).alloc _⟩, ⟨by omega, ?_⟩, rfl⟩
    have := Two.new (V.alloc (.cells #[.int .i32 x.1.1.1, .int .i32 x.1.1.2] 28)) 28 x.1.2
    rw [World.size_alloc] at this
    exact this
  case body =>
    rintro l pre x a' V hl _ ⟨⟨vQ1, vR1⟩, hB1, hsz⟩ ⟨X, Y, ⟨hX, bX⟩, ⟨hY, bY⟩, rfl⟩ hlt
    obtain ⟨⟨⟨px, py⟩, ⟨qx, qy⟩⟩, hxi⟩ := x
    dsimp only at bX bY ⊢
    clear HS
    obtain ⟨s, hs⟩ : ∃ s, tot arS (vals pre) = s := ⟨_, rfl⟩
    have hs' : tot arS (vals (pre ++ [(⟨((px, py), qx, qy), hxi⟩ : Sd)])) = s + px * qy - py * qx := by
      rw [vals_snoc, tot_snoc, hs]
      unfold arS
      dsimp only
      omega
    rw [hs] at vR1
    have cX0 := bX.c0
    have cX1 := bX.c1
    have cY0 := bY.c0
    have cY1 := bY.c1
    dsimp only at cX0 cX1 cY0 cY1
    have zX := bX.lt
    have zY := bY.lt
    have cR0 := vR1.cell 0
    have cR1 := vR1.cell 1
    have fR0 := vR1.free 0
    have fR1 := vR1.free 1
    have zR := vR1.lt
    have M1 := Lib.hid (fun W => mul_any px qy (i32_64 hxi.1.1) (i32_64 hxi.2.2) W)
    have M2 := Lib.hid (fun W => mul_any py qx (i32_64 hxi.1.2) (i32_64 hxi.2.1) W)
    have AD := Lib.hid (fun W => add_any s (px * qy) W)
    have SU := Lib.hid (fun W => sub_any (s + px * qy) (py * qx) W)
    have e1 := i32_wrap hxi.1.1
    have e2 := i32_wrap hxi.1.2
    have e3 := i32_wrap hxi.2.1
    have e4 := i32_wrap hxi.2.2
    dsimp only at e1 e2 e3 e4
    have SI := Lib.hid (And.intro vQ1 (And.intro vR1 (And.intro hB1 (And.intro hsz hs'))))
    clear vQ1 vR1 hB1 hsz hs'
    gi_wp2
    refine wpIn_mono (area_in6 l _ V R X Y s (px * qy) (py * qx) px py qx qy cR0 cR1 fR0 fR1 zR cX0 cX1 zX cY0 cY1 zY e1 e2 e3 e4 M1 M2 AD SU _ _ _ _ _ _ _ _ _ _ _ _ _ _ _ _ _ _ _ _ _ _ _ _ _) ?_
    rintro e a' W' ⟨rfl, ⟨v10, v11, v12, v13, v14, v15, v16, v17, v18, v19, v20, v21, v22, v23, v24, v25, v26, rfl⟩, V1, hb1, rfl⟩
    gi_wp2
    obtain ⟨vQ1, vR1, hB1, hsz, hs'⟩ := SI.out
    have k1 := (vR1.keep hb1).store 0 (.int .i64 (hi64 (s + px * qy - py * qx)))
    have k2 := k1.store 1 (.int .u64 (lo64 (s + px * qy - py * qx)))
    have k3 := ((vQ1.keep hb1).far (p := ⟨R, 0, none⟩) nQR (.int .i64 (hi64 (s + px * qy - py * qx)))).far (p := ⟨R, 1, none⟩) nQR (.int .u64 (lo64 (s + px * qy - py * qx)))
    refine ⟨((keepsFrom_below hb1).trans ((KeepsOthers.setCell _ _ _).from _)).trans ((KeepsOthers.setCell _ _ _).from _), Kx.trans (kx_set hb1 hsz (.int .i64 (hi64 (s + px * qy - py * qx)))) ?_, ⟨k3, ?_⟩, ((hB1.trans (hb1.mono hB1.size)).setCell (p := ⟨R, 0, none⟩) hwR _).setCell (p := ⟨R, 1, none⟩) hwR _, ?_⟩
    · exact ⟨by simp, fun b o h1 h2 => World.cell?_of_block (w := _) (Below.heap_setCell _ _ _ b h2)⟩
    · rw [hs']; exact k2
    · rw [World.size_setCell, World.size_setCell]; exact Nat.le_trans hsz hb1.size
  case done =>
    rintro D ys W' hD rfl ⟨⟨vQ1, vR1⟩, hB1, hsz⟩ hK
    have hv : tot arS (vals (upto (sdS ps HP.out.2) ps.length)) = areaP ps := by
      unfold vals
      rw [sdS_map]
      rfl
    rw [hv, HS.out] at vR1
    have cR0 := vR1.cell 0
    have cR1 := vR1.cell 1
    have zR := vR1.lt
    have cQ0 := vQ1.cell 0
    have cQ1 := vQ1.cell 1
    have fQ0 := vQ1.free 0
    have fQ1 := vQ1.free 1
    have zQ := vQ1.lt
    go_wp2_with fail
    have hK' := ((KeepsOthers.setCell W' ⟨Q, 0, none⟩ (.int .i64 (hi64 s))).trans (KeepsOthers.setCell _ ⟨Q, 1, none⟩ (.int .u64 (lo64 s)))).same D _ hK rfl
    refine ⟨by simp, .inl ⟨_, _, rfl, run_takeDeferred hK', ?_⟩⟩
    have k2 := (vQ1.store 0 (.int .i64 (hi64 s))).store 1 (.int .u64 (lo64 s))
    have e : ∀ r : Nat, some D = some r → ∃ o : Obj, ((W'.setCell ⟨Q, 0, none⟩ (.int .i64 (hi64 s))).setCell ⟨Q, 1, none⟩ (.int .u64 (lo64 s))).heap[r]? = some o ∧ o.isCells = false := fun r e => by cases e; exact ⟨_, hK', rfl⟩
    have c0 := cell_kept (k2.cell 0) (grownBy_putObj' _ D (.deferred none)) e
    have c1 := cell_kept (k2.cell 1) (grownBy_putObj' _ D (.deferred none)) e
    refine ⟨.agg #[.int .i64 (hi64 (s)), .int .u64 (lo64 (s))], ?_, rfl, ((hB1.setCell (p := ⟨Q, 0, none⟩) hwQ _).setCell (p := ⟨Q, 1, none⟩) hwQ _).trans (belowK_b (w := w) (Nat.le_refl _) _ D _ _ (by omega) hK' rfl rfl)⟩
    simp [results, Try.f12, go_sem, c0, c1]
  case stop => exact fun _ _ _ _ _ _ h _ => h.elim

end Go.Proofs.Ythbndilnobjjgaa
