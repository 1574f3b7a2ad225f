/-
  The dues: one more put in.
-/
import Derived.Test.YtlogidnadfimlaaDueV
import Derived.BigQuiet
namespace Go.Proofs.Ytlogidnadfimlaa
open Go.RowKit Go.Maps

/-- What Set answers, and what stands then. -/
def SetD (l l' : List Du) (x : Du) (most : Int) (e : Ending) : Prop := (thereD l x.2 = true ∧ l' = l ∧ e = .returned (.int .i64 140)) ∨ (thereD l x.2 = false ∧ most ≤ (l.length : Int) ∧ l' = l ∧ e = .returned (.int .i64 5)) ∨ (thereD l x.2 = false ∧ (l.length : Int) < most ∧ l'.Perm (x :: l) ∧ e = .returned (.int .i64 0))
/-- The dues after a call that may have moved them. -/
def DuTo (w w' : World) (d vb mb : Nat) (A : Option Addr) (most : Int) (l' : List Du) : Prop := ∃ A' cap' n', DuAt w' d vb mb A' cap' n' most l' ∧ Turn (DuS d mb A) w w' ∧ ∀ k, (Value.slice A' 0 0).ownBlock = some k → (Value.slice A 0 0).ownBlock = some k ∨ w.heap.size ≤ k
theorem there_not {l : List Du} {k : Int × Int} (h : thereD l k = false) : ∀ x ∈ l, ¬ x.2 = k := fun x hx e => by
  have := there_iff.2 ⟨x, hx, e⟩
  rw [h] at this
  cases this
theorem at_lit {w : World} {mb : Nat} {D : DataW Unit} (h : MapAt w mb D) {k : Int × Int} (hk : UK k) : ∃ c : Int, D.atKey (KL k) (.lit (.int .i64 0)) = .lit (.int .i64 c) := by
  unfold MapAt at h
  obtain ⟨v, ps, _, hv⟩ := h.look_ok keyed_pair Try.underlying50 (zeroI w) (zd := .lit (.int .i64 0)) (zp := []) (plainElem_int Try.underlying3 (by decide)) (keyL hk)
  obtain ⟨c, rfl, hc, _⟩ := plainElem_int_inv Try.underlying3 hv
  exact ⟨c, congrArg Prod.fst hc⟩
theorem quiet_lookup_ok {P : Program} {C : World → Prop} {a : Act} {o : Oper} {K' : Act → Prop} (m x : Operand) (t : TypeId) (hop : o.op = Op.lookup t m x true) (k e : TypeId) (q : IntKind) (K : Keyed P k) (ht : P.underlying t = some (.map k e)) (he : P.underlying e = some (.int q))
    (hz : ∀ w, (zeroValue e).run P w = .ok (.int q 0) w) (b n : Nat) (D : DataW Unit) (hm : a.eval m = .map (some b)) (hown : ∀ w, C w → w.ownsMap P k (plainElem P e) b n D) (key : Value) (kl : Lit) (hx : a.eval x = key) (hkey : keyOf P k key = some kl)
    (c : Int) (hat : D.atKey kl (.lit (.int q 0)) = .lit (.int q c)) (bb : Bool) (hb : Maps.has D kl = bb) (hk : K' (a.put o.dst (.tuple #[.int q c, .bool bb]))) : o.quiet P a C K' :=
  ⟨_, fun w hw => by
    obtain ⟨v, ps, hrun, hv⟩ := (hown w hw).look_ok K ht (hz w) (zd := .lit (.int q 0)) (zp := []) (plainElem_int he (by cases q <;> decide)) hkey
    obtain ⟨c', rfl, hc, _⟩ := plainElem_int_inv he hv
    have hc' : DataW.lit (.int q c) = .lit (.int q c') := hat.symm.trans (congrArg Prod.fst hc)
    injection hc' with hc'
    injection hc' with _ hc'
    subst hc'
    unfold Oper.quietAt
    simp only [execOp, hop, hm, hx]
    rw [hb] at hrun
    simp [hrun, Oper.quietUpon], hk⟩
set_option maxHeartbeats 2000000 in
set_option maxRecDepth 100000 in
theorem set_any (d vb mb cap n : Nat) (A : Option Addr) (most : Int) (hmo : most ≤ 4096) (l : List Du) (x : Du) (hx : UD x) (w : World) (H : DuAt w d vb mb A cap n most l) :
    Calls Try.prog 9 #[.pointer (some ⟨d, 0, none⟩), .agg #[.int .u32 x.1, .int .u32 x.2.1, .int .u32 x.2.2]] w fun e w' => ∃ l', SetD l l' x most e ∧ DuTo w w' d vb mb A most l' := by
  have TH := Lib.hid (fun W (h : Below w.heap.size w W) => there_any d mb W ((h.cell (p := ⟨d, 3, none⟩) H.dv.lt).trans (H.dv.cell 3)))
  have hD : w.cell? ⟨d, 0, none⟩ = some (.slice A n cap) := H.dv.cell 0
  have h3 : w.cell? ⟨d, 3, none⟩ = some (.map (some mb)) := H.dv.cell 3
  have h4 : w.cell? ⟨d, 4, none⟩ = some (.int .i64 most) := H.dv.cell 4
  have zd := H.dv.lt
  have hkey := keyL hx.2
  obtain ⟨D, hm, hp⟩ := H.mp
  have hT0 := has_there hp hx.2
  obtain ⟨c, hat⟩ := at_lit hm hx.2
  have HI := Lib.hid (And.intro H hx)
  clear H hx hp
  obtain ⟨x0, x1, x2⟩ := x
  dsimp only at hkey hT0 hat ⊢
  obtain ⟨b, hb⟩ : ∃ b, thereD l (x1, x2) = b := ⟨_, rfl⟩
  rw [hb] at hT0
  have HBB := Lib.hid hb
  have HT := Lib.hid hT0
  clear hb hT0
  go_enter Try.func9, Try.ntmps9
  go_upto_region 1 with fail
  refine wp_gen (fun W0 hW0 => ?_)
  have hb0 : Below w.heap.size w W0 := by rw [hW0]; go_grown
  have vB : Var W0 w.heap.size 31 #[.int .u32 x0, .int .u32 x1, .int .u32 x2] := by rw [hW0]; exact Var.new _ _ _
  obtain ⟨B, hB⟩ : ∃ B, w.heap.size = B := ⟨_, rfl⟩
  have HW := Lib.hid hb0
  have HM := Lib.hid hm
  have hD0 := (hb0.cell (p := ⟨d, 0, none⟩) zd).trans hD
  have h30 := (hb0.cell (p := ⟨d, 3, none⟩) zd).trans h3
  have h40 := (hb0.cell (p := ⟨d, 4, none⟩) zd).trans h4
  have zd0 : d < W0.heap.size := by have := hb0.size; omega
  have e0 := vB.cell 0
  have e1 := vB.cell 1
  have e2 := vB.cell 2
  simp only [List.getElem?_toArray, List.getElem?_cons_zero, List.getElem?_cons_succ] at e0 e1 e2
  have zB := vB.lt
  rw [hB] at e0 e1 e2 zB ⊢
  have HB := Lib.hid hB
  clear hW0 hb0 vB hm hD h3 h4 hB zd
  go_wp2_with fail
  refine (TH.out W0 HW.out).mono ?_
  rintro e w1 ⟨rfl, rfl⟩
  clear TH
  go_upto_region 3 with fail
  have HMA : Hid (∀ W, Below W0.heap.size W0 W → MapAt W mb D) := Lib.hid (fun W hb => HM.out.turn (S := fun _ => False) (Turn.of_below (HW.out.trans (hb.mono HW.out.size))) (fun h => h))
  have hq_W0 := @wd_cell W0
  refine wp_region_wd (by kernel_rfl) (by kernel_rfl) ?_
  repeat (first | (go_big_quiet_step (fail)) | (go_big_quiet_want; refine quiet_lookup_ok _ _ 50 rfl 61 3 .i64 keyed_pair Try.underlying50 Try.underlying3 zeroI mb _ D rfl (fun W hW => HMA.out W (by obtain ⟨⟨wx, hb⟩, hwx⟩ := hW; obtain rfl : W = wx := hwx; exact hb)) _ (KL (x1, x2)) rfl hkey c hat b HT.out ?_; simp only [Act.put, List.setIfInBounds_toArray, List.set_cons_succ, List.set_cons_zero]; go_big_quiet_on))
  refine wpQuiet_nil ?_
  rintro w2 ⟨⟨wx, hb_w2⟩, hwx⟩
  obtain rfl : w2 = wx := hwx
  clear hq_W0
  have hz_w2 := hb_w2.size
  obtain ⟨hc_w2, hf_w2⟩ := bcell hb_w2
  have hb2 := HW.out.trans (hb_w2.mono HW.out.size)
  have hm2 := map_turn (S := fun _ => False) HM.out (Turn.of_below hb2) (fun h => h)
  have hD2 := (hb_w2.cell (p := ⟨d, 0, none⟩) zd0).trans hD0
  have h42 := (hb_w2.cell (p := ⟨d, 4, none⟩) zd0).trans h40
  have zd2 : d < w2.heap.size := by have := hb_w2.size; omega
  have e02 := (hb_w2.cell (p := ⟨B, 0, none⟩) zB).trans e0
  have e12 := (hb_w2.cell (p := ⟨B, 1, none⟩) zB).trans e1
  have e22 := (hb_w2.cell (p := ⟨B, 2, none⟩) zB).trans e2
  have zB2 : B < w2.heap.size := by have := hb_w2.size; omega
  have H2 := Lib.hid hb2
  clear hb2 hb_w2 hc_w2 hf_w2 hz_w2 hD0 h30 h40 zd0 e0 e1 e2 zB HW
  clear hat hkey HMA HT
  cases b with
  | true =>
    go_wp2_with fail
    refine bodyPost_ret (by simp [results, Try.results9, go_sem, *]; try rfl) rfl ?_
    exact ⟨l, .inl ⟨HBB.out, rfl, rfl⟩, A, cap, n, HI.out.1.below H2.out, Turn.of_below H2.out, fun k hk => .inl hk⟩
  | false =>
    go_wp2_with fail
    obtain ⟨t, ht⟩ : ∃ t, decide (most ≤ (n : Int)) = t := ⟨_, rfl⟩
    have hq_w2 := @wd_cell w2
    refine wp_region_wd (by kernel_rfl) (by kernel_rfl) ?_
    repeat (go_big_quiet_step (fail))
    refine wpQuiet_nil ?_
    rintro w3 ⟨⟨wx, hb_w3⟩, hwx⟩
    obtain rfl : w3 = wx := hwx
    clear hq_w2
    have hz_w3 := hb_w3.size
    obtain ⟨hc_w3, hf_w3⟩ := bcell hb_w3
    have HC := Lib.hid (fun (e : t = true) => of_decide_eq_true (ht.trans e))
    have HD := Lib.hid (fun (e : t = false) => of_decide_eq_false (ht.trans e))
    have hb3 := H2.out.trans (hb_w3.mono H2.out.size)
    have zd3 : d < w3.heap.size := by have := hb_w3.size; omega
    have e03 := (hb_w3.cell (p := ⟨B, 0, none⟩) zB2).trans e02
    have e13 := (hb_w3.cell (p := ⟨B, 1, none⟩) zB2).trans e12
    have e23 := (hb_w3.cell (p := ⟨B, 2, none⟩) zB2).trans e22
    have zB3 : B < w3.heap.size := by have := hb_w3.size; omega
    have H3 := Lib.hid hb3
    clear hb3 hb_w3 hc_w3 hf_w3 hz_w3 e02 e12 e22 zB2 hD2 h42 zd2 hm2 H2 ht
    cases t with
    | true =>
      go_wp2_with fail
      refine bodyPost_ret (by simp [results, Try.results9, go_sem, *]; try rfl) rfl ?_
      exact ⟨l, .inr (.inl ⟨HBB.out, by rw [HI.out.1.len]; exact HC.out (by trivial), rfl, rfl⟩), A, cap, n, HI.out.1.below H3.out, Turn.of_below H3.out, fun k hk => .inl hk⟩
    | false =>
      go_wp2_with fail
      have hq_w3 := @wd_cell w3
      refine wp_region_wd_tail 4 (by kernel_rfl) (by kernel_rfl) ?_
      simp only [List.take_succ_cons, List.take_zero, List.drop_succ_cons, List.drop_zero]
      repeat (go_big_quiet_step (fail))
      refine wpQuiet_nil ?_
      rintro w4 ⟨⟨wx, hb_w4⟩, hwx⟩
      obtain rfl : w4 = wx := hwx
      clear hq_w3
      have hz_w4 := hb_w4.size
      obtain ⟨hc_w4, hf_w4⟩ := bcell hb_w4
      have hb4 := H3.out.trans (hb_w4.mono H3.out.size)
      have H4 := Lib.hid hb4
      clear hb4 hb_w4 hc_w4 hf_w4 hz_w4 e03 e13 e23 zB3 zd3 H3
      go_wp2_with fail
      have hlt := HD.out (by trivial)
      refine (push_any d vb mb cap n A most l (x0, x1, x2) HI.out.2 (there_not HBB.out) (by omega) w4 (HI.out.1.below H4.out)).mono ?_
      rintro e w5 ⟨⟨u, rfl⟩, l', A', cap', hp, hD', hT, hk⟩
      have H5 := Lib.hid (And.intro hp (And.intro hD' (And.intro ((Turn.of_below H4.out).trans hT) hk)))
      clear hp hD' hT hk
      go_wp2_with fail
      refine bodyPost_ret (by simp [results, Try.results9, go_sem, *]; try rfl) rfl ?_
      obtain ⟨hp, hD', hT, hk⟩ := H5.out
      exact ⟨l', .inr (.inr ⟨HBB.out, by rw [HI.out.1.len]; omega, hp, rfl⟩), A', cap', n + 1, hD', hT, fun k h => (hk k h).imp id (fun h => Nat.le_trans H4.out.size h)⟩
end Go.Proofs.Ytlogidnadfimlaa
