/-
  Chapter 04's own Lent, same, Left.
-/
import Derived.Test.YtohnglcdophkfaaCovers
namespace Go.Proofs.Ytohnglcdophkfaa
open Go.RowKit Go.Shelf

def mark : Pt := (77, -77)
def lent (ps : List Pt) (k : Nat) : List Pt := ps ++ List.replicate k mark
theorem lent_length (ps : List Pt) (k : Nat) : (lent ps k).length = ps.length + k := by simp [lent]
theorem lent_snoc (ps : List Pt) (k : Nat) : lent ps (k + 1) = lent ps k ++ [mark] := by
  unfold lent
  rw [List.replicate_succ', List.append_assoc]
theorem lent_lt {ps : List Pt} {k j : Nat} (h : j < ps.length) : gp (lent ps k) j = gp ps j := by
  unfold gp lent
  rw [List.getElem?_append_left h]
theorem lent_ge {ps : List Pt} {k j : Nat} (h : ps.length ≤ j) (h' : j < ps.length + k) : gp (lent ps k) j = mark := by
  unfold gp lent
  rw [List.getElem?_append_right h, List.getElem?_replicate, if_pos (by omega)]
  rfl

/-- Block g holds the points and twenty marks behind them. -/
def LentAt (W : World) (g cap : Nat) (ps : List Pt) : Prop := W.ownsRow 0 25 2 (.slice (some ⟨g, 0, none⟩) (ps.length + 20) cap) (ps.length + 20) (flat (lent ps 20))
theorem own_base {W : World} {b b' : Nat} {e : TypeId} {size n : Nat} {v : Value} {xs : List Value} (h : W.ownsRow b e size v n xs) (hb : b' ≤ b) : W.ownsRow b' e size v n xs := by
  refine ⟨h.1, ?_⟩
  rcases h.2 with h0 | ⟨g, cap, cur, hv, h1, h2⟩
  · exact .inl h0
  · exact .inr ⟨g, cap, cur, hv, by omega, h2⟩
theorem LentAt.lt {W : World} {g cap : Nat} {ps : List Pt} (h : LentAt W g cap ps) : g < W.heap.size := (World.ownsRow.lt h g rfl).2
theorem LentAt.cap {W : World} {g cap : Nat} {ps : List Pt} (h : LentAt W g cap ps) : ps.length + 20 ≤ cap ∧ cap ≤ 9223372036854775807 := by
  rcases h.2 with ⟨hv, _⟩ | ⟨g', cap', cur, hv, _, _, h1, h2, _⟩
  · cases hv
  · cases hv
    exact ⟨h1, by simpa only [maxLen] using h2⟩
theorem LentAt.below {W W' : World} {n g cap : Nat} {ps : List Pt} (hb : Below n W W') (hg : g < n) (h : LentAt W g cap ps) : LentAt W' g cap ps := by
  refine ⟨h.1, ?_⟩
  rcases h.2 with ⟨hv, _⟩ | ⟨g', cap', cur, hv, h0, h1, h2⟩
  · cases hv
  · cases hv
    exact .inr ⟨g, cap, cur, rfl, h0, (hb.block g hg).trans h1, h2⟩
theorem LentAt.at {W : World} {g cap : Nat} {ps : List Pt} (h : LentAt W g cap ps) {j : Nat} (hj : j < ps.length + 20) :
    W.cell? ⟨g, j * 2, none⟩ = some (.int .i32 (gp (lent ps 20) j).1) ∧ W.cell? ⟨g, j * 2 + 1, none⟩ = some (.int .i32 (gp (lent ps 20) j).2) := by
  have hc := World.ownsRow.cells h (g := g) rfl
  obtain ⟨e1, e2⟩ := flat_get (lent ps 20) j (by rw [lent_length]; exact hj)
  have f1 := hc _ _ e1
  have f2 := hc _ _ e2
  rw [add_at] at f1 f2
  exact ⟨f1, f2⟩
theorem LentAt.pts {W : World} {g cap : Nat} {ps : List Pt} (h : LentAt W g cap ps) : PtsAt W.heap.size W (.slice (some ⟨g, 0, none⟩) ps.length cap) ps := by
  refine .inr ⟨g, 0, cap, rfl, h.lt, fun j hj => ?_⟩
  have := h.at (j := j) (by omega)
  rw [lent_lt hj] at this
  rw [Nat.zero_add]
  exact this

theorem flat_one {ps : List Pt} : ∀ u ∈ flat ps, u.oneCell' = true := by
  induction ps with
  | nil => intro u hu; cases hu
  | cons p ps ih =>
    intro u hu
    simp only [flat, List.mem_cons] at hu
    rcases hu with rfl | rfl | hu
    · rfl
    · rfl
    · exact ih u hu
theorem flat_cells {W : World} {b off : Nat} {ps : List Pt} (hc : ∀ j, j < ps.length → W.cell? ⟨b, off + j * 2, none⟩ = some (.int .i32 (gp ps j).1) ∧ W.cell? ⟨b, off + j * 2 + 1, none⟩ = some (.int .i32 (gp ps j).2)) :
    ∀ j u, (flat ps)[j]? = some u → W.cell? ((⟨b, off, none⟩ : Addr).add j) = some u := fun j u hu => by
  have hj : j < ps.length * 2 := by
    rw [← flat_length]
    rcases Nat.lt_or_ge j (flat ps).length with h | h
    · exact h
    · rw [List.getElem?_eq_none h] at hu; cases hu
  have ha : (⟨b, off, none⟩ : Addr).add j = ⟨b, off + j, none⟩ := by
    unfold Addr.add
    by_cases hj0 : j = 0 <;> simp [hj0]
  rw [ha]
  obtain ⟨h1, h2⟩ := hc (j / 2) (by omega)
  obtain ⟨e1, e2⟩ := flat_get ps (j / 2) (by omega)
  rcases Nat.mod_two_eq_zero_or_one j with h | h
  · have : j / 2 * 2 = j := by omega
    rw [this] at e1 h1
    rw [h1, ← e1, hu]
  · have : j / 2 * 2 + 1 = j := by omega
    rw [this] at e2
    rw [show off + j = off + j / 2 * 2 + 1 by omega, h2, ← e2, hu]

section
variable {P : Program} {ops : Array Oper} {rest : List Oper} {o : Oper} {a : Act} {Q : Exit → Act → World → Prop} {w : World}
/-- 'append(nil, v...)': a row of the call's own that holds what the slice holds. -/
theorem wpList_lend (hgd : o.guard = none) (s x : Operand) (t : TypeId) (ho : o.op = .call { callee := .builtin .append, args := #[s, x], argTypes := #[t, t] })
    {e : TypeId} {z : Value} {size bytes : Nat} (E : Elt P t e z size bytes) (A : Option Addr) (L c : Nat) (news : List Value) (hs : a.eval s = .slice none 0 0) (hx : a.eval x = .slice A L c)
    (hl : news.length = L * size) (hA : (A = none ∧ L = 0) ∨ ∃ ad, A = some ad ∧ ∀ j u, news[j]? = some u → w.cell? (ad.add j) = some u) (h1 : ∀ u ∈ news, u.oneCell' = true) (hn : L ≤ maxLen) (hb : L * bytes ≤ 140737488355328)
    (h : ∀ A' c' w', w'.ownsRow w.heap.size e size (.slice A' L c') L news → w.grownBy w' none → wpList P ops Q rest (a.put o.dst (.slice A' L c')) w') : wpList P ops Q (o :: rest) a w := by
  obtain ⟨i, hi, hz, hsz, hby⟩ := info_parts E.info
  rcases hA with ⟨rfl, rfl⟩ | ⟨ad, rfl, hc⟩
  · have hnil : news = [] := List.eq_nil_of_length_eq_zero (by omega)
    subst hnil
    refine wpList_plain hgd fun _ hK => ?_
    have hr : (Builtin.append_ #[t, t] o.type #[.slice none 0 0, .slice none 0 c]).run P w = .ok (.slice none 0 0) w := by
      simp [Builtin.append_, run_underlying E.under, sizeOf, typeInfo, hi, Builtin.lenOf, Builtin.firstCells]
    unfold Oper.wp execOp
    simp only [ho, resolve, invoke, builtin, Sem.run_bind, Sem.run_pure, Result.andThen_ok, List.map_toArray, List.map_cons, List.map_nil, hs, hx, hr]
    exact hK _ _ (h none 0 w (World.ownsRow_nil _ _ _ _) ⟨rfl, rfl, rfl, Nat.le_refl _, fun _ _ _ => rfl⟩)
  · refine wpList_append_own w hgd s x t ho w.heap.size e i z size bytes E.under hi hz hsz hby E.cells E.pos (.slice none 0 0) 0 [] hs (World.ownsRow_nil _ _ _ _) ad L c news hx hl hc h1 (by omega) (by rw [Nat.zero_add]; exact hb) (Nat.le_refl _) ?_
    intro v' w' hown hg _
    rw [Nat.zero_add, List.nil_append] at hown
    rcases hown.2 with ⟨hv, hn0⟩ | ⟨g, cap, cur, hv, _⟩
    · subst hv
      subst hn0
      exact h none 0 w' hown hg
    · subst hv
      exact h _ _ w' hown hg
end

set_option maxRecDepth 100000 in
set_option maxHeartbeats 400000 in
theorem lent_any (sv : Value) (ps : List Pt) (m : Nat) (hreach : ps.length * 8 ≤ 140737488351232) (w : World) (hI : PtsAt m w sv ps) :
    Calls Try.prog 18 #[sv] w fun e w' => ∃ g cap, e = .returned (.slice (some ⟨g, 0, none⟩) ps.length cap) ∧ w.heap.size ≤ g ∧ LentAt w' g cap ps ∧ Below w.heap.size w w' := by
  obtain ⟨A, L, c, rfl, hL, hA⟩ : ∃ A L c, sv = .slice A L c ∧ ps.length = L ∧ ((A = none ∧ L = 0) ∨ ∃ ad, A = some ad ∧ ∀ j u, (flat ps)[j]? = some u → w.cell? (ad.add j) = some u) := by
    rcases hI with ⟨⟨A0, c0, rfl⟩, rfl⟩ | ⟨b, off, cap, rfl, hb, hc⟩
    · cases A0 with
      | none => exact ⟨none, 0, c0, rfl, rfl, .inl ⟨rfl, rfl⟩⟩
      | some ad => exact ⟨some ad, 0, c0, rfl, rfl, .inr ⟨ad, rfl, fun j u hu => by simp [flat] at hu⟩⟩
    · exact ⟨_, _, _, rfl, rfl, .inr ⟨_, rfl, flat_cells hc⟩⟩
  go_enter Try.func18, Try.ntmps18
  go_wp2_with (at_builtin; refine wpList_lend rfl (.tmp 5) (.tmp 6) 22 rfl eltP A L c (flat ps) rfl rfl (by rw [flat_length, hL]) hA flat_one (le_maxLen (by omega)) (by omega) ?_; intro A1 c1 w1 hown1 hg1)
  have hb1 : Below w.heap.size w w1 := (Below.refl _ w).grown hg1 (Nat.le_refl _) (fun k e => by cases e)
  clear hA hI
  have hown0 : w1.ownsRow w.heap.size 25 2 (.slice A1 (L + 0) c1) (L + 0) (flat (lent ps 0)) := by
    rw [show lent ps 0 = ps by simp [lent]]
    exact hown1
  go_loopw [3, 4] (fun o i wr => ∃ (k c : Nat) (A : Option Addr), o = .slice A (L + k) c ∧ i = .int .i64 (k : Int) ∧ k ≤ 20 ∧ wr.ownsRow w.heap.size 25 2 (.slice A (L + k) c) (L + k) (flat (lent ps k)) ∧ Below w.heap.size w wr)
    (fun _ i _ => 20 - (intOf i).toNat)
  case atStart => exact ⟨0, c1, A1, rfl, rfl, by omega, hown0, hb1⟩
  case round =>
    obtain ⟨k, cc, AA, rfl, rfl, hk, hown, hB⟩ := hrel
    have hsz := hB.size
    rcases Nat.lt_or_ge k 20 with hlt | hge
    · go_wp2_with (at_builtin; refine wpList_push rfl (.tmp 12) (.tmp 14) 22 rfl eltP w.heap.size AA (L + k) cc (flat (lent ps k)) rfl hown [_, _] rfl rfl (two_cells rfl rfl) (le_maxLen (by omega)) (by omega) (by omega) ?_; intro A' c' w' hown' hg)
      go_roundw
      case rel => exact ⟨k + 1, c', A', rfl, by simp, hlt, by rw [lent_snoc, flat_snoc]; exact hown', below_push hB hown (Nat.le_refl _) hsz hg⟩
      case measure => simp [intOf]; omega
    · obtain rfl : k = 20 := by omega
      rcases hown.2 with ⟨hv, h0⟩ | ⟨g, cap, cur, hv, hg0, hg1, hg2, hg3, hg4, hg5⟩
      · omega
      · simp only [Value.slice.injEq] at hv
        obtain ⟨rfl, _, rfl⟩ := hv
        go_wp2_with fail
        go_ret
        refine ⟨g, cc, by rw [hL]; rfl, hg0, ?_, hB⟩
        unfold LentAt
        rw [hL]
        exact own_base hown (Nat.zero_le _)

set_option maxRecDepth 100000 in
set_option maxHeartbeats 400000 in
theorem same_any (sv sv' : Value) (ps : List Pt) (m : Nat) (hreach : ps.length * 8 ≤ 140737488355328) (w : World) (hm : m ≤ w.heap.size) (hI : PtsAt m w sv ps) (hI' : PtsAt m w sv' ps) :
    Calls Try.prog 39 #[sv, sv'] w fun e w' => e = .returned (.bool true) ∧ Below w.heap.size w w' := by
  rcases hI with ⟨⟨A0, c0, rfl⟩, rfl⟩ | ⟨b, off, cap, rfl, hb, hc⟩
  · obtain ⟨A1, c1, rfl⟩ : ∃ A c, sv' = .slice A 0 c := by
      rcases hI' with ⟨h, _⟩ | ⟨b, off, cap, rfl, _⟩
      · exact h
      · exact ⟨_, _, rfl⟩
    go_enter Try.func39, Try.ntmps39
    go_wp2_with fail
    go_loopw [5] (fun i wr => i = .int .i64 0 ∧ Below w.heap.size w wr) (fun _ _ => 0)
    case atStart => exact ⟨rfl, by go_grown⟩
    case round =>
      obtain ⟨rfl, hB⟩ := hrel
      go_wp2_with fail
      go_ret
      exact ⟨rfl, hB⟩
  · rcases hI' with ⟨⟨A1, c1, rfl⟩, rfl⟩ | ⟨b', off', cap', rfl, hb', hc'⟩
    · go_enter Try.func39, Try.ntmps39
      go_wp2_with fail
      go_loopw [5] (fun i wr => i = .int .i64 0 ∧ Below w.heap.size w wr) (fun _ _ => 0)
      case atStart => exact ⟨rfl, by go_grown⟩
      case round =>
        obtain ⟨rfl, hB⟩ := hrel
        go_wp2_with fail
        go_ret
        exact ⟨rfl, hB⟩
    · obtain ⟨L, hL⟩ : ∃ L, ps.length = L := ⟨_, rfl⟩
      rw [hL] at hreach hc hc' ⊢
      go_enter Try.func39, Try.ntmps39
      go_wp2_with fail
      go_loopw [5] (fun i wr => ∃ k : Nat, i = .int .i64 (k : Int) ∧ k ≤ L ∧ Below w.heap.size w wr) (fun i _ => L - (intOf i).toNat)
      case atStart => exact ⟨0, rfl, Nat.zero_le _, by go_grown⟩
      case round =>
        obtain ⟨k, rfl, hk, hB⟩ := hrel
        have hsz := hB.size
        rcases Nat.lt_or_ge k L with hlt | hge
        · have c0 := (hB.cell (p := ⟨b, off + k * 2, none⟩) (by show b < _; omega)).trans (hc k hlt).1
          have c1 := (hB.cell (p := ⟨b, off + k * 2 + 1, none⟩) (by show b < _; omega)).trans (hc k hlt).2
          have d0 := (hB.cell (p := ⟨b', off' + k * 2, none⟩) (by show b' < _; omega)).trans (hc' k hlt).1
          have d1 := (hB.cell (p := ⟨b', off' + k * 2 + 1, none⟩) (by show b' < _; omega)).trans (hc' k hlt).2
          have hbr : b < wr.heap.size := by omega
          have hbr' : b' < wr.heap.size := by omega
          go_wp2_with fail
          have hq_wr := @wd_cell wr
          refine wp_region_wd (by kernel_rfl) (by kernel_rfl) ?_
          repeat (go_big_quiet_step ((first | (fail))))
          refine wpQuiet_nil ?_
          rintro w5 ⟨⟨wx, hb_w5⟩, hwx⟩
          obtain rfl : w5 = wx := hwx
          clear hq_wr
          have hz_w5 := hb_w5.size
          obtain ⟨hc_w5, hf_w5⟩ := bcell hb_w5
          have hB_w5 : Below w.heap.size w w5 := Below.trans (by go_grown) (hb_w5.mono (by go_size))
          have hs_w5_0 : b < w5.heap.size := Nat.lt_of_lt_of_le (by assumption) hb_w5.size
          have hs_w5_1 : b' < w5.heap.size := Nat.lt_of_lt_of_le (by assumption) hb_w5.size
          go_wp2_with fail
          go_roundw
          case rel => exact ⟨k + 1, by simp, hlt, hB.trans (hb_w5.mono hsz)⟩
          case measure => simp [intOf]; omega
        · obtain rfl : k = L := by omega
          go_wp2_with fail
          go_ret
          exact ⟨rfl, hB⟩

set_option maxRecDepth 100000 in
set_option maxHeartbeats 400000 in
theorem left_any (g cap : Nat) (sv : Value) (ps : List Pt) (m : Nat) (hreach : ps.length * 8 ≤ 140737488355328) (w : World) (hm : m ≤ w.heap.size) (hg : g < m) (hl : LentAt w g cap ps) (hI : PtsAt m w sv ps) :
    Calls Try.prog 25 #[.slice (some ⟨g, 0, none⟩) ps.length cap, sv] w fun e w' => e = .returned (.bool true) ∧ Below w.heap.size w w' := by
  have HS := Lib.hid (fun W (h : Below w.heap.size w W) => same_any _ sv ps W.heap.size hreach W (Nat.le_refl _) (LentAt.pts (hl.below (h.mono hm) hg)) ((hI.below (h.mono hm)).up (Nat.le_trans hm h.size)))
  obtain ⟨hc1, hc2⟩ := hl.cap
  obtain ⟨A, c, rfl⟩ : ∃ A c, sv = .slice A ps.length c := by
    rcases hI with ⟨⟨A, c, rfl⟩, rfl⟩ | ⟨b, off, cap, rfl, _⟩ <;> exact ⟨_, _, rfl⟩
  have hat : ∀ j, j < 20 → w.cell? ⟨g, (ps.length + j) * 2, none⟩ = some (.int .i32 77) ∧ w.cell? ⟨g, (ps.length + j) * 2 + 1, none⟩ = some (.int .i32 (-77)) := fun j hj => by
    have := hl.at (j := ps.length + j) (by omega)
    rw [lent_ge (by omega) (by omega)] at this
    exact this
  obtain ⟨L, hL⟩ : ∃ L, ps.length = L := ⟨_, rfl⟩
  rw [hL] at hreach hat hc1 HS ⊢
  clear hI hl
  go_enter Try.func25, Try.ntmps25
  go_wp2_with fail
  go_loopw [6] (fun i wr => ∃ k : Nat, i = .int .i64 ((L + k : Nat) : Int) ∧ k ≤ 20 ∧ Below w.heap.size w wr) (fun i _ => L + 20 - (intOf i).toNat)
  case atStart => exact ⟨0, rfl, by omega, by go_grown⟩
  case round =>
    obtain ⟨k, rfl, hk, hB⟩ := hrel
    have hsz := hB.size
    have hgr : g < wr.heap.size := by omega
    rcases Nat.lt_or_ge k 20 with hlt | hge
    · have c0 := (hB.cell (p := ⟨g, (L + k) * 2, none⟩) (by show g < _; omega)).trans (hat k hlt).1
      have c1 := (hB.cell (p := ⟨g, (L + k) * 2 + 1, none⟩) (by show g < _; omega)).trans (hat k hlt).2
      clear hat
      obtain ⟨q, hq⟩ : ∃ q, L + k = q := ⟨_, rfl⟩
      rw [hq] at c0 c1 ⊢
      have hq1 : q < L + 20 := by omega
      go_wp2_with fail
      go_roundw
      case rel => exact ⟨k + 1, congrArg (Value.int .i64) (by omega), hlt, hB⟩
      case measure => simp [intOf]; omega
    · obtain rfl : k = 20 := by omega
      clear hat
      go_wp2_with fail
      refine (HS.out _ hB).mono ?_
      rintro e w5 ⟨rfl, hb_w5⟩
      obtain ⟨hc_w5, hf_w5⟩ := bcell hb_w5
      have hz_w5 := hb_w5.size
      try simp at hz_w5
      have hB_w5 : Below w.heap.size w w5 := Below.trans (by go_grown) (hb_w5.mono (by go_size))
      go_wp2_with fail
      go_ret
      exact ⟨rfl, hB.trans (hb_w5.mono hsz)⟩

end Go.Proofs.Ytohnglcdophkfaa
