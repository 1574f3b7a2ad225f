/-
  The program's Hull and Convex.
-/
import Derived.Test.YtcpojadinkonnaaChain
import Derived.Test.YtcpojadinkonnaaSorted
import Derived.Test.YtcpojadinkonnaaEqP
import Derived.Test.YtcpojadinkonnaaLent2
import Derived.Deep.AppendSrc
namespace Go.Proofs.Ytcpojadinkonnaa
open Go.RowKit

def srt (ps : List Pt) : List Pt := ps.mergeSort fun x y => !pLt y x
theorem srt_perm (ps : List Pt) : (srt ps).Perm ps := List.mergeSort_perm _ _
theorem srt_ord (ps : List Pt) : Ord (srt ps) := by
  have h := List.pairwise_mergeSort (le := fun x y => !pLt y x) (fun a b c h1 h2 => by
    simp only [Bool.not_eq_true'] at *
    exact pLt_swo.ntrans c b a h2 h1) (fun a b => by
    cases h1 : pLt b a
    · simp
    · simp [pLt_asym h1]) ps
  exact h.imp fun {x y} h => by simpa using h
/-- The hull of whatever points. -/
def hullL (ps : List Pt) : List Pt := hullF (dd (srt ps))
theorem srt_eq {ps qs : List Pt} (hp : qs.Perm ps) (ho : Ord qs) : qs = srt ps := ord_unique (hp.trans (srt_perm ps).symm) ho (srt_ord ps)
theorem dd_srt (ps : List Pt) : Asc (dd (srt ps)) ∧ ∀ x, x ∈ dd (srt ps) ↔ x ∈ ps := by
  obtain ⟨h1, h2⟩ := asc_dd (srt_ord ps)
  exact ⟨h1, fun x => (h2 x).trans (srt_perm ps).mem_iff⟩
theorem dd_srt_len (ps : List Pt) : (dd (srt ps)).length ≤ ps.length := by
  have := dd_len (srt ps)
  rw [(srt_perm ps).length_eq] at this
  exact this

theorem Src_pts {W : World} {M n c : Nat} {A : Option Addr} {ps : List Pt} (hn : ps.length = n) (h : PtsAt M W (.slice A n c) ps) : Src Try.prog 2 23 (.slice A n c) n (flat ps) W := by
  rcases Nat.eq_zero_or_pos n with h0 | h0
  · subst h0
    obtain rfl : ps = [] := List.eq_nil_of_length_eq_zero hn
    cases A with
    | none => exact Src.ofNil W Try.underlying23 c
    | some a => exact Src.ofSlice W Try.underlying23 a 0 c [] rfl (fun j u hu => by simp at hu) (fun u hu => by cases hu)
  · obtain ⟨b, off, rfl, _, hc⟩ := pts_cells h h0
    refine Src.ofSlice W Try.underlying23 _ n c _ (by rw [flat_length, hn]) (fun j u hu => ?_) flat_one
    exact flat_cells hc j u hu

/-- 'append(a[:n:n], b...)' at points. -/
theorem run_joinP {W : World} {M n m d : Nat} {A B : Option Addr} {ps qs : List Pt} (hn : ps.length = n) (hm : qs.length = m) (ha : PtsAt M W (.slice A n n) ps) (hb : PtsAt M W (.slice B m d) qs) (h0 : 0 < m) (hbytes : (n + m) * 8 ≤ 140737488355328) :
    ∃ c' w', (∀ ty, (Builtin.append_ #[23, 23] ty #[.slice A n n, .slice B m d]).run Try.prog W = .ok (.slice (some ⟨W.heap.size, 0, none⟩) (n + m) c') w') ∧ w'.ownsRow W.heap.size 32 2 (.slice (some ⟨W.heap.size, 0, none⟩) (n + m) c') (n + m) (flat (ps ++ qs)) ∧ Below W.heap.size W w' := by
  obtain ⟨i, hi, hz, hsz, hby⟩ := info_parts eltP.info
  have hs := Src_pts hm hb
  rw [← hsz] at hs
  have hgl : ∀ w' : World, (∀ a, w'.cell? a = W.cell? a) → (Builtin.firstCells i.size n (.slice A n n)).run Try.prog w' = .ok (flat ps).toArray w' := fun w1 hw1 => by
    rw [hsz]
    rcases Nat.eq_zero_or_pos n with h1 | h1
    · subst h1
      obtain rfl : ps = [] := List.eq_nil_of_length_eq_zero hn
      cases A with
      | none => exact run_firstCells_none w1 2 0 0 0
      | some a => exact run_firstCells_some w1 2 0 a 0 0 [] rfl (fun j u hu => by simp at hu)
    · obtain ⟨b, off, rfl, _, hc⟩ := pts_cells ha h1
      refine run_firstCells_some w1 2 n _ n n _ (by rw [flat_length, hn]) (fun j u hu => ?_)
      rw [hw1]
      exact flat_cells hc j u hu
  have hr := fun ty => run_append_grow_src W 23 23 ty 32 i _ Try.underlying23 hi hz A n n (flat ps) (hgl W.drew (fun _ => rfl)) _ m (flat qs) hs (by omega) (by omega) (by rw [hby]; exact growslice_fits (by omega) hbytes)
  have hc1 := grownCap_ge W (n + m) n 32
  have hc2 := grownCap_le_maxLen W (n + m) n 32 (by unfold maxLen; omega)
  obtain ⟨c', hc'⟩ : ∃ z, grownCap W (n + m) n 32 = z := ⟨_, rfl⟩
  rw [hc'] at hr hc1 hc2
  have hfl : (flat ps ++ flat qs).length = (n + m) * 2 := by rw [List.length_append, flat_length, flat_length, hn, hm]; omega
  refine ⟨_, _, hr, ⟨by rw [flat_app]; exact hfl, .inr ⟨W.heap.size, c', _, rfl, Nat.le_refl _, heap_alloc_new W.drew _, hc1, hc2, ?_, ?_⟩⟩, (Below.refl _ _).drew.alloc (by simp) _⟩
  · have hzc : (Value.agg #[.int .i32 0, .int .i32 0]).cells.size = 2 := by kernel_rfl
    have h9 : (Builtin.zeroCells (Value.agg #[.int .i32 0, .int .i32 0]).cells (c' - (n + m))).size = (c' - (n + m)) * 2 := by simp [Builtin.zeroCells, hzc]
    rw [Array.size_append, List.size_toArray, hfl, h9]
    omega
  · rw [flat_app, ← hfl, Array.toList_append, List.toList_toArray, List.take_left']
    rfl

theorem wpList_joinP {W : World} {M n m d : Nat} {A B : Option Addr} {ps qs : List Pt} {ops : Array Oper} {rest : List Oper} {o : Oper} {a : Act} {Q : Exit → Act → World → Prop} (hgd : o.guard = none) (s x : Operand)
    (ho : o.op = .call { callee := .builtin .append, args := #[s, x], argTypes := #[23, 23] })
    (hs : a.eval s = .slice A n n) (hx : a.eval x = .slice B m d) (hn : ps.length = n) (hm : qs.length = m) (ha : PtsAt M W (.slice A n n) ps) (hb : PtsAt M W (.slice B m d) qs) (h0 : 0 < m) (hbytes : (n + m) * 8 ≤ 140737488355328)
    (h : ∀ A' c' w', w'.ownsRow W.heap.size 32 2 (.slice A' (n + m) c') (n + m) (flat (ps ++ qs)) → Below W.heap.size W w' → wpList Try.prog ops Q rest (a.put o.dst (.slice A' (n + m) c')) w') :
    wpList Try.prog ops Q (o :: rest) a W := by
  refine wpList_plain hgd fun K hK => ?_
  obtain ⟨c', w', hr, h2, h3⟩ := run_joinP hn hm ha hb h0 hbytes
  unfold Oper.wp execOp
  simp only [ho, resolve, invoke, builtin, Sem.run_bind, Sem.run_pure, Result.andThen_ok, List.map_toArray, List.map_cons, List.map_nil, hs, hx, hr o.type]
  exact hK _ _ (h _ c' w' h2 h3)

theorem pts_short {W : World} {M n c c' k : Nat} {A : Option Addr} {ps : List Pt} (h : PtsAt M W (.slice A n c) ps) (hn : ps.length = n) (hk : k ≤ n) : PtsAt M W (.slice A k c') (ps.take k) := by
  rcases Nat.eq_zero_or_pos n with h0 | h0
  · subst h0
    obtain rfl : k = 0 := by omega
    exact .inl ⟨⟨_, _, rfl⟩, by simp⟩
  · obtain ⟨b, off, rfl, hb, hc⟩ := pts_cells h h0
    refine .inr ⟨b, off, c', by rw [List.length_take, hn, Nat.min_eq_left hk], hb, fun j hj => ?_⟩
    rw [List.length_take] at hj
    have e : gp (ps.take k) j = gp ps j := by
      unfold gp
      rw [List.getElem?_take_of_lt (by omega)]
    rw [e]
    exact hc j (by omega)
theorem two_of {l : List Pt} {a z : Pt} (h1 : l.head? = some a) (h2 : l.getLast? = some z) (h : a ≠ z) : 2 ≤ l.length := by
  match l, h1, h2 with
  | [_], h1, h2 =>
    simp at h1 h2
    exact absurd (h1.symm.trans h2) h
  | _ :: _ :: _, _, _ => simp
theorem chain_two {l : List Pt} (ha : Asc l) (h2 : 2 ≤ l.length) : 2 ≤ (chainF l).length ∧ 2 ≤ (chainF l.reverse).length := by
  obtain ⟨z, e0, ez, hne, _⟩ := asc_ends ha h2
  have hnil : l ≠ [] := fun e => by rw [e] at h2; simp at h2
  obtain ⟨_, _, a3, a4⟩ := low_side ha hnil
  obtain ⟨_, _, b3, b4⟩ := high_side ha hnil
  have h1 := two_of (a3.trans e0) (a4.trans ez) hne
  have h3 := two_of (b3.trans ez) (b4.trans e0) (Ne.symm hne)
  rw [List.length_reverse] at h1 h3
  exact ⟨h1, h3⟩
theorem chain_mem_rev (l : List Pt) : (chainF l).length ≤ l.length := chain_len l

set_option maxHeartbeats 1000000 in
set_option maxRecDepth 100000 in
theorem hull_any (ps : List Pt) (hps : ∀ p ∈ ps, IPt p) (M : Nat) (A : Option Addr) (c n : Nat) (hn : ps.length = n) (hlen : n * 16 ≤ 140737488355328) (w : World) (hP : PtsAt M w (.slice A n c) ps) (hM : M ≤ w.heap.size) :
    Calls Try.prog 18 #[.slice A n c] w fun e w' => ∃ (A' : Option Addr) (c' m : Nat), e = .returned (.slice A' m c') ∧ (hullL ps).length = m ∧ w'.ownsRow w.heap.size 32 2 (.slice A' m c') m (flat (hullL ps)) ∧ Below w.heap.size w w' := by
  have H0 := Lib.hid (sorted_any M c n A ps hn w hP hM (by omega))
  have hdl := dd_srt_len ps
  obtain ⟨hasc, hmem⟩ := dd_srt ps
  have hsl : (srt ps).length = n := by rw [(srt_perm ps).length_eq, hn]
  have hlI : ∀ p ∈ dd (srt ps), IPt p := fun p hp => hps p ((hmem p).1 hp)
  obtain ⟨l, hl⟩ : ∃ l, dd (srt ps) = l := ⟨_, rfl⟩
  have hH : hullL ps = hullF l := by unfold hullL; rw [hl]
  rw [hl] at hdl hasc hlI
  obtain ⟨Hu, hHu⟩ : ∃ H, hullL ps = H := ⟨_, rfl⟩
  rw [hHu]
  have HU := Lib.hid (hH.symm.trans hHu)
  have HL := Lib.hid (And.intro hl (And.intro hasc (And.intro hlI hsl)))
  clear hP hmem hl hasc hlI hsl hH hps hHu
  go_enter Try.func18, Try.ntmps18
  go_wp2_with fail
  refine H0.out.mono ?_
  rintro e w1 ⟨A1, c1, qs, rfl, hp1, ho1, hown1, hb1⟩
  obtain rfl : qs = srt ps := srt_eq hp1 ho1
  have H1 := Lib.hid (And.intro hown1 hb1)
  have hz1 := hb1.size
  clear hp1 ho1 hown1 hb1
  go_wp2_with fail
  refine (compact_any (srt ps) w.heap.size A1 c1 n HL.out.2.2.2 (by omega) w1 H1.out.1 hz1).mono ?_
  rintro e w2 ⟨m, rfl, hlm, hown2, hb2⟩
  rw [HL.out.1] at hlm hown2
  have hB2 := H1.out.2.trans hb2
  have hz2 := hB2.size
  have hm : m ≤ n := by omega
  have H2 := Lib.hid (And.intro hlm (And.intro hown2 hB2))
  clear hlm hown2 hb2 hB2
  rcases Nat.lt_or_ge m 3 with h3 | h3
  · have hI : (m : Int) < 3 := by omega
    have hF : Hu = l := HU.out.symm.trans (if_pos (by rw [H2.out.1]; exact h3))
    subst hF
    go_wp2_with fail
    go_ret
    exact ⟨A1, c1, m, rfl, H2.out⟩
  · have hI : ¬ (m : Int) < 3 := by omega
    have hF : Hu = (chainF l).reverse.dropLast ++ (chainF l.reverse).reverse.dropLast := HU.out.symm.trans (if_neg (by rw [H2.out.1]; omega))
    subst hF
    obtain ⟨t1, t2⟩ := chain_two HL.out.2.1 (by rw [H2.out.1]; omega)
    have H3 := Lib.hid (And.intro t1 t2)
    clear t1 t2
    go_wp2_with fail
    refine (chain_any l HL.out.2.2.1 w2.heap.size A1 c1 m H2.out.1 (by omega) w2 (ptsAt_of_own H2.out.2.1 H2.out.1) (Nat.le_refl _)).mono ?_
    rintro e w3 ⟨A3, c3, m3, rfl, hl3, hown3, hb3⟩
    have hz3 := hb3.size
    have H4 := Lib.hid (And.intro hl3 (And.intro hown3 (And.intro (own_keepH H2.out.2.1 hb3) (H2.out.2.2.trans (hb3.mono hz2)))))
    clear hl3 hown3 hb3
    go_wp2_with fail
    refine (reverse_any l w.heap.size A1 c1 m H2.out.1 (by omega) w3 H4.out.2.2.1).mono ?_
    rintro e w4 ⟨⟨u4, rfl⟩, hown4, hg4⟩
    have hz4 := hg4.size
    have hlow4 := H4.out.2.1.kept hg4 (by
      cases hv : (Value.slice A3 m3 c3).ownBlock with
      | none => exact .inl rfl
      | some k =>
        refine .inr fun e => ?_
        have h1 := own_ge H4.out.2.1 k hv
        have h2 := (H2.out.2.1.lt k e.symm).2
        omega)
    have hB4 := H4.out.2.2.2.grown hg4 (by omega) (own_ge H2.out.2.1)
    have H5 := Lib.hid (And.intro hown4 (And.intro hlow4 hB4))
    clear hown4 hg4 hlow4 hB4
    go_wp2_with fail
    refine (chain_any l.reverse (fun p hp => HL.out.2.2.1 p (List.mem_reverse.1 hp)) w4.heap.size A1 c1 m (by rw [List.length_reverse]; exact H2.out.1) (by omega) w4 (ptsAt_of_own H5.out.1 (by rw [List.length_reverse]; exact H2.out.1)) (Nat.le_refl _)).mono ?_
    rintro e w5 ⟨A5, c5, m5, rfl, hl5, hown5, hb5⟩
    have hz5 := hb5.size
    have hlow5 := own_keepH H5.out.2.1 hb5
    have hB5 := H5.out.2.2.trans (hb5.mono (by omega))
    have hl3 := H4.out.1
    obtain ⟨q3, hq3⟩ : ∃ q, m3 = q + 1 := ⟨m3 - 1, by have := H3.out.1; omega⟩
    obtain ⟨q5, hq5⟩ : ∃ q, m5 = q + 1 := ⟨m5 - 1, by have := H3.out.2; omega⟩
    have hb3l := chain_len l
    have hb5l := chain_len l.reverse
    rw [List.length_reverse] at hb5l
    have hm3n : m3 ≤ n := by have := H2.out.1; omega
    have hm5n : m5 ≤ n := by have := H2.out.1; omega
    have h05 : 0 < q5 := by have := H3.out.2; omega
    obtain ⟨g3, rfl, _, hg3, _⟩ := own_cells hlow5 (by omega)
    obtain ⟨g5, rfl, _, hg5, _⟩ := own_cells hown5 (by omega)
    have p3 : PtsAt w5.heap.size w5 (.slice (some ⟨g3, 0, none⟩) q3 q3) (chainF l).reverse.dropLast := by
      rw [List.dropLast_eq_take, List.length_reverse, hl3, show m3 - 1 = q3 by omega]
      exact pts_short (ptsAt_of_own hlow5 (by rw [List.length_reverse]; exact hl3)) (by rw [List.length_reverse]; exact hl3) (by omega)
    have p5 : PtsAt w5.heap.size w5 (.slice (some ⟨g5, 0, none⟩) q5 c5) (chainF l.reverse).reverse.dropLast := by
      rw [List.dropLast_eq_take, List.length_reverse, hl5, show m5 - 1 = q5 by omega]
      exact pts_short (ptsAt_of_own hown5 (by rw [List.length_reverse]; exact hl5)) (by rw [List.length_reverse]; exact hl5) (by omega)
    have lq3 : (chainF l).reverse.dropLast.length = q3 := by rw [List.length_dropLast, List.length_reverse]; omega
    have lq5 : (chainF l.reverse).reverse.dropLast.length = q5 := by rw [List.length_dropLast, List.length_reverse]; omega
    have hc3 := own_cap hlow5
    have hc5 := own_cap hown5
    have hw3 : IntKind.i64.wrap ((m3 : Int) - 1) = (q3 : Int) := by simp only [IntKind.wrap, IntKind.signed, IntKind.bits]; simp; omega
    have hw5 : IntKind.i64.wrap ((m5 : Int) - 1) = (q5 : Int) := by simp only [IntKind.wrap, IntKind.signed, IntKind.bits]; simp; omega
    have i1 : (q3 : Int) ≤ (c3 : Int) := by omega
    have i2 : (q5 : Int) ≤ (c5 : Int) := by omega
    have i3 : (0 : Int) ≤ (q3 : Int) := by omega
    have i4 : (0 : Int) ≤ (q5 : Int) := by omega
    have H7 := Lib.hid (And.intro p3 (And.intro p5 (And.intro lq3 (And.intro lq5 hB5))))
    have hz5' := hB5.size
    have hq35 : (q3 + q5) * 8 ≤ 140737488355328 := by omega
    have hB : Below w.heap.size w w5 := hB5
    clear hq3 hq5 hb3l hb5l hl3 hl5 hown5 hlow5 hb5 hB5 p3 p5 lq3 lq5
    go_wp2_with fail
    have hq_w5 := @wd_cell w5
    refine wp_region_wd_tail 13 (by kernel_rfl) (by kernel_rfl) ?_
    simp only [List.take_succ_cons, List.take_zero, List.drop_succ_cons, List.drop_zero]
    repeat (go_big_quiet_step (fail))
    refine wpQuiet_nil ?_
    rintro w6 ⟨⟨wx, hb_w6⟩, hwx⟩
    obtain rfl : w6 = wx := hwx
    clear hq_w5
    have hz_w6 := hb_w6.size
    obtain ⟨hc_w6, hf_w6⟩ := bcell hb_w6
    have hB_w6 : Below w.heap.size w w6 := Below.trans (by go_grown) (hb_w6.mono (by go_size))
    have hs_w6_0 : g3 < w6.heap.size := Nat.lt_of_lt_of_le (by assumption) hb_w6.size
    have hs_w6_1 : g5 < w6.heap.size := Nat.lt_of_lt_of_le (by assumption) hb_w6.size
    have p3 := (H7.out.1.below hb_w6)
    have p5 := (H7.out.2.1.below hb_w6)
    have hz6 := hb_w6.size
    have HB6 := Lib.hid (hB.trans (hb_w6.mono hz5'))
    clear hb_w6 hc_w6 hf_w6
    go_wp2_with (at_builtin; refine wpList_joinP rfl (.tmp 25) (.tmp 30) rfl rfl rfl H7.out.2.2.1 H7.out.2.2.2.1 p3 p5 h05 hq35 ?_; intro A7 c7 w7 hown7 hb7)
    have H8 := Lib.hid (And.intro (own_baseS hown7 HB6.out.size) (HB6.out.trans (hb7.mono HB6.out.size)))
    clear hown7 hb7
    go_wp2_with fail
    go_ret
    exact ⟨A7, c7, q3 + q5, rfl, by rw [List.length_append, H7.out.2.2.1, H7.out.2.2.2.1], H8.out⟩

end Go.Proofs.Ytcpojadinkonnaa
