/-
  hull.chain, walked.
  slices.Reverse at points of a row of one's own.
  slices.Compact at points of a row of one's own.
-/
import Derived.Test.YtcpojadinkonnaaHullM
import Derived.Test.YtcpojadinkonnaaSortR
import Derived.Deep.LoopGhost
import Derived.Deep.WholeRow
namespace Go.Proofs.Ytcpojadinkonnaa
open Go.RowKit

theorem own_shortH {W : World} {b : Nat} {e : TypeId} {size n m c : Nat} {A : Option Addr} {xs ys : List Value} (h : W.ownsRow b e size (.slice A n c) n (xs ++ ys)) (hm : xs.length = m * size) (hle : m ≤ n) (hn : 0 < n) : W.ownsRow b e size (.slice A m c) m xs := by
  refine ⟨hm, ?_⟩
  rcases h.2 with ⟨_, h0⟩ | ⟨g, cap, cur, hv, hb, hg, h1, h2, h3, h4⟩
  · omega
  · injection hv with hA _ hc
    subst hA hc
    refine .inr ⟨g, c, cur, rfl, hb, hg, by omega, h2, h3, ?_⟩
    have : (cur.toList.take (n * size)).take (m * size) = xs := by rw [h4, ← hm, List.take_left']; rfl
    rw [List.take_take] at this
    rw [← this]
    congr 1
    exact (Nat.min_eq_left (Nat.mul_le_mul_right size hle)).symm
theorem own_cap {W : World} {b : Nat} {e : TypeId} {size n c : Nat} {A : Option Addr} {xs : List Value} (h : W.ownsRow b e size (.slice A n c) n xs) : n ≤ c ∧ c ≤ 9223372036854775807 := by
  rcases h.2 with ⟨hv, h0⟩ | ⟨g, cap, cur, hv, hb, hg, h1, h2, h3, h4⟩
  · injection hv with _ _ hc
    omega
  · injection hv with _ _ hc
    subst hc
    unfold maxLen at h2
    omega
theorem own_keepH {W W' : World} {b n : Nat} {v : Value} {e : TypeId} {xs : List Value} (h : W.ownsRow b e 2 v n xs) (hb : Below W.heap.size W W') : W'.ownsRow b e 2 v n xs :=
  World.ownsRow.kept (row := none) h ⟨hb.os, hb.tape, hb.output, hb.size, fun k hk _ => hb.block k hk⟩ (by cases v.ownBlock <;> simp)

theorem pop_len (p : Pt) : ∀ s : List Pt, (pop p s).length ≤ s.length
  | [] => Nat.le_refl _
  | [_] => Nat.le_refl _
  | v :: u :: s => by
    have ih := pop_len p (u :: s)
    show (if tr u v p ≤ 0 then pop p (u :: s) else v :: u :: s).length ≤ _
    split
    · rw [List.length_cons]; omega
    · exact Nat.le_refl _
theorem chain_len (l : List Pt) : (chainF l).length ≤ l.length := by
  refine snoc_ind (P := fun l => (chainF l).length ≤ l.length) (Nat.le_refl _) (fun l p ih => ?_) l
  rw [chainF_snoc, List.length_cons, List.length_append]
  have := pop_len p (chainF l)
  simp
  omega
theorem pop_mem {p x : Pt} : ∀ {s : List Pt}, x ∈ pop p s → x ∈ s
  | [], h => h
  | [_], h => h
  | v :: u :: s, h => by
    have h' : x ∈ (if tr u v p ≤ 0 then pop p (u :: s) else v :: u :: s) := h
    split at h'
    · exact List.mem_cons_of_mem _ (pop_mem h')
    · exact h'
theorem chain_mem (l : List Pt) : ∀ x ∈ chainF l, x ∈ l := by
  refine snoc_ind (P := fun l => ∀ x ∈ chainF l, x ∈ l) (fun x hx => hx) (fun l p ih => ?_) l
  intro x hx
  rw [chainF_snoc] at hx
  rcases List.mem_cons.1 hx with rfl | hx
  · simp
  · exact List.mem_append_left _ (ih x (pop_mem hx))

def lenOf : Value → Nat
  | .slice _ n _ => n
  | _ => 0
set_option maxHeartbeats 1000000 in
set_option maxRecDepth 100000 in
theorem chain_any (ps : List Pt) (hps : ∀ p ∈ ps, IPt p) (M : Nat) (A : Option Addr) (c n : Nat) (hn : ps.length = n) (hlen : n * 8 ≤ 140737488355328) (w : World) (hP : PtsAt M w (.slice A n c) ps) (hM : M ≤ w.heap.size) :
    Calls Try.prog 43 #[.slice A n c] w fun e w' => ∃ (A' : Option Addr) (c' m : Nat), e = .returned (.slice A' m c') ∧ (chainF ps).length = m ∧ w'.ownsRow w.heap.size 32 2 (.slice A' m c') m (flat (chainF ps).reverse) ∧ Below w.heap.size w w' := by
  have HP := Lib.hid (And.intro hP (And.intro hn hps))
  clear hP hn hps
  go_enter Try.func43, Try.ntmps43
  go_wp2_with fail
  go_loopw [3, 8] (fun o i wr => ∃ (k co m : Nat) (Ao : Option Addr), k ≤ n ∧ i = .int .i64 (k : Int) ∧ o = .slice Ao m co ∧ (chainF (ps.take k)).length = m ∧ wr.ownsRow w.heap.size 32 2 (.slice Ao m co) m (flat (chainF (ps.take k)).reverse) ∧ Below w.heap.size w wr) (fun _ i _ => n - (intOf i).toNat)
  case atStart => exact ⟨0, 0, 0, none, by omega, rfl, rfl, rfl, World.ownsRow_nil _ _ _ _, Below.refl _ _⟩
  case round =>
    obtain ⟨k, co, m, Ao, hk, rfl, rfl, hm, hown, hB⟩ := hrel
    have hz := hB.size
    have hmk : m ≤ k := by
      have := chain_len (ps.take k)
      rw [List.length_take] at this
      omega
    rcases Nat.lt_or_ge k n with hlt | hge
    · have hkI : (k : Int) < (n : Int) := by omega
      obtain ⟨b, off, rfl, hb, hc⟩ : ∃ b off, A = some ⟨b, off, none⟩ ∧ b < M ∧ ∀ k, k < ps.length → w.cell? ⟨b, off + k * 2, none⟩ = some (.int .i32 (gp ps k).1) ∧ w.cell? ⟨b, off + k * 2 + 1, none⟩ = some (.int .i32 (gp ps k).2) := by
        rcases HP.out.1 with ⟨⟨A0, c0, _⟩, he⟩ | ⟨b, off, cap, he, hb, hc⟩
        · have := HP.out.2.1; rw [he] at this; simp at this; omega
        · injection he with he1 he2 he3
          exact ⟨b, off, he1, hb, hc⟩
      have hkp : k < ps.length := by rw [HP.out.2.1]; exact hlt
      have c1 := (hB.cell (p := ⟨b, off + k * 2, none⟩) (show b < w.heap.size by omega)).trans (hc k hkp).1
      have c2 := (hB.cell (p := ⟨b, off + k * 2 + 1, none⟩) (show b < w.heap.size by omega)).trans (hc k hkp).2
      have hpI : IPt (gp ps k) := gp_i HP.out.2.2 k
      have hst : chainF (ps.take (k + 1)) = gp ps k :: pop (gp ps k) (chainF (ps.take k)) := by rw [take_gp hkp, chainF_snoc]
      obtain ⟨p, hp⟩ : ∃ p, gp ps k = p := ⟨_, rfl⟩
      rw [hp] at c1 c2 hpI hst
      obtain ⟨st, hst0⟩ : ∃ s, chainF (ps.take k) = s := ⟨_, rfl⟩
      have hsm : ∀ x ∈ st, IPt x := fun x hx => HP.out.2.2 x (List.mem_of_mem_take (chain_mem (ps.take k) x (by rw [hst0]; exact hx)))
      rw [hst0] at hst hm hown
      have HS := Lib.hid (And.intro hst (And.intro hm hsm))
      have HO := Lib.hid (And.intro hown hB)
      clear hc hp hst hst0 hown hm hsm
      go_wp2_with fail
      refine wp_gen (fun W0 hW0 => ?_)
      obtain ⟨X, hX⟩ : ∃ X, wr.heap.size = X := ⟨_, rfl⟩
      have hXw : w.heap.size ≤ X := by omega
      have vX : Var W0 X 32 #[.int .i32 p.1, .int .i32 p.2] := by rw [hW0, ← hX]; exact Var.new _ _ _
      have hb0 : Below wr.heap.size wr W0 := by rw [hW0]; go_grown
      have hown0 := own_keepH HO.out.1 hb0
      have hB0 := HO.out.2.trans (hb0.mono hz)
      rw [hX]
      clear hW0 hb0 hX c1 c2 hB hz HO
      go_loopw [3] (fun o wr => ∃ (t : List Pt) (m1 co1 : Nat) (A1 : Option Addr), o = .slice A1 m1 co1 ∧ t.length = m1 ∧ m1 ≤ m ∧ pop p t = pop p st ∧ (∀ x ∈ t, IPt x) ∧ wr.ownsRow w.heap.size 32 2 (.slice A1 m1 co1) m1 (flat t.reverse) ∧ Var wr X 32 #[.int .i32 p.1, .int .i32 p.2] ∧ Below w.heap.size w wr) (fun o _ => lenOf o)
      case atStart => exact ⟨st, m, co, Ao, rfl, HS.out.2.1, Nat.le_refl _, rfl, HS.out.2.2, hown0, vX, hB0⟩
      case round =>
        obtain ⟨t, m1, co1, A1, rfl, hm1, hm1m, hpop, htI, hown, hvX, hB⟩ := hrel
        clear vX hown0 hB0
        have hz := hB.size
        have x0 : wr.cell? ⟨X, 0, none⟩ = some (.int .i32 p.1) := hvX.cell 0
        have x1 : wr.cell? ⟨X, 1, none⟩ = some (.int .i32 p.2) := hvX.cell 1
        have hXz := hvX.lt
        have HR := Lib.hid (And.intro hpop (And.intro hown (And.intro hvX htI)))
        have hcap := own_cap hown
        clear hpop hvX
        rcases Nat.lt_or_ge 1 m1 with h1 | h1
        · obtain ⟨v, u, s, rfl⟩ : ∃ v u s, t = v :: u :: s := by
            match t, hm1 with
            | v :: u :: s, _ => exact ⟨v, u, s, rfl⟩
            | [_], e => simp at e; omega
            | [], e => simp at e; omega
          obtain ⟨q, hq⟩ : ∃ q, (u :: s).length = q := ⟨_, rfl⟩
          obtain ⟨r, hr⟩ : ∃ r, s.length = r := ⟨_, rfl⟩
          have hqr : q = r + 1 := by rw [← hq, ← hr]; rfl
          have hmq : m1 = q + 1 := by rw [← hm1, ← hq]; rfl
          obtain ⟨g, rfl, _, hgz, hfz, hcell⟩ := own_cells hown (by omega)
          have cv := hcell q (by rw [List.length_reverse]; omega)
          have cu := hcell r (by rw [List.length_reverse]; omega)
          rw [show gp (v :: u :: s).reverse q = v by unfold gp; rw [List.reverse_cons, List.getElem?_append_right (by rw [List.length_reverse]; omega), List.length_reverse, hq, Nat.sub_self]; rfl] at cv
          rw [show gp (v :: u :: s).reverse r = u by unfold gp; rw [List.reverse_cons, List.getElem?_append_left (by rw [List.length_reverse]; omega), List.reverse_cons, List.getElem?_append_right (by rw [List.length_reverse]; omega), List.length_reverse, hr, Nat.sub_self]; rfl] at cu
          obtain ⟨cv0, cv1⟩ := cv
          obtain ⟨cu0, cu1⟩ := cu
          have hw1 : IntKind.i64.wrap ((m1 : Int) - 1) = (q : Int) := by simp only [IntKind.wrap, IntKind.signed, IntKind.bits]; simp; omega
          have hw2 : IntKind.i64.wrap ((m1 : Int) - 2) = (r : Int) := by simp only [IntKind.wrap, IntKind.signed, IntKind.bits]; simp; omega
          have hqI : (q : Int) < (m1 : Int) := by omega
          have hrI : (r : Int) < (m1 : Int) := by omega
          have d1 : decide ((1 : Int) < (m1 : Int)) = true := decide_eq_true (by omega)
          have d2 : decide (1 < m1) = true := decide_eq_true h1
          have dn1 : decide ((q : Int) < 0) = false := decide_eq_false (by omega)
          have dn2 : decide ((r : Int) < 0) = false := decide_eq_false (by omega)
          have hT := fun W => turn_any u.1 u.2 v.1 v.2 p.1 p.2 (htI u (by simp)).1 (htI u (by simp)).2 (htI v (by simp)).1 (htI v (by simp)).2 hpI.1 hpI.2 W
          obtain ⟨T, hTe⟩ : ∃ T, tr u v p = T := ⟨_, rfl⟩
          have HT := Lib.hid (show ∀ W, Calls _ _ _ W _ from hT)
          unfold tr at hTe
          rw [hTe] at HT
          clear hT hcell hown htI
          have HQ := Lib.hid (And.intro hq (And.intro hr (And.intro hqr (And.intro hmq (And.intro hm1 hTe)))))
          clear hq hr hm1 hTe
          rcases Int.lt_or_le 0 T with hTp | hTp
          · have dT : decide (T ≤ 0) = false := decide_eq_false (by omega)
            have hm1 := HQ.out.2.2.2.2.1
            have hfin : pop p (v :: u :: s) = v :: u :: s := if_neg (by have : tr u v p = T := HQ.out.2.2.2.2.2; omega)
            have HF := Lib.hid (And.intro hfin hm1)
            clear hqr hmq hfin hm1
            go_wp2_with fail
            have hq_wr := @wd_cell wr
            refine wp_region_wd (by kernel_rfl) (by kernel_rfl) ?_
            repeat (go_big_quiet_step ((first | (go_at_call 47; with_reducible exact quiet_wd (HT.out _)))))
            refine wpQuiet_nil ?_
            rintro w5 ⟨⟨wx, hb_w5⟩, hwx⟩
            obtain rfl : w5 = wx := hwx
            clear hq_wr
            have hz_w5 := hb_w5.size
            obtain ⟨hc_w5, hf_w5⟩ := bcell hb_w5
            have hB_w5 : Below w.heap.size w w5 := Below.trans (by go_grown) (hb_w5.mono (by go_size))
            have hs_w5_0 : g < w5.heap.size := Nat.lt_of_lt_of_le (by assumption) hb_w5.size
            have hs_w5_1 : X < w5.heap.size := Nat.lt_of_lt_of_le (by assumption) hb_w5.size
            have hm1 := HF.out.2
            have hfin := HF.out.1
            have hb5 := hb_w5
            have hown5 := own_keepH HR.out.2.1 hb_w5
            have hvX5 := HR.out.2.2.1.keep hb_w5
            have hB5 := hB.trans (hb_w5.mono hz)
            have y0 : w5.cell? ⟨X, 0, none⟩ = some (.int .i32 p.1) := hvX5.cell 0
            have y1 : w5.cell? ⟨X, 1, none⟩ = some (.int .i32 p.2) := hvX5.cell 1
            have hXz5 := hvX5.lt
            have hz5 := hB5.size
            clear hb5 hb_w5 hc_w5 hf_w5 hB_w5 x0 x1
            go_wp2_with (at_builtin; refine wpList_push rfl (.tmp 37) (.tmp 39) 23 rfl eltP w.heap.size (some ⟨g, 0, none⟩) m1 co1 _ rfl hown5 [_, _] rfl rfl (two_cells rfl rfl) (le_maxLen (by omega)) (by omega) hz5 ?_; intro A' c' w' hown' hg')
            have hB6 := below_push hB5 hown5 (Nat.le_refl _) hz5 hg'
            have hend : chainF (ps.take (k + 1)) = p :: v :: u :: s := by rw [HS.out.1, ← HR.out.1, hfin]
            go_roundw
            case rel => exact ⟨k + 1, c', m1 + 1, A', by omega, by simp, rfl, by rw [hend, List.length_cons, hm1], by rw [hend, List.reverse_cons, flat_snoc]; exact hown', hB6⟩
            case measure => simp [intOf]; omega
          · have dT : decide (T ≤ 0) = true := decide_eq_true hTp
            have hqc : (q : Int) ≤ (co1 : Int) := by omega
            have hqc2 : q ≤ co1 := by omega
            have h0q : (0 : Int) ≤ (q : Int) := by omega
            clear hqr hmq
            go_wp2_with fail
            have hq_wr := @wd_cell wr
            refine wp_region_wd (by kernel_rfl) (by kernel_rfl) ?_
            repeat (go_big_quiet_step ((first | (go_at_call 47; with_reducible exact quiet_wd (HT.out _)))))
            refine wpQuiet_nil ?_
            rintro w5 ⟨⟨wx, hb_w5⟩, hwx⟩
            obtain rfl : w5 = wx := hwx
            clear hq_wr
            have hz_w5 := hb_w5.size
            obtain ⟨hc_w5, hf_w5⟩ := bcell hb_w5
            have hB_w5 : Below w.heap.size w w5 := Below.trans (by go_grown) (hb_w5.mono (by go_size))
            have hs_w5_0 : g < w5.heap.size := Nat.lt_of_lt_of_le (by assumption) hb_w5.size
            have hs_w5_1 : X < w5.heap.size := Nat.lt_of_lt_of_le (by assumption) hb_w5.size
            have hown5 := own_keepH HR.out.2.1 hb_w5
            have hvX5 := HR.out.2.2.1.keep hb_w5
            have hB5 := hB.trans (hb_w5.mono hz)
            have HE := Lib.hid (And.intro hown5 (And.intro hvX5 hB5))
            clear hb_w5 hc_w5 hf_w5 hB_w5 x0 x1 hown5 hvX5 hB5
            go_wp2_with fail
            go_roundw
            case rel =>
              have hqr := HQ.out.2.2.1
              have hmq := HQ.out.2.2.2.1
              refine ⟨u :: s, q, co1, some ⟨g, 0, none⟩, rfl, HQ.out.1, by omega, ?_, fun x hx => HR.out.2.2.2 x (List.mem_cons_of_mem _ hx), ?_, HE.out.2.1, HE.out.2.2⟩
              · rw [← HR.out.1]
                exact (if_pos (by have : tr u v p = T := HQ.out.2.2.2.2.2; omega)).symm
              · have := HE.out.1
                rw [List.reverse_cons, flat_snoc] at this
                exact own_shortH this (by rw [flat_length, List.length_reverse, HQ.out.1]) (by omega) (by omega)
            case measure => simp [lenOf]; have := HQ.out; omega
        · have d1 : decide ((1 : Int) < (m1 : Int)) = false := decide_eq_false (by omega)
          have d2 : decide (1 < m1) = false := decide_eq_false (by omega)
          have hfin : pop p t = t := by
            match t, hm1 with
            | [], _ => rfl
            | [_], _ => rfl
            | _ :: _ :: _, e => simp at e; omega
          have HF := Lib.hid (And.intro hfin hm1)
          clear hfin hm1
          go_wp2_with fail
          have hq_wr := @wd_cell wr
          refine wp_region_wd (by kernel_rfl) (by kernel_rfl) ?_
          repeat (go_big_quiet_step ((first | (fail))))
          refine wpQuiet_nil ?_
          rintro w5 ⟨⟨wx, hb_w5⟩, hwx⟩
          obtain rfl : w5 = wx := hwx
          clear hq_wr
          have hz_w5 := hb_w5.size
          obtain ⟨hc_w5, hf_w5⟩ := bcell hb_w5
          have hB_w5 : Below w.heap.size w w5 := Below.trans (by go_grown) (hb_w5.mono (by go_size))
          have hs_w5_0 : X < w5.heap.size := Nat.lt_of_lt_of_le (by assumption) hb_w5.size
          have hm1 := HF.out.2
          have hfin := HF.out.1
          have hb5 := hb_w5
          have hown5 := own_keepH HR.out.2.1 hb_w5
          have hvX5 := HR.out.2.2.1.keep hb_w5
          have hB5 := hB.trans (hb_w5.mono hz)
          have y0 : w5.cell? ⟨X, 0, none⟩ = some (.int .i32 p.1) := hvX5.cell 0
          have y1 : w5.cell? ⟨X, 1, none⟩ = some (.int .i32 p.2) := hvX5.cell 1
          have hXz5 := hvX5.lt
          have hz5 := hB5.size
          clear hb5 hb_w5 hc_w5 hf_w5 hB_w5 x0 x1
          go_wp2_with (at_builtin; refine wpList_push rfl (.tmp 37) (.tmp 39) 23 rfl eltP w.heap.size A1 m1 co1 _ rfl hown5 [_, _] rfl rfl (two_cells rfl rfl) (le_maxLen (by omega)) (by omega) hz5 ?_; intro A' c' w' hown' hg')
          have hB6 := below_push hB5 hown5 (Nat.le_refl _) hz5 hg'
          have hend : chainF (ps.take (k + 1)) = p :: t := by rw [HS.out.1, ← HR.out.1, hfin]
          go_roundw
          case rel => exact ⟨k + 1, c', m1 + 1, A', by omega, by simp, rfl, by rw [hend, List.length_cons, hm1], by rw [hend, List.reverse_cons, flat_snoc]; exact hown', hB6⟩
          case measure => simp [intOf]; omega
    · have hkn : k = n := by omega
      have hkI : ¬ (k : Int) < (n : Int) := by omega
      have htk : ps.take k = ps := List.take_of_length_le (by rw [HP.out.2.1]; omega)
      rw [htk] at hm hown
      have HE := Lib.hid (And.intro hm (And.intro hown hB))
      clear hm hown hB hkn htk
      go_wp2_with fail
      go_ret
      exact ⟨Ao, co, m, rfl, HE.out⟩

theorem flat_set : ∀ (R : List Pt) (k : Nat) (x : Pt), flat (R.set k x) = ((flat R).set (k * 2) (.int .i32 x.1)).set (k * 2 + 1) (.int .i32 x.2)
  | [], _, _ => rfl
  | _ :: R, 0, x => rfl
  | q :: R, k + 1, x => by
    have ih := flat_set R k x
    show .int .i32 q.1 :: .int .i32 q.2 :: flat (R.set k x) = _
    rw [ih, show (k + 1) * 2 = k * 2 + 1 + 1 by omega]
    rfl
theorem gp_set {R : List Pt} {k t : Nat} {x : Pt} (hk : k < R.length) : gp (R.set k x) t = if t = k then x else gp R t := by
  unfold gp
  rw [List.getElem?_set]
  by_cases h : k = t
  · subst h
    rw [if_pos rfl, if_pos hk, if_pos rfl]
    rfl
  · rw [if_neg h, if_neg (fun e => h e.symm)]
theorem gp_eq {ps qs : List Pt} (hl : ps.length = qs.length) (h : ∀ k, k < ps.length → gp ps k = gp qs k) : ps = qs := by
  refine List.ext_getElem hl fun i h1 h2 => ?_
  have := h i h1
  unfold gp at this
  rw [List.getElem?_eq_getElem h1, List.getElem?_eq_getElem h2] at this
  exact this
theorem gp_rev {qs : List Pt} {k : Nat} (h : k < qs.length) : gp qs.reverse k = gp qs (qs.length - 1 - k) := by
  unfold gp
  rw [List.getElem?_reverse h]

/-- A point of a row of one's own written over. -/
theorem own_set {W : World} {b n c g k : Nat} {R : List Pt} {e : TypeId} (h : W.ownsRow b e 2 (.slice (some ⟨g, 0, none⟩) n c) n (flat R)) (hR : R.length = n) (hk : k < n) (x : Pt) :
    ((W.setCell ⟨g, k * 2, none⟩ (.int .i32 x.1)).setCell ⟨g, k * 2 + 1, none⟩ (.int .i32 x.2)).ownsRow b e 2 (.slice (some ⟨g, 0, none⟩) n c) n (flat (R.set k x)) := by
  rw [flat_set]
  have hl : (flat R).length = n * 2 := by rw [flat_length, hR]
  exact own_store (own_store h (by omega)) (by rw [List.length_set]; omega)

theorem grown_setR (W : World) (g o : Nat) (v : Value) : W.grownBy (W.setCell ⟨g, o, none⟩ v) (some g) := ⟨rfl, rfl, rfl, by simp, fun k _ hne => Below.heap_setCell W ⟨g, o, none⟩ v k (fun e => hne (congrArg some e))⟩
theorem grown_drewR (W : World) (ob : Option Nat) : W.grownBy W.drew ob := ⟨rfl, rfl, rfl, Nat.le_refl _, fun _ _ _ => rfl⟩
theorem grown_compR {w a b : World} {ob : Option Nat} (h : w.grownBy a ob) (g : a.grownBy b ob) : w.grownBy b ob :=
  ⟨g.os.trans h.os, g.tape.trans h.tape, g.output.trans h.output, Nat.le_trans h.size g.size, fun k hk hne => (g.block k (Nat.lt_of_lt_of_le hk h.size) hne).trans (h.block k hk hne)⟩

set_option maxHeartbeats 1000000 in
set_option maxRecDepth 100000 in
theorem reverse_any (qs : List Pt) (base : Nat) (A : Option Addr) (c n : Nat) (hn : qs.length = n) (hlen : n * 8 ≤ 140737488355328) (w : World) (hown : w.ownsRow base 32 2 (.slice A n c) n (flat qs)) :
    Calls Try.prog 44 #[.slice A n c] w fun e w' => (∃ u, e = .returned u) ∧ w'.ownsRow base 32 2 (.slice A n c) n (flat qs.reverse) ∧ w.grownBy w' (Value.slice A n c).ownBlock := by
  rcases Nat.eq_zero_or_pos n with h0 | h0
  · subst h0
    obtain rfl : qs = [] := List.eq_nil_of_length_eq_zero hn
    have HO := Lib.hid hown
    clear hown
    go_enter Try.func44, Try.ntmps44
    go_wp2_with fail
    go_loopw [2, 3] (fun i j wr => i = .int .i64 0 ∧ j = .int .i64 (-1) ∧ wr = w) (fun _ _ _ => 0)
    case atStart => exact ⟨rfl, by first | rfl | simp [IntKind.wrap, IntKind.signed, IntKind.bits], rfl⟩
    case round =>
      obtain ⟨rfl, rfl, rfl⟩ := hrel
      go_wp2_with fail
      go_end0
      exact ⟨⟨_, rfl⟩, HO.out, World.grownBy.refl _ _⟩
  · obtain ⟨g, rfl, hg, hgw, _⟩ := own_cells hown (by omega)
    have HN := Lib.hid hn
    have hn1 : IntKind.i64.wrap ((n : Int) - 1) = (n : Int) - 1 := by simp only [IntKind.wrap, IntKind.signed, IntKind.bits]; simp; omega
    have HO := Lib.hid hown
    clear hown hn
    go_enter Try.func44, Try.ntmps44
    go_wp2_with fail
    go_loopw [2, 3] (fun i j wr => ∃ (k : Nat) (R : List Pt), 2 * k ≤ n ∧ i = .int .i64 (k : Int) ∧ j = .int .i64 ((n : Int) - 1 - (k : Int)) ∧ R.length = n ∧ (∀ t, t < n → gp R t = if t < k ∨ n - 1 - k < t then gp qs (n - 1 - t) else gp qs t) ∧ wr.ownsRow base 32 2 (.slice (some ⟨g, 0, none⟩) n c) n (flat R) ∧ w.grownBy wr (some g)) (fun i _ _ => n - (intOf i).toNat)
    case atStart => exact ⟨0, qs, by omega, rfl, by simp, HN.out, fun t ht => by rw [if_neg (by omega)], HO.out, World.grownBy.refl _ _⟩
    case round =>
      obtain ⟨k, R, hk, rfl, rfl, hR, hall, hown, hB⟩ := hrel
      have hz := hB.size
      have HA := Lib.hid (And.intro hR (And.intro hall (And.intro hown hB)))
      rcases Nat.lt_or_ge (2 * k + 1) n with hlt | hge
      · obtain ⟨m, hm⟩ : ∃ m, n - 1 - k = m := ⟨_, rfl⟩
        have hmI : (n : Int) - 1 - (k : Int) = (m : Int) := by omega
        have hkm : (k : Int) < (m : Int) := by omega
        have hkn : (k : Int) < (n : Int) := by omega
        have hmn : (m : Int) < (n : Int) := by omega
        rw [hmI]
        obtain ⟨_, e0, _, hgz, hfz, hcell⟩ := own_cells hown h0
        injection e0 with e0
        injection e0 with e0
        subst e0
        obtain ⟨a0, a1⟩ := hcell k (by omega)
        obtain ⟨b0, b1⟩ := hcell m (by omega)
        obtain ⟨p, hp⟩ : ∃ p, gp R k = p := ⟨_, rfl⟩
        obtain ⟨q, hq⟩ : ∃ q, gp R m = q := ⟨_, rfl⟩
        rw [hp] at a0 a1
        rw [hq] at b0 b1
        have g1 := hfz (k * 2)
        have g2 := hfz (k * 2 + 1)
        have g3 := hfz (m * 2)
        have g4 := hfz (m * 2 + 1)
        obtain ⟨u1, k1⟩ := cell?_setCell_some (p := ⟨g, k * 2, none⟩) (x := .int .i32 q.1) a1
        obtain ⟨u2, k2⟩ := cell?_setCell_some (p := ⟨g, k * 2, none⟩) (x := .int .i32 q.1) b0
        obtain ⟨u3, k3⟩ := cell?_setCell_some (p := ⟨g, k * 2 + 1, none⟩) (x := .int .i32 q.2) k2
        obtain ⟨u4, k4⟩ := cell?_setCell_some (p := ⟨g, k * 2, none⟩) (x := .int .i32 q.1) b1
        obtain ⟨u5, k5⟩ := cell?_setCell_some (p := ⟨g, k * 2 + 1, none⟩) (x := .int .i32 q.2) k4
        obtain ⟨u6, k6⟩ := cell?_setCell_some (p := ⟨g, m * 2, none⟩) (x := .int .i32 p.1) k5
        have HQ := Lib.hid (And.intro hp (And.intro hq hm))
        have hm1 : IntKind.i64.wrap ((m : Int) - 1) = (n : Int) - 1 - ((k + 1 : Nat) : Int) := by simp only [IntKind.wrap, IntKind.signed, IntKind.bits]; simp; omega
        have own2 := own_set (own_set hown hR (show k < n by omega) q) (by rw [List.length_set]; exact hR) (show m < n by omega) p
        have hB2 : w.grownBy ((((wr.setCell ⟨g, k * 2, none⟩ (.int .i32 q.1)).setCell ⟨g, k * 2 + 1, none⟩ (.int .i32 q.2)).setCell ⟨g, m * 2, none⟩ (.int .i32 p.1)).setCell ⟨g, m * 2 + 1, none⟩ (.int .i32 p.2)).drew (some g) :=
          grown_compR hB (grown_compR (grown_setR wr g (k * 2) _) (grown_compR (grown_setR _ g (k * 2 + 1) _) (grown_compR (grown_setR _ g (m * 2) _) (grown_compR (grown_setR _ g (m * 2 + 1) _) (grown_drewR _ _)))))
        have HE := Lib.hid (And.intro (World.ownsRow.drew own2) hB2)
        clear hcell hp hq hm hR hall hown own2 hB2
        go_wp2_with fail
        go_region
        go_wp2_with fail
        go_roundw
        case rel =>
          obtain ⟨hp, hq, hm⟩ := HQ.out
          refine ⟨k + 1, (R.set k q).set m p, by omega, by simp, by first | rfl | (rw [hm1]), by rw [List.length_set, List.length_set]; exact HA.out.1, fun t ht => ?_, HE.out⟩
          have hR := HA.out.1
          have hall := HA.out.2.1
          rw [gp_set (by rw [List.length_set]; omega), gp_set (by omega)]
          by_cases h1 : t = m
          · rw [if_pos h1, if_pos (by omega), ← hp, hall k (by omega), if_neg (by omega)]
            rw [show n - 1 - t = k by omega]
          · rw [if_neg h1]
            by_cases h2 : t = k
            · rw [if_pos h2, if_pos (by omega), ← hq, hall m (by omega), if_neg (by omega)]
              rw [show n - 1 - t = m by omega]
            · rw [if_neg h2, hall t ht]
              by_cases h3 : t < k ∨ n - 1 - k < t
              · rw [if_pos h3, if_pos (by omega)]
              · rw [if_neg h3, if_neg (by omega)]
        case measure => simp [intOf]; omega
      · have hkm : ¬ (k : Int) < (n : Int) - 1 - (k : Int) := by omega
        have hfin : R = qs.reverse := gp_eq (by rw [hR, List.length_reverse, HN.out]) fun t ht => by
          rw [hR] at ht
          rw [gp_rev (by rw [HN.out]; exact ht), HN.out, hall t ht]
          by_cases h : t < k ∨ n - 1 - k < t
          · rw [if_pos h]
          · rw [if_neg h, show n - 1 - t = t by omega]
        subst hfin
        clear hR hall hown hB
        go_wp2_with fail
        go_end0
        exact ⟨⟨_, rfl⟩, HA.out.2.2⟩

theorem run_clear_pts (w : World) (b o n c : Nat) (hn : 0 < n) (hc : ∀ j, j < n * 2 → (w.cell? ⟨b, o + j, none⟩).isSome = true) (hf : ∀ j, j < n * 2 → w.frozen? ⟨b, o + j, none⟩ = false) :
    ∃ vs : List Value, vs.length = n * 2 ∧ ∀ ty, (Builtin.clear_ #[23] ty #[.slice (some ⟨b, o, none⟩) n c]).run Try.prog w = .ok (.tuple #[]) (w.setCells b o vs) := by
  have HZ : ∀ W, (zeroValue 32).run Try.prog W = .ok (.agg #[.int .i32 0, .int .i32 0]) W := (zero_of_info (P := Try.prog) (t := 32) (v := .agg #[.int .i32 0, .int .i32 0]) (n := 2) (by kernel_rfl)).1
  obtain ⟨vs, hvs⟩ : ∃ vs, (Builtin.zeroCells (Value.agg #[.int .i32 0, .int .i32 0]).cells n).toList = vs := ⟨_, rfl⟩
  have hl : vs.length = n * 2 := by rw [← hvs]; simp [Builtin.zeroCells, Value.cells]
  have h1 : ∀ v ∈ vs, v.oneCell' = true := fun v hv => by
    rw [← hvs] at hv
    have hcs : (Value.agg #[.int .i32 0, .int .i32 0]).cells = #[.int .i32 0, .int .i32 0] := by kernel_rfl
    rw [hcs] at hv
    unfold Builtin.zeroCells at hv
    rw [Array.mem_toList_iff, Array.mem_map] at hv
    obtain ⟨i, _, rfl⟩ := hv
    rcases Nat.mod_two_eq_zero_or_one i with h | h
    · rw [show i % (#[Value.int IntKind.i32 0, Value.int IntKind.i32 0] : Array Value).size = 0 from h]; rfl
    · rw [show i % (#[Value.int IntKind.i32 0, Value.int IntKind.i32 0] : Array Value).size = 1 from h]; rfl
  have hst := run_storeCells_cells (P := Try.prog) b o vs 0 w (by rw [hl]; simpa using hc) (by rw [hl]; simpa using hf) h1
  simp only [Nat.add_zero] at hst
  refine ⟨vs, hl, fun ty => ?_⟩
  obtain ⟨m, rfl⟩ : ∃ m, n = m + 1 := ⟨n - 1, by omega⟩
  simp [Builtin.clear_, run_underlying Try.underlying23, HZ, hvs, hst]

theorem own_cells_set {b n c g : Nat} {e : TypeId} : ∀ (vs : List Value) (o : Nat) (W : World) (xs : List Value), W.ownsRow b e 2 (.slice (some ⟨g, 0, none⟩) n c) n xs → o + vs.length ≤ xs.length →
    ∃ ys, (W.setCells g o vs).ownsRow b e 2 (.slice (some ⟨g, 0, none⟩) n c) n ys ∧ ys.take o = xs.take o ∧ ∀ base w0, Below base w0 W → base ≤ g → Below base w0 (W.setCells g o vs)
  | [], o, W, xs, h, _ => ⟨xs, h, rfl, fun _ _ hb _ => hb⟩
  | v :: vs, o, W, xs, h, hl => by
    simp only [List.length_cons] at hl
    obtain ⟨ys, h1, h2, h3⟩ := own_cells_set vs (o + 1) (W.setCell ⟨g, o, none⟩ v) (xs.set o v) (own_store h (by omega)) (by rw [List.length_set]; omega)
    refine ⟨ys, h1, ?_, fun base w0 hb hg => h3 base w0 (hb.setCell (p := ⟨g, o, none⟩) hg v) hg⟩
    have := congrArg (List.take o) h2
    rw [List.take_take, List.take_take, Nat.min_eq_left (by omega)] at this
    rw [this, List.take_set_of_le (Nat.le_refl _)]

theorem flat_app : ∀ a b : List Pt, flat (a ++ b) = flat a ++ flat b
  | [], _ => rfl
  | p :: a, b => by
    have ih := flat_app a b
    show .int .i32 p.1 :: .int .i32 p.2 :: flat (a ++ b) = _
    rw [ih]
    rfl
theorem flat_take (R : List Pt) (k : Nat) (h : k ≤ R.length) : (flat R).take (k * 2) = flat (R.take k) := by
  have : flat R = flat (R.take k) ++ flat (R.drop k) := by rw [← flat_app, List.take_append_drop]
  rw [this, List.take_left']
  rw [flat_length, List.length_take]
  omega
theorem take_set_succ {R : List Pt} {k : Nat} {x : Pt} (h : k < R.length) : (R.set k x).take (k + 1) = R.take k ++ [x] := by
  rw [take_gp (by rw [List.length_set]; exact h), List.take_set_of_le (Nat.le_refl _), gp_set h, if_pos rfl]
theorem dd_short {qs : List Pt} (h : qs.length < 2) : dd qs = qs := by
  match qs, h with
  | [], _ => rfl
  | [_], _ => rfl
  | _ :: _ :: _, h => simp at h; omega

set_option maxHeartbeats 1000000 in
set_option maxRecDepth 100000 in
theorem compact_any (qs : List Pt) (base : Nat) (A : Option Addr) (c n : Nat) (hn : qs.length = n) (hlen : n * 8 ≤ 140737488355328) (w : World) (hown : w.ownsRow base 32 2 (.slice A n c) n (flat qs)) (hbw : base ≤ w.heap.size) :
    Calls Try.prog 41 #[.slice A n c] w fun e w' => ∃ m, e = .returned (.slice A m c) ∧ (dd qs).length = m ∧ w'.ownsRow base 32 2 (.slice A m c) m (flat (dd qs)) ∧ Below base w w' := by
  rcases Nat.lt_or_ge n 2 with h2 | h2
  · have HO := Lib.hid (And.intro hown (And.intro hn (dd_short (qs := qs) (by omega))))
    have hI : (n : Int) < 2 := by omega
    clear hown hn
    go_enter Try.func41, Try.ntmps41
    go_wp2_with fail
    go_ret
    exact ⟨n, rfl, by rw [HO.out.2.2, HO.out.2.1], by rw [HO.out.2.2]; exact HO.out.1, Below.refl _ _⟩
  · obtain ⟨g, rfl, hg, hgw, _⟩ := own_cells hown (by omega)
    obtain ⟨hnc, hcm⟩ := own_cap hown
    have HN := Lib.hid hn
    have HO := Lib.hid hown
    have hI : ¬ (n : Int) < 2 := by omega
    clear hown hn
    go_enter Try.func41, Try.ntmps41
    go_wp2_with fail
    go_loopw [3] (fun i wr => ∃ (k : Nat), 1 ≤ k ∧ k ≤ n ∧ i = .int .i64 (k : Int) ∧ dd (qs.take k) = qs.take k ∧ Below w.heap.size w wr) (fun i _ => n - (intOf i).toNat)
    case atStart => exact ⟨1, by omega, by omega, rfl, by rw [dd_one (by rw [HN.out]; omega), take_gp (by rw [HN.out]; omega)]; rfl, Below.refl _ _⟩
    case round =>
      obtain ⟨k, h1k, hk, rfl, hall, hB⟩ := hrel
      have hz := hB.size
      have hown := own_keepH HO.out hB
      have HA := Lib.hid (And.intro hall (And.intro hown hB))
      rcases Nat.lt_or_ge k n with hlt | hge
      · obtain ⟨j, hj⟩ : ∃ j, k = j + 1 := ⟨k - 1, by omega⟩
        obtain ⟨_, e0, _, hgz, hfz, hcell⟩ := own_cells hown (by omega)
        injection e0 with e0
        injection e0 with e0
        subst e0
        obtain ⟨a0, a1⟩ := hcell k (by rw [HN.out]; exact hlt)
        obtain ⟨b0, b1⟩ := hcell j (by rw [HN.out]; omega)
        obtain ⟨⟨x, y⟩, hp⟩ : ∃ p, gp qs k = p := ⟨_, rfl⟩
        obtain ⟨⟨x', y'⟩, hq⟩ : ∃ q, gp qs j = q := ⟨_, rfl⟩
        rw [hp] at a0 a1
        rw [hq] at b0 b1
        dsimp only at a0 a1 b0 b1
        have hkI : (k : Int) < (n : Int) := by omega
        have hjI : (j : Int) < (n : Int) := by omega
        have hwj : IntKind.i64.wrap ((k : Int) - 1) = (j : Int) := by simp only [IntKind.wrap, IntKind.signed, IntKind.bits]; simp; omega
        have dj : decide ((j : Int) < 0) = false := decide_eq_false (by omega)
        have dk : decide ((k : Int) < 0) = false := decide_eq_false (by omega)
        have HX := Lib.hid (And.intro hp (And.intro hq hj))
        have hnew : (x, y) ≠ (x', y') → dd (qs.take (k + 1)) = qs.take (k + 1) := fun h => by
          rw [dd_new (by omega) (by rw [HN.out]; exact hlt) (by rw [hp, show k - 1 = j by omega, hq]; exact h), HA.out.1, take_gp (by rw [HN.out]; exact hlt)]
        have HNw := Lib.hid hnew
        clear hall hown hcell hp hq hj hnew hfz
        rcases Decidable.em (x = x') with hxx | hxx
        · subst hxx
          rcases Decidable.em (y = y') with hyy | hyy
          · subst hyy
            go_wp2_with fail
            have hq_wr := @wd_cell wr
            refine wp_region_wd (by kernel_rfl) (by kernel_rfl) ?_
            repeat (go_big_quiet_step ((first | (fail))))
            refine wpQuiet_nil ?_
            rintro w5 ⟨⟨wx, hb_w5⟩, hwx⟩
            obtain rfl : w5 = wx := hwx
            clear hq_wr
            have hz_w5 := hb_w5.size
            obtain ⟨hc_w5, hf_w5⟩ := bcell hb_w5
            have hB_w5 : Below w.heap.size w w5 := Below.trans (by go_grown) (hb_w5.mono (by go_size))
            have hs_w5_0 : g < w5.heap.size := Nat.lt_of_lt_of_le (by assumption) hb_w5.size
            have hnc1 : (k : Int) ≤ (n : Int) := by omega
            have hkc : (k : Int) ≤ (c : Int) := by omega
            have hnc2 : (n : Int) ≤ (c : Int) := by omega
            have h5 := own_keepH HA.out.2.1 hb_w5
            have hB5 := hB.trans (hb_w5.mono hz)
            have H5 := Lib.hid (And.intro h5 hB5)
            clear h5 hB5 hb_w5 hc_w5 hf_w5 hB_w5 a0 a1 b0 b1
            go_wp2_with fail
            obtain ⟨r, hr⟩ : ∃ r, n - k = r := ⟨_, rfl⟩
            obtain ⟨cr', hcr⟩ : ∃ r, c - k = r := ⟨_, rfl⟩
            rw [hr, hcr]
            have h0 : dd (qs.take (k + 1)) = qs.take k := by
              rw [dd_same (by omega) (by rw [HN.out]; exact hlt) (by rw [HX.out.1, show k - 1 = j by have := HX.out.2.2; omega, HX.out.2.1]), HA.out.1]
            have HZ := Lib.hid (And.intro h0 (And.intro hr hcr))
            have hr1 : 1 ≤ r := by omega
            have hr8 : r ≤ 17592186044416 := by omega
            clear h0 hr hcr hwj dj dk hjI hnc1 HNw
            go_loopw [3, 5] (fun i3 i5 wr => ∃ (kk k2 : Nat) (R : List Pt), i3 = .int .i64 (kk : Int) ∧ i5 = .int .i64 (k2 : Int) ∧ 1 ≤ k2 ∧ k2 ≤ r ∧ kk + 1 ≤ k + k2 ∧ R.length = n ∧ R.take kk = dd (qs.take (k + k2)) ∧ (∀ j, k + k2 - 1 ≤ j → j < n → gp R j = gp qs j) ∧ wr.ownsRow base 32 2 (.slice (some ⟨g, 0, none⟩) n c) n (flat R) ∧ Below base w wr) (fun _ i5 _ => r - (intOf i5).toNat)
            case atStart => exact ⟨k, 1, qs, rfl, rfl, by omega, hr1, by omega, HN.out, HZ.out.1.symm, fun _ _ _ => rfl, H5.out.1, H5.out.2.mono hbw⟩
            case round =>
              obtain ⟨kk, k2, R, rfl, rfl, h12, h2r, hkk, hR, htk, hhi, hown, hB⟩ := hrel
              have hz := hB.size
              have hrn : k + r = n := by have := HZ.out.2.1; omega
              have hrc : k + cr' = c := by have := HZ.out.2.2; omega
              have HA2 := Lib.hid (And.intro hR (And.intro htk (And.intro hhi (And.intro hown hB))))
              rcases Nat.lt_or_ge k2 r with hlt2 | hge2
              · obtain ⟨j2, hj2⟩ : ∃ j2, k2 = j2 + 1 := ⟨k2 - 1, by omega⟩
                obtain ⟨_, e0, _, hgz, hfz, hcell⟩ := own_cells hown (by omega)
                injection e0 with e0
                injection e0 with e0
                subst e0
                obtain ⟨a0, a1⟩ := hcell (k + k2) (by omega)
                obtain ⟨b0, b1⟩ := hcell (k + j2) (by omega)
                rw [hhi (k + k2) (by omega) (by omega), show (k + k2) * 2 = k * 2 + k2 * 2 by omega] at a0 a1
                rw [hhi (k + j2) (by omega) (by omega), show (k + j2) * 2 = k * 2 + j2 * 2 by omega] at b0 b1
                obtain ⟨⟨x2, y2⟩, hp⟩ : ∃ p, gp qs (k + k2) = p := ⟨_, rfl⟩
                obtain ⟨⟨x3, y3⟩, hq⟩ : ∃ q, gp qs (k + j2) = q := ⟨_, rfl⟩
                rw [hp] at a0 a1
                rw [hq] at b0 b1
                dsimp only at a0 a1 b0 b1
                have hkI2 : (k2 : Int) < (r : Int) := by omega
                have hjI2 : (j2 : Int) < (r : Int) := by omega
                have hkkI : (kk : Int) < (n : Int) := by omega
                have hwj : IntKind.i64.wrap ((k2 : Int) - 1) = (j2 : Int) := by simp only [IntKind.wrap, IntKind.signed, IntKind.bits]; simp; omega
                have dj : decide ((j2 : Int) < 0) = false := decide_eq_false (by omega)
                have dk : decide ((k2 : Int) < 0) = false := decide_eq_false (by omega)
                have HX2 := Lib.hid (And.intro hp (And.intro hq (And.intro hj2 (And.intro hrn hrc))))
                have hnew : (x2, y2) ≠ (x3, y3) → dd (qs.take (k + (k2 + 1))) = dd (qs.take (k + k2)) ++ [(x2, y2)] := fun h => by
                  rw [← Nat.add_assoc, dd_new (by omega) (by rw [HN.out]; omega) (by rw [hp, show k + k2 - 1 = k + j2 by omega, hq]; exact h), hp]
                have hold : (x2, y2) = (x3, y3) → dd (qs.take (k + (k2 + 1))) = dd (qs.take (k + k2)) := fun h => by
                  rw [← Nat.add_assoc, dd_same (by omega) (by rw [HN.out]; omega) (by rw [hp, show k + k2 - 1 = k + j2 by omega, hq]; exact h)]
                have HNw := Lib.hid (And.intro hnew hold)
                clear hown hcell hp hq hj2 hnew hold hfz hR htk hhi hrn hrc
                have STEP : (x2, y2) ≠ (x3, y3) → ∀ W5, Below wr.heap.size wr W5 → ∃ v0 v1 u, W5.cell? ⟨g, kk * 2, none⟩ = some v0 ∧ W5.cell? ⟨g, kk * 2 + 1, none⟩ = some v1 ∧ (W5.setCell ⟨g, kk * 2, none⟩ (.int .i32 x2)).cell? ⟨g, kk * 2 + 1, none⟩ = some u ∧ W5.frozen? ⟨g, kk * 2, none⟩ = false ∧ W5.frozen? ⟨g, kk * 2 + 1, none⟩ = false ∧ W5.cell? ⟨g, k * 2 + k2 * 2, none⟩ = some (.int .i32 x2) ∧ W5.cell? ⟨g, k * 2 + k2 * 2 + 1, none⟩ = some (.int .i32 y2) ∧
                    ∃ R' : List Pt, R'.length = n ∧ R'.take (kk + 1) = dd (qs.take (k + (k2 + 1))) ∧ (∀ j, k + (k2 + 1) - 1 ≤ j → j < n → gp R' j = gp qs j) ∧ ((W5.setCell ⟨g, kk * 2, none⟩ (.int .i32 x2)).setCell ⟨g, kk * 2 + 1, none⟩ (.int .i32 y2)).ownsRow base 32 2 (.slice (some ⟨g, 0, none⟩) n c) n (flat R') ∧ Below base w ((W5.setCell ⟨g, kk * 2, none⟩ (.int .i32 x2)).setCell ⟨g, kk * 2 + 1, none⟩ (.int .i32 y2)) := fun hne W5 hb5 => by
                  obtain ⟨hR, htk, hhi, hown, hB'⟩ := HA2.out
                  obtain ⟨hp, hq, hj2, hrn, hrc⟩ := HX2.out
                  have own5 := own_keepH hown hb5
                  obtain ⟨_, e1, _, _, fz5, cell5⟩ := own_cells own5 (by omega)
                  injection e1 with e1
                  injection e1 with e1
                  subst e1
                  obtain ⟨v0, v1⟩ := cell5 kk (by omega)
                  obtain ⟨d0, d1⟩ := cell5 (k + k2) (by omega)
                  rw [hhi (k + k2) (by omega) (by omega), hp, show (k + k2) * 2 = k * 2 + k2 * 2 by omega] at d0 d1
                  obtain ⟨u, hu⟩ := cell?_setCell_some (p := ⟨g, kk * 2, none⟩) (x := .int .i32 x2) v1
                  refine ⟨_, _, u, v0, v1, hu, fz5 _, fz5 _, d0, d1, R.set kk (x2, y2), by rw [List.length_set]; exact hR, ?_, fun j h1 h3 => ?_, own_set own5 hR (by omega) (x2, y2), ?_⟩
                  · rw [take_set_succ (by omega), htk, HNw.out.1 hne]
                  · rw [gp_set (by omega), if_neg (by omega), hhi j (by omega) h3]
                  · exact ((hB'.trans (hb5.mono (Nat.le_trans hbw (Nat.le_trans (Nat.le_refl _) (by
                      have := hB'.size
                      omega))))).setCell (p := ⟨g, kk * 2, none⟩) hg _).setCell (p := ⟨g, kk * 2 + 1, none⟩) hg _
                have HST := Lib.hid STEP
                clear STEP
                rcases Decidable.em (x2 = x3) with hxx | hxx
                · subst hxx
                  rcases Decidable.em (y2 = y3) with hyy | hyy
                  · subst hyy
                    go_wp2_with fail
                    have hq_wr := @wd_cell wr
                    refine wp_region_wd (by kernel_rfl) (by kernel_rfl) ?_
                    repeat (go_big_quiet_step ((first | (fail))))
                    refine wpQuiet_nil ?_
                    rintro w6 ⟨⟨wx, hb_w6⟩, hwx⟩
                    obtain rfl : w6 = wx := hwx
                    clear hq_wr
                    have hz_w6 := hb_w6.size
                    obtain ⟨hc_w6, hf_w6⟩ := bcell hb_w6
                    have hs_w6_0 : g < w6.heap.size := Nat.lt_of_lt_of_le (by assumption) hb_w6.size
                    have HE := Lib.hid (And.intro (own_keepH HA2.out.2.2.2.1 hb_w6) (hB.trans (hb_w6.mono (by omega))))
                    clear hb_w6 hc_w6 hf_w6
                    go_wp2_with fail
                    go_roundw
                    case rel => exact ⟨kk, k2 + 1, R, rfl, by simp, by omega, by omega, by omega, HA2.out.1, by rw [HA2.out.2.1, HNw.out.2 (by trivial)], fun j h1 h3 => HA2.out.2.2.1 j (by omega) h3, HE.out⟩
                    case measure => simp [intOf]; omega
                  · have hne : (y2 == y3) = false := beq_eq_false_iff_ne.2 hyy
                    go_wp2_with fail
                    have hq_wr := @wd_cell wr
                    refine wp_region_wd (by kernel_rfl) (by kernel_rfl) ?_
                    repeat (go_big_quiet_step ((first | (fail))))
                    refine wpQuiet_nil ?_
                    rintro w6 ⟨⟨wx, hb_w6⟩, hwx⟩
                    obtain rfl : w6 = wx := hwx
                    clear hq_wr
                    have hz_w6 := hb_w6.size
                    obtain ⟨hc_w6, hf_w6⟩ := bcell hb_w6
                    have hs_w6_0 : g < w6.heap.size := Nat.lt_of_lt_of_le (by assumption) hb_w6.size
                    obtain ⟨v0, v1, u, e0, e1, e2, e3, e4, e5, e6, R', HR'⟩ := HST.out (fun e => hyy (by injection e)) w6 hb_w6
                    have HE := Lib.hid HR'
                    clear hb_w6 hc_w6 hf_w6 HR' a0 a1 b0 b1
                    go_wp2_with fail
                    go_roundw
                    case rel => exact ⟨kk + 1, k2 + 1, R', by simp, by simp, by omega, by omega, by omega, HE.out⟩
                    case measure => simp [intOf]; omega
                · have hne : (x2 == x3) = false := beq_eq_false_iff_ne.2 hxx
                  go_wp2_with fail
                  have hq_wr := @wd_cell wr
                  refine wp_region_wd (by kernel_rfl) (by kernel_rfl) ?_
                  repeat (go_big_quiet_step ((first | (fail))))
                  refine wpQuiet_nil ?_
                  rintro w6 ⟨⟨wx, hb_w6⟩, hwx⟩
                  obtain rfl : w6 = wx := hwx
                  clear hq_wr
                  have hz_w6 := hb_w6.size
                  obtain ⟨hc_w6, hf_w6⟩ := bcell hb_w6
                  have hs_w6_0 : g < w6.heap.size := Nat.lt_of_lt_of_le (by assumption) hb_w6.size
                  obtain ⟨v0, v1, u, e0, e1, e2, e3, e4, e5, e6, R', HR'⟩ := HST.out (fun e => hxx (by injection e)) w6 hb_w6
                  have HE := Lib.hid HR'
                  clear hb_w6 hc_w6 hf_w6 HR' a0 a1 b0 b1
                  go_wp2_with fail
                  go_roundw
                  case rel => exact ⟨kk + 1, k2 + 1, R', by simp, by simp, by omega, by omega, by omega, HE.out⟩
                  case measure => simp [intOf]; omega
              · have hkI2 : ¬ (k2 : Int) < (r : Int) := by omega
                have hkn : (kk : Int) < (n : Int) := by omega
                have hkc2 : (kk : Int) ≤ (c : Int) := by omega
                have hkn2 : (kk : Int) ≤ (n : Int) := by omega
                obtain ⟨_, e0, _, hgz, hfz, hcell⟩ := own_cells hown (by omega)
                injection e0 with e0
                injection e0 with e0
                subst e0
                obtain ⟨vs, hvl, hcl⟩ := run_clear_pts wr g (kk * 2) (n - kk) (c - kk) (by omega) (fun j hj => by
                  obtain ⟨h1, h3⟩ := hcell (kk + j / 2) (by omega)
                  rcases Nat.mod_two_eq_zero_or_one j with h4 | h4
                  · rw [show kk * 2 + j = (kk + j / 2) * 2 by omega, h1]; rfl
                  · rw [show kk * 2 + j = (kk + j / 2) * 2 + 1 by omega, h3]; rfl) (fun j _ => hfz _)
                obtain ⟨ys, o1, o2, o3⟩ := own_cells_set vs (kk * 2) wr (flat R) hown (by rw [hvl, flat_length, hR]; omega)
                have hfin : R.take kk = dd qs := by rw [htk, List.take_of_length_le (by rw [HN.out]; omega)]
                have hlen : (dd qs).length = kk := by rw [← hfin, List.length_take]; omega
                have hown2 : (wr.setCells g (kk * 2) vs).ownsRow base 32 2 (.slice (some ⟨g, 0, none⟩) kk c) kk (flat (dd qs)) := by
                  refine own_shortH (n := n) (xs := flat (dd qs)) (ys := ys.drop (kk * 2)) ?_ (by rw [flat_length, hlen]) (by omega) (by omega)
                  have : flat (dd qs) = ys.take (kk * 2) := by rw [o2, flat_take R kk (by omega), hfin]
                  rw [this, List.take_append_drop]
                  exact o1
                have HE := Lib.hid (And.intro hlen (And.intro hown2 (o3 base w hB hg)))
                clear o1 o2 o3 hown2 hlen hfin hcell hfz hown hhi htk hvl
                go_wp2_with fail
                go_ret
                exact ⟨kk, rfl, HE.out⟩
          · have hne : (y == y') = false := beq_eq_false_iff_ne.2 hyy
            go_wp2_with fail
            have hq_wr := @wd_cell wr
            refine wp_region_wd (by kernel_rfl) (by kernel_rfl) ?_
            repeat (go_big_quiet_step ((first | (fail))))
            refine wpQuiet_nil ?_
            rintro w5 ⟨⟨wx, hb_w5⟩, hwx⟩
            obtain rfl : w5 = wx := hwx
            clear hq_wr
            have hz_w5 := hb_w5.size
            obtain ⟨hc_w5, hf_w5⟩ := bcell hb_w5
            have hB_w5 : Below w.heap.size w w5 := Below.trans (by go_grown) (hb_w5.mono (by go_size))
            have hs_w5_0 : g < w5.heap.size := Nat.lt_of_lt_of_le (by assumption) hb_w5.size
            go_wp2_with fail
            go_roundw
            case rel => exact ⟨k + 1, by omega, by omega, by simp, HNw.out (fun e => hyy (by injection e)), hB.trans (hb_w5.mono hz)⟩
            case measure => simp [intOf]; omega
        · have hne : (x == x') = false := beq_eq_false_iff_ne.2 hxx
          go_wp2_with fail
          have hq_wr := @wd_cell wr
          refine wp_region_wd (by kernel_rfl) (by kernel_rfl) ?_
          repeat (go_big_quiet_step ((first | (fail))))
          refine wpQuiet_nil ?_
          rintro w5 ⟨⟨wx, hb_w5⟩, hwx⟩
          obtain rfl : w5 = wx := hwx
          clear hq_wr
          have hz_w5 := hb_w5.size
          obtain ⟨hc_w5, hf_w5⟩ := bcell hb_w5
          have hB_w5 : Below w.heap.size w w5 := Below.trans (by go_grown) (hb_w5.mono (by go_size))
          have hs_w5_0 : g < w5.heap.size := Nat.lt_of_lt_of_le (by assumption) hb_w5.size
          go_wp2_with fail
          go_roundw
          case rel => exact ⟨k + 1, by omega, by omega, by simp, HNw.out (fun e => hxx (by injection e)), hB.trans (hb_w5.mono hz)⟩
          case measure => simp [intOf]; omega
      · have hkI : ¬ (k : Int) < (n : Int) := by omega
        have hdd : dd qs = qs := by rw [List.take_of_length_le (by rw [HN.out]; exact hge)] at hall; exact hall
        clear hall hown hB
        go_wp2_with fail
        go_ret
        exact ⟨n, rfl, HN.out, HA.out.2.1, HA.out.2.2.mono hbw⟩

end Go.Proofs.Ytcpojadinkonnaa
