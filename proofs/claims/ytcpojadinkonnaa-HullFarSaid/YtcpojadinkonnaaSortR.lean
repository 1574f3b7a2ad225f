/-
  The document's Sorted.
-/
import Derived.Test.YtcpojadinkonnaaSortM
import Derived.Deep.Cut
namespace Go.Proofs.Ytcpojadinkonnaa
open Go.RowKit

theorem own_cells {W : World} {b n c : Nat} {A : Option Addr} {qs : List Pt} (h : W.ownsRow b 32 2 (.slice A n c) n (flat qs)) (h0 : 0 < n) :
    ∃ g, A = some ⟨g, 0, none⟩ ∧ b ≤ g ∧ g < W.heap.size ∧ (∀ o, W.frozen? ⟨g, o, none⟩ = false) ∧ ∀ j, j < qs.length → W.cell? ⟨g, j * 2, none⟩ = some (.int .i32 (gp qs j).1) ∧ W.cell? ⟨g, j * 2 + 1, none⟩ = some (.int .i32 (gp qs j).2) := by
  rcases h.2 with ⟨_, h1⟩ | ⟨g, cap, cur, hv, hb, hg, _⟩
  · omega
  · have hv' := hv
    injection hv with hA _ hc
    subst hA hc
    have vV : Var W g 32 cur := hg
    refine ⟨g, rfl, hb, vV.lt, fun o => vV.free o, fun j hj => ?_⟩
    have hc := World.ownsRow.cells h (g := g) rfl
    obtain ⟨e1, e2⟩ := flat_get qs j hj
    have f1 := hc _ _ e1
    have f2 := hc _ _ e2
    rw [add_at] at f1 f2
    exact ⟨f1, f2⟩

set_option maxHeartbeats 1000000 in
set_option maxRecDepth 100000 in
theorem sorted_ref (ps : List Pt) (M : Nat) (A : Option Addr) (c n : Nat) (hn : ps.length = n) (hlen : n ≤ 17592186044415) (w : World) (hP : PtsAt M w (.slice A n c) ps) (hM : M ≤ w.heap.size) :
    Calls Try.prog 66 #[.slice A n c] w fun e w' => ∃ v qs, e = .returned v ∧ qs.Perm ps ∧ Ord qs ∧ w'.ownsRow w.heap.size 32 2 v n (flat qs) ∧ Below w.heap.size w w' := by
  have HP := Lib.hid (And.intro hP hn)
  have HC := Lib.hid (fun (p q : Pt) W => pcmp_ref p.1 p.2 q.1 q.2 W)
  clear hP hn
  go_enter Try.func66, Try.ntmps66
  go_wp2_with fail
  go_loopw [3, 4] (fun o i wr => ∃ (k co : Nat) (Ao : Option Addr) (qs : List Pt), k ≤ n ∧ i = .int .i64 (k : Int) ∧ o = .slice Ao k co ∧ qs.Perm (ps.take k) ∧ Ord qs ∧ wr.ownsRow w.heap.size 32 2 (.slice Ao k co) k (flat qs) ∧ Below w.heap.size w wr) (fun _ i _ => n - (intOf i).toNat)
  case atStart => exact ⟨0, 0, none, [], by omega, rfl, rfl, by simp, List.Pairwise.nil, World.ownsRow_nil _ _ _ _, Below.refl _ _⟩
  case round =>
    obtain ⟨k, co, Ao, qs, hk, rfl, rfl, hperm, hord, hown, hB⟩ := hrel
    have hz := hB.size
    have hql : qs.length = k := by rw [hperm.length_eq, List.length_take, HP.out.2]; omega
    have HO := Lib.hid (And.intro hperm (And.intro hord hql))
    clear hperm hord hql
    rcases Nat.lt_or_ge k n with hlt | hge
    · have hkI : (k : Int) < (n : Int) := by omega
      have hkw : IntKind.i64.wrap (((k + 1 : Nat) : Int) - 1) = (k : Int) := by simp only [IntKind.wrap, IntKind.signed, IntKind.bits]; simp; omega
      have hkw2 : IntKind.i64.wrap ((k : Int) + 1 - 1) = (k : Int) := by simp only [IntKind.wrap, IntKind.signed, IntKind.bits]; simp; omega
      have hkw3 : IntKind.i64.wrap ((k : Int) + 1) = (k : Int) + 1 := by simp only [IntKind.wrap, IntKind.signed, IntKind.bits]; simp; omega
      obtain ⟨b, off, rfl, hb, hc⟩ : ∃ b off, A = some ⟨b, off, none⟩ ∧ b < M ∧ ∀ k, k < ps.length → w.cell? ⟨b, off + k * 2, none⟩ = some (.int .i32 (gp ps k).1) ∧ w.cell? ⟨b, off + k * 2 + 1, none⟩ = some (.int .i32 (gp ps k).2) := by
        rcases HP.out.1 with ⟨⟨A0, c0, _⟩, he⟩ | ⟨b, off, cap, he, hb, hc⟩
        · have := HP.out.2; rw [he] at this; simp at this; omega
        · injection he with he1 he2 he3
          exact ⟨b, off, he1, hb, hc⟩
      have hkp : k < ps.length := by rw [HP.out.2]; exact hlt
      have c1 := (hB.cell (p := ⟨b, off + k * 2, none⟩) (show b < w.heap.size by omega)).trans (hc k hkp).1
      have c2 := (hB.cell (p := ⟨b, off + k * 2 + 1, none⟩) (show b < w.heap.size by omega)).trans (hc k hkp).2
      have hbz : b < wr.heap.size := by omega
      have HB := Lib.hid hB
      obtain ⟨p, hp⟩ : ∃ p, gp ps k = p := ⟨_, rfl⟩
      rw [hp] at c1 c2
      have HPp := Lib.hid hp
      clear hc hB hp
      go_wp2_with (at_builtin; refine wpList_push rfl (.tmp 13) (.tmp 18) 23 rfl eltP w.heap.size Ao k co (flat qs) rfl hown [_, _] rfl rfl (two_cells rfl rfl) (le_maxLen (by omega)) (by omega) hz ?_; intro A' c' w' hown' hg')
      have hB1 := below_push HB.out hown (Nat.le_refl _) hz hg'
      obtain ⟨g, rfl, hg, _⟩ := own_cells (qs := qs ++ [p]) (by rw [flat_snoc]; exact hown') (by omega)
      have H0 := Lib.hid (And.intro hown' hB1)
      clear hown hown' hg' hB1 c1 c2
      go_loopw [5] (fun kk wr => ∃ (a d : List Pt), kk = .int .i64 (a.length : Int) ∧ a ++ d = qs ∧ (∀ y ∈ d, pLt p y = true) ∧ wr.ownsRow w.heap.size 32 2 (.slice (some ⟨g, 0, none⟩) (k + 1) c') (k + 1) (flat (a ++ p :: d)) ∧ Below w.heap.size w wr) (fun kk _ => (intOf kk).toNat)
      case atStart => exact ⟨qs, [], by rw [HO.out.2.2], by simp, (fun y hy => by cases hy), (by rw [flat_snoc]; exact H0.out.1), H0.out.2⟩
      case round =>
        obtain ⟨a, d, rfl, hqs, hd, hown, hB⟩ := hrel
        have hz2 := hB.size
        obtain ⟨_, e0, _, hgz, hfz, hcell⟩ := own_cells hown (by omega)
        injection e0 with e0
        injection e0 with e0
        subst e0
        have HR := Lib.hid (And.intro hqs (And.intro hd hown))
        have done : (∀ z, a.getLast? = some z → pLt p z = false) → (a ++ p :: d).Perm (ps.take (k + 1)) ∧ Ord (a ++ p :: d) := fun hz => by
          refine ⟨?_, ord_place (by rw [HR.out.1]; exact HO.out.2.1) HR.out.2.1 hz⟩
          have h1 : (a ++ p :: d).Perm (p :: (a ++ d)) := List.perm_middle
          have h2 : ps.take (k + 1) = ps.take k ++ [p] := by
            rw [List.take_add_one, ← HPp.out]
            unfold gp
            rw [List.getElem?_eq_getElem hkp]
            rfl
          rw [h2]
          refine h1.trans ?_
          rw [HR.out.1]
          exact (List.Perm.cons p HO.out.1).trans (List.perm_append_singleton p _).symm
        have HD := Lib.hid done
        clear hqs hd hown done H0
        rcases a.eq_nil_or_concat with rfl | ⟨a', z, rfl⟩
        · simp only [List.length_nil]
          go_wp2_with fail
          have hq_wr := @wd_cell wr
          refine wp_region_wd (by kernel_rfl) (by kernel_rfl) ?_
          repeat (go_big_quiet_step ((first | (fail))))
          refine wpQuiet_nil ?_
          rintro w5 ⟨⟨wx, hb_w5⟩, hwx⟩
          obtain rfl : w5 = wx := hwx
          clear hq_wr
          have hz_w5 := hb_w5.size
          obtain ⟨hc_w5, hf_w5⟩ := bcell hb_w5
          have hB_w5 : Below w.heap.size w w5 := Below.trans (by go_grown) (hb_w5.mono (by go_size))
          have hs_w5_0 : g < w5.heap.size := Nat.lt_of_lt_of_le (by assumption) hb_w5.size
          have HE := Lib.hid (And.intro (own_keep HR.out.2.2 hb_w5) (hB.trans (hb_w5.mono hz2)))
          clear hb_w5 hc_w5 hf_w5 hB_w5
          go_wp2_with fail
          go_roundw
          case rel => exact ⟨k + 1, c', some ⟨g, 0, none⟩, [] ++ p :: d, by omega, by simp, rfl, (HD.out (fun z hz => by cases hz)).1, (HD.out (fun z hz => by cases hz)).2, HE.out.1, HE.out.2⟩
          case measure => simp [intOf]; omega
        · obtain ⟨l, hl⟩ : ∃ l, a'.length = l := ⟨_, rfl⟩
          obtain ⟨l1, hl1⟩ : ∃ l1, (a'.concat z).length = l1 := ⟨_, rfl⟩
          have hle : l1 = l + 1 := by rw [← hl1, ← hl]; simp
          have hlk : l1 + d.length = k := by
            have := HR.out.1
            rw [← hl1, ← HO.out.2.2, ← this, List.length_append]
          have hz1 := hcell l (by simp; omega)
          have hp1 := hcell l1 (by simp; omega)
          have gz : gp (a'.concat z ++ p :: d) l = z := by unfold gp; rw [List.concat_eq_append, List.append_assoc, List.getElem?_append_right (by omega), hl, Nat.sub_self]; rfl
          have gpp : gp (a'.concat z ++ p :: d) l1 = p := by unfold gp; rw [List.getElem?_append_right (by omega), hl1, Nat.sub_self]; rfl
          rw [gz] at hz1
          rw [gpp] at hp1
          obtain ⟨z0, z1⟩ := hz1
          obtain ⟨p0, p1⟩ := hp1
          rw [hl1]
          have hl1I : (0 : Int) < (l1 : Int) := by omega
          have hl1J : (l1 : Int) < (k : Int) + 1 := by omega
          have hlJ : (l : Int) < (k : Int) + 1 := by omega
          have hwl : IntKind.i64.wrap ((l1 : Int) - 1) = (l : Int) := by simp only [IntKind.wrap, IntKind.signed, IntKind.bits]; simp; omega
          have dl0 : decide ((l : Int) < 0) = false := decide_eq_false (by omega)
          have dl1 : decide ((l1 : Int) < 0) = false := decide_eq_false (by omega)
          have dl3 : decide (0 < l1) = true := decide_eq_true (by omega)
          have dl2 : decide ((0 : Int) < (l1 : Int)) = true := decide_eq_true (by omega)
          have HLl := Lib.hid (And.intro hl (And.intro hl1 hle))
          have hc := fun W => HC.out p z W
          obtain ⟨sg, hsg⟩ : ∃ s, ptCmp p.1 p.2 z.1 z.2 = s := ⟨_, rfl⟩
          rw [hsg] at hc
          have HCC := Lib.hid hc
          have hlt : pLt p z = decide (sg < 0) := by rw [← hsg]; rfl
          have HLT := Lib.hid hlt
          clear hl hl1 hle gz gpp hcell hc hsg hlt
          rcases Int.lt_or_le sg 0 with hs | hs
          · have hsd : decide (sg < 0) = true := decide_eq_true hs
            go_wp2_with fail
            have hq_wr := @wd_cell wr
            refine wp_region_wd (by kernel_rfl) (by kernel_rfl) ?_
            repeat (go_big_quiet_step ((first | (go_at_call 26; with_reducible exact quiet_wd (HCC.out _)))))
            refine wpQuiet_nil ?_
            rintro w5 ⟨⟨wx, hb_w5⟩, hwx⟩
            obtain rfl : w5 = wx := hwx
            clear hq_wr
            have hz_w5 := hb_w5.size
            obtain ⟨hc_w5, hf_w5⟩ := bcell hb_w5
            have hB_w5 : Below w.heap.size w w5 := Below.trans (by go_grown) (hb_w5.mono (by go_size))
            have hs_w5_0 : g < w5.heap.size := Nat.lt_of_lt_of_le (by assumption) hb_w5.size
            have own5 : w5.ownsRow w.heap.size 32 2 (.slice (some ⟨g, 0, none⟩) (k + 1) c') (k + 1) (flat (a' ++ z :: p :: d)) := by
              have := own_keep HR.out.2.2 hb_w5
              rw [List.concat_eq_append, List.append_assoc] at this
              exact this
            have B5 := hB.trans (hb_w5.mono hz2)
            have hz5 := hb_w5.size
            have H5 := Lib.hid (And.intro own5 B5)
            clear hb_w5 own5 B5
            go_upto_region 9 with fail
            refine wp_gen (fun W6 hW6 => ?_)
            have hb6 : Below w5.heap.size w5 W6 := by rw [hW6]; go_grown
            have vB : Var W6 w5.heap.size 32 #[.int .i32 p.1, .int .i32 p.2] := by rw [hW6]; exact Var.new _ _ _
            have own6 := own_keep H5.out.1 hb6
            have B6 := H5.out.2.trans (hb6.mono H5.out.2.size)
            obtain ⟨_, e6, _, hg6, fz6, cell6⟩ := own_cells own6 (by omega)
            injection e6 with e6
            injection e6 with e6
            subst e6
            have hz1' := cell6 l (by simp; have := HLl.out; omega)
            have hp1' := cell6 l1 (by simp; have := HLl.out; omega)
            rw [show gp (a' ++ z :: p :: d) l = z by unfold gp; rw [List.getElem?_append_right (by have := HLl.out; omega), HLl.out.1, Nat.sub_self]; rfl] at hz1'
            obtain ⟨y0, y1⟩ := hz1'
            obtain ⟨q0, q1⟩ := hp1'
            have b0 : W6.cell? ⟨w5.heap.size, 0, none⟩ = some (.int .i32 p.1) := vB.cell 0
            have b1 : W6.cell? ⟨w5.heap.size, 1, none⟩ = some (.int .i32 p.2) := vB.cell 1
            have zB := vB.lt
            have g1 := fz6 (l1 * 2)
            have g2 := fz6 (l1 * 2 + 1)
            have g3 := fz6 (l * 2)
            have g4 := fz6 (l * 2 + 1)
            have hgX : ¬ g = w5.heap.size := by omega
            have hXg : ¬ w5.heap.size = g := by omega
            obtain ⟨u1, k1⟩ := cell?_setCell_some (p := ⟨g, l1 * 2, none⟩) (x := .int .i32 z.1) y0
            obtain ⟨u2, k2⟩ := cell?_setCell_some (p := ⟨g, l1 * 2 + 1, none⟩) (x := .int .i32 z.2) k1
            obtain ⟨u3, k3⟩ := cell?_setCell_some (p := ⟨g, l1 * 2, none⟩) (x := .int .i32 z.1) y1
            obtain ⟨u4, k4⟩ := cell?_setCell_some (p := ⟨g, l1 * 2 + 1, none⟩) (x := .int .i32 z.2) k3
            obtain ⟨u5, k5⟩ := cell?_setCell_some (p := ⟨g, l * 2, none⟩) (x := .int .i32 p.1) k4
            have hlen6 := own6.1
            have own9 := own_store (j := l * 2 + 1) (u := .int .i32 p.2) (own_store (j := l * 2) (u := .int .i32 p.1) (own_store (j := l1 * 2 + 1) (u := .int .i32 z.2) (own_store (j := l1 * 2) (u := .int .i32 z.1) own6 (by rw [hlen6]; omega)) (by rw [List.length_set, hlen6]; omega)) (by rw [List.length_set, List.length_set, hlen6]; have := HLl.out; omega)) (by rw [List.length_set, List.length_set, List.length_set, hlen6]; have := HLl.out; omega)
            have hsw := flat_swap a' d z p
            rw [show a'.length * 2 + 3 = l1 * 2 + 1 by have := HLl.out; omega, show a'.length * 2 + 2 = l1 * 2 by have := HLl.out; omega, show a'.length * 2 = l * 2 by have := HLl.out; omega] at hsw
            rw [hsw] at own9
            have B9 := (((B6.setCell (p := ⟨g, l1 * 2, none⟩) hg (.int .i32 z.1)).setCell (p := ⟨g, l1 * 2 + 1, none⟩) hg (.int .i32 z.2)).setCell (p := ⟨g, l * 2, none⟩) hg (.int .i32 p.1)).setCell (p := ⟨g, l * 2 + 1, none⟩) hg (.int .i32 p.2)
            have H9 := Lib.hid (And.intro own9 B9)
            clear own6 B6 own9 B9 hb6 vB hW6 cell6 fz6 hlen6 hsw
            go_wp2_with fail
            go_roundw
            case rel =>
              refine ⟨a', z :: d, by rw [HLl.out.1], ?_, fun y hy => ?_, H9.out.1, H9.out.2⟩
              · have := HR.out.1
                rw [List.concat_eq_append, List.append_assoc] at this
                exact this
              · rcases List.mem_cons.1 hy with rfl | hy
                · rw [HLT.out]; exact hsd
                · exact HR.out.2.1 y hy
            case measure => simp [intOf]; have := HLl.out; omega
          · have hsd : decide (sg < 0) = false := decide_eq_false (by omega)
            have hs' : ¬ sg < 0 := by omega
            go_wp2_with fail
            have hq_wr := @wd_cell wr
            refine wp_region_wd (by kernel_rfl) (by kernel_rfl) ?_
            repeat (go_big_quiet_step ((first | (go_at_call 26; with_reducible exact quiet_wd (HCC.out _)))))
            refine wpQuiet_nil ?_
            rintro w5 ⟨⟨wx, hb_w5⟩, hwx⟩
            obtain rfl : w5 = wx := hwx
            clear hq_wr
            have hz_w5 := hb_w5.size
            obtain ⟨hc_w5, hf_w5⟩ := bcell hb_w5
            have hB_w5 : Below w.heap.size w w5 := Below.trans (by go_grown) (hb_w5.mono (by go_size))
            have hs_w5_0 : g < w5.heap.size := Nat.lt_of_lt_of_le (by assumption) hb_w5.size
            have HE := Lib.hid (And.intro (own_keep HR.out.2.2 hb_w5) (hB.trans (hb_w5.mono hz2)))
            clear hb_w5 hc_w5 hf_w5 hB_w5
            go_wp2_with fail
            go_roundw
            case rel =>
              have hdone := HD.out (fun y hy => by rw [List.concat_eq_append] at hy; simp at hy; subst hy; rw [HLT.out]; exact hsd)
              exact ⟨k + 1, c', some ⟨g, 0, none⟩, _, by omega, by simp, rfl, hdone.1, hdone.2, HE.out.1, HE.out.2⟩
            case measure => simp [intOf]; omega
    · obtain rfl : k = n := by omega
      have hkI : ¬ (k : Int) < (k : Int) := by omega
      go_wp2_with fail
      go_ret
      exact ⟨_, rfl, qs, by have := HO.out.1; rw [List.take_of_length_le (by rw [HP.out.2]; omega)] at this; exact this, HO.out.2.1, hown, hB⟩

end Go.Proofs.Ytcpojadinkonnaa
