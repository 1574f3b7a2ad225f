/-
  The document's Thin, walked.
-/
import Derived.Test.YtcpojadinkonnaaThinR6
namespace Go.Proofs.Ytcpojadinkonnaa
open Go.RowKit

theorem in_doc (x y : Int) (w : World) : Calls Try.prog 35 #[(Value.agg #[.int .i32 (x), .int .i32 (y)])] w fun e w' => e = .returned (.bool (inB x y)) ∧ Below w.heap.size w w' := by
  go_enter Try.func35, Try.ntmps35
  go_wp2
  all_goals
    go_ret
    exact ⟨ret_bool (by unfold inB; rw [Bool.eq_iff_iff]; simp; try omega), by go_grown⟩

theorem own_less {W : World} {b b' : Nat} {e : TypeId} {size n : Nat} {v : Value} {xs : List Value} (h : W.ownsRow b e size v n xs) (hb : b' ≤ b) : W.ownsRow b' e size v n xs := by
  refine ⟨h.1, ?_⟩
  rcases h.2 with h0 | ⟨g, cap, cur, hv, h1, h2⟩
  · exact .inl h0
  · exact .inr ⟨g, cap, cur, hv, Nat.le_trans hb h1, h2⟩
/-- What Thin answers: a row of its own, and a number. -/
def ThinSays (ps : List Pt) (t : Int) (w : World) (e : Ending) (w' : World) : Prop :=
  ∃ v, e = .returned (.tuple #[v, .int .i64 (tcode ps t)]) ∧ w'.ownsRow w.heap.size 32 2 v (tlist ps t).length (flat (tlist ps t)) ∧ Below w.heap.size w w'
theorem thinSays_bad {ps : List Pt} {t c : Int} {w w' : World} (h : tcode ps t = c) (hc : c ≠ 0) (hb : Below w.heap.size w w') : ThinSays ps t w (.returned (.tuple #[.slice none 0 0, .int .i64 c])) w' := by
  refine ⟨_, by rw [h], ?_, hb⟩
  rw [tlist_bad h hc]
  exact World.ownsRow_nil _ _ _ _

theorem thin_both {ps : List Pt} (hps : IsL ps) {t : Int} (ht : Tol t) {M g n : Nat} {A : Option Addr} {c : Nat} (hn : ps.length = n) (hlen : n ≤ 4096) (hMg : M ≤ g) {W : World} (hP : PtsAt M W (.slice A n c) ps) (hK : KeptAt W g n (fun _ => false)) (hM : M ≤ W.heap.size) :
    Calls Try.prog 36 #[.slice A n c, .int .i64 0, .int .i64 ((n : Int) - 1), .int .i64 t, .slice (some ⟨g, 0, none⟩) n n] W fun e w' => (∃ v, e = .returned v) ∧ KeptAt w' g n (kept (far ps (t * t)) 0 (n - 1)) ∧ W.grownBy w' (some g) := by
  subst hn
  rcases Nat.eq_zero_or_pos ps.length with h0 | h0
  · rw [h0] at hK ⊢
    refine (thin_zero A c 0 t (some ⟨g, 0, none⟩) W).mono ?_
    rintro e w' ⟨he, hb⟩
    exact ⟨he, (hK.keep hb).congr fun k hk => absurd hk (Nat.not_lt_zero _), grown_of hb _⟩
  · have h := thin_ref ps hps t ht M g A c ps.length (by omega) hMg (ps.length - 1 + 1) 0 (ps.length - 1) (fun _ => false) W (by omega) (by omega) (by omega) hP hK hM
    rw [show ((ps.length - 1 : Nat) : Int) = (ps.length : Int) - 1 by omega] at h
    refine h.mono fun e w' ⟨he, h1, h2⟩ => ⟨he, h1.congr fun k _ => by simp, h2⟩

set_option maxHeartbeats 4000000 in
set_option maxRecDepth 100000 in
theorem refThin (ps : List Pt) (t : Int) (M : Nat) (A : Option Addr) (c : Nat) (w : World) (hP : PtsAt M w (.slice A ps.length c) ps) (hM : M ≤ w.heap.size) :
    Calls Try.prog 12 #[.slice A ps.length c, .int .i64 t] w (ThinSays ps t w) := by
  obtain ⟨n, hn⟩ : ∃ n, ps.length = n := ⟨_, rfl⟩
  rw [hn] at hP ⊢
  have HP := Lib.hid (And.intro hP hn)
  clear hP hn
  rcases Nat.lt_or_ge 4096 n with hL | hL
  · have hLI : (4096 : Int) < (n : Int) := by omega
    go_enter Try.func12, Try.ntmps12
    go_wp2_with fail
    go_ret2
    exact thinSays_bad (tcode_long (by rw [HP.out.2]; exact hL)) (by omega) (Below.refl _ _)
  have hLI : ¬ (4096 : Int) < (n : Int) := by omega
  have hLn : ¬ 4096 < ps.length := by rw [HP.out.2]; omega
  have HLn := Lib.hid hLn
  clear hLn
  rcases Int.lt_or_le t 0 with ht0 | ht0
  · go_enter Try.func12, Try.ntmps12
    go_wp2_with fail
    go_ret2
    exact thinSays_bad (tcode_tol HLn.out (.inl ht0)) (by omega) (Below.refl _ _)
  have ht0' : ¬ t < 0 := by omega
  rcases Int.lt_or_le 3037000498 t with ht1 | ht1
  · go_enter Try.func12, Try.ntmps12
    go_wp2_with fail
    go_ret2
    exact thinSays_bad (tcode_tol HLn.out (.inr ht1)) (by omega) (Below.refl _ _)
  have ht1' : ¬ 3037000498 < t := by omega
  have HT := Lib.hid (show Tol t ∧ ¬ BadTol t from ⟨⟨ht0, ht1⟩, fun h => h.elim (by omega) (by omega)⟩)
  clear ht0 ht1
  go_enter Try.func12, Try.ntmps12
  go_wp2_with fail
  go_loopw [6] (fun i wr => ∃ k : Nat, k ≤ n ∧ i = .int .i64 (k : Int) ∧ (∀ m, m < k → IL (gp ps m)) ∧ Below w.heap.size w wr) (fun i _ => n - (intOf i).toNat)
  case atStart => exact ⟨0, by omega, rfl, fun m hm => absurd hm (by omega), by go_grown⟩
  case round =>
    obtain ⟨k, hk, rfl, hall, hB⟩ := hrel
    have hzr := hB.size
    rcases Nat.lt_or_ge k n with hlt | hge
    · have hkI : (k : Int) < (n : Int) := by omega
      obtain ⟨b, off, rfl, hb, hc⟩ : ∃ b off, A = some ⟨b, off, none⟩ ∧ b < M ∧ ∀ k, k < ps.length → w.cell? ⟨b, off + k * 2, none⟩ = some (.int .i32 (gp ps k).1) ∧ w.cell? ⟨b, off + k * 2 + 1, none⟩ = some (.int .i32 (gp ps k).2) := by
        rcases HP.out.1 with ⟨⟨A0, c0, _⟩, he⟩ | ⟨b, off, cap, he, hb, hc⟩
        · have := HP.out.2; rw [he] at this; simp at this; omega
        · injection he with he1 he2 he3
          exact ⟨b, off, he1, hb, hc⟩
      have hkp : k < ps.length := by rw [HP.out.2]; exact hlt
      have c1 := (hB.cell (p := ⟨b, off + k * 2, none⟩) (show b < w.heap.size by omega)).trans (hc k hkp).1
      have c2 := (hB.cell (p := ⟨b, off + k * 2 + 1, none⟩) (show b < w.heap.size by omega)).trans (hc k hkp).2
      have hbz : b < wr.heap.size := by omega
      have HX := Lib.hid (And.intro hall (And.intro hB hkp))
      have hI := inB_iff (gp ps k)
      obtain ⟨v, hv⟩ : ∃ z, inB (gp ps k).1 (gp ps k).2 = z := ⟨_, rfl⟩
      have HI := Lib.hid (fun W => in_doc (gp ps k).1 (gp ps k).2 W)
      rw [hv] at hI HI
      have HV := Lib.hid hI
      clear hc hall hB hkp hI hv
      go_wp2_with fail
      refine (HI.out _).mono ?_
      rintro e w3 ⟨rfl, hb3⟩
      have H3 := Lib.hid (HX.out.2.1.trans (hb3.mono HX.out.2.1.size))
      clear hb3
      cases v with
      | true =>
        go_wp2_with fail
        go_roundw
        case rel =>
          refine ⟨k + 1, by omega, by go_num, fun m hm => ?_, H3.out⟩
          rcases Nat.lt_or_ge m k with h1 | h1
          · exact HX.out.1 m h1
          · obtain rfl : m = k := by omega
            have := HV.out
            simp at this
            exact this
        case measure => simp [intOf]; omega
      | false =>
        go_wp2_with fail
        go_ret2
        refine thinSays_bad (tcode_out HLn.out HT.out.2 fun h => ?_) (by omega) H3.out
        have h2 := h.gp k
        have := HV.out
        simp at this
        exact this h2
    · have hkI : ¬ (k : Int) < (n : Int) := by omega
      obtain rfl : k = n := by omega
      have hps : IsL ps := isL_all (fun m hm => hall m (by rw [HP.out.2] at hm; exact hm))
      have HX := Lib.hid (And.intro hps (And.intro hB (HP.out.1.below (hB.mono hM))))
      have hmk := make_bools k (by omega)
      have hbK : Below wr.heap.size wr (wr.alloc (.cells (Array.replicate k (Value.bool false)) 4)) := by go_grown
      have H8 := Lib.hid (And.intro (hB.trans (hbK.mono hzr)) (And.intro (kept_new wr k) ((HX.out.2.2.below (hbK.mono (by omega))))))
      clear hall hB hps hbK
      go_wp2_with fail
      refine (thin_both HX.out.1 HT.out.1 HP.out.2 hL (show M ≤ wr.heap.size by omega) H8.out.2.2 H8.out.2.1 (by simp; omega)).mono ?_
      rintro e w9 ⟨⟨_, rfl⟩, hK9, hg9⟩
      obtain ⟨g, hg⟩ : ∃ z, wr.heap.size = z := ⟨_, rfl⟩
      have hgz := Var.lt hK9
      have hz9 := hg9.size
      have hb9 : Below g (wr.alloc (.cells (Array.replicate k (Value.bool false)) 4)) w9 := (Below.refl _ _).grown hg9 (by rw [← hg]; simp) (fun j e => by injection e with e; omega)
      have hb9w : Below w.heap.size w w9 := H8.out.1.trans (hb9.mono (by omega))
      rw [hg] at hK9 hgz ⊢
      have H9 := Lib.hid (And.intro hK9 (And.intro hb9w (HP.out.1.below (hb9w.mono hM))))
      have hgw : w.heap.size ≤ g := by omega
      clear hK9 hg9 hb9 hb9w H8 hz9 hg hzr hmk
      obtain ⟨F, hF⟩ : ∃ F, kept (far ps (t * t)) 0 (k - 1) = F := ⟨_, rfl⟩
      rw [hF] at H9
      have HF := Lib.hid hF
      clear hF
      go_wp2_with fail
      go_loopw [8, 9] (fun o i wr => ∃ (m co : Nat) (Ao : Option Addr), m ≤ k ∧ i = .int .i64 (m : Int) ∧ o = .slice Ao (leftF ps (endsK k F) m).length co ∧ wr.ownsRow w9.heap.size 32 2 (.slice Ao (leftF ps (endsK k F) m).length co) (leftF ps (endsK k F) m).length (flat (leftF ps (endsK k F) m)) ∧ KeptAt wr g k F ∧ Below w.heap.size w wr ∧ w9.heap.size ≤ wr.heap.size) (fun _ i _ => k - (intOf i).toNat)
      case atStart => exact ⟨0, 0, none, by omega, rfl, rfl, World.ownsRow_nil _ _ _ _, H9.out.1, H9.out.2.1, Nat.le_refl _⟩
      case round =>
        obtain ⟨m, co, Ao, hm, rfl, rfl, hown, hK, hB, hz⟩ := hrel
        have hlm := leftF_length ps (endsK k F) m
        rcases Nat.lt_or_ge m k with hlt | hge
        · have hmI : (m : Int) < (k : Int) := by omega
          obtain ⟨b, off, rfl, hb, hc⟩ : ∃ b off, A = some ⟨b, off, none⟩ ∧ b < M ∧ ∀ k, k < ps.length → w.cell? ⟨b, off + k * 2, none⟩ = some (.int .i32 (gp ps k).1) ∧ w.cell? ⟨b, off + k * 2 + 1, none⟩ = some (.int .i32 (gp ps k).2) := by
            rcases HP.out.1 with ⟨⟨A0, c0, _⟩, he⟩ | ⟨b, off, cap, he, hb, hc⟩
            · have := HP.out.2; rw [he] at this; simp at this; omega
            · injection he with he1 he2 he3
              exact ⟨b, off, he1, hb, hc⟩
          have hmp : m < ps.length := by rw [HP.out.2]; exact hlt
          have c1 := (hB.cell (p := ⟨b, off + m * 2, none⟩) (show b < w.heap.size by omega)).trans (hc m hmp).1
          have c2 := (hB.cell (p := ⟨b, off + m * 2 + 1, none⟩) (show b < w.heap.size by omega)).trans (hc m hmp).2
          have ck : wr.cell? ⟨g, m, none⟩ = some (.bool (F m)) := hK.at_ hlt
          have hbz : b < wr.heap.size := by omega
          have hgz' : g < wr.heap.size := by omega
          have hws : IntKind.i64.wrap ((k : Int) - 1) = (k : Int) - 1 := by simp only [IntKind.wrap, IntKind.signed, IntKind.bits]; simp; omega
          have hstep : ∀ v, endsK k F m = v → leftF ps (endsK k F) (m + 1) = leftF ps (endsK k F) m ++ (if v then [gp ps m] else []) := fun v hv => by subst hv; rfl
          have HS := Lib.hid hstep
          have HK := Lib.hid (And.intro hK hB)
          obtain ⟨ls, hls⟩ : ∃ z, leftF ps (endsK k F) m = z := ⟨_, rfl⟩
          rw [hls] at hown hlm ⊢
          have HLS := Lib.hid hls
          clear hc hstep hK hB hls
          have push : ∀ (_ : endsK k F m = true) (A' : Option Addr) (c' : Nat) (w' : World), w'.ownsRow w9.heap.size 32 2 (.slice A' (ls.length + 1) c') (ls.length + 1) (flat ls ++ [.int .i32 (gp ps m).1, .int .i32 (gp ps m).2]) → wr.grownBy w' (Value.slice Ao ls.length co).ownBlock →
              ∃ (m' co' : Nat) (Ao' : Option Addr), m' ≤ k ∧ (.int .i64 ((m : Int) + 1) : Value) = .int .i64 (m' : Int) ∧ (.slice A' (ls.length + 1) c' : Value) = .slice Ao' (leftF ps (endsK k F) m').length co' ∧ w'.ownsRow w9.heap.size 32 2 (.slice Ao' (leftF ps (endsK k F) m').length co') (leftF ps (endsK k F) m').length (flat (leftF ps (endsK k F) m')) ∧ KeptAt w' g k F ∧ Below w.heap.size w w' ∧ w9.heap.size ≤ w'.heap.size := fun hE A' c' w' ho hg => by
            have e : leftF ps (endsK k F) (m + 1) = ls ++ [gp ps m] := by rw [HS.out true hE, HLS.out]; rfl
            have el : (leftF ps (endsK k F) (m + 1)).length = ls.length + 1 := by rw [e]; simp
            refine ⟨m + 1, c', A', by omega, by simp, by rw [el], ?_, Var.push HK.out.1 hown hgz hg, below_push HK.out.2 hown (by have := H9.out.2.1.size; omega) (by omega) hg, Nat.le_trans hz hg.size⟩
            rw [el, e, flat_snoc]
            exact ho
          have PU := Lib.hid push
          clear push
          cases hFm : F m with
          | true =>
            have hE : endsK k F m = true := by unfold endsK; rw [hFm]; rfl
            have HE := Lib.hid hE
            rw [hFm] at ck
            clear hE hFm
            go_wp2_with (at_builtin; refine wpList_push rfl (.tmp 62) (.tmp 67) 23 rfl eltP w9.heap.size Ao ls.length co (flat ls) rfl hown [_, _] rfl rfl (two_cells rfl rfl) (le_maxLen (by omega)) (by omega) hz ?_; intro A' c' w' hown' hg')
            go_roundw
            case rel => exact PU.out HE.out _ _ _ hown' hg'
            case measure => simp [intOf]; omega
          | false =>
            rw [hFm] at ck
            rcases Nat.eq_zero_or_pos m with h0 | h0
            · have hE : endsK k F m = true := by unfold endsK; rw [h0]; simp
              have HE := Lib.hid hE
              have h0' : ((m : Int) == 0) = true := by rw [beq_iff_eq]; omega
              clear hE hFm h0
              go_wp2_with (at_builtin; refine wpList_push rfl (.tmp 62) (.tmp 67) 23 rfl eltP w9.heap.size Ao ls.length co (flat ls) rfl hown [_, _] rfl rfl (two_cells rfl rfl) (le_maxLen (by omega)) (by omega) hz ?_; intro A' c' w' hown' hg')
              go_roundw
              case rel => exact PU.out HE.out _ _ _ hown' hg'
              case measure => simp [intOf]; omega
            · have h0' : ((m : Int) == 0) = false := by rw [beq_eq_false_iff_ne]; omega
              rcases Nat.lt_or_ge m (k - 1) with h1 | h1
              · have hE : endsK k F m = false := by
                  unfold endsK
                  rw [hFm, Bool.false_or, Bool.or_eq_false_iff]
                  exact ⟨by rw [beq_eq_false_iff_ne]; omega, by rw [beq_eq_false_iff_ne]; omega⟩
                have h1' : ((m : Int) == (k : Int) - 1) = false := by rw [beq_eq_false_iff_ne]; omega
                have HE := Lib.hid hE
                have HOW := Lib.hid (And.intro hown (And.intro hz hlm))
                clear hE hFm h0 hown
                go_wp2_with fail
                go_roundw
                case rel =>
                  have e : leftF ps (endsK k F) (m + 1) = ls := by rw [HS.out false HE.out, HLS.out]; simp
                  exact ⟨m + 1, co, Ao, by omega, by simp, by rw [e], by rw [e]; exact HOW.out.1, HK.out.1, HK.out.2, HOW.out.2.1⟩
                case measure => simp [intOf]; omega
              · have hE : endsK k F m = true := by
                  unfold endsK
                  rw [show (m == k - 1) = true by rw [beq_iff_eq]; omega, Bool.or_true]
                have h1' : ((m : Int) == (k : Int) - 1) = true := by rw [beq_iff_eq]; omega
                have HE := Lib.hid hE
                clear hE hFm h0 h1
                go_wp2_with (at_builtin; refine wpList_push rfl (.tmp 62) (.tmp 67) 23 rfl eltP w9.heap.size Ao ls.length co (flat ls) rfl hown [_, _] rfl rfl (two_cells rfl rfl) (le_maxLen (by omega)) (by omega) hz ?_; intro A' c' w' hown' hg')
                go_roundw
                case rel => exact PU.out HE.out _ _ _ hown' hg'
                case measure => simp [intOf]; omega
        · have hmI : ¬ (m : Int) < (k : Int) := by omega
          obtain rfl : m = k := by omega
          have HOW := Lib.hid (And.intro hown (And.intro hB hz))
          clear hown hK hB
          go_wp2_with fail
          go_ret2
          have hc0 : tcode ps t = 0 := tcode_ok HLn.out HT.out.2 HX.out.1
          have hl0 : tlist ps t = leftF ps (endsK m F) m := by
            rw [tlist_ok hc0]
            unfold thinF
            rw [HP.out.2, HF.out]
          refine ⟨.slice Ao (leftF ps (endsK m F) m).length co, by rw [hc0]; rfl, ?_, HOW.out.2.1⟩
          rw [hl0]
          exact own_less HOW.out.1 (by have := H9.out.2.1.size; omega)

end Go.Proofs.Ytcpojadinkonnaa
