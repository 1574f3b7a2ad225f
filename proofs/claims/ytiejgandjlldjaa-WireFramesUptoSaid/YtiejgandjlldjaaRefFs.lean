/-
  The document's Open, Frames.
-/
import Derived.Test.YtiejgandjlldjaaRefSt
namespace Go.Proofs.Ytiejgandjlldjaa
open Go.RowKit

theorem stands_self {l : List UInt8} (h1 : (headOf l).2 = true) (h2 : l.length = 8 + (headOf l).1) : standsB l = if wholeOf l = true then some (l.drop 8) else none := by
  unfold standsB
  have ht : l.take (8 + (headOf l).1) = l := List.take_of_length_le (by omega)
  rw [ht]
  by_cases hw : wholeOf l = true
  · rw [if_pos ⟨h1, by omega, hw⟩, if_pos hw]
  · rw [if_neg (fun h => hw h.2.2), if_neg hw]

/-- Opened by the document. -/
def ROpened (w : World) (l : List UInt8) (e : Ending) (w' : World) : Prop := ∃ A m c, e = .returned (.tuple #[.slice A m c, .int .i64 (openCode l : Int)]) ∧ Bs w' A m c (openBody l) ∧ Below w.heap.size w w'
theorem ropened_bad {w w' : World} {l : List UInt8} {k : Nat} (hk : openCode l = k) (h0 : ¬ k = 0) (hb : Below w.heap.size w w') : ROpened w l (.returned (.tuple #[.slice none 0 0, .int .i64 (k : Int)])) w' :=
  ⟨none, 0, 0, by rw [hk], by unfold openBody; rw [hk, if_neg h0]; exact Bs.nil _, hb⟩

set_option maxRecDepth 100000 in
set_option maxHeartbeats 4000000 in
theorem open_ref (A : Option Addr) (n c : Nat) (l : List UInt8) (w : World) (hs : Bs w A n c l) (hn : n ≤ 225000000000000) :
    Calls Try.prog 25 #[.slice A n c] w (ROpened w l) := by
  have hl := hs.len
  have hcap := hs.cap
  have hbig := hs.big
  unfold maxLen at hbig
  have hn' : (n : Int) ≤ 225000000000000 := by omega
  rcases Nat.lt_or_ge n 8 with h8 | h8
  · have hno : openCode l = 33 := by unfold openCode; rw [if_pos (head_no (.inl (by omega)))]
    have h8' : (n : Int) < 8 := by omega
    have HN := Lib.hid hno
    clear hno hs hl
    go_enter Try.func25, Try.ntmps25
    go_wp2_with fail
    go_ret2
    exact ropened_bad HN.out (by decide) (by go_grown)
  · have h8' : ¬ (n : Int) < 8 := by omega
    obtain ⟨g, o, rfl, hg, c0⟩ := hs.get (i := 0) (by omega)
    obtain ⟨_, _, e1, _, c1⟩ := hs.get (i := 1) (by omega)
    obtain ⟨_, _, e2, _, c2⟩ := hs.get (i := 2) (by omega)
    obtain ⟨_, _, e3, _, c3⟩ := hs.get (i := 3) (by omega)
    cases e1
    cases e2
    cases e3
    rw [Nat.add_zero] at c0
    have l2 := at8_lt l 2
    have l3 := at8_lt l 3
    obtain ⟨b0, a0⟩ : ∃ z, at8 l 0 = z := ⟨_, rfl⟩
    obtain ⟨b1, a1⟩ : ∃ z, at8 l 1 = z := ⟨_, rfl⟩
    obtain ⟨b2, a2⟩ : ∃ z, at8 l 2 = z := ⟨_, rfl⟩
    obtain ⟨b3, a3⟩ : ∃ z, at8 l 3 = z := ⟨_, rfl⟩
    rw [a0] at c0
    rw [a1] at c1
    rw [a2] at c2 l2
    rw [a3] at c3 l3
    rcases Decidable.em (b0 = 80) with h0 | h0
    · subst h0
      rcases Decidable.em (b1 = 100) with h1 | h1
      · subst h1
        have hhd := head_is (t := l) (by rw [a0, a1]; omega)
        rw [a2, a3] at hhd
        obtain ⟨m, hm⟩ : ∃ z, b2 + b3 * 256 = z := ⟨_, rfl⟩
        rw [hm] at hhd
        have hmI : (b2 : Int) + 256 * (b3 : Int) = (m : Int) := by omega
        have hm65 : m ≤ 65535 := by omega
        rcases Nat.lt_or_ge 8184 m with hm8 | hm8
        · have hno : openCode l = 33 := by unfold openCode; rw [if_pos (by rw [hhd]; simp; omega)]
          have HN := Lib.hid hno
          have hm8' : (8184 : Int) < (m : Int) := by omega
          clear hno hhd hs hl a0 a1 a2 a3
          go_enter Try.func25, Try.ntmps25
          go_wp2_with fail
          have hq_w := @wd_cell w
          refine wp_region_wd (by kernel_rfl) (by kernel_rfl) ?_
          repeat (go_big_quiet_step (fail))
          refine wpQuiet_nil ?_
          rintro w1 ⟨⟨wx, hb_w1⟩, hwx⟩
          obtain rfl : w1 = wx := hwx
          clear hq_w
          have hz_w1 := hb_w1.size
          obtain ⟨hc_w1, hf_w1⟩ := bcell hb_w1
          have hB_w1 : Below w.heap.size w w1 := Below.trans (by go_grown) (hb_w1.mono (by go_size))
          have hs_w1_0 : g < w1.heap.size := Nat.lt_of_lt_of_le (by assumption) hb_w1.size
          go_wp2_with fail
          go_ret2
          exact ropened_bad HN.out (by decide) hb_w1
        · have hm8' : ¬ (8184 : Int) < (m : Int) := by omega
          have hh2 : (headOf l).2 = true := by rw [hhd]; simp; omega
          have hh1 : (headOf l).1 = m := by rw [hhd]
          rcases Nat.lt_or_ge n (8 + m) with hlen | hlen
          · have hno : openCode l = 30 := by unfold openCode; rw [if_neg (by rw [hh2]; simp), hh1, if_pos (by omega)]
            have HN := Lib.hid hno
            have hlen' : (n : Int) - 8 < (m : Int) := by omega
            clear hno hhd hs hl a0 a1 a2 a3 hh1 hh2
            go_enter Try.func25, Try.ntmps25
            go_wp2_with fail
            have hq_w := @wd_cell w
            refine wp_region_wd (by kernel_rfl) (by kernel_rfl) ?_
            repeat (go_big_quiet_step (fail))
            refine wpQuiet_nil ?_
            rintro w1 ⟨⟨wx, hb_w1⟩, hwx⟩
            obtain rfl : w1 = wx := hwx
            clear hq_w
            have hz_w1 := hb_w1.size
            obtain ⟨hc_w1, hf_w1⟩ := bcell hb_w1
            have hB_w1 : Below w.heap.size w w1 := Below.trans (by go_grown) (hb_w1.mono (by go_size))
            have hs_w1_0 : g < w1.heap.size := Nat.lt_of_lt_of_le (by assumption) hb_w1.size
            go_wp2_with fail
            go_ret2
            exact ropened_bad HN.out (by decide) hb_w1
          · have hlen' : ¬ (n : Int) - 8 < (m : Int) := by omega
            rcases Nat.lt_or_ge (8 + m) n with hlong | hlong
            · have hno : openCode l = 32 := by unfold openCode; rw [if_neg (by rw [hh2]; simp), hh1, if_neg (by omega), if_pos (by omega)]
              have HN := Lib.hid hno
              have hlong' : (m : Int) < (n : Int) - 8 := by omega
              clear hno hhd hs hl a0 a1 a2 a3 hh1 hh2
              go_enter Try.func25, Try.ntmps25
              go_wp2_with fail
              have hq_w := @wd_cell w
              refine wp_region_wd (by kernel_rfl) (by kernel_rfl) ?_
              repeat (go_big_quiet_step (fail))
              refine wpQuiet_nil ?_
              rintro w1 ⟨⟨wx, hb_w1⟩, hwx⟩
              obtain rfl : w1 = wx := hwx
              clear hq_w
              have hz_w1 := hb_w1.size
              obtain ⟨hc_w1, hf_w1⟩ := bcell hb_w1
              have hB_w1 : Below w.heap.size w w1 := Below.trans (by go_grown) (hb_w1.mono (by go_size))
              have hs_w1_0 : g < w1.heap.size := Nat.lt_of_lt_of_le (by assumption) hb_w1.size
              go_wp2_with fail
              go_ret2
              exact ropened_bad HN.out (by decide) hb_w1
            · have hlong' : ¬ (m : Int) < (n : Int) - 8 := by omega
              have hst := stands_self (l := l) hh2 (by omega)
              have hcode : openCode l = if wholeOf l = false then 34 else 0 := by unfold openCode; rw [if_neg (by rw [hh2]; simp), hh1, if_neg (by omega), if_neg (by omega)]
              have HST : Hid (∀ W, Below w.heap.size w W → Calls Try.prog 20 #[.slice (some ⟨g, o, none⟩) n c, .int .i64 0] W (StandsSays W l)) := Lib.hid (fun W h => by
                have h := stands_ref (some ⟨g, o, none⟩) n c 0 l W (hs.below h) (Nat.zero_le _) hn
                rwa [List.drop_zero] at h)
              have HX := Lib.hid (And.intro hst hcode)
              clear hst hcode hhd hs hl a0 a1 a2 a3 hh1 hh2
              go_enter Try.func25, Try.ntmps25
              go_wp2_with fail
              have hq_w := @wd_cell w
              refine wp_region_wd (by kernel_rfl) (by kernel_rfl) ?_
              repeat (go_big_quiet_step (fail))
              refine wpQuiet_nil ?_
              rintro w1 ⟨⟨wx, hb_w1⟩, hwx⟩
              obtain rfl : w1 = wx := hwx
              clear hq_w
              have hz_w1 := hb_w1.size
              obtain ⟨hc_w1, hf_w1⟩ := bcell hb_w1
              have hB_w1 : Below w.heap.size w w1 := Below.trans (by go_grown) (hb_w1.mono (by go_size))
              have hs_w1_0 : g < w1.heap.size := Nat.lt_of_lt_of_le (by assumption) hb_w1.size
              go_wp2_with fail
              refine (HST.out w1 hb_w1).mono ?_
              rintro e w2 (⟨hn2, rfl, hb2⟩ | ⟨body, A', c', hn2, rfl, hr2, hb2⟩)
              · have hw : wholeOf l = false := by
                  cases hw : wholeOf l
                  · rfl
                  · have h := HX.out.1
                    rw [if_pos hw, hn2] at h
                    cases h
                have HN : Hid (openCode l = 34) := Lib.hid (by rw [HX.out.2, if_pos hw])
                clear hn2 hw
                go_wp2_with fail
                go_ret2
                exact ropened_bad HN.out (by decide) (hb_w1.trans (hb2.mono hb_w1.size))
              · have hw : wholeOf l = true ∧ body = l.drop 8 := by
                  have h := HX.out.1
                  rw [hn2] at h
                  by_cases hw : wholeOf l = true
                  · rw [if_pos hw] at h
                    injection h with h
                    exact ⟨hw, h⟩
                  · rw [if_neg hw] at h
                    cases h
                have HN : Hid (openCode l = 0 ∧ openBody l = body) := Lib.hid (by
                  have h0 : openCode l = 0 := by rw [HX.out.2, hw.1]; rfl
                  exact ⟨h0, by unfold openBody; rw [if_pos h0, hw.2]⟩)
                have HR := Lib.hid hr2
                clear hn2 hw hr2
                go_wp2_with fail
                go_ret2
                refine ⟨A', body.length, c', congrArg (fun z : Nat => Ending.returned (.tuple #[.slice A' body.length c', .int .i64 (z : Int)])) HN.out.1.symm, ?_, hb_w1.trans (hb2.mono hb_w1.size)⟩
                rw [HN.out.2]
                exact HR.out.1
      · have hno : openCode l = 33 := by unfold openCode; rw [if_pos (head_no (.inr (.inr (by rw [a1]; exact h1))))]
        have HN := Lib.hid hno
        have h1b : ((b1 : Int) != 100) = true := by simp; omega
        have h1c : ¬ (b1 : Int) = 100 := by omega
        clear hno hs hl a0 a1 a2 a3
        go_enter Try.func25, Try.ntmps25
        go_wp2_with fail
        go_ret2
        exact ropened_bad HN.out (by decide) (by go_grown)
    · have hno : openCode l = 33 := by unfold openCode; rw [if_pos (head_no (.inr (.inl (by rw [a0]; exact h0))))]
      have HN := Lib.hid hno
      have h1b : ((b0 : Int) != 80) = true := by simp; omega
      have h1c : ¬ (b0 : Int) = 80 := by omega
      clear hno hs hl a0 a1 a2 a3
      go_enter Try.func25, Try.ntmps25
      go_wp2_with fail
      go_ret2
      exact ropened_bad HN.out (by decide) (by go_grown)

/-- The frames from a place on. -/
def framesF (l : List UInt8) (p : Nat) : List (Nat × List UInt8) :=
  if p < l.length then
    match standsB (l.drop p) with
    | some body => (p, body) :: framesF l (p + 8 + body.length)
    | none => framesF l (p + 1)
  else []
termination_by l.length - p
theorem frames_none {l : List UInt8} {p : Nat} (h : p < l.length) (h2 : standsB (l.drop p) = none) : framesF l p = framesF l (p + 1) := by
  conv => lhs; unfold framesF
  rw [if_pos h, h2]
theorem frames_some {l : List UInt8} {p : Nat} {body : List UInt8} (h : p < l.length) (h2 : standsB (l.drop p) = some body) : framesF l p = (p, body) :: framesF l (p + 8 + body.length) := by
  conv => lhs; unfold framesF
  rw [if_pos h, h2]
theorem frames_end {l : List UInt8} {p : Nat} (h : l.length ≤ p) : framesF l p = [] := by
  unfold framesF
  rw [if_neg (by omega)]
theorem stands_fits {t body : List UInt8} (h : standsB t = some body) : 8 + body.length ≤ t.length ∧ body.length ≤ 8184 := by
  unfold standsB at h
  split at h
  · rename_i hc
    injection h with h
    have hm : (headOf t).1 ≤ 8184 := by
      have h1 := hc.1
      unfold headOf at h1 ⊢
      split at h1
      · cases h1
      · rename_i hx
        rw [if_neg hx]
        exact of_decide_eq_true h1
    rw [← h, List.length_drop, List.length_take]
    omega
  · cases h

/-- What was found so far. -/
structure Fd (base : Nat) (W : World) (v : Value) (L : List (Nat × List UInt8)) : Prop where
  own : ∃ cs : List Value, W.ownsRow base 60 2 v L.length cs ∧ ∀ (j : Nat) p b, L[j]? = some (p, b) → ∃ A c, cs[j * 2]? = some (.int .i64 (p : Int)) ∧ cs[j * 2 + 1]? = some (.slice A b.length c) ∧ Br W base A b.length c b

theorem eltF : Elt Try.prog 57 60 (.agg #[.int .i64 0, .slice none 0 0]) 2 32 := ⟨Try.underlying57, by kernel_rfl, rfl, by omega⟩
theorem two_one {x y : Value} (hx : x.oneCell' = true) (hy : y.oneCell' = true) : ∀ u ∈ [x, y], u.oneCell' = true := fun u hu => by
  simp only [List.mem_cons, List.not_mem_nil, or_false] at hu
  rcases hu with rfl | rfl
  · exact hx
  · exact hy

set_option maxRecDepth 100000 in
set_option maxHeartbeats 2000000 in
theorem frames_ref (A : Option Addr) (n c : Nat) (l : List UInt8) (w : World) (hs : Bs w A n c l) (hn : n ≤ 1048576) :
    Calls Try.prog 26 #[.slice A n c] w fun e w' => ∃ A' c', e = .returned (.slice A' (framesF l 0).length c') ∧ Fd w.heap.size w' (.slice A' (framesF l 0).length c') (framesF l 0) ∧ Below w.heap.size w w' := by
  have hl := hs.len
  have HS := Lib.hid hs
  obtain ⟨L, hL⟩ : ∃ z, framesF l 0 = z := ⟨_, rfl⟩
  rw [hL]
  have HL := Lib.hid hL
  clear hs hL
  go_enter Try.func26, Try.ntmps26
  go_wp2_with fail
  go_loopw [3, 4] (fun o t wr => ∃ (p co : Nat) (Ao : Option Addr) (K : List (Nat × List UInt8)), p ≤ n ∧ t = .int .i64 (p : Int) ∧ o = .slice Ao K.length co ∧ K ++ framesF l p = L ∧ K.length * 8 ≤ p ∧ Fd w.heap.size wr (.slice Ao K.length co) K ∧ Below w.heap.size w wr) (fun _ t _ => n - (intOf t).toNat)
  case atStart => exact ⟨0, 0, none, [], by omega, rfl, rfl, by rw [HL.out]; rfl, by simp, ⟨[], World.ownsRow_nil _ _ _ _, fun j p b h => by simp at h⟩, by go_grown⟩
  case round =>
    obtain ⟨p, co, Ao, K, hp, rfl, rfl, hK, hK8, hF, hB⟩ := hrel
    rcases Nat.lt_or_ge p n with hlt | hge
    · have hpI : (p : Int) < (n : Int) := by omega
      have HX := Lib.hid (And.intro hK (And.intro hF hB))
      have hsz := hB.size
      clear hK hF hB
      go_wp2_with fail
      refine (stands_ref A n c p l wr (HS.out.below HX.out.2.2) hp (by omega)).mono ?_
      rintro e w2 (⟨hn2, rfl, hb2⟩ | ⟨body, A', c', hn2, rfl, hr2, hb2⟩)
      · have hk2 := frames_none (l := l) (p := p) (by omega) hn2
        have HK := Lib.hid hk2
        clear hn2 hk2
        go_wp2_with fail
        go_roundw
        case rel =>
          refine ⟨p + 1, co, Ao, K, by omega, by go_num, rfl, by rw [← HK.out]; exact HX.out.1, by omega, ?_, HX.out.2.2.trans (hb2.mono hsz)⟩
          obtain ⟨cs, h1, h2⟩ := HX.out.2.1.own
          exact ⟨cs, own_keep h1 hb2, fun j p b hj => by obtain ⟨A, c, h3, h4, h5⟩ := h2 j p b hj; exact ⟨A, c, h3, h4, h5.keep hb2⟩⟩
        case measure => simp [intOf]; omega
      · have hk2 := frames_some (l := l) (p := p) (by omega) hn2
        have hfit := stands_fits hn2
        rw [List.length_drop, hl] at hfit
        obtain ⟨cs, h1, h2⟩ := HX.out.2.1.own
        have h1' := own_keep h1 hb2
        have HK := Lib.hid (And.intro hk2 (And.intro hr2 h2))
        have hz2 := hb2.size
        clear hn2 hk2 hr2 h1 h2
        go_wp2_with (at_builtin; refine wpList_push rfl (.tmp 18) (.tmp 22) 57 rfl eltF w.heap.size Ao K.length co cs rfl h1' [_, _] rfl rfl (two_one rfl rfl) (le_maxLen (by omega)) (by omega) (by omega) ?_; intro A9 c9 w9 hown9 hg9)
        go_roundw
        case rel =>
          refine ⟨p + 8 + body.length, c9, A9, K ++ [(p, body)], by omega, by go_num, by rw [List.length_append]; rfl, ?_, by rw [List.length_append]; simp; omega, ⟨cs ++ [.int .i64 (p : Int), .slice A' body.length c'], by rw [List.length_append]; exact hown9, fun j p' b hj => ?_⟩, below_push (HX.out.2.2.trans (hb2.mono hsz)) h1' (Nat.le_refl _) (Nat.le_trans hsz hz2) hg9⟩
          · rw [List.append_assoc]
            show K ++ ((p, body) :: framesF l (p + 8 + body.length)) = L
            rw [← HK.out.1]
            exact HX.out.1
          · have hcl : cs.length = K.length * 2 := h1'.1
            rcases Nat.lt_or_ge j K.length with hjk | hjk
            · rw [List.getElem?_append_left hjk] at hj
              obtain ⟨A, c, h3, h4, h5⟩ := HK.out.2.2 j p' b hj
              exact ⟨A, c, by rw [List.getElem?_append_left (by omega)]; exact h3, by rw [List.getElem?_append_left (by omega)]; exact h4, (h5.keep hb2).push h1' (by decide) hg9⟩
            · rw [List.getElem?_append_right hjk] at hj
              have hj0 : j = K.length := by
                rcases Nat.eq_zero_or_pos (j - K.length) with h0 | h0
                · omega
                · rw [List.getElem?_eq_none (by simp; omega)] at hj; cases hj
              subst hj0
              rw [Nat.sub_self] at hj
              injection hj with hj
              injection hj with hj1 hj2
              subst hj1 hj2
              exact ⟨A', c', by rw [List.getElem?_append_right (by omega), hcl, Nat.sub_self]; rfl, by rw [List.getElem?_append_right (by omega), hcl, Nat.add_sub_cancel_left]; rfl, (HK.out.2.1.from hsz).push h1' (by decide) hg9⟩
        case measure => simp [intOf]; omega
    · have hpI : ¬ (p : Int) < (n : Int) := by omega
      have he := frames_end (l := l) (p := p) (by omega)
      rw [he, List.append_nil] at hK
      subst hK
      have HX := Lib.hid (And.intro hF hB)
      clear hF hB he
      go_wp2_with fail
      go_ret
      exact ⟨Ao, co, rfl, HX.out.1, HX.out.2⟩

end Go.Proofs.Ytiejgandjlldjaa
