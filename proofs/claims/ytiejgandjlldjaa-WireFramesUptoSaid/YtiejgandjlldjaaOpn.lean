/-
  Package wire: Open.
-/
import Derived.Test.YtiejgandjlldjaaFram
namespace Go.Proofs.Ytiejgandjlldjaa
open Go.RowKit

/-- What opening answers: the fault; the body. -/
def openCode (l : List UInt8) : Nat :=
  if (headOf l).2 = false then 33 else if l.length < 8 + (headOf l).1 then 30 else if 8 + (headOf l).1 < l.length then 32 else if wholeOf l = false then 34 else 0
def openBody (l : List UInt8) : List UInt8 := if openCode l = 0 then l.drop 8 else []
theorem head_long {l : List UInt8} (h : (headOf l).2 = true) : 8 ≤ l.length := by
  unfold headOf at h
  split at h
  · cases h
  · omega
theorem headOf_le (l : List UInt8) : (headOf l).1 ≤ 65535 := by
  unfold headOf
  split
  · simp
  · have := at8_lt l 2; have := at8_lt l 3; simp only []; omega

def Opened (w : World) (l : List UInt8) (e : Ending) (w' : World) : Prop := ∃ A m c, e = .returned (.tuple #[.slice A m c, .int .i64 (openCode l : Int)]) ∧ Bs w' A m c (openBody l) ∧ Fr w' w.heap.size A m ∧ Below w.heap.size w w'
theorem opened_bad {w w' : World} {l : List UInt8} {k : Nat} (hk : openCode l = k) (h0 : ¬ k = 0) (hb : Below w.heap.size w w') : Opened w l (.returned (.tuple #[.slice none 0 0, .int .i64 (k : Int)])) w' :=
  ⟨none, 0, 0, by rw [hk], by unfold openBody; rw [hk, if_neg h0]; exact Bs.nil _, .inl rfl, hb⟩
theorem fr_of_own {w w' : World} {A : Option Addr} {n c : Nat} {l : List UInt8} (h : Fresh w w' A n c l) : Fr w' w.heap.size A n := by
  rcases Nat.eq_zero_or_pos n with h0 | h0
  · exact .inl h0
  · exact fr_own (h.2 h0)

set_option maxRecDepth 100000 in
set_option maxHeartbeats 800000 in
theorem open_any (A : Option Addr) (n c : Nat) (l : List UInt8) (w : World) (hs : Bs w A n c l) (hlen : n ≤ 140737488355328) :
    Calls Try.prog 13 #[.slice A n c] w (Opened w l) := by
  have hz : ∀ W, (zeroValue 85).run Try.prog W = .ok (.agg z256) W := (zero_of_info (P := Try.prog) (t := 85) (v := .agg z256) (n := 256) (by kernel_rfl)).1
  have hl := hs.len
  have HL := Lib.hid (length_any A n c l w hs)
  have hle := headOf_le l
  obtain ⟨m, hm⟩ : ∃ z, (headOf l).1 = z := ⟨_, rfl⟩
  rw [hm] at hle HL
  have hn47 : (n : Int) ≤ 140737488355328 := by omega
  have hm65 : (m : Int) ≤ 65535 := by omega
  cases hok : (headOf l).2
  · have hc : openCode l = 33 := by unfold openCode; rw [if_pos hok]
    rw [hok] at HL
    have HO := Lib.hid hc
    clear hc hok hm hs hle
    go_enter Try.func13, Try.ntmps13
    go_wp2_with fail
    refine (HL.out).mono ?_
    rintro e w1 ⟨rfl, hb_w1⟩
    obtain ⟨hc_w1, hf_w1⟩ := bcell hb_w1
    have hz_w1 := hb_w1.size
    try simp at hz_w1
    have hB_w1 : Below w.heap.size w w1 := Below.trans (by go_grown) (hb_w1.mono (by go_size))
    go_wp2_with fail
    refine (sums_any _).mono ?_
    rintro e w2 ⟨rfl, hb_w2⟩
    obtain ⟨hc_w2, hf_w2⟩ := bcell hb_w2
    have hz_w2 := hb_w2.size
    try simp at hz_w2
    have hB_w2 : Below w.heap.size w w2 := Below.trans (by go_grown) (hb_w2.mono (by go_size))
    go_wp2_with (refine wpList_storeV rfl 85 (.tmp 6) (.tmp 13) rfl w2.heap.size tab z256 rfl rfl (Var.new _ _ _) (by kernel_rfl) (by simp [z256, tab]) tab_cells ?_; intro w4 hT4 hO4 hb4 hz4; have hb24 : Below w2.heap.size w2 w4 := Below.trans (by go_grown) hb4)
    go_ret2
    exact opened_bad HO.out (by decide) ((hb_w1.trans (hb_w2.mono hb_w1.size)).trans (hb24.mono (by have := hb_w1.size; have := hb_w2.size; omega)))
  · have h8 := head_long hok
    rw [hok] at HL
    rw [hl] at h8
    rcases Nat.lt_or_ge n (8 + m) with h1 | h1
    · have hc : openCode l = 30 := by unfold openCode; rw [if_neg (by rw [hok]; simp), hm, hl, if_pos h1]
      have HO := Lib.hid hc
      have hd : (n : Int) - 8 - (m : Int) < 0 := by omega
      have hd' : (n : Int) - 8 < (m : Int) := by omega
      clear hc hok hm hs hle
      go_enter Try.func13, Try.ntmps13
      go_wp2_with fail
      refine (HL.out).mono ?_
      rintro e w1 ⟨rfl, hb_w1⟩
      obtain ⟨hc_w1, hf_w1⟩ := bcell hb_w1
      have hz_w1 := hb_w1.size
      try simp at hz_w1
      have hB_w1 : Below w.heap.size w w1 := Below.trans (by go_grown) (hb_w1.mono (by go_size))
      go_wp2_with fail
      refine (sums_any _).mono ?_
      rintro e w2 ⟨rfl, hb_w2⟩
      obtain ⟨hc_w2, hf_w2⟩ := bcell hb_w2
      have hz_w2 := hb_w2.size
      try simp at hz_w2
      have hB_w2 : Below w.heap.size w w2 := Below.trans (by go_grown) (hb_w2.mono (by go_size))
      go_wp2_with (refine wpList_storeV rfl 85 (.tmp 6) (.tmp 13) rfl w2.heap.size tab z256 rfl rfl (Var.new _ _ _) (by kernel_rfl) (by simp [z256, tab]) tab_cells ?_; intro w4 hT4 hO4 hb4 hz4; have hb24 : Below w2.heap.size w2 w4 := Below.trans (by go_grown) hb4)
      go_ret2
      exact opened_bad HO.out (by decide) ((hb_w1.trans (hb_w2.mono hb_w1.size)).trans (hb24.mono (by have := hb_w1.size; have := hb_w2.size; omega)))
    · rcases Nat.lt_or_ge (8 + m) n with h2 | h2
      · have hc : openCode l = 32 := by unfold openCode; rw [if_neg (by rw [hok]; simp), hm, hl, if_neg (by omega), if_pos h2]
        have HO := Lib.hid hc
        have hd : ¬ (n : Int) - 8 - (m : Int) < 0 := by omega
        have hd' : ¬ (n : Int) - 8 < (m : Int) := by omega
        have hg : 0 < (n : Int) - 8 - (m : Int) := by omega
        have hg' : (m : Int) < (n : Int) - 8 := by omega
        clear hc hok hm hs hle
        go_enter Try.func13, Try.ntmps13
        go_wp2_with fail
        refine (HL.out).mono ?_
        rintro e w1 ⟨rfl, hb_w1⟩
        obtain ⟨hc_w1, hf_w1⟩ := bcell hb_w1
        have hz_w1 := hb_w1.size
        try simp at hz_w1
        have hB_w1 : Below w.heap.size w w1 := Below.trans (by go_grown) (hb_w1.mono (by go_size))
        go_wp2_with fail
        refine (sums_any _).mono ?_
        rintro e w2 ⟨rfl, hb_w2⟩
        obtain ⟨hc_w2, hf_w2⟩ := bcell hb_w2
        have hz_w2 := hb_w2.size
        try simp at hz_w2
        have hB_w2 : Below w.heap.size w w2 := Below.trans (by go_grown) (hb_w2.mono (by go_size))
        go_wp2_with (refine wpList_storeV rfl 85 (.tmp 6) (.tmp 13) rfl w2.heap.size tab z256 rfl rfl (Var.new _ _ _) (by kernel_rfl) (by simp [z256, tab]) tab_cells ?_; intro w4 hT4 hO4 hb4 hz4; have hb24 : Below w2.heap.size w2 w4 := Below.trans (by go_grown) hb4)
        go_ret2
        exact opened_bad HO.out (by decide) ((hb_w1.trans (hb_w2.mono hb_w1.size)).trans (hb24.mono (by have := hb_w1.size; have := hb_w2.size; omega)))
      · have hd : ¬ (n : Int) - 8 - (m : Int) < 0 := by omega
        have hd' : ¬ (n : Int) - 8 < (m : Int) := by omega
        have hg : ¬ 0 < (n : Int) - 8 - (m : Int) := by omega
        have hg' : ¬ (m : Int) < (n : Int) - 8 := by omega
        have HS := Lib.hid hs
        cases hw : wholeOf l
        · have hc : openCode l = 34 := by unfold openCode; rw [if_neg (by rw [hok]; simp), hm, hl, if_neg (by omega), if_neg (by omega), if_pos hw]
          have HO := Lib.hid hc
          have HW := Lib.hid (fun T W hT hs => whole_any T A n c l W hT hs h8)
          rw [hw] at HW
          clear hc hok hm hs hle hw
          go_enter Try.func13, Try.ntmps13
          go_wp2_with fail
          refine (HL.out).mono ?_
          rintro e w1 ⟨rfl, hb_w1⟩
          obtain ⟨hc_w1, hf_w1⟩ := bcell hb_w1
          have hz_w1 := hb_w1.size
          try simp at hz_w1
          have hB_w1 : Below w.heap.size w w1 := Below.trans (by go_grown) (hb_w1.mono (by go_size))
          go_wp2_with fail
          refine (sums_any _).mono ?_
          rintro e w2 ⟨rfl, hb_w2⟩
          obtain ⟨hc_w2, hf_w2⟩ := bcell hb_w2
          have hz_w2 := hb_w2.size
          try simp at hz_w2
          have hB_w2 : Below w.heap.size w w2 := Below.trans (by go_grown) (hb_w2.mono (by go_size))
          go_wp2_with (refine wpList_storeV rfl 85 (.tmp 6) (.tmp 13) rfl w2.heap.size tab z256 rfl rfl (Var.new _ _ _) (by kernel_rfl) (by simp [z256, tab]) tab_cells ?_; intro w4 hT4 hO4 hb4 hz4; have hb24 : Below w2.heap.size w2 w4 := Below.trans (by go_grown) hb4)
          have HW4 := Lib.hid (HW.out _ w4 hT4 ((HS.out.below hb_w1).below hb_w2 |>.below hb24))
          refine HW4.out.mono ?_
          rintro e w5 ⟨rfl, hb5⟩
          go_wp2_with fail
          go_ret2
          exact opened_bad HO.out (by decide) (((hb_w1.trans (hb_w2.mono hb_w1.size)).trans (hb24.mono (by have := hb_w1.size; have := hb_w2.size; omega))).trans (hb5.mono ((hb_w1.trans (hb_w2.mono hb_w1.size)).trans (hb24.mono (by have := hb_w1.size; have := hb_w2.size; omega))).size))
        · have hc : openCode l = 0 := by unfold openCode; rw [if_neg (by rw [hok]; simp), hm, hl, if_neg (by omega), if_neg (by omega), if_neg (by rw [hw]; simp)]
          have HO := Lib.hid hc
          have HW := Lib.hid (fun T W hT hs => whole_any T A n c l W hT hs h8)
          rw [hw] at HW
          obtain ⟨g, o, rfl, hg0, _⟩ := hs.pos (by omega)
          have hcap := hs.cap
          have hsub := bs_tail hs (k := 8) h8
          have hsz : c = 8 → Bs w (some ⟨g, o, none⟩) (n - 8) 0 (l.drop 8) := fun hc8 => ⟨by rw [List.length_drop]; omega, by omega, Nat.zero_le _, .inl (by omega)⟩
          have HX := Lib.hid hsub
          have HZ := Lib.hid hsz
          have hob : openBody l = l.drop 8 := by unfold openBody; rw [if_pos hc]
          have HOB := Lib.hid hob
          clear hob hsz
          have hn8 : (8 : Int) ≤ (n : Int) := by omega
          clear hc hok hm hs hle hw hsub
          go_enter Try.func13, Try.ntmps13
          go_wp2_with fail
          refine (HL.out).mono ?_
          rintro e w1 ⟨rfl, hb_w1⟩
          obtain ⟨hc_w1, hf_w1⟩ := bcell hb_w1
          have hz_w1 := hb_w1.size
          try simp at hz_w1
          have hB_w1 : Below w.heap.size w w1 := Below.trans (by go_grown) (hb_w1.mono (by go_size))
          go_wp2_with fail
          refine (sums_any _).mono ?_
          rintro e w2 ⟨rfl, hb_w2⟩
          obtain ⟨hc_w2, hf_w2⟩ := bcell hb_w2
          have hz_w2 := hb_w2.size
          try simp at hz_w2
          have hB_w2 : Below w.heap.size w w2 := Below.trans (by go_grown) (hb_w2.mono (by go_size))
          go_wp2_with (refine wpList_storeV rfl 85 (.tmp 6) (.tmp 13) rfl w2.heap.size tab z256 rfl rfl (Var.new _ _ _) (by kernel_rfl) (by simp [z256, tab]) tab_cells ?_; intro w4 hT4 hO4 hb4 hz4; have hb24 : Below w2.heap.size w2 w4 := Below.trans (by go_grown) hb4)
          have HW4 := Lib.hid (HW.out _ w4 hT4 ((HS.out.below hb_w1).below hb_w2 |>.below hb24))
          refine HW4.out.mono ?_
          rintro e w5 ⟨rfl, hb5⟩
          have HX5 := Lib.hid ((((HX.out.below hb_w1).below hb_w2).below hb24).below hb5)
          have HZ5 := Lib.hid (fun h => (((((HZ.out h).below hb_w1).below hb_w2).below hb24).below hb5))
          have hB4 := ((hb_w1.trans (hb_w2.mono hb_w1.size)).trans (hb24.mono (by have := hb_w1.size; have := hb_w2.size; omega)))
          have hB5 := hB4.trans (hb5.mono hB4.size)
          go_wp2_with fail
          all_goals
            refine (clone_any _ (n - 8) _ (l.drop 8) w5 (by first | exact HX5.out | exact HZ5.out (by assumption)) (by omega)).mono ?_
            rintro e w6 ⟨A', c', rfl, hfr, hb6⟩
            go_wp2_with fail
            go_ret2
            exact ⟨A', n - 8, c', by rw [HO.out]; rfl, by rw [HOB.out]; exact hfr.1, (fr_of_own hfr).mono hB5.size, hB5.trans (hb6.mono hB5.size)⟩

end Go.Proofs.Ytiejgandjlldjaa
