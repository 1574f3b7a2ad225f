/-
  A numeral's text: plain definitions; contract of wide.numeral.
-/
import Derived.Test.YtedodoaeecbalaaTextM
import Derived.Test.YtedodoaeecbalaaWideMath
import Derived.Laws.Strings
import Derived.Lib.Strings
import Derived.Lib.Hide
namespace Go.Proofs.Ytedodoaeecbalaa
open Go.RowKit

def isdg (c : UInt8) : Bool := decide (48 ≤ c.toNat ∧ c.toNat ≤ 57)
def at8 (ds : List UInt8) (i : Nat) : UInt8 := ds.getD i 0
/-- Is it a number's digits? (below: a sign stood ahead.) -/
def numok (ds : List UInt8) (b : Bool) : Bool := !ds.isEmpty && !(decide ((at8 ds 0).toNat = 48) && (decide (1 < ds.length) || b)) && ds.all isdg
theorem numok_nil (b : Bool) : numok [] b = false := rfl
theorem numok_nought {ds : List UInt8} {b : Bool} (h : (at8 ds 0).toNat = 48) (h1 : 1 < ds.length ∨ b = true) : numok ds b = false := by
  unfold numok
  have e : (decide ((at8 ds 0).toNat = 48) && (decide (1 < ds.length) || b)) = true := by
    rw [decide_eq_true h, Bool.true_and]
    rcases h1 with h1 | h1
    · rw [decide_eq_true h1, Bool.true_or]
    · rw [h1, Bool.or_true]
  rw [e]
  simp
theorem at8_mem {ds : List UInt8} {i : Nat} (h : i < ds.length) : at8 ds i ∈ ds := by
  unfold at8
  rw [List.getD_eq_getElem?_getD, List.getElem?_eq_getElem h]
  exact List.getElem_mem h
theorem numok_bad {ds : List UInt8} {b : Bool} {i : Nat} (h : i < ds.length) (h1 : ¬ (48 ≤ (at8 ds i).toNat ∧ (at8 ds i).toNat ≤ 57)) : numok ds b = false := by
  unfold numok
  have e : ds.all isdg = false := by
    rw [Bool.eq_false_iff]
    intro hh
    have := List.all_eq_true.1 hh _ (at8_mem h)
    unfold isdg at this
    exact h1 (of_decide_eq_true this)
  rw [e, Bool.and_false]
theorem numok_good {ds : List UInt8} {b : Bool} (h0 : 0 < ds.length) (h : ¬ ((at8 ds 0).toNat = 48 ∧ (1 < ds.length ∨ b = true))) (h1 : ∀ i, i < ds.length → 48 ≤ (at8 ds i).toNat ∧ (at8 ds i).toNat ≤ 57) : numok ds b = true := by
  unfold numok
  have e1 : ds.isEmpty = false := by cases ds with | nil => simp at h0 | cons => rfl
  have e2 : (decide ((at8 ds 0).toNat = 48) && (decide (1 < ds.length) || b)) = false := by
    rw [Bool.eq_false_iff]
    intro hh
    simp only [Bool.and_eq_true, Bool.or_eq_true, decide_eq_true_eq] at hh
    exact h hh
  have e3 : ds.all isdg = true := by
    rw [List.all_eq_true]
    intro c hc
    obtain ⟨i, hi, rfl⟩ := List.getElem_of_mem hc
    have := h1 i hi
    unfold at8 at this
    rw [List.getD_eq_getElem?_getD, List.getElem?_eq_getElem hi] at this
    exact decide_eq_true this
  rw [e1, e2, e3]
  rfl
theorem numok_says {ds : List UInt8} {b : Bool} (h : numok ds b = true) : 0 < ds.length ∧ ¬ ((at8 ds 0).toNat = 48 ∧ (1 < ds.length ∨ b = true)) ∧ ∀ i, i < ds.length → 48 ≤ (at8 ds i).toNat ∧ (at8 ds i).toNat ≤ 57 := by
  refine ⟨?_, fun hh => ?_, fun i hi => ?_⟩
  · rcases Nat.eq_zero_or_pos ds.length with h0 | h0
    · rw [List.length_eq_zero_iff.1 h0, numok_nil] at h; exact Bool.noConfusion h
    · exact h0
  · rw [numok_nought hh.1 hh.2] at h; exact Bool.noConfusion h
  · rcases Decidable.em (48 ≤ (at8 ds i).toNat ∧ (at8 ds i).toNat ≤ 57) with h1 | h1
    · exact h1
    · rw [numok_bad hi h1] at h; exact Bool.noConfusion h

/-- The byte at a place of a string. -/
theorem index_at (D : ByteArray) (i : Nat) (hi : i < D.data.toList.length) (W : World) :
    (Instr.index 9 (.string D) (.int .i64 (i : Int))).run Try.prog W = .ok (.int .u8 ((at8 D.data.toList i).toNat : Int)) W := by
  have hs := Lib.size_eq D
  rw [run_index_string W 9 D .i64 (i : Int) Try.underlying9, dif_pos (by omega)]
  congr 3
  unfold at8
  rw [List.getD_eq_getElem?_getD, List.getElem?_eq_getElem hi]
  simp [ByteArray.getElem_eq_getElem_data]

theorem ret_b {a b : Bool} (h : a = b) : Ending.returned (.bool a) = .returned (.bool b) := by rw [h]

set_option maxHeartbeats 1000000 in
theorem numeral_any (D : ByteArray) (b : Bool) (hm : D.data.toList.length ≤ 9223372036854775807) (w : World) :
    Calls Try.prog 70 #[.string D, .bool b] w fun e w' => e = .returned (.bool (numok D.data.toList b)) ∧ Below w.heap.size w w' := by
  have hsz := Lib.size_eq D
  have hem : D.toList.isEmpty = D.data.toList.isEmpty := by rw [Lib.toList_data]
  have IX := index_at D
  obtain ⟨ds, hds⟩ : ∃ z, D.data.toList = z := ⟨_, rfl⟩
  rw [hds] at IX hm hsz hem ⊢
  obtain ⟨m, hmm⟩ : ∃ z, ds.length = z := ⟨_, rfl⟩
  rw [hmm] at IX hm hsz
  have HL := Lib.hid hmm
  rcases Nat.eq_zero_or_pos m with h0 | h0
  · subst h0
    have hd0 : ds = [] := List.length_eq_zero_iff.1 hmm
    subst hd0
    have hemp : D.toList.isEmpty = true := by rw [hem]; rfl
    clear hem
    rw [numok_nil]
    go_enter Try.func70, Try.ntmps70
    go_wp2_with fail
    go_ret
    exact ⟨rfl, by go_grown⟩
  · have hemp : D.toList.isEmpty = false := by
      rw [hem]
      cases ds with
      | nil => simp at hmm; omega
      | cons => rfl
    obtain ⟨c0, hc0⟩ : ∃ z, (at8 ds 0).toNat = z := ⟨_, rfl⟩
    have IX0 : ∀ W : World, (Instr.index 9 (.string D) (.int .i64 0)).run Try.prog W = .ok (.int .u8 (c0 : Int)) W := fun W => by rw [← hc0]; exact IX 0 h0 W
    have IXH := Lib.hid IX
    clear IX
    have HC0 := Lib.hid hc0
    clear hem hmm hds hc0
    rcases Decidable.em (c0 = 48) with hz | hz
    · subst hz
      have z1 : (((48 : Nat) : Int) == 48) = true := by decide
      rcases Nat.lt_or_ge 1 m with h1 | h1
      · have h1I : (1 : Int) < (m : Int) := by omega
        have hans := Lib.hid (show numok ds b = false from numok_nought HC0.out (.inl (by rw [HL.out]; exact h1)))
        go_enter Try.func70, Try.ntmps70
        go_wp2_with fail
        go_ret
        exact ⟨ret_b hans.out.symm, by go_grown⟩
      · have h1I : ¬ (1 : Int) < (m : Int) := by omega
        have h1D : decide ((1 : Int) < (m : Int)) = false := decide_eq_false h1I
        cases b
        · go_enter Try.func70, Try.ntmps70
          go_wp2_with fail
          go_loopw [23] (fun t wr => ∃ i : Nat, t = .int .i64 (i : Int) ∧ i ≤ m ∧ Hid (∀ k, k < i → 48 ≤ (at8 ds k).toNat ∧ (at8 ds k).toNat ≤ 57) ∧ w = wr) (fun t _ => (m - intOf t).toNat)
          case atStart => exact ⟨0, rfl, by omega, Lib.hid (fun k hk => absurd hk (by omega)), rfl⟩
          case round =>
            obtain ⟨i, rfl, hi, HG, rfl⟩ := hrel
            rcases Nat.lt_or_ge i m with hlt | hge
            · have hlI : (i : Int) < (m : Int) := by omega
              have IXi := IXH.out i hlt
              have hbad : ¬ (48 ≤ (at8 ds i).toNat ∧ (at8 ds i).toNat ≤ 57) → numok ds false = false := fun h => numok_bad (by rw [HL.out]; exact hlt) h
              have HBAD := Lib.hid hbad
              obtain ⟨ci, hci⟩ : ∃ z, (at8 ds i).toNat = z := ⟨_, rfl⟩
              rw [hci] at IXi HBAD
              have HCI := Lib.hid hci
              clear hbad hci
              rcases Nat.lt_or_ge ci 48 with h1 | h1
              · have h1I : (ci : Int) < 48 := by omega
                have hans := Lib.hid (HBAD.out (by omega))
                go_wp2_with fail
                go_ret
                exact ⟨ret_b hans.out.symm, by go_grown⟩
              · rcases Nat.lt_or_ge 57 ci with h2 | h2
                · have h1I : ¬ (ci : Int) < 48 := by omega
                  have h2I : 57 < (ci : Int) := by omega
                  have hans := Lib.hid (HBAD.out (by omega))
                  go_wp2_with fail
                  go_ret
                  exact ⟨ret_b hans.out.symm, by go_grown⟩
                · have h1I : ¬ (ci : Int) < 48 := by omega
                  have h2I : ¬ 57 < (ci : Int) := by omega
                  go_wp2_with fail
                  go_roundw
                  case rel =>
                    refine ⟨i + 1, congrArg (Value.int .i64) (by omega), by omega, Lib.hid (fun k hk => ?_), by trivial⟩
                    rcases Nat.lt_or_ge k i with h | h
                    · exact HG.out k h
                    · rw [show k = i by omega, HCI.out]; exact ⟨h1, h2⟩
                  case measure => (first | (simp only [intOf]; omega) | (simp [intOf]; omega))
            · have hgI : ¬ (i : Int) < (m : Int) := by omega
              have hans := Lib.hid (show numok ds false = true from numok_good (by rw [HL.out]; exact h0) (fun hh => by rw [HL.out] at hh; exact hh.2.elim (fun h => absurd h (by omega)) (fun h => Bool.noConfusion h)) (fun k hk => HG.out k (by rw [HL.out] at hk; omega)))
              go_wp2_with fail
              go_ret
              exact ⟨ret_b hans.out.symm, by go_grown⟩
        · have hans := Lib.hid (show numok ds true = false from numok_nought HC0.out (.inr rfl))
          go_enter Try.func70, Try.ntmps70
          go_wp2_with fail
          go_ret
          exact ⟨ret_b hans.out.symm, by go_grown⟩
    · have z1 : ((c0 : Int) == 48) = false := by simp; omega
      have z2 : ¬ (c0 : Int) = 48 := by omega
      go_enter Try.func70, Try.ntmps70
      go_wp2_with fail
      go_loopw [23] (fun t wr => ∃ i : Nat, t = .int .i64 (i : Int) ∧ i ≤ m ∧ Hid (∀ k, k < i → 48 ≤ (at8 ds k).toNat ∧ (at8 ds k).toNat ≤ 57) ∧ w = wr) (fun t _ => (m - intOf t).toNat)
      case atStart => exact ⟨0, rfl, by omega, Lib.hid (fun k hk => absurd hk (by omega)), rfl⟩
      case round =>
        obtain ⟨i, rfl, hi, HG, rfl⟩ := hrel
        rcases Nat.lt_or_ge i m with hlt | hge
        · have hlI : (i : Int) < (m : Int) := by omega
          have IXi := IXH.out i hlt
          have hbad : ¬ (48 ≤ (at8 ds i).toNat ∧ (at8 ds i).toNat ≤ 57) → numok ds b = false := fun h => numok_bad (by rw [HL.out]; exact hlt) h
          have HBAD := Lib.hid hbad
          obtain ⟨ci, hci⟩ : ∃ z, (at8 ds i).toNat = z := ⟨_, rfl⟩
          rw [hci] at IXi HBAD
          have HCI := Lib.hid hci
          clear hbad hci
          rcases Nat.lt_or_ge ci 48 with h1 | h1
          · have h1I : (ci : Int) < 48 := by omega
            have hans := Lib.hid (HBAD.out (by omega))
            go_wp2_with fail
            go_ret
            exact ⟨ret_b hans.out.symm, by go_grown⟩
          · rcases Nat.lt_or_ge 57 ci with h2 | h2
            · have h1I : ¬ (ci : Int) < 48 := by omega
              have h2I : 57 < (ci : Int) := by omega
              have hans := Lib.hid (HBAD.out (by omega))
              go_wp2_with fail
              go_ret
              exact ⟨ret_b hans.out.symm, by go_grown⟩
            · have h1I : ¬ (ci : Int) < 48 := by omega
              have h2I : ¬ 57 < (ci : Int) := by omega
              go_wp2_with fail
              go_roundw
              case rel =>
                refine ⟨i + 1, congrArg (Value.int .i64) (by omega), by omega, Lib.hid (fun k hk => ?_), by trivial⟩
                rcases Nat.lt_or_ge k i with h | h
                · exact HG.out k h
                · rw [show k = i by omega, HCI.out]; exact ⟨h1, h2⟩
              case measure => (first | (simp only [intOf]; omega) | (simp [intOf]; omega))
        · have hgI : ¬ (i : Int) < (m : Int) := by omega
          have hans := Lib.hid (show numok ds b = true from numok_good (by rw [HL.out]; exact h0) (fun hh => hz (by rw [← HC0.out]; exact hh.1)) (fun k hk => HG.out k (by rw [HL.out] at hk; omega)))
          go_wp2_with fail
          go_ret
          exact ⟨ret_b hans.out.symm, by go_grown⟩

end Go.Proofs.Ytedodoaeecbalaa
