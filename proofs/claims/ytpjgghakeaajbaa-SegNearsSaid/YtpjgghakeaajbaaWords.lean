/-
  The document's rows of words (package paddockref05): made, low, sum, less.
-/
import Derived.Test.YtpjgghakeaajbaaNumW
import Derived.Test.YtpjgghakeaajbaaWordM
import Derived.Test.YtpjgghakeaajbaaWideMath
import Derived.Outline
import Derived.WalkSpells
import Derived.WalkLawsBesides
import Derived.Lib.Hide
import Derived.Handy
import Derived.BigQuiet
import Derived.Deep.RegionHeld3
import Derived.Deep.LoopGhost
import Derived.Deep.RegionWith
import Derived.Deep.OwnRows
namespace Go.Proofs.Ytpjgghakeaajbaa
open Go.RowKit

theorem raw_of_var {w : World} {g L : Nat} {ds : List Nat} (h : Var w g 91 (ds.map U).toArray) (hl : ds.length = L) (hL : L ≤ 9223372036854775807) (hd : Digs ds) : RawAt w (some ⟨g, 0, none⟩) L L ds :=
  ⟨hl, Nat.le_refl _, hL, fun j u hu => ⟨g, 0, _, rfl, h.lt, h, by rw [Nat.zero_add, h.cell j]; simpa using hu⟩, hd⟩
theorem noughts (n : Nat) : madeCells #[.int .u32 0] n = (((List.replicate n 0).map U).toArray : Array Value) := by
  have h := toList_madeCells_one (.int .u32 0) n
  rw [List.map_replicate]
  exact Array.toList_inj.1 (by rw [h]; rfl)
theorem ret_intR {k : IntKind} {a b : Int} (h : a = b) : Ending.returned (.int k a) = .returned (.int k b) := by rw [h]

set_option maxHeartbeats 800000 in
theorem made_w {w0 : World} {A : Option Addr} {n c : Nat} {ds : List Nat} (h : RawAt w0 A n c ds) (s : Bool) (w : World) (hw : Below w0.heap.size w0 w) :
    Calls Try.prog 58 #[.bool s, .slice A n c] w fun e w' => ∃ v, e = .returned v ∧ MagAt w' v (s && decide (¬ val ds = 0)) (val ds) ∧ Below w.heap.size w w' := by
  have h1 := h.below hw
  have hcc := h1.cap
  have hbig := h1.big
  cases s
  all_goals
    go_enter Try.func58, Try.ntmps58
    go_wp2_with fail
    go_loop [5] (fun t => ∃ k : Nat, k ≤ n ∧ t = .int .i64 (k : Int) ∧ val (ds.drop k) = 0) (fun t => (intOf t).toNat)
    case atStart => exact ⟨n, Nat.le_refl _, rfl, by rw [List.drop_of_length_le (by rw [h.len]; omega)]; rfl⟩
    case round =>
      obtain ⟨k, hk, rfl, hv⟩ := hrel
      have HV := Lib.hid hv
      clear hv
      rcases Nat.eq_zero_or_pos k with h0 | h0
      · subst h0
        have HZ := Lib.hid (show val ds = 0 by simpa using HV.out)
        go_wp2_with fail
        refine bodyPost_ret (by simp [results, Try.results58, go_sem, *]; try rfl) rfl ?_
        refine ⟨_, rfl, ⟨A, 0, c, [], by simp [HZ.out], ?_, Tight.nil, by rw [HZ.out]; rfl⟩, by go_grown⟩
        exact ⟨rfl, by omega, hbig, Sl.nil _ _, Digs.nil⟩
      · obtain ⟨b, o, rfl, hb, hc⟩ := h1.at_ (i := k - 1) (by omega)
        have hc' : w.cell? ⟨b, o + (k - 1), none⟩ = some (.int .u32 (dig ds (k - 1) : Int)) := hc
        have hne : ¬ b = w.heap.size := by omega
        clear hc
        rcases Nat.eq_zero_or_pos (dig ds (k - 1)) with hd | hd
        · rw [hd] at hc'
          go_wp2_with fail
          go_round
          case rel => exact ⟨k - 1, by omega, congrArg (Value.int .i64) (by omega), drop_zero_step h0 HV.out hd⟩
          case measure => simp [intOf]; omega
        · go_wp2_with fail
          refine bodyPost_ret (by simp [results, Try.results58, go_sem, *]; try rfl) rfl ?_
          have hv := HV.out
          have hpos : ¬ val ds = 0 := by
            intro h0
            have h2 := val_take_zeros (ds := ds) (n := k) (by rw [h.len]; exact hk) hv
            have ht := tight_take (ds := ds) (n := k) (by rw [h.len]; exact hk) (.inr (by omega))
            rw [h0, val_eq_zero ht] at h2
            have := congrArg List.length h2
            rw [List.length_take, h.len] at this
            simp at this; omega
          refine ⟨_, rfl, ⟨some ⟨b, o, none⟩, k, c, ds.take k, by simp [hpos], ?_, tight_take (by rw [h.len]; exact hk) (.inr (by omega)), val_take_zeros (by rw [h.len]; exact hk) hv⟩, by go_grown⟩
          exact (h1.take hk).below (by go_grown)

end Go.Proofs.Ytpjgghakeaajbaa
