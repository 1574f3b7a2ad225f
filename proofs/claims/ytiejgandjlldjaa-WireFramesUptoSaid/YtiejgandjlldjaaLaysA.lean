/-
  The law's lays and takes, all kinds in one.
-/
import Derived.Test.YtiejgandjlldjaaBackM
import Derived.Test.YtiejgandjlldjaaLays
namespace Go.Proofs.Ytiejgandjlldjaa
open Go.RowKit

theorem Lays.mono {p : Value} {w : World} {l : List UInt8} {Q Q' : World → Prop} (h : Lays p w l Q) (hq : ∀ w', Q w' → Q' w') : Lays p w l Q' := fun W A m d hW hs => (h W A m d hW hs).mono fun _ _ ⟨he, k⟩ => ⟨he, hq _ k⟩

theorem layB_length (k : Int) (v : Nat) (s : ByteArray) : (layB k v s).length ≤ 65537 := by
  have hc := cutB_le s
  unfold layB
  split
  · rw [leN_length]; omega
  split
  · rw [leN_length]; omega
  split
  · rw [leN_length]; omega
  split
  · rw [leN_length]; omega
  split
  · rw [leN_length]; omega
  split
  · rw [List.length_append, leN_length]; omega
  · simp

theorem lays_all (O : Nat) (l : List UInt8) (k : Int) (v : Nat) (hv : v < 18446744073709551616) (s : ByteArray) (w : World) (h : OutAt w O l) (hlen : l.length ≤ 224999999934463) :
    Calls Try.prog 15 #[.pointer (some ⟨O, 0, none⟩), .agg #[.int .i64 k, .int .u64 (v : Int), .string s]] w fun e w' => Void e ∧ OutAt w' O (l ++ layB k v s) ∧ Upd O w w' := by
  have hb : ∀ n x, n ≤ 8 → l.length + (leN n x).length ≤ 225000000000000 := fun n x hn => by rw [leN_length]; omega
  rcases Decidable.em (1 ≤ k ∧ k ≤ 12) with hk | hk
  · have hc : k = 1 ∨ k = 2 ∨ k = 3 ∨ k = 4 ∨ k = 5 ∨ k = 6 ∨ k = 7 ∨ k = 8 ∨ k = 9 ∨ k = 10 ∨ k = 11 ∨ k = 12 := by omega
    rcases hc with rfl | rfl | rfl | rfl | rfl | rfl | rfl | rfl | rfl | rfl | rfl | rfl
    · exact lays_1 _ v hv s w (lays_out h _ (hb _ _ (by omega)))
    · exact lays_2 _ v hv s w (lays_out h _ (hb _ _ (by omega)))
    · exact lays_3 _ v hv s w (lays_out h _ (hb _ _ (by omega)))
    · exact lays_4 _ v hv s w (lays_out h _ (hb _ _ (by omega)))
    · exact lays_5 _ v hv s w (lays_out h _ (hb _ _ (by omega)))
    · exact lays_6 _ v hv s w (lays_out h _ (hb _ _ (by omega)))
    · exact lays_7 _ v hv s w (lays_out h _ (hb _ _ (by omega)))
    · exact lays_8 _ v hv s w (lays_out h _ (hb _ _ (by omega)))
    · exact lays_9 _ v hv s w (lays_out h _ (hb _ _ (by omega)))
    · have hc := cutB_le s
      refine lays_10 _ v s w (lays_out h _ (hb _ _ (by omega))) fun w1 hq => (lays_out hq.1 (cutB s) (by rw [List.length_append, leN_length]; omega)).mono fun w' hr => ⟨?_, hq.2.trans hr.2⟩
      show OutAt w' O (l ++ (leN 2 (cutB s).length ++ cutB s))
      rw [← List.append_assoc]
      exact hr.1
    · exact lays_11 _ v hv s w (lays_out h _ (hb _ _ (by omega)))
    · exact lays_12 _ v hv s w (lays_out h _ (hb _ _ (by omega)))
  · have e1 : layB k v s = [] := by unfold layB; simp only [show ¬ k = 1 by omega, show ¬ k = 2 by omega, show ¬ k = 3 by omega, show ¬ k = 4 by omega, show ¬ k = 5 by omega, show ¬ k = 6 by omega, show ¬ k = 7 by omega, show ¬ k = 8 by omega, show ¬ k = 9 by omega, show ¬ k = 10 by omega, show ¬ k = 11 by omega, show ¬ k = 12 by omega, false_or, if_false]
    rw [e1, List.append_nil]
    exact lays_other _ k (by omega) v s w fun w' hb => ⟨h.keep hb, Upd.of_below hb⟩

theorem takes_all (I : Nat) (s : Ist) (k most : Int) (w : World) (h : InAt w I s) :
    Calls Try.prog 29 #[.pointer (some ⟨I, 0, none⟩), .agg #[.int .i64 k, .int .i64 most]] w fun e w' => Took I w (takeOf k most s).2 e (gotV (takeOf k most s).1.1 (takeOf k most s).1.2) w' := by
  rcases Decidable.em (1 ≤ k ∧ k ≤ 12) with hk | hk
  · have hc : k = 1 ∨ k = 2 ∨ k = 3 ∨ k = 4 ∨ k = 5 ∨ k = 6 ∨ k = 7 ∨ k = 8 ∨ k = 9 ∨ k = 10 ∨ k = 11 ∨ k = 12 := by omega
    rcases hc with rfl | rfl | rfl | rfl | rfl | rfl | rfl | rfl | rfl | rfl | rfl | rfl
    · exact takes_1 I s most w h
    · exact takes_2 I s most w h
    · exact takes_3 I s most w h
    · exact takes_4 I s most w h
    · exact takes_5 I s most w h
    · exact takes_6 I s most w h
    · exact takes_7 I s most w h
    · exact takes_8 I s most w h
    · have H := takes_9 I s most w h
      show Calls _ _ _ w fun e w' => Took I w s.float.2 e (gotV (if nan s.float.1 then (0, noneT) else (s.float.1, [])).1 (if nan s.float.1 then (0, noneT) else (s.float.1, [])).2) w'
      cases hn : nan s.float.1
      · rw [hn] at H; exact H
      · rw [hn] at H; exact H
    · exact takes_10 I s most w h
    · exact takes_11 I s most w h
    · exact takes_12 I s most w h
  · have e1 : takeOf k most s = ((0, []), s) := by unfold takeOf; simp only [show ¬ k = 1 by omega, show ¬ k = 2 by omega, show ¬ k = 3 by omega, show ¬ k = 4 by omega, show ¬ k = 5 by omega, show ¬ k = 6 by omega, show ¬ k = 7 by omega, show ¬ k = 8 by omega, show ¬ k = 9 by omega, show ¬ k = 10 by omega, show ¬ k = 11 by omega, show ¬ k = 12 by omega, false_or, if_false]
    rw [e1]
    exact (takes_other _ k most (by omega) w).mono fun e w' ⟨he, hb⟩ => ⟨he, h.keep hb, Upd.of_below hb⟩

end Go.Proofs.Ytiejgandjlldjaa
