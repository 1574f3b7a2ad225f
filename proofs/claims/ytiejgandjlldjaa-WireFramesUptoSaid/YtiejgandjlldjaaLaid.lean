/-
  The law's laid, every kind; lays at any kind, whatever stands at the pointer; long.
-/
import Derived.Test.YtiejgandjlldjaaRefFix
import Derived.Test.YtiejgandjlldjaaOpenAdds
import Derived.Test.YtiejgandjlldjaaFram
namespace Go.Proofs.Ytiejgandjlldjaa
open Go.RowKit

theorem width_1 (w : World) : Calls Try.prog 57 #[.int .i64 1] w fun e w' => e = .returned (.int .i64 1) ∧ Below w.heap.size w w' := by
  go_enter Try.func57, Try.ntmps57
  go_wp2_with fail
  go_ret
  exact ⟨rfl, by go_grown⟩
theorem width_3 (w : World) : Calls Try.prog 57 #[.int .i64 3] w fun e w' => e = .returned (.int .i64 2) ∧ Below w.heap.size w w' := by
  go_enter Try.func57, Try.ntmps57
  go_wp2_with fail
  go_ret
  exact ⟨rfl, by go_grown⟩
theorem width_5 (w : World) : Calls Try.prog 57 #[.int .i64 5] w fun e w' => e = .returned (.int .i64 4) ∧ Below w.heap.size w w' := by
  go_enter Try.func57, Try.ntmps57
  go_wp2_with fail
  go_ret
  exact ⟨rfl, by go_grown⟩
theorem width_11 (w : World) : Calls Try.prog 57 #[.int .i64 11] w fun e w' => e = .returned (.int .i64 2) ∧ Below w.heap.size w w' := by
  go_enter Try.func57, Try.ntmps57
  go_wp2_with fail
  go_ret
  exact ⟨rfl, by go_grown⟩

set_option maxRecDepth 100000 in
theorem laid_9 (v : Nat) (s : ByteArray) (hv : v < 18446744073709551616) (w : World) :
    Calls Try.prog 17 #[.agg #[.int .i64 9, .int .u64 (v : Int), .string s]] w fun e w' => ∃ A c, e = .returned (.slice A 8 c) ∧ Own w w' A c (leN 8 (fbits v)) ∧ Below w.heap.size w w' := by
  have HF := Lib.hid (fun W => float_ref v hv W)
  go_enter Try.func17, Try.ntmps17
  go_wp2_with fail
  refine (HF.out _).mono ?_
  rintro e w1 ⟨A, c, rfl, how, hb_w1⟩
  obtain ⟨hc_w1, hf_w1⟩ := bcell hb_w1
  have hz_w1 := hb_w1.size
  try simp at hz_w1
  have hB_w1 : Below w.heap.size w w1 := Below.trans (by go_grown) (hb_w1.mono (by go_size))
  have HO := Lib.hid how
  clear how
  go_wp2_with fail
  go_ret
  exact ⟨A, c, rfl, HO.out.from (by simp), hB_w1⟩

set_option maxRecDepth 100000 in
theorem laid_10 (v : Nat) (s : ByteArray) (w : World) :
    Calls Try.prog 17 #[.agg #[.int .i64 10, .int .u64 (v : Int), .string s]] w fun e w' => ∃ A c, e = .returned (.slice A (2 + (cutB s).length) c) ∧ Own w w' A c (leN 2 (cutB s).length ++ cutB s) ∧ Below w.heap.size w w' := by
  have HF := Lib.hid (fun W => text_ref s W)
  go_enter Try.func17, Try.ntmps17
  go_wp2_with fail
  refine (HF.out _).mono ?_
  rintro e w1 ⟨A, c, rfl, how, hb_w1⟩
  obtain ⟨hc_w1, hf_w1⟩ := bcell hb_w1
  have hz_w1 := hb_w1.size
  try simp at hz_w1
  have hB_w1 : Below w.heap.size w w1 := Below.trans (by go_grown) (hb_w1.mono (by go_size))
  have HO := Lib.hid how
  clear how
  go_wp2_with fail
  go_ret
  exact ⟨A, c, rfl, HO.out.from (by simp), hB_w1⟩

theorem layB_len (k : Int) (v : Nat) (s : ByteArray) {n : Nat} (h : (layB k v s).length = n) {A : Option Addr} {c : Nat} {e : Ending} (he : e = .returned (.slice A n c)) : e = .returned (.slice A (layB k v s).length c) := by rw [h]; exact he
theorem laid_all (k : Int) (v : Nat) (s : ByteArray) (hv : v < 18446744073709551616) (w : World) :
    Calls Try.prog 17 #[.agg #[.int .i64 k, .int .u64 (v : Int), .string s]] w fun e w' => ∃ A c, e = .returned (.slice A (layB k v s).length c) ∧ Own w w' A c (layB k v s) ∧ Below w.heap.size w w' := by
  rcases Decidable.em (1 ≤ k ∧ k ≤ 12) with hk | hk
  · have hc : k = 1 ∨ k = 2 ∨ k = 3 ∨ k = 4 ∨ k = 5 ∨ k = 6 ∨ k = 7 ∨ k = 8 ∨ k = 9 ∨ k = 10 ∨ k = 11 ∨ k = 12 := by omega
    rcases hc with rfl | rfl | rfl | rfl | rfl | rfl | rfl | rfl | rfl | rfl | rfl | rfl
    · exact (laid_num 1 1 v s hv (by omega) (by decide) (by decide) w (fun W => width_1 W)).mono fun e w' ⟨A, c, he, ho, hb⟩ => ⟨A, c, layB_len 1 v s (leN_length 1 v) he, ho, hb⟩
    · exact (laid_num 2 1 v s hv (by omega) (by decide) (by decide) w (fun W => width_2 W)).mono fun e w' ⟨A, c, he, ho, hb⟩ => ⟨A, c, layB_len 2 v s (leN_length 1 v) he, ho, hb⟩
    · exact (laid_num 3 2 v s hv (by omega) (by decide) (by decide) w (fun W => width_3 W)).mono fun e w' ⟨A, c, he, ho, hb⟩ => ⟨A, c, layB_len 3 v s (leN_length 2 v) he, ho, hb⟩
    · exact (laid_num 4 2 v s hv (by omega) (by decide) (by decide) w (fun W => width_4 W)).mono fun e w' ⟨A, c, he, ho, hb⟩ => ⟨A, c, layB_len 4 v s (leN_length 2 v) he, ho, hb⟩
    · exact (laid_num 5 4 v s hv (by omega) (by decide) (by decide) w (fun W => width_5 W)).mono fun e w' ⟨A, c, he, ho, hb⟩ => ⟨A, c, layB_len 5 v s (leN_length 4 v) he, ho, hb⟩
    · exact (laid_num 6 4 v s hv (by omega) (by decide) (by decide) w (fun W => width_6 W)).mono fun e w' ⟨A, c, he, ho, hb⟩ => ⟨A, c, layB_len 6 v s (leN_length 4 v) he, ho, hb⟩
    · exact (laid_num 7 8 v s hv (by omega) (by decide) (by decide) w (fun W => width_7 W)).mono fun e w' ⟨A, c, he, ho, hb⟩ => ⟨A, c, layB_len 7 v s (leN_length 8 v) he, ho, hb⟩
    · exact (laid_num 8 8 v s hv (by omega) (by decide) (by decide) w (fun W => width_8 W)).mono fun e w' ⟨A, c, he, ho, hb⟩ => ⟨A, c, layB_len 8 v s (leN_length 8 v) he, ho, hb⟩
    · exact (laid_9 v s hv w).mono fun e w' ⟨A, c, he, ho, hb⟩ => ⟨A, c, layB_len 9 v s (leN_length 8 _) he, ho, hb⟩
    · exact (laid_10 v s w).mono fun e w' ⟨A, c, he, ho, hb⟩ => ⟨A, c, layB_len 10 v s (by show (leN 2 (cutB s).length ++ cutB s).length = _; rw [List.length_append, leN_length]) he, ho, hb⟩
    · exact (laid_num 11 2 v s hv (by omega) (by decide) (by decide) w (fun W => width_11 W)).mono fun e w' ⟨A, c, he, ho, hb⟩ => ⟨A, c, layB_len 11 v s (leN_length 2 v) he, ho, hb⟩
    · exact (laid_num 12 1 v s hv (by omega) (by decide) (by decide) w (fun W => width_12 W)).mono fun e w' ⟨A, c, he, ho, hb⟩ => ⟨A, c, layB_len 12 v s (leN_length 1 v) he, ho, hb⟩
  · have e1 : layB k v s = [] := by unfold layB; simp only [show ¬ k = 1 by omega, show ¬ k = 2 by omega, show ¬ k = 3 by omega, show ¬ k = 4 by omega, show ¬ k = 5 by omega, show ¬ k = 6 by omega, show ¬ k = 7 by omega, show ¬ k = 8 by omega, show ¬ k = 9 by omega, show ¬ k = 10 by omega, show ¬ k = 11 by omega, show ¬ k = 12 by omega, false_or, if_false]
    rw [e1]
    exact laid_num k 0 v s hv (by omega) (by omega) (by omega) w (fun W => width_other k (by omega) W)

theorem lays_all_of (a : Option Addr) (k : Int) (v : Nat) (hv : v < 18446744073709551616) (s : ByteArray) (w : World) (Q : List UInt8 → World → Prop) (h0 : ∀ w', Below w.heap.size w w' → Q [] w')
    (h1 : ∀ l, l.length ≤ 8 → Lays (.pointer a) w l (Q l)) (h2 : ∀ l1 w1, l1.length ≤ 8 → Q l1 w1 → ∀ l2, l2.length ≤ 65535 → Lays (.pointer a) w1 l2 (Q (l1 ++ l2))) :
    Calls Try.prog 15 #[.pointer a, .agg #[.int .i64 k, .int .u64 (v : Int), .string s]] w fun e w' => Void e ∧ Q (layB k v s) w' := by
  have hb : ∀ n x, n ≤ 8 → (leN n x).length ≤ 8 := fun n x hn => by rw [leN_length]; exact hn
  rcases Decidable.em (1 ≤ k ∧ k ≤ 12) with hk | hk
  · have hc : k = 1 ∨ k = 2 ∨ k = 3 ∨ k = 4 ∨ k = 5 ∨ k = 6 ∨ k = 7 ∨ k = 8 ∨ k = 9 ∨ k = 10 ∨ k = 11 ∨ k = 12 := by omega
    rcases hc with rfl | rfl | rfl | rfl | rfl | rfl | rfl | rfl | rfl | rfl | rfl | rfl
    · exact lays_1 _ v hv s w (h1 _ (hb _ _ (by omega)))
    · exact lays_2 _ v hv s w (h1 _ (hb _ _ (by omega)))
    · exact lays_3 _ v hv s w (h1 _ (hb _ _ (by omega)))
    · exact lays_4 _ v hv s w (h1 _ (hb _ _ (by omega)))
    · exact lays_5 _ v hv s w (h1 _ (hb _ _ (by omega)))
    · exact lays_6 _ v hv s w (h1 _ (hb _ _ (by omega)))
    · exact lays_7 _ v hv s w (h1 _ (hb _ _ (by omega)))
    · exact lays_8 _ v hv s w (h1 _ (hb _ _ (by omega)))
    · exact lays_9 _ v hv s w (h1 _ (hb _ _ (by omega)))
    · exact lays_10 _ v s w (h1 _ (hb _ _ (by omega))) fun w1 hq => h2 _ w1 (hb _ _ (by omega)) hq (cutB s) (cutB_le s)
    · exact lays_11 _ v hv s w (h1 _ (hb _ _ (by omega)))
    · exact lays_12 _ v hv s w (h1 _ (hb _ _ (by omega)))
  · have e1 : layB k v s = [] := by unfold layB; simp only [show ¬ k = 1 by omega, show ¬ k = 2 by omega, show ¬ k = 3 by omega, show ¬ k = 4 by omega, show ¬ k = 5 by omega, show ¬ k = 6 by omega, show ¬ k = 7 by omega, show ¬ k = 8 by omega, show ¬ k = 9 by omega, show ¬ k = 10 by omega, show ¬ k = 11 by omega, show ¬ k = 12 by omega, false_or, if_false]
    rw [e1]
    exact lays_other _ k (by omega) v s w h0
theorem lays0_all (k : Int) (v : Nat) (hv : v < 18446744073709551616) (s : ByteArray) (w : World) :
    Calls Try.prog 15 #[.pointer none, .agg #[.int .i64 k, .int .u64 (v : Int), .string s]] w fun e w' => Void e ∧ Below w.heap.size w w' :=
  lays_all_of none k v hv s w (fun _ w' => Below w.heap.size w w') (fun _ h => h) (fun l _ => lays_none w l) (fun _ w1 _ hq l2 _ W A m d hW hs => (lays_none w1 l2 W A m d hW hs).mono fun _ _ ⟨he, hb⟩ => ⟨he, hq.trans (hb.mono hq.size)⟩)
theorem lays_fr_all (O base : Nat) (l : List UInt8) (k : Int) (v : Nat) (hv : v < 18446744073709551616) (s : ByteArray) (w : World) (h : OutFr w O base l) (hbase : base ≤ w.heap.size) (hlen : l.length ≤ 140737488355328) :
    Calls Try.prog 15 #[.pointer (some ⟨O, 0, none⟩), .agg #[.int .i64 k, .int .u64 (v : Int), .string s]] w fun e w' => Void e ∧ OutFr w' O base (l ++ layB k v s) ∧ Upd O w w' :=
  lays_all_of _ k v hv s w (fun x w' => OutFr w' O base (l ++ x) ∧ Upd O w w') (fun w' hb => ⟨by rw [List.append_nil]; exact h.keep hb, Upd.of_below hb⟩) (fun x hx => lays_fr h hbase x (by omega))
    (fun l1 w1 h8 hq l2 h65 W A m d hW hs => (lays_fr hq.1 (Nat.le_trans hbase hq.2.size) l2 (by rw [List.length_append]; omega) W A m d hW hs).mono fun _ _ ⟨he, ho, hu⟩ => ⟨he, by rw [← List.append_assoc]; exact ho, hq.2.trans hu⟩)

/-- So much is laid down. -/
def tot : List (Int × Nat × ByteArray) → Nat
  | [] => 0
  | a :: l => tot l + (a.2.2.size + 8)
theorem tot_snoc (l : List (Int × Nat × ByteArray)) (a : Int × Nat × ByteArray) : tot (l ++ [a]) = tot l + (a.2.2.size + 8) := by
  induction l with
  | nil => simp [tot]
  | cons x l ih => simp only [List.cons_append, tot, ih]; omega
theorem tot_take {l : List (Int × Nat × ByteArray)} {k : Nat} {a : Int × Nat × ByteArray} (h : l[k]? = some a) : tot (l.take (k + 1)) = tot (l.take k) + (a.2.2.size + 8) := by
  have hk : k < l.length := by
    rcases Nat.lt_or_ge k l.length with h1 | h1
    · exact h1
    · rw [List.getElem?_eq_none h1] at h; cases h
  rw [List.getElem?_eq_getElem hk] at h
  injection h with h
  rw [List.take_succ_eq_append_getElem hk, h, tot_snoc]

def LongSays (l : List (Int × Nat × ByteArray)) (w : World) (e : Ending) (w' : World) : Prop := ∃ t : Bool, e = .returned (.bool t) ∧ (t = false → tot l ≤ 67108864) ∧ Below w.heap.size w w'

set_option maxRecDepth 100000 in
set_option maxHeartbeats 800000 in
theorem long_some (A : Option Addr) (b off c : Nat) (l : List (Int × Nat × ByteArray)) (w : World) (hA : 0 < l.length → A = some ⟨b, off, none⟩ ∧ b < w.heap.size) (hl : l.length ≤ 140737488351232)
    (hs : ∀ a ∈ l, a.2.2.size ≤ 140737488351232)
    (hc : ∀ (j : Nat) k (n : Nat) s, l[j]? = some (k, n, s) → w.cell? ⟨b, off + (j * 3 + 2), none⟩ = some (.string s)) :
    Calls Try.prog 14 #[.slice A l.length c] w fun e w' => LongSays l w e w' := by
  have HC := Lib.hid hc
  have HP := Lib.hid hA
  have HS := Lib.hid hs
  clear hc hA hs
  go_enter Try.func14, Try.ntmps14
  go_wp2_with fail
  go_loopw [3, 4] (fun n t wr => ∃ k x : Nat, k ≤ l.length ∧ t = .int .i64 (k : Int) ∧ n = .int .i64 (x : Int) ∧ x = tot (l.take k) ∧ x ≤ 200000000000000 ∧ Below w.heap.size w wr) (fun _ t _ => l.length - (intOf t).toNat)
  case atStart => exact ⟨0, 0, by omega, rfl, rfl, by simp [tot], by omega, by go_grown⟩
  case round =>
    obtain ⟨k, x, hk, rfl, rfl, hx, hx2, hB⟩ := hrel
    rcases Nat.lt_or_ge 67108864 x with hbig | hsmall
    · have h1 : ¬ (x : Int) ≤ 67108864 := by omega
      have h2 : (67108864 : Int) < (x : Int) := by omega
      clear hx
      rcases Nat.lt_or_ge k l.length with hlt | hge
      · have hk' : (k : Int) < (l.length : Int) := by omega
        go_wp2_with fail
        go_ret
        exact ⟨true, rfl, (fun h => by cases h), hB⟩
      · have hk' : ¬ (k : Int) < (l.length : Int) := by omega
        go_wp2_with fail
        go_ret
        exact ⟨true, rfl, (fun h => by cases h), hB⟩
    · have h1 : (x : Int) ≤ 67108864 := by omega
      rcases Nat.lt_or_ge k l.length with hlt | hge
      · obtain ⟨rfl, hb⟩ := HP.out (by omega)
        have hk' : (k : Int) < (l.length : Int) := by omega
        obtain ⟨⟨ki, n, s⟩, hj⟩ : ∃ a, l[k]? = some a := ⟨_, List.getElem?_eq_getElem hlt⟩
        have c2 := HC.out k ki n s hj
        rw [← (bcell hB).1 b _ hb, ← Nat.add_assoc] at c2
        have hsz : s.size ≤ 140737488351232 := HS.out _ (List.mem_of_getElem? hj)
        have ht := tot_take hj
        rw [← hx] at ht
        have HT := Lib.hid ht
        clear hj ht hx
        go_wp2_with fail
        go_roundw
        case rel => exact ⟨k + 1, x + (s.size + 8), by omega, by go_num, congrArg (Value.int .i64) (by omega), HT.out.symm, by omega, hB⟩
        case measure => simp [intOf]; omega
      · obtain rfl : k = l.length := by omega
        rw [List.take_length] at hx
        have hk' : ¬ (l.length : Int) < (l.length : Int) := by omega
        have h2 : ¬ (67108864 : Int) < (x : Int) := by omega
        have HX := Lib.hid hx
        clear hx
        go_wp2_with fail
        go_ret
        exact ⟨false, by first | rfl | simp [h2], fun _ => by rw [← HX.out]; exact hsmall, hB⟩

end Go.Proofs.Ytiejgandjlldjaa
