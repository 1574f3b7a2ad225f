/-
  The document's Fixed, Joined, Float, Text; the law's laid.
-/
import Derived.Test.YtiejgandjlldjaaTaken
import Derived.Test.YtiejgandjlldjaaAgainW
namespace Go.Proofs.Ytiejgandjlldjaa
open Go.RowKit

/-- A slice of bytes of the call's own. -/
def Own (w w' : World) (A : Option Addr) (c : Nat) (l : List UInt8) : Prop := w'.ownsRow w.heap.size 5 1 (.slice A l.length c) l.length (l.map B8)
theorem Own.bs {w w' : World} {A : Option Addr} {c : Nat} {l : List UInt8} (h : Own w w' A c l) : Bs w' A l.length c l := bs_of_own h
theorem Own.keep {w w1 w2 : World} {A : Option Addr} {c : Nat} {l : List UInt8} (h : Own w w1 A c l) (hb : Below w1.heap.size w1 w2) : Own w w2 A c l := own_keep h hb
theorem Own.from {w0 w w' : World} {A : Option Addr} {c : Nat} {l : List UInt8} (h : Own w w' A c l) (hb : w0.heap.size ≤ w.heap.size) : Own w0 w' A c l := own_mono h hb
theorem Own.nil (w w' : World) : Own w w' none 0 [] := World.ownsRow_nil _ _ _ _
theorem by8_step (v k : Nat) : v / 2 ^ (8 * k) / 256 = v / 2 ^ (8 * (k + 1)) := by
  rw [Nat.div_div_eq_div_mul, show 8 * (k + 1) = 8 * k + 8 by omega, Nat.pow_add]
theorem leN_succ (n v : Nat) : leN (n + 1) v = leN n v ++ [by8 v n] := by simp [leN, List.range_succ]

set_option maxRecDepth 100000 in
set_option maxHeartbeats 800000 in
theorem fixed_ref (v n : Nat) (hv : v < 18446744073709551616) (hn : n ≤ 8) (w : World) :
    Calls Try.prog 56 #[.int .u64 (v : Int), .int .i64 (n : Int)] w fun e w' => ∃ A c, e = .returned (.slice A n c) ∧ Own w w' A c (leN n v) ∧ Below w.heap.size w w' := by
  go_enter Try.func56, Try.ntmps56
  go_wp2_with fail
  go_loopw [0, 5, 6] (fun q o t wr => ∃ (k c x : Nat) (A : Option Addr), k ≤ n ∧ t = .int .i64 (k : Int) ∧ o = .slice A k c ∧ q = .int .u64 (x : Int) ∧ x = v / 2 ^ (8 * k) ∧ wr.ownsRow w.heap.size 5 1 (.slice A k c) k ((leN k v).map B8) ∧ Below w.heap.size w wr) (fun _ _ t _ => n - (intOf t).toNat)
  case atStart => exact ⟨0, 0, v, none, by omega, rfl, rfl, rfl, by simp, World.ownsRow_nil _ _ _ _, by go_grown⟩
  case round =>
    obtain ⟨k, c, x, A, hk, rfl, rfl, rfl, hx, hown, hB⟩ := hrel
    have hsz := hB.size
    rcases Nat.lt_or_ge k n with hlt | hge
    · have hb := by8_nat v k
      have hb8 := UInt8.toNat_lt (by8 v k)
      have e1 : ((v / 2 ^ (8 * k) : Nat) : Int) = (v : Int) / 2 ^ (8 * k) := by norm_cast
      obtain ⟨bt, hbt⟩ : ∃ z, (by8 v k).toNat = z := ⟨_, rfl⟩
      rw [hbt, ← e1, ← hx] at hb
      rw [hbt] at hb8
      have hw : IntKind.u8.wrap (x : Int) = (bt : Int) := by rw [IntKind.wrap_u8]; omega
      have hw2 : (x : Int) % 256 = (bt : Int) := by omega
      have hk' : (k : Int) < (n : Int) := by omega
      have hxle : x ≤ v := by rw [hx]; exact Nat.div_le_self _ _
      have hst := by8_step v k
      rw [← hx] at hst
      have HS := Lib.hid (And.intro hst (And.intro hbt hxle))
      have hx64 : (x : Int) ≤ 18446744073709551615 := by omega
      clear hst hbt hxle e1 hb hx
      go_wp2_with (at_builtin; refine wpList_push rfl (.tmp 12) (.tmp 15) 23 rfl elt8 w.heap.size A k c ((leN k v).map B8) rfl hown [_] rfl rfl (one_cell rfl) (le_maxLen (by omega)) (by omega) (by omega) ?_; intro A' c' w' hown' hg)
      go_roundw
      case rel =>
        refine ⟨k + 1, c', x / 256, A', by omega, by go_num, rfl, congrArg (Value.int .u64) (by omega), HS.out.1, ?_, below_push hB hown (Nat.le_refl _) hsz hg⟩
        rw [leN_succ, List.map_append]
        have e : [by8 v k].map B8 = [.int .u8 (bt : Int)] := by simp [B8, HS.out.2.1]
        rw [e]
        exact hown'
      case measure => simp [intOf]; omega
    · obtain rfl : k = n := by omega
      clear hx
      go_wp2_with fail
      go_ret
      refine ⟨A, c, rfl, ?_, hB⟩
      unfold Own
      rw [leN_length]
      exact hown

set_option maxRecDepth 100000 in
set_option maxHeartbeats 800000 in
theorem joined_ref (A B : Option Addr) (n c m d : Nat) (l k : List UInt8) (w : World) (ha : Bs w A n c l) (hb : Bs w B m d k) (hlen : n + m ≤ 70000000000000) :
    Calls Try.prog 16 #[.slice A n c, .slice B m d] w fun e w' => ∃ A' c', e = .returned (.slice A' (n + m) c') ∧ Own w w' A' c' (l ++ k) ∧ Below w.heap.size w w' := by
  have hl := ha.len
  have hk := hb.len
  subst hl hk
  go_enter Try.func16, Try.ntmps16
  go_wp2_with fail
  go_loopw [5, 6] (fun o t wr => ∃ (i c : Nat) (A : Option Addr), i ≤ l.length ∧ t = .int .i64 (i : Int) ∧ o = .slice A i c ∧ wr.ownsRow w.heap.size 5 1 (.slice A i c) i ((l.take i).map B8) ∧ Below w.heap.size w wr) (fun _ t _ => l.length - (intOf t).toNat)
  case atStart => exact ⟨0, 0, none, by omega, rfl, rfl, World.ownsRow_nil _ _ _ _, by go_grown⟩
  case round =>
    obtain ⟨i, ci, Ai, hi, rfl, rfl, hown, hB⟩ := hrel
    have hsz := hB.size
    rcases Nat.lt_or_ge i l.length with hlt | hge
    · obtain ⟨g, o, rfl, hg, hc⟩ := (ha.below hB).pos (by omega)
      have hci := hc i l[i] (List.getElem?_eq_getElem hlt)
      have hi' : (i : Int) < (l.length : Int) := by omega
      unfold B8 at hci
      obtain ⟨x, hx⟩ : ∃ z, l[i].toNat = z := ⟨_, rfl⟩
      rw [hx] at hci
      have hxl : l.take (i + 1) = l.take i ++ [l[i]] := List.take_succ_eq_append_getElem hlt
      have HS := Lib.hid (And.intro hx hxl)
      clear hx hxl hc
      go_wp2_with (at_builtin; refine wpList_push rfl (.tmp 14) (.tmp 19) 23 rfl elt8 w.heap.size Ai i ci ((l.take i).map B8) rfl hown [_] rfl rfl (one_cell rfl) (le_maxLen (by omega)) (by omega) (by omega) ?_; intro A' c' w' hown' hg')
      go_roundw
      case rel =>
        refine ⟨i + 1, c', A', by omega, by go_num, rfl, ?_, below_push hB hown (Nat.le_refl _) hsz hg'⟩
        rw [HS.out.2, List.map_append]
        have e : [l[i]].map B8 = [.int .u8 (x : Int)] := by simp [B8, HS.out.1]
        rw [e]
        exact hown'
      case measure => simp [intOf]; omega
    · obtain rfl : i = l.length := by omega
      rw [List.take_length] at hown
      have hge' : ¬ ((l.length : Int) < (l.length : Int)) := by omega
      go_wp2_with fail
      go_loopw [5, 7] (fun o t wr => ∃ (i c : Nat) (A : Option Addr), i ≤ k.length ∧ t = .int .i64 (i : Int) ∧ o = .slice A (l.length + i) c ∧ wr.ownsRow w.heap.size 5 1 (.slice A (l.length + i) c) (l.length + i) ((l ++ k.take i).map B8) ∧ Below w.heap.size w wr) (fun _ t _ => k.length - (intOf t).toNat)
      case atStart => exact ⟨0, ci, Ai, by omega, rfl, rfl, by simpa using hown, hB⟩
      case round =>
        obtain ⟨i, ci, Ai, hi, rfl, rfl, hown, hB⟩ := hrel
        have hsz := hB.size
        rcases Nat.lt_or_ge i k.length with hlt | hge
        · obtain ⟨g, o, rfl, hg, hc⟩ := (hb.below hB).pos (by omega)
          have hci := hc i k[i] (List.getElem?_eq_getElem hlt)
          have hi' : (i : Int) < (k.length : Int) := by omega
          unfold B8 at hci
          obtain ⟨x, hx⟩ : ∃ z, k[i].toNat = z := ⟨_, rfl⟩
          rw [hx] at hci
          have hxl : k.take (i + 1) = k.take i ++ [k[i]] := List.take_succ_eq_append_getElem hlt
          have HS := Lib.hid (And.intro hx hxl)
          clear hx hxl hc
          go_wp2_with (at_builtin; refine wpList_push rfl (.tmp 27) (.tmp 32) 23 rfl elt8 w.heap.size Ai (l.length + i) ci ((l ++ k.take i).map B8) rfl hown [_] rfl rfl (one_cell rfl) (le_maxLen (by omega)) (by omega) (by omega) ?_; intro A' c' w' hown' hg')
          go_roundw
          case rel =>
            refine ⟨i + 1, c', A', by omega, by go_num, rfl, ?_, below_push hB hown (Nat.le_refl _) hsz hg'⟩
            rw [HS.out.2, ← List.append_assoc, List.map_append (l₂ := [k[i]])]
            have e : [k[i]].map B8 = [.int .u8 (x : Int)] := by simp [B8, HS.out.1]
            rw [e]
            exact hown'
          case measure => simp [intOf]; omega
        · obtain rfl : i = k.length := by omega
          rw [List.take_length] at hown
          have hge' : ¬ ((k.length : Int) < (k.length : Int)) := by omega
          go_wp2_with fail
          go_ret
          refine ⟨Ai, ci, rfl, ?_, hB⟩
          unfold Own
          rw [List.length_append]
          exact hown

set_option maxRecDepth 100000 in
theorem float_ref (v : Nat) (hv : v < 18446744073709551616) (w : World) :
    Calls Try.prog 54 #[.int .u64 (v : Int)] w fun e w' => ∃ A c, e = .returned (.slice A 8 c) ∧ Own w w' A c (leN 8 (fbits v)) ∧ Below w.heap.size w w' := by
  have HN := Lib.hid (none_any v hv w)
  unfold fbits
  cases hn : nan v
  · rw [hn] at HN
    rw [if_neg Bool.false_ne_true]
    have HF := Lib.hid (fun W => fixed_ref v 8 hv (by omega) W)
    clear hv
    go_enter Try.func54, Try.ntmps54
    go_wp2_with fail
    refine (HN.out).mono ?_
    rintro e w1 ⟨rfl, hb_w1⟩
    obtain ⟨hc_w1, hf_w1⟩ := bcell hb_w1
    have hz_w1 := hb_w1.size
    try simp at hz_w1
    have hB_w1 : Below w.heap.size w w1 := Below.trans (by go_grown) (hb_w1.mono (by go_size))
    go_wp2_with fail
    refine (HF.out _).mono ?_
    rintro e w2 ⟨A, c, rfl, how, hb_w2⟩
    obtain ⟨hc_w2, hf_w2⟩ := bcell hb_w2
    have hz_w2 := hb_w2.size
    try simp at hz_w2
    have hB_w2 : Below w.heap.size w w2 := Below.trans (by go_grown) (hb_w2.mono (by go_size))
    have HO := Lib.hid how
    clear how
    go_wp2_with fail
    go_ret
    exact ⟨A, c, rfl, HO.out.from hb_w1.size, hb_w1.trans (hb_w2.mono hb_w1.size)⟩
  · rw [hn] at HN
    rw [if_pos rfl]
    have HF := Lib.hid (fun W => fixed_ref 9221120237041090561 8 (by omega) (by omega) W)
    clear hv
    go_enter Try.func54, Try.ntmps54
    go_wp2_with fail
    refine (HN.out).mono ?_
    rintro e w1 ⟨rfl, hb_w1⟩
    obtain ⟨hc_w1, hf_w1⟩ := bcell hb_w1
    have hz_w1 := hb_w1.size
    try simp at hz_w1
    have hB_w1 : Below w.heap.size w w1 := Below.trans (by go_grown) (hb_w1.mono (by go_size))
    go_wp2_with fail
    refine (HF.out _).mono ?_
    rintro e w2 ⟨A, c, rfl, how, hb_w2⟩
    obtain ⟨hc_w2, hf_w2⟩ := bcell hb_w2
    have hz_w2 := hb_w2.size
    try simp at hz_w2
    have hB_w2 : Below w.heap.size w w2 := Below.trans (by go_grown) (hb_w2.mono (by go_size))
    have HO := Lib.hid how
    clear how
    go_wp2_with fail
    go_ret
    exact ⟨A, c, rfl, HO.out.from hb_w1.size, hb_w1.trans (hb_w2.mono hb_w1.size)⟩

theorem cutB_size (s : ByteArray) : (cutB s).length = min 65535 s.size := by unfold cutB; rw [List.length_take]; simp
theorem cut_text (s : ByteArray) (h : 65535 < s.size) : (s.extract 0 65535).size = 65535 := by simp; omega

set_option maxRecDepth 100000 in
theorem text_ref (s : ByteArray) (w : World) :
    Calls Try.prog 55 #[.string s] w fun e w' => ∃ A c, e = .returned (.slice A (2 + (cutB s).length) c) ∧ Own w w' A c (leN 2 (cutB s).length ++ cutB s) ∧ Below w.heap.size w w' := by
  rcases Nat.lt_or_ge 65535 s.size with hs | hs
  · have hl : (cutB s).length = 65535 := by rw [cutB_size]; omega
    have hs2 := cut_text s hs
    rw [hl]
    have HF := Lib.hid (fun W => fixed_ref 65535 2 (by omega) (by omega) W)
    have HL := Lib.hid (And.intro hl hs2)
    have hs' : (65535 : Int) < (s.size : Int) := by omega
    have hm : min 65535 s.size = 65535 := by omega
    clear hl hs2
    go_enter Try.func55, Try.ntmps55
    go_wp2_with fail
    refine (HF.out _).mono ?_
    rintro e w1 ⟨A, c, rfl, how, hb_w1⟩
    obtain ⟨hc_w1, hf_w1⟩ := bcell hb_w1
    have hz_w1 := hb_w1.size
    try simp at hz_w1
    have hB_w1 : Below w.heap.size w w1 := Below.trans (by go_grown) (hb_w1.mono (by go_size))
    obtain ⟨A', c', w2, hr, hbs, hb2⟩ := str_bytes (s.extract 0 65535) w1 (by rw [HL.out.2]; omega)
    rw [HL.out.2] at hr hbs
    have HO := Lib.hid (And.intro how (And.intro hbs hb2))
    clear how hbs hb2 hm
    go_wp2_with fail
    refine (joined_ref A A' 2 c 65535 c' _ _ w2 ((HO.out.1.keep HO.out.2.2).bs) HO.out.2.1 (by omega)).mono ?_
    rintro e w3 ⟨A3, c3, rfl, how3, hb3⟩
    have hb12 := hb_w1.trans (HO.out.2.2.mono hb_w1.size)
    have H3 := Lib.hid (And.intro how3 hb3)
    clear how3 hb3
    go_wp2_with fail
    go_ret
    refine ⟨A3, c3, rfl, ?_, hb12.trans (H3.out.2.mono hb12.size)⟩
    have h := H3.out.1.from hb12.size
    rwa [cutB_long] at h
  · have hl : (cutB s).length = s.size := by rw [cutB_size]; omega
    rw [hl]
    have HF := Lib.hid (fun W => fixed_ref s.size 2 (by omega) (by omega) W)
    have HL := Lib.hid hl
    have hs' : ¬ (65535 : Int) < (s.size : Int) := by omega
    clear hl
    go_enter Try.func55, Try.ntmps55
    go_wp2_with fail
    refine (HF.out _).mono ?_
    rintro e w1 ⟨A, c, rfl, how, hb_w1⟩
    obtain ⟨hc_w1, hf_w1⟩ := bcell hb_w1
    have hz_w1 := hb_w1.size
    try simp at hz_w1
    have hB_w1 : Below w.heap.size w w1 := Below.trans (by go_grown) (hb_w1.mono (by go_size))
    obtain ⟨A', c', w2, hr, hbs, hb2⟩ := str_bytes s w1 (by omega)
    have HO := Lib.hid (And.intro how (And.intro hbs hb2))
    clear how hbs hb2
    go_wp2_with fail
    refine (joined_ref A A' 2 c s.size c' _ _ w2 ((HO.out.1.keep HO.out.2.2).bs) HO.out.2.1 (by omega)).mono ?_
    rintro e w3 ⟨A3, c3, rfl, how3, hb3⟩
    have hb12 := hb_w1.trans (HO.out.2.2.mono hb_w1.size)
    have H3 := Lib.hid (And.intro how3 hb3)
    clear how3 hb3
    go_wp2_with fail
    go_ret
    refine ⟨A3, c3, rfl, ?_, hb12.trans (H3.out.2.mono hb12.size)⟩
    rw [cutB_short hs]
    exact H3.out.1.from hb12.size

/-- Block X holds just these cells; what lies below is as it was in w0. -/
def HeldV (X : Nat) (cs : Array Value) (w0 w' : World) : Prop := Below X w0 w' ∧ X < w'.heap.size ∧ (∀ o, w'.cell? ⟨X, o, none⟩ = cs[o]?)
theorem heldV_step {X : Nat} {cs : Array Value} {w0 W w' : World} (hb : Below W.heap.size W w') (h : HeldV X cs w0 W) : HeldV X cs w0 w' :=
  ⟨h.1.trans (hb.mono (Nat.le_of_lt h.2.1)), Nat.lt_of_lt_of_le h.2.1 hb.size, fun o => (hb.cell (p := ⟨X, o, none⟩) h.2.1).trans (h.2.2 o)⟩
theorem heldV_start {X : Nat} {cs : Array Value} {T : TypeId} {w0 W : World} (hb : Below X w0 W) (h : Var W X T cs) : HeldV X cs w0 W.drew := ⟨hb.drew, h.lt, fun o => h.cell o⟩

set_option maxRecDepth 100000 in
theorem laid_num (k : Int) (n v : Nat) (s : ByteArray) (hv : v < 18446744073709551616) (hn : n ≤ 8) (hk9 : ¬ k = 9) (hk10 : ¬ k = 10) (w : World)
    (hw : ∀ W, Calls Try.prog 57 #[.int .i64 k] W fun e w' => e = .returned (.int .i64 (n : Int)) ∧ Below W.heap.size W w') :
    Calls Try.prog 17 #[.agg #[.int .i64 k, .int .u64 (v : Int), .string s]] w fun e w' => ∃ A c, e = .returned (.slice A n c) ∧ Own w w' A c (leN n v) ∧ Below w.heap.size w w' := by
  have HW := Lib.hid hw
  have HF := Lib.hid (fun W => fixed_ref v n hv hn W)
  have b9 : (k == 9) = false := by simp [hk9]
  have b10 : (k == 10) = false := by simp [hk10]
  clear hw hv hn
  go_enter Try.func17, Try.ntmps17
  go_wp2_with fail
  refine wp_gen (fun W hW => ?_)
  have vA : Var W w.heap.size 42 #[.int .i64 k, .int .u64 (v : Int), .string s] := by rw [hW]; exact Var.new _ _ _
  have hB_W : Below w.heap.size w W := by rw [hW]; go_grown
  clear hW
  have c0 : W.cell? ⟨w.heap.size, 0, none⟩ = some (.int .i64 k) := vA.cell 0
  have c1 : W.cell? ⟨w.heap.size, 1, none⟩ = some (.int .u64 (v : Int)) := vA.cell 1
  have hz := vA.lt
  have c0d : W.drew.cell? ⟨w.heap.size, 0, none⟩ = some (.int .i64 k) := vA.cell 0
  have c1d : W.drew.cell? ⟨w.heap.size, 1, none⟩ = some (.int .u64 (v : Int)) := vA.cell 1
  go_region_with (first
    | (go_at_call 57; refine (HW.out _).mono ?_; rintro e wa ⟨rfl, hb_wa⟩; (first | replace hb_wa := undrew_at (B := W.heap.size) hb_wa | skip); obtain ⟨hc_wa, hf_wa⟩ := bcell hb_wa; have hz_wa : w.heap.size < wa.heap.size := Nat.lt_of_lt_of_le hz hb_wa.size)
    | (go_at_call 56; refine (HF.out _).mono ?_; rintro e wb ⟨A, c, rfl, how, hb_wb⟩; have HO := Lib.hid how; clear how))
  all_goals
    go_wp2_with fail
    go_ret
    exact ⟨A, c, rfl, HO.out.from (by omega), (hB_W.trans (hb_wa.mono (Nat.le_of_lt hz))).trans (hb_wb.mono (by omega))⟩

end Go.Proofs.Ytiejgandjlldjaa
