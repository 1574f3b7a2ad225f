/-
  Texts and byte slices, one made of the other; (*Out).Text.
-/
import Derived.Test.YtiejgandjlldjaaPuts
import Derived.Laws.BytesString
import Derived.Lib.BufferRead
namespace Go.Proofs.Ytiejgandjlldjaa
open Go.RowKit

theorem str_bytes (s : ByteArray) (w : World) (hlen : s.size ≤ 140737488355328) : ∃ A' c' w', (convert 9 23 (.string s)).run Try.prog w = .ok (.slice A' s.size c') w' ∧ Bs w' A' s.size c' s.data.toList ∧ Below w.heap.size w w' := by
  have hr := run_bytes_of_string (P := Try.prog) w 9 23 5 s Try.underlying9 Try.underlying23 Try.underlying5
  have hc1 := grownCap_ge w s.size 0 5
  have hc2 := grownCap_le_maxLen w s.size 0 5 (by unfold maxLen; omega)
  obtain ⟨c', hc'⟩ : ∃ z, grownCap w s.size 0 5 = z := ⟨_, rfl⟩
  rw [hc'] at hr hc1 hc2
  refine ⟨_, _, _, hr, ⟨by simp, hc1, hc2, .inr ⟨w.heap.size, 0, rfl, by simp, fun j b hj => ?_⟩⟩, (Below.refl _ _).drew.alloc (by simp) _⟩
  have hh := heap_alloc_new w.drew (.cells (bytesRow s c') 5 ((bytesRow s c').size, (bytesRow s c').size + 1))
  rw [show w.drew.heap.size = w.heap.size from rfl] at hh
  have hjs : j < s.data.size := by
    rcases Nat.lt_or_ge j s.data.size with h0 | h0
    · exact h0
    · rw [List.getElem?_eq_none (by simpa using h0)] at hj; cases hj
  have hb : s.data[j]? = some b := by rw [← Array.getElem?_toList]; exact hj
  have hrow : (bytesRow s c')[0 + j]? = some (B8 b) := by
    unfold bytesRow
    rw [Nat.zero_add, Array.getElem?_append_left (by simpa using hjs), Array.getElem?_map, hb]
    rfl
  simp only [World.cell?, hh]
  simpa using hrow

theorem bs_str {w : World} {A : Option Addr} {n c : Nat} {l : List UInt8} (h : Bs w A n c l) : (convert 23 9 (.slice A n c)).run Try.prog w = .ok (.string ⟨l.toArray⟩) w := by
  have hl := h.len
  rcases h.at_ with h0 | ⟨g, o, rfl, hg, hc⟩
  · subst h0
    have hl0 : l = [] := List.eq_nil_of_length_eq_zero hl
    subst hl0
    cases A with
    | none => exact Go.Lib.run_convert_nil_bytes w 23 9 5 c Try.underlying23 Try.underlying5 Try.underlying9
    | some a => exact run_convert_bytes_back w 23 9 5 a c [] Try.underlying23 Try.underlying5 Try.underlying9 (fun j hj => by simp at hj)
  · rw [← hl]
    refine run_convert_bytes_back w 23 9 5 _ c l Try.underlying23 Try.underlying5 Try.underlying9 (fun j hj => ?_)
    have ha : ((⟨g, o, none⟩ : Addr).add j) = ⟨g, o + j, none⟩ := by
      unfold Addr.add
      by_cases hj0 : j = 0 <;> simp [hj0]
    rw [ha]
    exact hc j _ (List.getElem?_eq_getElem hj)

/-- What of a text is laid down. -/
def cutB (s : ByteArray) : List UInt8 := s.data.toList.take 65535
theorem cutB_short {s : ByteArray} (h : s.size ≤ 65535) : cutB s = s.data.toList := List.take_of_length_le (by simpa using h)
theorem cutB_long {s : ByteArray} : (s.extract 0 65535).data.toList = cutB s := by
  unfold cutB
  simp [ByteArray.data_extract]

set_option maxRecDepth 100000 in
theorem text_of (a : Option Addr) (s : ByteArray) (w : World) {Q1 Q : World → Prop} (h1 : Lays (.pointer a) w (leN 2 (cutB s).length) Q1) (h2 : ∀ w1, Q1 w1 → Lays (.pointer a) w1 (cutB s) Q) :
    Calls Try.prog 52 #[.pointer a, .string s] w fun e w' => Void e ∧ Q w' := by
  have H1 := Lib.hid (fixed_of _ ⟨_, rfl⟩ _ 2 w (by omega) h1)
  have H2 := Lib.hid h2
  clear h1 h2
  rcases Nat.lt_or_ge 65535 s.size with hs | hs
  · have hl : (cutB s).length = 65535 := by unfold cutB; rw [List.length_take]; simp; omega
    have hm : min 65535 s.size = 65535 := by omega
    have hs2 : (s.extract 0 65535).size = 65535 := by simp; omega
    rw [hl] at H1
    have HL := Lib.hid hs2
    clear hl hs2
    go_enter Try.func52, Try.ntmps52
    go_wp2_with fail
    refine H1.out.mono ?_
    rintro e w1 ⟨⟨v, rfl⟩, hq⟩
    obtain ⟨A', c', w2, hr, hbs, hb2⟩ := str_bytes (s.extract 0 65535) w1 (by rw [HL.out]; omega)
    rw [HL.out] at hr hbs
    have HA := Lib.hid (H2.out w1 hq w2 A' 65535 c' hb2 (by rw [cutB_long] at hbs; exact hbs))
    clear H1 H2 hbs hm hs
    go_wp2_with fail
    refine HA.out.mono ?_
    rintro e w3 ⟨⟨v3, rfl⟩, hq3⟩
    go_wp2_with fail
    go_end0
    exact ⟨⟨_, rfl⟩, hq3⟩
  · have hl : (cutB s).length = s.size := by rw [cutB_short hs]; simp
    rw [hl] at H1
    have HL := Lib.hid hl
    clear hl
    go_enter Try.func52, Try.ntmps52
    go_wp2_with fail
    refine H1.out.mono ?_
    rintro e w1 ⟨⟨v, rfl⟩, hq⟩
    obtain ⟨A', c', w2, hr, hbs, hb2⟩ := str_bytes s w1 (by omega)
    have HA := Lib.hid (H2.out w1 hq w2 A' s.size c' hb2 (by rw [cutB_short hs]; exact hbs))
    clear H1 H2 hbs
    go_wp2_with fail
    refine HA.out.mono ?_
    rintro e w3 ⟨⟨v3, rfl⟩, hq3⟩
    go_wp2_with fail
    go_end0
    exact ⟨⟨_, rfl⟩, hq3⟩

end Go.Proofs.Ytiejgandjlldjaa
