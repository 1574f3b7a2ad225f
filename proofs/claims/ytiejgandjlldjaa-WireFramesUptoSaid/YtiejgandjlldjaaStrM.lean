/-
  Plain: the frames in a stream of frames, with bytes ahead of them.
-/
import Derived.Test.YtiejgandjlldjaaRefFs
namespace Go.Proofs.Ytiejgandjlldjaa

theorem open_parts {g : List UInt8} (h : openCode g = 0) : (headOf g).2 = true ∧ g.length = 8 + (headOf g).1 ∧ wholeOf g = true := by
  unfold openCode at h
  split at h
  · cases h
  rename_i hok
  have hok' : (headOf g).2 = true := by simpa using hok
  split at h
  · cases h
  split at h
  · cases h
  split at h
  · cases h
  rename_i hlt hgt hw
  exact ⟨hok', by omega, by simpa using hw⟩
/-- A frame stands at its beginning. -/
theorem stands_front {b : List UInt8} (hb : b.length ≤ 8184) (rest : List UInt8) : standsB (frameB b ++ rest) = some b := by
  obtain ⟨h1, h2, h3⟩ := open_parts (open_frame hb)
  have hlen := frameB_length b
  have htk : (frameB b ++ rest).take (8 + (headOf (frameB b)).1) = frameB b := by rw [← h2, List.take_left']; rfl
  have hh : headOf (frameB b ++ rest) = headOf (frameB b) := by
    have := headOf_take (t := frameB b ++ rest) (n := 8 + (headOf (frameB b)).1) (by omega) (by rw [← h2]; simp)
    rw [htk] at this
    exact this.symm
  unfold standsB
  rw [hh, htk, if_pos ⟨h1, by rw [← h2]; simp, h3⟩, frameB_take]

/-- Frames one behind the other. -/
def flat : List (List UInt8) → List UInt8
  | [] => []
  | b :: r => frameB b ++ flat r
def placesF (s : Nat) : List (List UInt8) → List (Nat × List UInt8)
  | [] => []
  | b :: r => (s, b) :: placesF (s + 8 + b.length) r
theorem flat_length (b : List UInt8) (r : List (List UInt8)) : (flat (b :: r)).length = 8 + b.length + (flat r).length := by
  show (frameB b ++ flat r).length = _
  rw [List.length_append, frameB_length]
  omega
theorem flat_snoc (bs : List (List UInt8)) (b : List UInt8) : flat (bs ++ [b]) = flat bs ++ frameB b := by
  induction bs with
  | nil => simp [flat]
  | cons x r ih => simp [flat, ih, List.append_assoc]
theorem frames_flat (bs : List (List UInt8)) (hb : ∀ b ∈ bs, b.length ≤ 8184) : ∀ pre : List UInt8, framesF (pre ++ flat bs) pre.length = placesF pre.length bs := by
  induction bs with
  | nil => intro pre; exact frames_end (by simp [flat])
  | cons b r ih =>
    intro pre
    have hd : (pre ++ flat (b :: r)).drop pre.length = frameB b ++ flat r := by rw [List.drop_left']; rfl; rfl
    have h1 := frames_some (l := pre ++ flat (b :: r)) (p := pre.length) (body := b) (by rw [List.length_append, flat_length]; omega) (by rw [hd]; exact stands_front (hb b (by simp)) _)
    rw [h1]
    have h2 := ih (fun x hx => hb x (by simp [hx])) (pre ++ frameB b)
    have hl : (pre ++ frameB b).length = pre.length + 8 + b.length := by rw [List.length_append, frameB_length]; omega
    rw [hl, List.append_assoc] at h2
    show _ :: framesF (pre ++ (frameB b ++ flat r)) _ = _ :: _
    rw [h2]
theorem frames_ahead {l : List UInt8} {n : Nat} (hn : n ≤ l.length) (h : ∀ i, i < n → standsB (l.drop i) = none) : framesF l 0 = framesF l n := by
  induction n with
  | zero => rfl
  | succ n ih => exact (ih (by omega) (fun i hi => h i (by omega))).trans (frames_none (by omega) (h n (by omega)))
theorem places_get (bs : List (List UInt8)) : ∀ (s k : Nat), (placesF s bs)[k]? = (bs[k]?).map fun b => (s + (flat (bs.take k)).length, b) := by
  induction bs with
  | nil => intro s k; simp [placesF]
  | cons b r ih =>
    intro s k
    cases k with
    | zero => simp [placesF, flat]
    | succ k =>
      show (placesF (s + 8 + b.length) r)[k]? = _
      rw [ih]
      simp only [List.getElem?_cons_succ, List.take_succ_cons, flat_length]
      cases r[k]? with
      | none => rfl
      | some x => simp only [Option.map_some]; congr 2; omega
theorem places_length (bs : List (List UInt8)) : ∀ s, (placesF s bs).length = bs.length := by
  induction bs with
  | nil => intro s; rfl
  | cons b r ih => intro s; simp [placesF, ih]
/-- What a prefix tells of its last one. -/
theorem prefix_last {α : Type} {l m : List α} {x : α} (h : l ++ [x] <+: m) : m[l.length]? = some x := by
  obtain ⟨t, rfl⟩ := h
  simp
/-- The bytes in which the places are sought: with the bytes ahead if no frame begins there, else without. -/
theorem stream_frames {bs : List (List UInt8)} (hb : ∀ b ∈ bs, b.length ≤ 8184) (ahead : List UInt8) (h : ∀ i, i < ahead.length → standsB ((ahead ++ flat bs).drop i) = none) : framesF (ahead ++ flat bs) 0 = placesF ahead.length bs :=
  (frames_ahead (by simp) h).trans (frames_flat bs hb ahead)
theorem stream_frames0 {bs : List (List UInt8)} (hb : ∀ b ∈ bs, b.length ≤ 8184) : framesF (flat bs) 0 = placesF 0 bs := frames_flat bs hb []
theorem flat_take_le (bs : List (List UInt8)) (k : Nat) : (flat (bs.take k)).length ≤ (flat bs).length := by
  induction bs generalizing k with
  | nil => simp [flat]
  | cons b r ih =>
    cases k with
    | zero => simp [flat]
    | succ k => rw [List.take_succ_cons, flat_length, flat_length]; have := ih k; omega

end Go.Proofs.Ytiejgandjlldjaa
