/-
  HullKeeps: the plain facts, between, fits, the body of the law (one text: a claim bears no more than 60).
-/
import Derived.Test.YtcpojadinkonnaaThinR6
import Derived.Test.YtcpojadinkonnaaThinP4
import Derived.Test.YtcpojadinkonnaaThinP3
namespace Go.Proofs.Ytcpojadinkonnaa

theorem kept_in {s : Nat → Nat → Option Nat} (hs : Between s) {k : Nat} : ∀ (d i j : Nat), j - i ≤ d → kept s i j k = true → i < k ∧ k < j
  | 0, i, j, hd, h => by
    cases hsx : s i j with
    | none => rw [kept_none hsx] at h; cases h
    | some a => have := hs i j a hsx; omega
  | d + 1, i, j, hd, h => by
    cases hsx : s i j with
    | none => rw [kept_none hsx] at h; cases h
    | some a =>
      have hb := hs i j a hsx
      rw [kept_some hs hsx, Bool.or_eq_true, Bool.or_eq_true, beq_iff_eq] at h
      rcases h with (h | h) | h
      · omega
      · have := kept_in hs d i a (by omega) h; omega
      · have := kept_in hs d a j (by omega) h; omega
/-- Of two kept neighbours none is chosen between. -/
theorem consec {s : Nat → Nat → Option Nat} (hs : Between s) : ∀ (d i j a b : Nat), j - i ≤ d → i ≤ a → a < b → b ≤ j → (a = i ∨ kept s i j a = true) → (b = j ∨ kept s i j b = true) → (∀ k, a < k → k < b → kept s i j k = false) → s a b = none
  | 0, i, j, a, b, hd, h1, h2, h3, _, _, _ => by omega
  | d + 1, i, j, a, b, hd, h1, h2, h3, ha, hb, hn => by
    cases hsx : s i j with
    | none =>
      have e1 : a = i := ha.elim id (fun h => by rw [kept_none hsx] at h; cases h)
      have e2 : b = j := hb.elim id (fun h => by rw [kept_none hsx] at h; cases h)
      rw [e1, e2]
      exact hsx
    | some x =>
      have hx := hs i j x hsx
      have hk := kept_some hs hsx
      rcases Nat.lt_or_ge x b with hxb | hxb
      · rcases Nat.lt_or_ge a x with hax | hax
        · have := hn x hax hxb
          rw [hk] at this
          simp at this
        · refine consec hs d x j a b (by omega) hax h2 h3 ?_ ?_ ?_
          · rcases ha with ha | ha
            · omega
            · rw [hk, Bool.or_eq_true, Bool.or_eq_true, beq_iff_eq] at ha
              rcases ha with (ha | ha) | ha
              · exact .inl ha
              · have := kept_in hs (x - i) i x (by omega) ha; omega
              · exact .inr ha
          · rcases hb with hb | hb
            · exact .inl hb
            · rw [hk, Bool.or_eq_true, Bool.or_eq_true, beq_iff_eq] at hb
              rcases hb with (hb | hb) | hb
              · omega
              · have := kept_in hs (x - i) i x (by omega) hb; omega
              · exact .inr hb
          · intro k hk1 hk2
            have := hn k hk1 hk2
            rw [hk, Bool.or_eq_false_iff] at this
            exact this.2
      · refine consec hs d i x a b (by omega) h1 h2 hxb ?_ ?_ ?_
        · rcases ha with ha | ha
          · exact .inl ha
          · rw [hk, Bool.or_eq_true, Bool.or_eq_true, beq_iff_eq] at ha
            rcases ha with (ha | ha) | ha
            · omega
            · exact .inr ha
            · have := kept_in hs (j - x) x j (by omega) ha; omega
        · rcases hb with hb | hb
          · exact .inl (by omega)
          · rw [hk, Bool.or_eq_true, Bool.or_eq_true, beq_iff_eq] at hb
            rcases hb with (hb | hb) | hb
            · exact .inl hb
            · exact .inr hb
            · have := kept_in hs (j - x) x j (by omega) hb; omega
        · intro k hk1 hk2
          have := hn k hk1 hk2
          rw [hk, Bool.or_eq_false_iff, Bool.or_eq_false_iff] at this
          exact this.1.2
theorem scanP_none {f : Nat → Int} {b : Int} {i : Nat} : ∀ {m : Nat}, scanP f b i m = none → ∀ k, i < k → k < i + 1 + m → f k ≤ b
  | 0, _, k, h1, h2 => by omega
  | m + 1, h, k, h1, h2 => by
    unfold scanP at h
    cases hR : scanP f b i m with
    | none =>
      rw [hR] at h
      simp only at h
      rcases Nat.lt_or_ge k (i + 1 + m) with hk | hk
      · exact scanP_none hR k h1 hk
      · obtain rfl : k = i + 1 + m := by omega
        split at h
        · cases h
        · omega
    | some x =>
      rw [hR] at h
      simp only at h
      split at h <;> cases h
theorem far_all {ps : List Pt} {t : Int} {i j k : Nat} (h : far ps (t * t) i j = none) (h1 : i < k) (h2 : k < j) : withinB (gp ps i) (gp ps j) (gp ps k) t = true :=
  decide_eq_true (scanP_none h k h1 (by omega))

/-- The kept places in their order. -/
def ki (f : Nat → Bool) (m : Nat) : List Nat := (List.range m).filter f
theorem ki_succ (f : Nat → Bool) (m : Nat) : ki f (m + 1) = ki f m ++ (if f m then [m] else []) := by
  unfold ki
  rw [List.range_succ, List.filter_append]
  by_cases h : f m <;> simp [h]
theorem leftF_ki (ps : List Pt) (f : Nat → Bool) (m : Nat) : leftF ps f m = (ki f m).map (gp ps) := by
  induction m with
  | zero => rfl
  | succ m ih =>
    rw [leftF, ih, ki_succ, List.map_append]
    by_cases h : f m <;> simp [h]
def kx (f : Nat → Bool) (m r : Nat) : Nat := ((ki f m)[r]?).getD 0
theorem kx_mem {f : Nat → Bool} {m r : Nat} (h : r < (ki f m).length) : kx f m r < m ∧ f (kx f m r) = true := by
  unfold kx
  rw [List.getElem?_eq_getElem h]
  have h1 : (ki f m)[r] ∈ ki f m := List.getElem_mem h
  have h2 : ∀ y, y ∈ ki f m → y < m ∧ f y = true := fun y hy => by
    unfold ki at hy
    rw [List.mem_filter] at hy
    exact ⟨List.mem_range.1 hy.1, hy.2⟩
  exact h2 _ h1
theorem gp_kx {ps : List Pt} {f : Nat → Bool} {m r : Nat} (h : r < (ki f m).length) : gp (leftF ps f m) r = gp ps (kx f m r) := by
  rw [leftF_ki]
  conv => lhs; unfold gp
  rw [List.getElem?_map, List.getElem?_eq_getElem h]
  unfold kx
  rw [List.getElem?_eq_getElem h]
  rfl
theorem kx_old {f : Nat → Bool} {m r : Nat} (h : r < (ki f m).length) : kx f (m + 1) r = kx f m r := by
  unfold kx
  rw [ki_succ, List.getElem?_append_left h]
theorem kx_new {f : Nat → Bool} {m : Nat} (h : f m = true) : kx f (m + 1) (ki f m).length = m := by
  unfold kx
  rw [ki_succ, h, List.getElem?_append_right (Nat.le_refl _)]
  simp
theorem kx_steps (f : Nat → Bool) : ∀ m, (∀ r, r + 1 < (ki f m).length → kx f m r < kx f m (r + 1) ∧ ∀ k, kx f m r < k → k < kx f m (r + 1) → f k = false) ∧ ∀ r, r + 1 = (ki f m).length → ∀ k, kx f m r < k → k < m → f k = false
  | 0 => ⟨fun r h => by simp [ki] at h, fun r h => by simp [ki] at h⟩
  | m + 1 => by
    have ih := kx_steps f m
    cases hf : f m with
    | false =>
      have e : ki f (m + 1) = ki f m := by rw [ki_succ, hf]; simp
      have ex : ∀ r, kx f (m + 1) r = kx f m r := fun r => by unfold kx; rw [e]
      refine ⟨fun r h => ?_, fun r h k h1 h2 => ?_⟩
      · rw [ex, ex]; exact ih.1 r (e ▸ h)
      · rw [ex] at h1
        rw [e] at h
        rcases Nat.lt_or_ge k m with hk | hk
        · exact ih.2 r h k h1 hk
        · obtain rfl : k = m := by omega
          exact hf
    | true =>
      have e : (ki f (m + 1)).length = (ki f m).length + 1 := by rw [ki_succ, hf]; simp
      refine ⟨fun r h => ?_, fun r h k h1 h2 => ?_⟩
      · rw [kx_old (by omega)]
        rcases Nat.lt_or_ge (r + 1) (ki f m).length with hr | hr
        · rw [kx_old hr]; exact ih.1 r hr
        · have er : r + 1 = (ki f m).length := by omega
          rw [er, kx_new hf]
          exact ⟨(kx_mem (by omega)).1, fun k h1 h2 => ih.2 r er k h1 h2⟩
      · have er : r = (ki f m).length := by omega
        rw [er, kx_new hf] at h1
        omega
theorem kx_first {f : Nat → Bool} (h : f 0 = true) : ∀ m, 0 < m → 0 < (ki f m).length ∧ kx f m 0 = 0
  | 0, h0 => by omega
  | 1, _ => by unfold kx ki; simp [h]
  | m + 2, _ => by
    have ih := kx_first h (m + 1) (by omega)
    refine ⟨?_, by rw [kx_old ih.1]; exact ih.2⟩
    rw [ki_succ, List.length_append]
    omega
theorem kx_last {f : Nat → Bool} {e : Nat} (h : f e = true) : (ki f (e + 1)).length = (ki f e).length + 1 ∧ kx f (e + 1) (ki f e).length = e := ⟨by rw [ki_succ, h]; simp, kx_new h⟩

theorem crz_sq (a b p : Pt) : crz a b p * crz a b p ≤ lng a b * lng a p := by
  have h : lng a b * lng a p = crz a b p * crz a b p + dtt a b p * dtt a b p := by
    unfold lng crz dtt crs
    grind
  have := sq_nonneg (dtt a b p)
  omega
theorem off_far {a b p : Pt} (ha : IL a) (hb : IL b) (hp : IL p) : offP a b p ≤ 3037000498 * 3037000498 * mx1 (lng a b) := by
  have e : (3037000498 : Int) * 3037000498 = 9223372024852248004 := by decide +kernel
  rw [e]
  have h0 := lng_bd ha hb
  have h1 := lng_bd ha hp
  have h2 := lng_bd hb hp
  have h3 := crz_sq a b p
  unfold offP
  by_cases hz : lng a b = 0
  · rw [if_pos hz, hz]
    have : mx1 0 = 1 := rfl
    omega
  · have hm : mx1 (lng a b) = lng a b := by unfold mx1; split <;> omega
    rw [if_neg hz, hm]
    have m1 := Int.mul_le_mul_of_nonneg_right (show lng a p ≤ 9223372024852248004 by omega) h0.1
    have m2 := Int.mul_le_mul_of_nonneg_right (show lng b p ≤ 9223372024852248004 by omega) h0.1
    split
    · exact m1
    · split
      · exact m2
      · rw [Int.mul_comm (lng a b)] at h3
        omega
theorem scanP_never {f : Nat → Int} {b : Int} {i : Nat} (h : ∀ k, f k ≤ b) : ∀ m, scanP f b i m = none
  | 0 => rfl
  | m + 1 => by
    unfold scanP
    rw [scanP_never h m]
    have := h (i + 1 + m)
    simp only
    rw [if_neg (by omega)]
theorem far_nothing {ps : List Pt} (hps : IsL ps) (i j : Nat) : far ps (3037000498 * 3037000498) i j = none := scanP_never (fun k => off_far (hps.gp i) (hps.gp j) (hps.gp k)) _
theorem ends_one {ps : List Pt} {n : Nat} : ∀ m, 0 < m → m ≤ n - 1 → (leftF ps (endsK n (fun _ => false)) m).length = 1
  | 0, h, _ => by omega
  | 1, _, _ => by simp [leftF, endsK]
  | m + 2, _, h => by
    have ih := ends_one (ps := ps) (n := n) (m + 1) (by omega) (by omega)
    have hf : endsK n (fun _ => false) (m + 1) = false := by
      unfold endsK
      rw [Bool.false_or, Bool.or_eq_false_iff]
      exact ⟨by rw [beq_eq_false_iff_ne]; omega, by rw [beq_eq_false_iff_ne]; omega⟩
    rw [leftF, hf, List.length_append, ih]
    rfl
theorem ends_length {ps : List Pt} {n : Nat} (hn : 0 < n) : (leftF ps (endsK n (fun _ => false)) n).length = if n = 1 then 1 else 2 := by
  obtain ⟨e, rfl⟩ : ∃ e, n = e + 1 := ⟨n - 1, by omega⟩
  rcases Nat.eq_zero_or_pos e with rfl | he
  · simp [leftF, endsK]
  · have h1 := ends_one (ps := ps) (n := e + 1) e he (by omega)
    have hf : endsK (e + 1) (fun _ => false) e = true := by unfold endsK; simp
    rw [leftF, hf, List.length_append, h1]
    simp
    omega
theorem thin_ends {ps : List Pt} (hps : IsL ps) (hn : 0 < ps.length) : (thinF ps 3037000498).length = if ps.length = 1 then 1 else 2 := by
  unfold thinF
  rw [leftF_eq (g := endsK ps.length (fun _ => false)) (fun k _ => by unfold endsK; rw [kept_none (far_nothing hps 0 (ps.length - 1))]), ends_length hn]

/-- Are the first m points behind i within the tolerance of the stretch from i to j? -/
def bwn (ps : List Pt) (t : Int) (i j : Nat) : Nat → Bool
  | 0 => true
  | m + 1 => bwn ps t i j m && withinB (gp ps i) (gp ps j) (gp ps (i + 1 + m)) t
theorem bwn_false {ps : List Pt} {t : Int} {i j m : Nat} (h : bwn ps t i j m = false) : ∀ d, bwn ps t i j (m + d) = false
  | 0 => h
  | d + 1 => by rw [← Nat.add_assoc, bwn, bwn_false h d]; rfl
theorem bwn_true {ps : List Pt} {t : Int} {i j : Nat} : ∀ m, (∀ k, i < k → k < i + 1 + m → withinB (gp ps i) (gp ps j) (gp ps k) t = true) → bwn ps t i j m = true
  | 0, _ => rfl
  | m + 1, h => by rw [bwn, bwn_true m (fun k h1 h2 => h k h1 (by omega)), h _ (by omega) (by omega)]; rfl

/-- What the table of fits needs to be told. -/
structure Line (ps : List Pt) (t : Int) (qs : List Pt) (x : Nat → Nat) : Prop where
  pos : 0 < qs.length
  few : qs.length ≤ ps.length
  at_ : ∀ r, r < qs.length → x r < ps.length ∧ gp qs r = gp ps (x r)
  step : ∀ r, r + 1 < qs.length → x r < x (r + 1) ∧ bwn ps t (x r) (x (r + 1)) (x (r + 1) - 1 - x r) = true
  first : x 0 = 0
  last : x (qs.length - 1) = ps.length - 1
theorem thin_line (ps : List Pt) (t : Int) (hn : 0 < ps.length) : ∃ x, Line ps t (thinF ps t) x := by
  obtain ⟨e, he⟩ : ∃ e, ps.length = e + 1 := ⟨ps.length - 1, by omega⟩
  obtain ⟨K, hK⟩ : ∃ K, kept (far ps (t * t)) 0 (ps.length - 1) = K := ⟨_, rfl⟩
  obtain ⟨f, hf⟩ : ∃ f, endsK ps.length K = f := ⟨_, rfl⟩
  have hq : thinF ps t = leftF ps f ps.length := by unfold thinF; rw [hK, hf]
  have h0 : f 0 = true := by rw [← hf]; unfold endsK; simp
  have hl : f e = true := by rw [← hf]; unfold endsK; rw [show (e == ps.length - 1) = true by rw [beq_iff_eq]; omega, Bool.or_true]
  have hlen : (leftF ps f ps.length).length = (ki f ps.length).length := by rw [leftF_ki, List.length_map]
  have h1 := kx_first h0 ps.length hn
  have h2 := kx_last hl
  refine ⟨kx f ps.length, ?_⟩
  rw [hq]
  refine ⟨by rw [hlen]; exact h1.1, leftF_length _ _ _, fun r hr => ?_, fun r hr => ?_, h1.2, ?_⟩
  · rw [hlen] at hr
    exact ⟨(kx_mem hr).1, gp_kx hr⟩
  · rw [hlen] at hr
    have hs := (kx_steps f ps.length).1 r hr
    refine ⟨hs.1, ?_⟩
    have hno : far ps (t * t) (kx f ps.length r) (kx f ps.length (r + 1)) = none := by
      have ka := kx_mem (f := f) (m := ps.length) (show r < _ by omega)
      have kb := kx_mem (f := f) (m := ps.length) hr
      have end_ : ∀ k, f k = true → k < ps.length → (k = 0 ∨ K k = true) ∨ k = ps.length - 1 := fun k hk _ => by
        rw [← hf] at hk
        unfold endsK at hk
        rw [Bool.or_eq_true, Bool.or_eq_true, beq_iff_eq, beq_iff_eq] at hk
        rcases hk with (hk | hk) | hk
        · exact .inl (.inr hk)
        · exact .inl (.inl hk)
        · exact .inr hk
      refine consec (far_between ps (t * t)) (ps.length - 1) 0 (ps.length - 1) _ _ (by omega) (by omega) hs.1 (by omega) ?_ ?_ ?_
      · rw [hK]
        rcases end_ _ ka.2 ka.1 with h | h
        · exact h
        · omega
      · rw [hK]
        rcases end_ _ kb.2 kb.1 with (h | h) | h
        · omega
        · exact .inr h
        · exact .inl h
      · intro k hk1 hk2
        have := hs.2 k hk1 hk2
        rw [← hf] at this
        unfold endsK at this
        rw [Bool.or_eq_false_iff, Bool.or_eq_false_iff] at this
        rw [hK]
        exact this.1.1
    exact bwn_true _ (fun k hk1 hk2 => far_all hno hk1 (by omega))
  · rw [hlen, he, h2.1, Nat.add_sub_cancel, h2.2]
    omega

end Go.Proofs.Ytcpojadinkonnaa

namespace Go.Proofs.Ytcpojadinkonnaa
open Go.RowKit

set_option maxHeartbeats 1000000 in
set_option maxRecDepth 100000 in
theorem between_any (ps : List Pt) (hps : IsL ps) {t : Int} (ht : Tol t) (M : Nat) (A : Option Addr) (c i j n : Nat) (hn : ps.length = n) (hlen : n ≤ 4096) (hij : i < j) (hjn : j < n) (w : World) (hP : PtsAt M w (.slice A n c) ps) (hM : M ≤ w.heap.size) :
    Calls Try.prog 38 #[.slice A n c, .int .i64 (i : Int), .int .i64 (j : Int), .int .i64 t] w fun e w' => e = .returned (.bool (bwn ps t i j (j - 1 - i))) ∧ Below w.heap.size w w' := by
  obtain ⟨b, off, rfl, hb, hc⟩ : ∃ b off, A = some ⟨b, off, none⟩ ∧ b < M ∧ ∀ k, k < ps.length → w.cell? ⟨b, off + k * 2, none⟩ = some (.int .i32 (gp ps k).1) ∧ w.cell? ⟨b, off + k * 2 + 1, none⟩ = some (.int .i32 (gp ps k).2) := by
    rcases hP with ⟨⟨A0, c0, _⟩, he⟩ | ⟨b, off, cap, he, hb, hc⟩
    · rw [he] at hn; simp at hn; omega
    · injection he with he1 he2 he3
      exact ⟨b, off, he1, hb, hc⟩
  have HPt := Lib.hid (And.intro hc hn)
  have WI := Lib.hid (fun k W => within_ref (hps.gp i) (hps.gp j) (hps.gp k) ht W)
  have hiI : (i : Int) < (n : Int) := by omega
  have hjI : (j : Int) < (n : Int) := by omega
  have hw1 : IntKind.i64.wrap ((i : Int) + 1) = (i : Int) + 1 := by simp only [IntKind.wrap, IntKind.signed, IntKind.bits]; simp; omega
  clear hc hP hn
  go_enter Try.func38, Try.ntmps38
  go_wp2_with fail
  go_loopw [9] (fun k wr => ∃ m : Nat, m ≤ j - 1 - i ∧ k = .int .i64 ((i : Int) + 1 + (m : Int)) ∧ bwn ps t i j m = true ∧ Below w.heap.size w wr) (fun k _ => j - (intOf k).toNat)
  case atStart => exact ⟨0, by omega, by simp, rfl, Below.refl _ _⟩
  case round =>
    obtain ⟨m, hm, rfl, hbt, hB⟩ := hrel
    have hzr := hB.size
    rcases Nat.lt_or_ge m (j - 1 - i) with hlt | hge
    · obtain ⟨K3, hK3⟩ : ∃ K, i + 1 + m = K := ⟨_, rfl⟩
      have hkI : (i : Int) + 1 + (m : Int) = (K3 : Int) := by omega
      have hKj : (K3 : Int) < (j : Int) := by omega
      have hKn : (K3 : Int) < (n : Int) := by omega
      have hK0 : decide ((K3 : Int) < 0) = false := decide_eq_false (by omega)
      rw [hkI]
      have c1 := (hB.cell (p := ⟨b, off + i * 2, none⟩) (show b < w.heap.size by omega)).trans (HPt.out.1 i (by have := HPt.out.2; omega)).1
      have c2 := (hB.cell (p := ⟨b, off + i * 2 + 1, none⟩) (show b < w.heap.size by omega)).trans (HPt.out.1 i (by have := HPt.out.2; omega)).2
      have c3 := (hB.cell (p := ⟨b, off + j * 2, none⟩) (show b < w.heap.size by omega)).trans (HPt.out.1 j (by have := HPt.out.2; omega)).1
      have c4 := (hB.cell (p := ⟨b, off + j * 2 + 1, none⟩) (show b < w.heap.size by omega)).trans (HPt.out.1 j (by have := HPt.out.2; omega)).2
      have c5 := (hB.cell (p := ⟨b, off + K3 * 2, none⟩) (show b < w.heap.size by omega)).trans (HPt.out.1 K3 (by have := HPt.out.2; omega)).1
      have c6 := (hB.cell (p := ⟨b, off + K3 * 2 + 1, none⟩) (show b < w.heap.size by omega)).trans (HPt.out.1 K3 (by have := HPt.out.2; omega)).2
      have hbz : b < wr.heap.size := by omega
      have hwi := fun W => WI.out K3 W
      obtain ⟨wb, hwb⟩ : ∃ z, withinB (gp ps i) (gp ps j) (gp ps K3) t = z := ⟨_, rfl⟩
      rw [hwb] at hwi
      have HWI := Lib.hid hwi
      have HW := Lib.hid (And.intro hbt (And.intro hK3 hwb))
      have hw2 : IntKind.i64.wrap ((K3 : Int) + 1) = (K3 : Int) + 1 := by simp only [IntKind.wrap, IntKind.signed, IntKind.bits]; simp; omega
      clear hwi hwb hbt hK3 hkI
      cases wb with
      | true =>
        go_wp2_with fail
        have hq_wr := @wd_cell wr
        refine wp_region_wd (by kernel_rfl) (by kernel_rfl) ?_
        repeat (go_big_quiet_step ((first | (go_at_call 65; with_reducible exact quiet_wd (HWI.out _)))))
        refine wpQuiet_nil ?_
        rintro w3 ⟨⟨wx, hb_w3⟩, hwx⟩
        obtain rfl : w3 = wx := hwx
        clear hq_wr
        have hz_w3 := hb_w3.size
        obtain ⟨hc_w3, hf_w3⟩ := bcell hb_w3
        have hB_w3 : Below w.heap.size w w3 := Below.trans (by go_grown) (hb_w3.mono (by go_size))
        have hs_w3_0 : b < w3.heap.size := Nat.lt_of_lt_of_le (by assumption) hb_w3.size
        have H3 := Lib.hid (hB.trans (hb_w3.mono hzr))
        clear hb_w3 hc_w3 hf_w3 hB_w3 c1 c2 c3 c4 c5 c6
        go_wp2_with fail
        go_roundw
        case rel => exact ⟨m + 1, by omega, by have := HW.out.2.1; congr 1; omega, by rw [bwn, HW.out.1, HW.out.2.1, HW.out.2.2]; rfl, H3.out⟩
        case measure => simp [intOf]; omega
      | false =>
        go_wp2_with fail
        have hq_wr := @wd_cell wr
        refine wp_region_wd (by kernel_rfl) (by kernel_rfl) ?_
        repeat (go_big_quiet_step ((first | (go_at_call 65; with_reducible exact quiet_wd (HWI.out _)))))
        refine wpQuiet_nil ?_
        rintro w3 ⟨⟨wx, hb_w3⟩, hwx⟩
        obtain rfl : w3 = wx := hwx
        clear hq_wr
        have hz_w3 := hb_w3.size
        obtain ⟨hc_w3, hf_w3⟩ := bcell hb_w3
        have hB_w3 : Below w.heap.size w w3 := Below.trans (by go_grown) (hb_w3.mono (by go_size))
        have hs_w3_0 : b < w3.heap.size := Nat.lt_of_lt_of_le (by assumption) hb_w3.size
        have H3 := Lib.hid (hB.trans (hb_w3.mono hzr))
        clear hb_w3 hc_w3 hf_w3 hB_w3 c1 c2 c3 c4 c5 c6
        go_wp2_with fail
        go_ret
        refine ⟨ret_bool ?_, H3.out⟩
        have h1 : bwn ps t i j (m + 1) = false := by rw [bwn, HW.out.2.1, HW.out.2.2, Bool.and_false]
        have := bwn_false h1 (j - 1 - i - (m + 1))
        rw [show m + 1 + (j - 1 - i - (m + 1)) = j - 1 - i by omega] at this
        exact this.symm
    · have hmE : m = j - 1 - i := by omega
      have hkI : ¬ (i : Int) + 1 + (m : Int) < (j : Int) := by omega
      go_wp2_with fail
      go_ret
      exact ⟨ret_bool (by rw [← hmE, hbt]), hB⟩

end Go.Proofs.Ytcpojadinkonnaa

namespace Go.Proofs.Ytcpojadinkonnaa
open Go.RowKit

theorem KeptAt.far {W : World} {g g' n a : Nat} {f : Nat → Bool} {v : Value} (H : KeptAt W g n f) (hne : g ≠ g') : KeptAt (W.setCell ⟨g', a, none⟩ v) g n f := Var.far H (p := ⟨g', a, none⟩) hne v
theorem pts_cells {ps : List Pt} {n M c : Nat} {A : Option Addr} {w : World} (hn : ps.length = n) (h0 : 0 < n) (hP : PtsAt M w (.slice A n c) ps) :
    ∃ b off, A = some ⟨b, off, none⟩ ∧ b < M ∧ ∀ k, k < n → w.cell? ⟨b, off + k * 2, none⟩ = some (.int .i32 (gp ps k).1) ∧ w.cell? ⟨b, off + k * 2 + 1, none⟩ = some (.int .i32 (gp ps k).2) := by
  rcases hP with ⟨⟨A0, c0, _⟩, he⟩ | ⟨b, off, cap, he, hb, hc⟩
  · rw [he] at hn; simp at hn; omega
  · injection he with he1 he2 he3
    exact ⟨b, off, he1, hb, fun k hk => hc k (by omega)⟩

set_option maxHeartbeats 4000000 in
set_option maxRecDepth 100000 in
theorem fits_any (ps qs : List Pt) (hps : IsL ps) {t : Int} (ht : Tol t) (x : Nat → Nat) (hL : Line ps t qs x) (M : Nat) (A B : Option Addr) (c cq n q : Nat) (hn : ps.length = n) (hq : qs.length = q) (hlen : n ≤ 4096) (w : World) (hP : PtsAt M w (.slice A n c) ps) (hQ : PtsAt M w (.slice B q cq) qs) (hM : M ≤ w.heap.size) :
    Calls Try.prog 16 #[.slice A n c, .slice B q cq, .int .i64 t] w fun e w' => e = .returned (.tuple #[.int .i64 ((n : Int) - 1), .bool true]) ∧ Below w.heap.size w w' := by
  have hq0 : 0 < q := by have := hL.pos; omega
  have hn0 : 0 < n := by have := hL.pos; have := hL.few; omega
  obtain ⟨b, off, rfl, hb, hc⟩ := pts_cells hn hn0 hP
  obtain ⟨b', off', rfl, hb', hc'⟩ := pts_cells hq hq0 hQ
  have BT := Lib.hid (fun i j (hij : i < j) (hjn : j < n) W (hB : Below w.heap.size w W) => between_any ps hps ht M _ c i j n hn hlen hij hjn W (hP.below (hB.mono hM)) (Nat.le_trans hM hB.size))
  have HPt := Lib.hid (And.intro hc hc')
  have LN := Lib.hid (show (∀ r, r < q → x r < n ∧ gp qs r = gp ps (x r)) ∧ (∀ r, r + 1 < q → x r < x (r + 1) ∧ bwn ps t (x r) (x (r + 1)) (x (r + 1) - 1 - x r) = true) ∧ x 0 = 0 ∧ x (q - 1) = n - 1 from ⟨fun r hr => by have := hL.at_ r (by omega); rw [hn] at this; exact this, fun r hr => hL.step r (by omega), hL.first, by have := hL.last; rw [hn, hq] at this; exact this⟩)
  have hqn : q ≤ n := by have := hL.few; omega
  clear hc hc' hP hQ hL hn hq
  have hmk := make_bools n (by omega)
  have hnI : (0 : Int) < (n : Int) := by omega
  go_enter Try.func16, Try.ntmps16
  go_upto_region 2 with fail
  refine wp_gen (fun W hW => ?_)
  have hK0 : KeptAt W w.heap.size n (fun _ => false) := by rw [hW]; exact kept_new w n
  have hbW : Below w.heap.size w W := by rw [hW]; go_grown
  have k0 : W.cell? ⟨w.heap.size, 0, none⟩ = some (.bool false) := hK0.at_ (by omega)
  have f0 := Var.free hK0 0
  have hgz := Var.lt hK0
  have H0 := Lib.hid (And.intro (hK0.put 0 hn0) (hbW.setCell (p := ⟨w.heap.size, 0, none⟩) (Nat.le_refl _) (.bool true)))
  clear hK0 hbW hW
  go_wp2_with fail
  go_loopw [8, 9] (fun can k wr => ∃ (r g : Nat) (f : Nat → Bool), 1 ≤ r ∧ r ≤ q ∧ k = .int .i64 (r : Int) ∧ can = .slice (some ⟨g, 0, none⟩) n n ∧ KeptAt wr g n f ∧ f (x (r - 1)) = true ∧ w.heap.size ≤ g ∧ Below w.heap.size w wr) (fun _ k _ => q - (intOf k).toNat)
  case atStart => exact ⟨1, w.heap.size, _, Nat.le_refl _, by omega, rfl, rfl, H0.out.1, by rw [LN.out.2.2.1]; rfl, Nat.le_refl _, H0.out.2⟩
  case round =>
    obtain ⟨r, g, f, hr1, hrq, rfl, rfl, hK, hfx, hg, hB⟩ := hrel
    have hzr := hB.size
    have hgzr := Var.lt hK
    rcases Nat.lt_or_ge r q with hlt | hge
    · have hrI : (r : Int) < (q : Int) := by omega
      have hr0 : decide ((r : Int) < 0) = false := decide_eq_false (by omega)
      have hwr : IntKind.i64.wrap ((r : Int) + 1) = (r : Int) + 1 := by simp only [IntKind.wrap, IntKind.signed, IntKind.bits]; simp; omega
      have HK := Lib.hid (And.intro hK hB)
      have HX := Lib.hid (show f (x (r - 1)) = true ∧ x (r - 1) < x r ∧ bwn ps t (x (r - 1)) (x r) (x r - 1 - x (r - 1)) = true ∧ x r < n ∧ gp qs r = gp ps (x r) from by
        have h1 := LN.out.2.1 (r - 1) (by omega)
        rw [show r - 1 + 1 = r by omega] at h1
        exact ⟨hfx, h1.1, h1.2, LN.out.1 r hlt⟩)
      clear hK hB hfx
      go_wp2_with fail
      refine wp_gen (fun W2 hW2 => ?_)
      have hb2 : Below wr.heap.size wr W2 := by rw [hW2]; go_grown
      have hKn : KeptAt W2 wr.heap.size n (fun _ => false) := by rw [hW2]; exact kept_new wr n
      obtain ⟨gn, hgn⟩ : ∃ z, wr.heap.size = z := ⟨_, rfl⟩
      have H2 := Lib.hid (And.intro hKn (And.intro (HK.out.1.keep hb2) (HK.out.2.trans (hb2.mono hzr))))
      rw [hgn] at H2 hgzr hzr ⊢
      clear hW2 hb2 hKn hgn HK
      have hgne : g ≠ gn := by omega
      go_loopw [11] (fun i wr => ∃ (a : Nat) (h : Nat → Bool), a ≤ n ∧ i = .int .i64 (a : Int) ∧ KeptAt wr gn n h ∧ (x (r - 1) < a → h (x r) = true) ∧ KeptAt wr g n f ∧ Below w.heap.size w wr) (fun i _ => n - (intOf i).toNat)
      case atStart => exact ⟨0, _, by omega, rfl, H2.out.1, fun h => absurd h (by omega), H2.out.2.1, H2.out.2.2⟩
      case round =>
        obtain ⟨a, h, ha, rfl, hKn, hh, hKg, hB⟩ := hrel
        have hz3 := hB.size
        have zn := Var.lt hKn
        have zg := Var.lt hKg
        rcases Nat.lt_or_ge a n with halt | hage
        · have haI : (a : Int) < (n : Int) := by omega
          have ha0 : decide ((a : Int) < 0) = false := decide_eq_false (by omega)
          have hwa : IntKind.i64.wrap ((a : Int) + 1) = (a : Int) + 1 := by simp only [IntKind.wrap, IntKind.signed, IntKind.bits]; simp; omega
          have ck : wr.cell? ⟨g, a, none⟩ = some (.bool (f a)) := hKg.at_ halt
          cases hfa : f a with
          | false =>
            rw [hfa] at ck
            have HR := Lib.hid (show KeptAt wr gn n h ∧ (x (r - 1) < a + 1 → h (x r) = true) ∧ KeptAt wr g n f ∧ Below w.heap.size w wr from ⟨hKn, fun hx => hh (by
              rcases Nat.lt_or_ge (x (r - 1)) a with h1 | h1
              · exact h1
              · have e : x (r - 1) = a := by omega
                have := HX.out.1
                rw [e, hfa] at this
                cases this), hKg, hB⟩)
            clear hKn hh hKg hB hfa
            go_wp2_with fail
            go_roundw
            case rel => exact ⟨a + 1, h, by omega, by simp, HR.out.1, HR.out.2.1, HR.out.2.2.1, HR.out.2.2.2⟩
            case measure => simp [intOf]; omega
          | true =>
            rw [hfa] at ck
            have HR := Lib.hid (And.intro hKn (And.intro hh (And.intro hKg hB)))
            clear hKn hh hKg hB hfa
            go_wp2_with fail
            clear ck
            go_loopw [12] (fun j wr => ∃ (d : Nat) (h : Nat → Bool), a + 1 ≤ d ∧ d ≤ n ∧ j = .int .i64 (d : Int) ∧ KeptAt wr gn n h ∧ (x (r - 1) < a ∨ (x (r - 1) = a ∧ x r < d) → h (x r) = true) ∧ KeptAt wr g n f ∧ Below w.heap.size w wr) (fun j _ => n - (intOf j).toNat)
            case atStart => exact ⟨a + 1, h, Nat.le_refl _, by omega, by simp, HR.out.1, fun hx => hx.elim HR.out.2.1 (fun hx => by have := HX.out.2.1; omega), HR.out.2.2.1, HR.out.2.2.2⟩
            case round =>
              obtain ⟨d, h2, had, hdn, rfl, hKn, hh, hKg, hB⟩ := hrel
              clear HR zn zg hz3
              have hz4 := hB.size
              have zn := Var.lt hKn
              rcases Nat.lt_or_ge d n with hdlt | hdge
              · have hdI : (d : Int) < (n : Int) := by omega
                have hd0 : decide ((d : Int) < 0) = false := decide_eq_false (by omega)
                have hwd : IntKind.i64.wrap ((d : Int) + 1) = (d : Int) + 1 := by simp only [IntKind.wrap, IntKind.signed, IntKind.bits]; simp; omega
                have c1 := (hB.cell (p := ⟨b, off + d * 2, none⟩) (show b < w.heap.size by omega)).trans (HPt.out.1 d hdlt).1
                have c2 := (hB.cell (p := ⟨b, off + d * 2 + 1, none⟩) (show b < w.heap.size by omega)).trans (HPt.out.1 d hdlt).2
                have c3 := (hB.cell (p := ⟨b', off' + r * 2, none⟩) (show b' < w.heap.size by omega)).trans (HPt.out.2 r hlt).1
                have c4 := (hB.cell (p := ⟨b', off' + r * 2 + 1, none⟩) (show b' < w.heap.size by omega)).trans (HPt.out.2 r hlt).2
                have hbz : b < wr.heap.size := by omega
                have hbz' : b' < wr.heap.size := by omega
                have HR2 := Lib.hid (And.intro hKn (And.intro hh hKg))
                clear hKn hh hKg
                have stay : (x r ≠ d ∨ x (r - 1) ≠ a) → (x (r - 1) < a ∨ (x (r - 1) = a ∧ x r < d + 1) → h2 (x r) = true) := fun hne hx => HR2.out.2.1 (by omega)
                by_cases heq : gp ps d = gp qs r
                · rw [heq] at c1 c2
                  have hbt := fun W' (hW : Below wr.heap.size wr W') => BT.out a d (by omega) hdlt W' (hB.trans (hW.mono hz4))
                  obtain ⟨bt, hbt'⟩ : ∃ z, bwn ps t a d (d - 1 - a) = z := ⟨_, rfl⟩
                  rw [hbt'] at hbt
                  have HB := Lib.hid hbt
                  have HE := Lib.hid hbt'
                  have HS := Lib.hid stay
                  clear hbt hbt' heq stay
                  cases bt with
                  | true =>
                    go_wp2_with fail
                    have hq_wr := @wd_cell wr
                    refine wp_region_wd (by kernel_rfl) (by kernel_rfl) ?_
                    repeat (go_big_quiet_step ((first | (go_at_call 38; with_reducible exact quiet_wd (HB.out _ (Wd.h _))))))
                    refine wpQuiet_nil ?_
                    rintro w5 ⟨⟨wx, hb_w5⟩, hwx⟩
                    obtain rfl : w5 = wx := hwx
                    clear hq_wr
                    have hz_w5 := hb_w5.size
                    obtain ⟨hc_w5, hf_w5⟩ := bcell hb_w5
                    have hB_w5 : Below w.heap.size w w5 := Below.trans (by go_grown) (hb_w5.mono (by go_size))
                    have hs_w5_0 : b < w5.heap.size := Nat.lt_of_lt_of_le (by assumption) hb_w5.size
                    have hs_w5_1 : b' < w5.heap.size := Nat.lt_of_lt_of_le (by assumption) hb_w5.size
                    have K5 := HR2.out.1.keep hb_w5
                    have G5 := HR2.out.2.2.keep hb_w5
                    have B5 := hB.trans (hb_w5.mono hz4)
                    have kd : w5.cell? ⟨gn, d, none⟩ = some (.bool (h2 d)) := K5.at_ hdlt
                    have fd := Var.free K5 d
                    have z5 := Var.lt K5
                    have HN := Lib.hid (And.intro (K5.put d hdlt) (And.intro (G5.far (a := d) (v := .bool true) hgne) (B5.setCell (p := ⟨gn, d, none⟩) (show w.heap.size ≤ gn by omega) (.bool true))))
                    clear K5 G5 B5 hb_w5 hc_w5 hf_w5 hB_w5 c1 c2 c3 c4
                    go_wp2_with fail
                    go_roundw
                    case rel =>
                      refine ⟨d + 1, _, by omega, by omega, by simp, HN.out.1, fun hx => ?_, HN.out.2.1, HN.out.2.2⟩
                      by_cases hxd : x r = d
                      · simp [hxd]
                      · rw [HS.out (.inl hxd) hx]; rfl
                    case measure => simp [intOf]; omega
                  | false =>
                    go_wp2_with fail
                    have hq_wr := @wd_cell wr
                    refine wp_region_wd (by kernel_rfl) (by kernel_rfl) ?_
                    repeat (go_big_quiet_step ((first | (go_at_call 38; with_reducible exact quiet_wd (HB.out _ (Wd.h _))))))
                    refine wpQuiet_nil ?_
                    rintro w5 ⟨⟨wx, hb_w5⟩, hwx⟩
                    obtain rfl : w5 = wx := hwx
                    clear hq_wr
                    have hz_w5 := hb_w5.size
                    obtain ⟨hc_w5, hf_w5⟩ := bcell hb_w5
                    have hB_w5 : Below w.heap.size w w5 := Below.trans (by go_grown) (hb_w5.mono (by go_size))
                    have hs_w5_0 : b < w5.heap.size := Nat.lt_of_lt_of_le (by assumption) hb_w5.size
                    have hs_w5_1 : b' < w5.heap.size := Nat.lt_of_lt_of_le (by assumption) hb_w5.size
                    have HN := Lib.hid (And.intro (HR2.out.1.keep hb_w5) (And.intro (HR2.out.2.2.keep hb_w5) (hB.trans (hb_w5.mono hz4))))
                    clear hb_w5 hc_w5 hf_w5 hB_w5 c1 c2 c3 c4
                    go_wp2_with fail
                    go_roundw
                    case rel =>
                      refine ⟨d + 1, h2, by omega, by omega, by simp, HN.out.1, HS.out ?_, HN.out.2.1, HN.out.2.2⟩
                      by_cases hxd : x r = d
                      · refine .inr fun hxa => ?_
                        have h1 := HX.out.2.2.1
                        rw [hxd, hxa, HE.out] at h1
                        cases h1
                      · exact .inl hxd
                    case measure => simp [intOf]; omega
                · have hne : x r ≠ d := fun e => heq (by rw [HX.out.2.2.2.2, e])
                  have HS := Lib.hid (stay (.inl hne))
                  have hparts : (¬ (gp ps d).1 = (gp qs r).1) ∨ ((gp ps d).1 = (gp qs r).1 ∧ ¬ (gp ps d).2 = (gp qs r).2) := by
                    by_cases h1 : (gp ps d).1 = (gp qs r).1
                    · exact .inr ⟨h1, fun e => heq (Prod.ext h1 e)⟩
                    · exact .inl h1
                  clear stay hne heq
                  rcases hparts with h1 | ⟨h1, h3⟩
                  · go_wp2_with fail
                    have hq_wr := @wd_cell wr
                    refine wp_region_wd (by kernel_rfl) (by kernel_rfl) ?_
                    repeat (go_big_quiet_step ((first | (fail))))
                    refine wpQuiet_nil ?_
                    rintro w5 ⟨⟨wx, hb_w5⟩, hwx⟩
                    obtain rfl : w5 = wx := hwx
                    clear hq_wr
                    have hz_w5 := hb_w5.size
                    obtain ⟨hc_w5, hf_w5⟩ := bcell hb_w5
                    have hB_w5 : Below w.heap.size w w5 := Below.trans (by go_grown) (hb_w5.mono (by go_size))
                    have hs_w5_0 : b < w5.heap.size := Nat.lt_of_lt_of_le (by assumption) hb_w5.size
                    have hs_w5_1 : b' < w5.heap.size := Nat.lt_of_lt_of_le (by assumption) hb_w5.size
                    have HN := Lib.hid (And.intro (HR2.out.1.keep hb_w5) (And.intro (HR2.out.2.2.keep hb_w5) (hB.trans (hb_w5.mono hz4))))
                    clear hb_w5 hc_w5 hf_w5 hB_w5 c1 c2 c3 c4
                    go_wp2_with fail
                    go_roundw
                    case rel => exact ⟨d + 1, h2, by omega, by omega, by simp, HN.out.1, HS.out, HN.out.2.1, HN.out.2.2⟩
                    case measure => simp [intOf]; omega
                  · rw [h1] at c1
                    go_wp2_with fail
                    have hq_wr := @wd_cell wr
                    refine wp_region_wd (by kernel_rfl) (by kernel_rfl) ?_
                    repeat (go_big_quiet_step ((first | (fail))))
                    refine wpQuiet_nil ?_
                    rintro w5 ⟨⟨wx, hb_w5⟩, hwx⟩
                    obtain rfl : w5 = wx := hwx
                    clear hq_wr
                    have hz_w5 := hb_w5.size
                    obtain ⟨hc_w5, hf_w5⟩ := bcell hb_w5
                    have hB_w5 : Below w.heap.size w w5 := Below.trans (by go_grown) (hb_w5.mono (by go_size))
                    have hs_w5_0 : b < w5.heap.size := Nat.lt_of_lt_of_le (by assumption) hb_w5.size
                    have hs_w5_1 : b' < w5.heap.size := Nat.lt_of_lt_of_le (by assumption) hb_w5.size
                    have HN := Lib.hid (And.intro (HR2.out.1.keep hb_w5) (And.intro (HR2.out.2.2.keep hb_w5) (hB.trans (hb_w5.mono hz4))))
                    clear hb_w5 hc_w5 hf_w5 hB_w5 c1 c2 c3 c4
                    go_wp2_with fail
                    go_roundw
                    case rel => exact ⟨d + 1, h2, by omega, by omega, by simp, HN.out.1, HS.out, HN.out.2.1, HN.out.2.2⟩
                    case measure => simp [intOf]; omega
              · obtain rfl : d = n := by omega
                have hdI : ¬ (d : Int) < (d : Int) := by omega
                have HR2 := Lib.hid (And.intro hKn (And.intro hh (And.intro hKg hB)))
                clear hKn hh hKg hB
                go_wp2_with fail
                go_roundw
                case rel => exact ⟨a + 1, h2, by omega, by simp, HR2.out.1, fun hx => HR2.out.2.1 (by have := HX.out.2.2.2.1; omega), HR2.out.2.2.1, HR2.out.2.2.2⟩
                case measure => simp [intOf]; omega
        · obtain rfl : a = n := by omega
          have haI : ¬ (a : Int) < (a : Int) := by omega
          have HR := Lib.hid (And.intro hKn (And.intro hh (And.intro hKg hB)))
          clear hKn hh hKg hB
          go_wp2_with fail
          go_roundw
          case rel => exact ⟨r + 1, gn, h, by omega, by omega, by simp, rfl, HR.out.1, by rw [Nat.add_sub_cancel]; exact HR.out.2.1 (by have := HX.out.2.1; have := HX.out.2.2.2.1; omega), by omega, HR.out.2.2.2⟩
          case measure => simp [intOf]; omega
    · obtain rfl : r = q := by omega
      have hrI : ¬ (r : Int) < (r : Int) := by omega
      have hfe : f (n - 1) = true := by rw [← LN.out.2.2.2]; exact hfx
      obtain ⟨e, he⟩ : ∃ e, n = e + 1 := ⟨n - 1, by omega⟩
      have hws : IntKind.i64.wrap ((n : Int) - 1) = (e : Int) := by simp only [IntKind.wrap, IntKind.signed, IntKind.bits]; simp; omega
      have ck : wr.cell? ⟨g, e, none⟩ = some (.bool true) := by
        have := hK.at_ (k := n - 1) (by omega)
        rw [hfe, show n - 1 = e by omega] at this
        exact this
      have heI : (e : Int) < (n : Int) := by omega
      have he0 : decide ((e : Int) < 0) = false := decide_eq_false (by omega)
      have heq : (n : Int) - 1 = (e : Int) := by omega
      have HEQ := Lib.hid heq
      clear hK he heq hfe
      go_wp2_with fail
      have hq_wr := @wd_cell wr
      refine wp_region_wd (by kernel_rfl) (by kernel_rfl) ?_
      repeat (go_big_quiet_step ((first | (fail))))
      refine wpQuiet_nil ?_
      rintro w5 ⟨⟨wx, hb_w5⟩, hwx⟩
      obtain rfl : w5 = wx := hwx
      clear hq_wr
      have hz_w5 := hb_w5.size
      obtain ⟨hc_w5, hf_w5⟩ := bcell hb_w5
      have hB_w5 : Below w.heap.size w w5 := Below.trans (by go_grown) (hb_w5.mono (by go_size))
      have hs_w5_0 : g < w5.heap.size := Nat.lt_of_lt_of_le (by assumption) hb_w5.size
      go_wp2_with fail
      go_ret2
      exact ⟨by rw [HEQ.out]; rfl, hB.trans (hb_w5.mono hzr)⟩

end Go.Proofs.Ytcpojadinkonnaa

namespace Go.Proofs.Ytcpojadinkonnaa
open Go.RowKit

theorem tcode_zero {ps : List Pt} {t : Int} (h : tcode ps t = 0) : ps.length ≤ 4096 ∧ Tol t ∧ IsL ps := by
  unfold tcode at h
  by_cases h1 : 4096 < ps.length
  · rw [if_pos h1] at h; omega
  · rw [if_neg h1] at h
    by_cases h2 : BadTol t
    · rw [if_pos h2] at h; omega
    · rw [if_neg h2] at h
      by_cases h3 : IsL ps
      · unfold BadTol at h2; exact ⟨by omega, ⟨by omega, by omega⟩, h3⟩
      · rw [if_neg h3] at h; omega
theorem own_slice {W : World} {b size n : Nat} {e : TypeId} {v : Value} {xs : List Value} (h : W.ownsRow b e size v n xs) : ∃ A c, v = .slice A n c := by
  rcases h.2 with ⟨rfl, rfl⟩ | ⟨g, cap, cur, rfl, _⟩ <;> exact ⟨_, _, rfl⟩

set_option maxHeartbeats 1000000 in
set_option maxRecDepth 100000 in
theorem hullKeeps_core (w : World) (A : Option Addr) (n c : Nat) (ps : List Pt) (t : Int) (hn : ps.length = n) (hA : n = 0 → A = none → c = 0) (hI : PtsAt w.heap.size w (.slice A n c) ps) :
    Calls Try.prog 5 #[.slice A n c, .int .i64 t] w fun e w' => e = .returned (.bool true) ∧ Below w.heap.size w w' := by
  rcases Nat.lt_or_ge 80 n with h80 | h80
  · have h80I : (80 : Int) < (n : Int) := by omega
    go_enter Try.func5, Try.ntmps5
    go_wp2_with fail
    go_ret
    exact ⟨rfl, Below.refl _ _⟩
  have h80I : ¬ (80 : Int) < (n : Int) := by omega
  have HT := Lib.hid (fun t' W (h : Below w.heap.size w W) => hn ▸ hullThin ps t' w.heap.size A c W (hn ▸ hI.below h) h.size (hn ▸ hA))
  have HPI := Lib.hid (And.intro hn (fun W (h : Below w.heap.size w W) => hI.below h))
  clear hI hA hn
  have HBad := Lib.hid (fun (h : tcode ps t ≠ 0) => tlist_bad (ps := ps) (t := t) rfl h)
  have HOk := Lib.hid (fun (h : tcode ps t = 0) => And.intro (tcode_zero h) (tlist_ok h))
  obtain ⟨z, hz⟩ : ∃ z, tcode ps t = z := ⟨_, rfl⟩
  obtain ⟨ls, hls⟩ : ∃ z, tlist ps t = z := ⟨_, rfl⟩
  rw [hz, hls] at HBad HOk
  have HTS := Lib.hid (fun W e W' (h : ThinSays ps t W e W') => (show ∃ v, e = .returned (.tuple #[v, .int .i64 z]) ∧ W'.ownsRow W.heap.size 32 2 v ls.length (flat ls) ∧ Below W.heap.size W W' by rw [← hz, ← hls]; exact h))
  clear hz hls
  obtain ⟨q, hq⟩ : ∃ q, ls.length = q := ⟨_, rfl⟩
  have HQ := Lib.hid hq
  rw [hq] at HTS
  clear hq
  rcases Decidable.em (z = 0) with rfl | hz
  · have HO := Lib.hid (HOk.out rfl)
    rcases Nat.eq_zero_or_pos n with hn0 | hn0
    · have hq0 : q = 0 := by
        rw [← HQ.out, HO.out.2, thinF_few (by rw [HPI.out.1]; omega), HPI.out.1]; exact hn0
      subst hn0 hq0
      go_enter Try.func5, Try.ntmps5
      go_wp2_with fail
      refine (HT.out t w (Below.refl _ _)).mono ?_
      intro e w1 hT1
      obtain ⟨v1, rfl, hown1, hb1⟩ := HTS.out _ _ _ hT1
      obtain ⟨A1, c1, rfl⟩ := own_slice hown1
      have H1 := Lib.hid hb1
      clear hT1 hown1 hb1
      go_wp2_with fail
      go_ret
      exact ⟨rfl, H1.out⟩
    · obtain ⟨x, hL⟩ := thin_line ps t (by rw [HPI.out.1]; exact hn0)
      rw [← HO.out.2] at hL
      have hqp : 0 < q := by rw [← HQ.out]; exact hL.pos
      have hqn : q ≤ n := by rw [← HQ.out, ← HPI.out.1]; exact hL.few
      have hfirst : gp ls 0 = gp ps 0 := by rw [(hL.at_ 0 hL.pos).2, hL.first]
      have hlast : gp ls (q - 1) = gp ps (n - 1) := by
        have := (hL.at_ (ls.length - 1) (by have := hL.pos; omega)).2
        rw [hL.last, HQ.out, HPI.out.1] at this
        exact this
      have HL := Lib.hid hL
      clear hL
      obtain ⟨b, off, rfl, hb, hc⟩ := pts_cells HPI.out.1 hn0 (HPI.out.2 w (Below.refl _ _))
      obtain ⟨e, he⟩ : ∃ e, n = e + 1 := ⟨n - 1, by omega⟩
      obtain ⟨d, hd⟩ : ∃ d, q = d + 1 := ⟨q - 1, by omega⟩
      have hwn : IntKind.i64.wrap ((n : Int) - 1) = (e : Int) := by simp only [IntKind.wrap, IntKind.signed, IntKind.bits]; simp; omega
      have hwq : IntKind.i64.wrap ((q : Int) - 1) = (d : Int) := by simp only [IntKind.wrap, IntKind.signed, IntKind.bits]; simp; omega
      have HE := Lib.hid (And.intro he hd)
      have HFL := Lib.hid (And.intro hfirst hlast)
      clear he hd hfirst hlast
      go_enter Try.func5, Try.ntmps5
      go_wp2_with fail
      refine (HT.out t w (Below.refl _ _)).mono ?_
      intro e0 w1 hT1
      obtain ⟨v1, rfl, hown1, hb1⟩ := HTS.out _ _ _ hT1
      obtain ⟨A1, c1, rfl⟩ := own_slice hown1
      have hQ1 := ptsAt_of_own hown1 HQ.out
      obtain ⟨b', off', rfl, hb', hc'⟩ := pts_cells HQ.out hqp hQ1
      have H1 := Lib.hid (And.intro hb1 hQ1)
      have he := HE.out.1
      have hd := HE.out.2
      have hc0 := hc 0 hn0
      have hce := hc e (by omega)
      have hd0 := hc' 0 hqp
      have hde := hc' d (by omega)
      rw [HFL.out.1] at hd0
      rw [show d = q - 1 by omega, HFL.out.2, show n - 1 = e by omega, show q - 1 = d by omega] at hde
      simp only [Nat.zero_mul, Nat.add_zero] at hc0 hd0
      have k1 := (hb1.cell (p := ⟨b, off, none⟩) hb).trans hc0.1
      have k2 := (hb1.cell (p := ⟨b, off + 1, none⟩) hb).trans hc0.2
      have k3 := (hb1.cell (p := ⟨b, off + e * 2, none⟩) hb).trans hce.1
      have k4 := (hb1.cell (p := ⟨b, off + e * 2 + 1, none⟩) hb).trans hce.2
      obtain ⟨m1, m2⟩ := hd0
      obtain ⟨m3, m4⟩ := hde
      have hz1 := hb1.size
      have hbz : b < w1.heap.size := by omega
      have hB : Below w.heap.size w w1 := hb1
      have hnI : (e : Int) < (n : Int) := by omega
      have hqI : (d : Int) < (q : Int) := by omega
      have he0 : decide ((e : Int) < 0) = false := decide_eq_false (by omega)
      have hd0 : decide ((d : Int) < 0) = false := decide_eq_false (by omega)
      have hn0I : (0 : Int) < (n : Int) := by omega
      have hq0I : (0 : Int) < (q : Int) := by omega
      have hn0J : ¬ (n : Int) = 0 := by omega
      have hq0J : ¬ (q : Int) = 0 := by omega
      have hqnI : ¬ (n : Int) < (q : Int) := by omega
      clear hT1 hown1 hc hc' hc0 hce hQ1 hb1 he hd
      have hqb : ((q : Int) == 0) = false := by rw [beq_eq_false_iff_ne]; omega
      have hqd : decide ((q : Int) = 0) = false := decide_eq_false (by omega)
      have hnqd : decide ((n : Int) < (q : Int)) = false := decide_eq_false (by omega)
      go_wp2_with fail
      have hq_w1 := @wd_cell w1
      refine wp_region_wd (by kernel_rfl) (by kernel_rfl) ?_
      try simp only [List.append_eq, List.cons_append, List.nil_append]
      repeat (go_big_quiet_step ((first | (fail))))
      refine wpQuiet_nil ?_
      rintro w2 ⟨⟨wx, hb_w2⟩, hwx⟩
      obtain rfl : w2 = wx := hwx
      clear hq_w1
      have hz_w2 := hb_w2.size
      obtain ⟨hc_w2, hf_w2⟩ := bcell hb_w2
      have hs_w2_0 : b < w2.heap.size := Nat.lt_of_lt_of_le (by assumption) hb_w2.size
      have hs_w2_1 : b' < w2.heap.size := Nat.lt_of_lt_of_le (by assumption) hb_w2.size
      have hB2 : Below w.heap.size w w2 := H1.out.1.trans (hb_w2.mono hz1)
      have hz2 := hb_w2.size
      have HF := fits_any ps ls HO.out.1.2.2 HO.out.1.2.1 x HL.out w1.heap.size (some ⟨b, off, none⟩) (some ⟨b', off', none⟩) c c1 n q HPI.out.1 HQ.out (by omega) w2 ((HPI.out.2 w2 hB2).up hz1) (PtsAt.below hb_w2 H1.out.2) hz2
      have H2 := Lib.hid hB2
      clear hb_w2 hc_w2 hf_w2 hB2 k1 k2 k3 k4 m1 m2 m3 m4 hB
      go_wp2_with fail
      refine HF.mono ?_
      rintro e3 w3 ⟨rfl, hb3⟩
      rw [show ((n : Int) - 1) = (e : Int) by have := HE.out.1; omega]
      have H3 := Lib.hid (H2.out.trans (hb3.mono (Nat.le_trans hz1 hz2)))
      clear hb3 HF
      have HZ : Hid (tcode ps 3037000498 = 0 ∧ (tlist ps 3037000498).length = if n = 1 then 1 else 2) := Lib.hid (by
        have h0 : tcode ps 3037000498 = 0 := tcode_ok (by have := HO.out.1.1; omega) (by unfold BadTol; omega) HO.out.1.2.2
        exact ⟨h0, by rw [tlist_ok h0, thin_ends HO.out.1.2.2 (by rw [HPI.out.1]; exact hn0), HPI.out.1]⟩)
      go_wp2_with fail
      refine (HT.out 3037000498 w3 H3.out).mono ?_
      rintro e4 w4 ⟨v4, rfl, hown4, hb4⟩
      rw [HZ.out.1]
      obtain ⟨A4, c4, rfl⟩ := own_slice hown4
      have H4 := Lib.hid (H3.out.trans (hb4.mono H3.out.size))
      clear hown4 hb4
      rw [HZ.out.2]
      rcases Nat.lt_or_ge 1 n with h1 | h1
      · rw [if_neg (by omega)]
        have hn1 : ((n : Int) == 1) = false := by rw [beq_eq_false_iff_ne]; omega
        have hn1' : ¬ (n : Int) = 1 := by omega
        go_wp2_with fail
        go_ret
        exact ⟨rfl, H4.out⟩
      · rw [if_pos (by omega)]
        have hn1 : ((n : Int) == 1) = true := by rw [beq_iff_eq]; omega
        have hn1' : (n : Int) = 1 := by omega
        go_wp2_with fail
        go_ret
        exact ⟨rfl, H4.out⟩
  · have hq0 : q = 0 := by rw [← HQ.out, HBad.out hz]; rfl
    subst hq0
    go_enter Try.func5, Try.ntmps5
    go_wp2_with fail
    refine (HT.out t w (Below.refl _ _)).mono ?_
    intro e w1 hT1
    obtain ⟨v1, rfl, hown1, hb1⟩ := HTS.out _ _ _ hT1
    obtain ⟨A1, c1, rfl⟩ := own_slice hown1
    have H1 := Lib.hid hb1
    clear hT1 hown1 hb1
    go_wp2_with fail
    go_ret
    exact ⟨rfl, H1.out⟩

end Go.Proofs.Ytcpojadinkonnaa
