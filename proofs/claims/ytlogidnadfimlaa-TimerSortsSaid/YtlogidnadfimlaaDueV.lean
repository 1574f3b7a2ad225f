/-
  The dues: the first one taken, an object's and a fence's taken out, one put in.
-/
import Derived.Test.YtlogidnadfimlaaDueT
namespace Go.Proofs.Ytlogidnadfimlaa
open Go.RowKit Go.Maps

def ret2 (x : Du) (b : Bool) : Ending := .returned (.tuple #[.agg #[.int .u32 x.1, .int .u32 x.2.1, .int .u32 x.2.2], .bool b])
/-- What Take answers, and what is left. -/
def TakeD (l l' : List Du) (now : Int) (e : Ending) : Prop := (rdyD l now = true ∧ l.Perm (gd l 0 :: l') ∧ e = ret2 (gd l 0) true) ∨ (rdyD l now = false ∧ l' = l ∧ e = ret2 (0, 0, 0) false)
set_option maxHeartbeats 2000000 in
set_option maxRecDepth 100000 in
theorem take_any (d vb mb cap n : Nat) (A : Option Addr) (most now : Int) (l : List Du) (w : World) (H : DuAt w d vb mb A cap n most l) :
    Calls Try.prog 10 #[.pointer (some ⟨d, 0, none⟩), .int .u32 now] w fun e w' => (∃ l' n', DuAt w' d vb mb A cap n' most l' ∧ TakeD l l' now e) ∧ Turn (DuS d mb A) w w' := by
  have RD := Lib.hid (fun W (h : Below w.heap.size w W) => ready_any d vb mb cap n A most now l W (H.below h))
  have zd := H.dv.lt
  have HI := Lib.hid H
  clear H
  obtain ⟨b, hb⟩ : ∃ b, rdyD l now = b := ⟨_, rfl⟩
  rw [hb] at RD
  have HB := Lib.hid hb
  clear hb
  go_enter Try.func10, Try.ntmps10
  go_upto_region 1 with fail
  refine wp_gen (fun W0 hW0 => ?_)
  have hb0 : Below w.heap.size w W0 := by rw [hW0]; go_grown
  have vR := Lib.hid (show Var W0 w.heap.size 31 #[.int .u32 0, .int .u32 0, .int .u32 0] by rw [hW0]; exact Var.new _ _ _)
  have H0 := Lib.hid hb0
  obtain ⟨R, hR⟩ : ∃ R, w.heap.size = R := ⟨_, rfl⟩
  rw [hR] at vR ⊢
  have HR := Lib.hid hR
  clear hW0 hb0 hR
  go_wp2_with fail
  refine (RD.out W0 H0.out).mono ?_
  rintro e w1 ⟨rfl, hb1⟩
  have vR1 := Lib.hid (vR.out.keep hb1)
  have H1 := Lib.hid (H0.out.trans (hb1.mono H0.out.size))
  clear hb1 vR H0 RD
  cases b with
  | false =>
    have r0 := vR1.out.cell 0
    have r1 := vR1.out.cell 1
    have r2 := vR1.out.cell 2
    have fr0 := vR1.out.free 0
    have fr1 := vR1.out.free 1
    have fr2 := vR1.out.free 2
    simp only [List.getElem?_toArray, List.getElem?_cons_zero, List.getElem?_cons_succ] at r0 r1 r2
    have yR := vR1.out.lt
    go_wp2_with fail
    refine bodyPost_ret (by simp [results, Try.results10, go_sem, *]; try rfl) rfl ?_
    have hb2 : Below w.heap.size w (((w1.setCell ⟨R, 0, none⟩ (.int .u32 0)).setCell ⟨R, 1, none⟩ (.int .u32 0)).setCell ⟨R, 2, none⟩ (.int .u32 0)) := ((H1.out.setCell (p := ⟨R, 0, none⟩) (Nat.le_of_eq HR.out) _).setCell (p := ⟨R, 1, none⟩) (Nat.le_of_eq HR.out) _).setCell (p := ⟨R, 2, none⟩) (Nat.le_of_eq HR.out) _
    exact ⟨⟨l, n, HI.out.below hb2, .inr ⟨HB.out, rfl, rfl⟩⟩, Turn.of_below hb2⟩
  | true =>
    have h0 : 0 < n := by
      have h := HB.out
      unfold rdyD at h
      rw [HI.out.len] at h
      simp at h
      omega
    obtain ⟨g, hA, _⟩ := du_some HI.out h0
    subst hA
    have CD := Lib.hid (cutD_any d vb mb g cap n 0 most l w1 (HI.out.below H1.out) h0)
    obtain ⟨⟨x0, x1, x2⟩, hx⟩ : ∃ x, gd l 0 = x := ⟨_, rfl⟩
    rw [hx] at CD
    dsimp only at CD
    have HX := Lib.hid hx
    clear hx
    go_wp2_with fail
    refine CD.out.mono ?_
    rintro e w2 ⟨rfl, l', hp, hD, hT⟩
    have zz : g < R ∧ d < R ∧ mb < R ∧ vb < R := by
      rw [← HR.out]
      have h := HI.out.hp.1
      obtain ⟨D, hm, _⟩ := h.mp
      exact ⟨h.row.lt, h.dv.lt, hm.lt, h.vv.lt⟩
    have vR2 := vR1.out.turn hT (by
      rintro (h | h | h)
      · omega
      · omega
      · have : g = R := Option.some.inj h
        omega)
    have r0 := vR2.cell 0
    have r1 := vR2.cell 1
    have r2 := vR2.cell 2
    have fr0 := vR2.free 0
    have fr1 := vR2.free 1
    have fr2 := vR2.free 2
    simp only [List.getElem?_toArray, List.getElem?_cons_zero, List.getElem?_cons_succ] at r0 r1 r2
    have yR := vR2.lt
    have H2 := Lib.hid (And.intro hp (And.intro hD ((Turn.of_below H1.out).trans hT)))
    clear hp hD hT vR2 CD
    go_wp2_with fail
    refine bodyPost_ret (by simp [results, Try.results10, go_sem, *]; try rfl) rfl ?_
    obtain ⟨hp, hD, hT⟩ := H2.out
    have hT3 : Turn (· = R) w2 (((w2.setCell ⟨R, 0, none⟩ (.int .u32 x0)).setCell ⟨R, 1, none⟩ (.int .u32 x1)).setCell ⟨R, 2, none⟩ (.int .u32 x2)) := Turn.set (Turn.set (Turn.set (Turn.refl (· = R) w2) (p := ⟨R, 0, none⟩) rfl _) (p := ⟨R, 1, none⟩) rfl _) (p := ⟨R, 2, none⟩) rfl _
    refine ⟨⟨l', n - 1, hD.turn hT3 (by omega) (by omega) (by omega) (fun k hk e => ?_), .inl ⟨HB.out, by rw [HX.out]; exact hp, by rw [HX.out]; rfl⟩⟩, hT.transN hT3 (fun b hb => .inr (by rw [HR.out]; exact Nat.le_of_eq hb.symm))⟩
    have : g = k := Option.some.inj hk
    omega

/-- Is there one of this object and fence? -/
def thereD (l : List Du) (k : Int × Int) : Bool := l.any fun x => x.2 == k
theorem there_iff {l : List Du} {k : Int × Int} : thereD l k = true ↔ ∃ x ∈ l, x.2 = k := by
  unfold thereD
  rw [List.any_eq_true]
  simp
theorem has_there {D : DataW Unit} {l : List Du} (h : PlaceD D l []) {k : Int × Int} (hk : UK k) : Maps.has D (KL k) = thereD l k := by
  rw [Bool.eq_iff_iff, h.keys k hk, there_iff]
  constructor
  · rintro (h | h)
    · exact h
    · cases h
  · exact .inl
theorem place_is {D : DataW Unit} {l : List Du} (h : PlaceD D l []) {k : Int × Int} (ht : thereD l k = true) {c : Int} (hc : D.atKey (KL k) (.lit (.int .i64 0)) = .lit (.int .i64 c)) : ∃ i, i < l.length ∧ (gd l i).2 = k ∧ c = (i : Int) := by
  obtain ⟨x, hx, e⟩ := there_iff.1 ht
  obtain ⟨i, hi, e2⟩ := gd_of_mem hx
  refine ⟨i, hi, by rw [e2, e], ?_⟩
  have hp := h.place i hi
  rw [e2, e] at hp
  have hp' : D.atKey (KL k) (.lit (.int .i64 0)) = .lit (.int .i64 (i : Int)) := hp
  rw [hc] at hp'
  injection hp' with hp'
  injection hp'
theorem place_du {D : DataW Unit} {l : List Du} {n : Nat} (h : PlaceD D l []) {k : Int × Int} (ht : thereD l k = true) (hn : l.length = n) {c : Int} (hc : D.atKey (KL k) (.lit (.int .i64 0)) = .lit (.int .i64 c)) : ∃ i : Nat, i < n ∧ Hid ((gd l i).2 = k) ∧ c = (i : Int) := by
  obtain ⟨i, h1, h2, h3⟩ := place_is h ht hc
  exact ⟨i, by omega, Lib.hid h2, h3⟩
set_option maxHeartbeats 2000000 in
set_option maxRecDepth 100000 in
theorem cut_any (d vb mb cap n : Nat) (A : Option Addr) (most : Int) (k : Int × Int) (hk : UK k) (l : List Du) (w : World) (H : DuAt w d vb mb A cap n most l) :
    Calls Try.prog 30 #[.pointer (some ⟨d, 0, none⟩), .int .u32 k.1, .int .u32 k.2] w fun e w' => e = .returned (.bool (thereD l k)) ∧ (∃ l' n', DuAt w' d vb mb A cap n' most l' ∧ l'.Perm (l.filter fun y => !(y.2 == k))) ∧ Turn (DuS d mb A) w w' := by
  have TH := Lib.hid (there_any d mb w (H.dv.cell 3))
  have c3 : w.cell? ⟨d, 3, none⟩ = some (.map (some mb)) := H.dv.cell 3
  have zd := H.dv.lt
  have hkey := keyL hk
  obtain ⟨D, hm, hp⟩ := H.mp
  have hT0 := has_there hp hk
  unfold MapAt at hm
  have HP := Lib.hid (And.intro hp (And.intro H hk))
  obtain ⟨k1, k2⟩ := k
  dsimp only at hkey ⊢
  clear hp H hk
  obtain ⟨b, hb⟩ : ∃ b, thereD l (k1, k2) = b := ⟨_, rfl⟩
  rw [hb] at hT0 ⊢
  have HBB := Lib.hid hb
  have HT := Lib.hid hT0
  clear hb hT0
  go_enter Try.func30, Try.ntmps30
  go_wp2_with fail
  refine TH.out.mono ?_
  rintro e w1 ⟨rfl, rfl⟩
  clear TH
  go_upto_region 3 with fail
  cases b with
  | false =>
    have hT0 := HT.out
    go_wp2_with (at_lookup; refine wpList_lookup_own_ok_int _ rfl _ _ 50 rfl 61 3 .i64 keyed_pair Try.underlying50 Try.underlying3 (zeroI _) mb _ D rfl hm _ (KL (k1, k2)) rfl hkey ?_; rw [hT0]; intro c hat hwc; clear hat hwc)
    refine bodyPost_ret (by simp [results, Try.results30, go_sem, *]; try rfl) rfl ?_
    refine ⟨rfl, ⟨l, n, HP.out.2.1, ?_⟩, Turn.refl _ _⟩
    rw [List.filter_eq_self.2 (fun y hy => ?_)]
    cases hh : (y.2 == (k1, k2)) with
    | false => rfl
    | true =>
      have := there_iff.2 ⟨y, hy, by simpa using hh⟩
      rw [HBB.out] at this
      cases this
  | true =>
    have hT0 := HT.out
    go_wp2_with (at_lookup; refine wpList_lookup_own_ok_int _ rfl _ _ 50 rfl 61 3 .i64 keyed_pair Try.underlying50 Try.underlying3 (zeroI _) mb _ D rfl hm _ (KL (k1, k2)) rfl hkey ?_; rw [hT0]; intro c hat hwc; obtain ⟨i, hi, HGI, rfl⟩ := place_du HP.out.1 HBB.out HP.out.2.1.len hat; clear hat hwc)
    obtain ⟨g, hA, _⟩ := du_some HP.out.2.1 (by omega)
    subst hA
    refine (cutD_any d vb mb g cap n i most l _ HP.out.2.1 hi).mono ?_
    rintro e w2 ⟨rfl, l', hp, hD, hT⟩
    have H2 := Lib.hid (And.intro hp (And.intro hD hT))
    clear hp hD hT
    go_wp2_with fail
    refine bodyPost_ret (by simp [results, Try.results30, go_sem, *]; try rfl) rfl ?_
    refine ⟨rfl, ⟨l', n - 1, H2.out.2.1, ?_⟩, H2.out.2.2⟩
    have := cut_filter H2.out.1 HP.out.2.1.keys
    rw [HGI.out] at this
    exact this
end Go.Proofs.Ytlogidnadfimlaa
