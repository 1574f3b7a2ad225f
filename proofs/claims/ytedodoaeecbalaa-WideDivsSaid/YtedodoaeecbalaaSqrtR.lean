/-
  Contract of the reference's Sqrt: by halving.
-/
import Derived.Test.YtedodoaeecbalaaInts
import Derived.Test.YtedodoaeecbalaaCut
import Derived.Test.YtedodoaeecbalaaPair
namespace Go.Proofs.Ytedodoaeecbalaa
open Go.RowKit

/-- The memory of the reference's Sqrt: the number, and the two ends between which the root lies. -/
structure Sv (w wr : World) (b : Bool) (A : Option Addr) (n c H : Nat) (AL : Option Addr) (nL cL : Nat) (dL : List Nat) (AH : Option Addr) (nH cH : Nat) (dH : List Nat) : Prop where
  bel : Below w.heap.size w wr
  va : Var wr w.heap.size 35 #[.bool b, .slice A n c]
  vl : Var wr (w.heap.size + 1) 35 #[.bool false, .slice AL nL cL]
  vh : Var wr H 35 #[.bool false, .slice AH nH cH]
  rl : RawAt wr AL nL cL dL
  rh : RawAt wr AH nH cH dH
  tl : Tight dL
  th : Tight dH
  hH : w.heap.size + 1 < H

section
variable {w wr w' : World} {b : Bool} {A : Option Addr} {n c H : Nat} {AL : Option Addr} {nL cL : Nat} {dL : List Nat} {AH : Option Addr} {nH cH : Nat} {dH : List Nat} {A' : Option Addr} {n' c' : Nat} {ds : List Nat}
theorem Sv.keep (h : Sv w wr b A n c H AL nL cL dL AH nH cH dH) (hb : Below wr.heap.size wr w') : Sv w w' b A n c H AL nL cL dL AH nH cH dH :=
  ⟨h.bel.trans (hb.mono h.bel.size), h.va.keep hb, h.vl.keep hb, h.vh.keep hb, h.rl.below hb, h.rh.below hb, h.tl, h.th, h.hH⟩
theorem Sv.setL (h : Sv w wr b A n c H AL nL cL dL AH nH cH dH) (hr : RawAt wr A' n' c' ds) (ht : Tight ds) :
    Sv w ((wr.setCell ⟨w.heap.size + 1, 0, none⟩ (.bool false)).setCell ⟨w.heap.size + 1, 1, none⟩ (.slice A' n' c')) b A n c H A' n' c' ds AH nH cH dH :=
  ⟨(h.bel.setCell (p := ⟨w.heap.size + 1, 0, none⟩) (by simp) _).setCell (p := ⟨w.heap.size + 1, 1, none⟩) (by simp) _,
    var_far2 h.va (by omega) _ _, var_two h.vl _ _, var_far2 h.vh (by have := h.hH; omega) _ _, hr.over h.vl _ _, h.rh.over h.vl _ _, ht, h.th, h.hH⟩
theorem Sv.setH (h : Sv w wr b A n c H AL nL cL dL AH nH cH dH) (hr : RawAt wr A' n' c' ds) (ht : Tight ds) :
    Sv w ((wr.setCell ⟨H, 0, none⟩ (.bool false)).setCell ⟨H, 1, none⟩ (.slice A' n' c')) b A n c H AL nL cL dL A' n' c' ds :=
  ⟨(h.bel.setCell (p := ⟨H, 0, none⟩) (by have := h.hH; simp; omega) _).setCell (p := ⟨H, 1, none⟩) (by have := h.hH; simp; omega) _,
    var_far2 h.va (by have := h.hH; omega) _ _, var_far2 h.vl (by have := h.hH; omega) _ _, var_two h.vh _ _, h.rl.over h.vh _ _, hr.over h.vh _ _, h.tl, ht, h.hH⟩
theorem Sv.nl (h : Sv w wr b A n c H AL nL cL dL AH nH cH dH) : NumAt wr (.agg #[.bool false, .slice AL nL cL]) (val dL : Int) := num_mk h.rl h.tl (by simp) (by omega)
theorem Sv.nh (h : Sv w wr b A n c H AL nL cL dL AH nH cH dH) : NumAt wr (.agg #[.bool false, .slice AH nH cH]) (val dH : Int) := num_mk h.rh h.th (by simp) (by omega)
end

theorem raw_nil (w : World) : RawAt w none 0 0 [] := ⟨rfl, Nat.le_refl _, by omega, Sl.nil _ _, Digs.nil⟩
theorem small5 {m : Nat} (h : m ≤ 18446744073709551616) : Small 5 ((m : Int)).natAbs := by
  unfold Small
  have : (65536 : Nat) ^ 5 = 1208925819614629174706176 := by decide +kernel
  omega

theorem small6 {m : Nat} (h : m ≤ 36893488147419103232) : Small 6 m := by
  unfold Small
  have : (65536 : Nat) ^ 6 = 79228162514264337593543950336 := by decide +kernel
  omega
theorem small4 {m : Nat} (h : m < 18446744073709551616) : Small 4 m := by
  unfold Small
  have : (65536 : Nat) ^ 4 = 18446744073709551616 := by decide +kernel
  omega
theorem smallX {m : Nat} (h : m < 170141183460469231731687303715884105728) : Small 10 ((m : Int)).natAbs := by
  unfold Small
  have : (65536 : Nat) ^ 10 = 1461501637330902918203684832716283019655932542976 := by decide +kernel
  omega
theorem small_sq {m : Nat} (h : Small 5 ((m : Int)).natAbs) : Small 10 (((m * m : Nat) : Int)).natAbs := by
  rw [Int.natAbs_natCast] at h ⊢
  exact h.mul h

set_option maxHeartbeats 1000000 in
theorem sqrt_ref {w0 : World} {v : Value} {X : Nat} (hx : NumAt w0 v (X : Int)) (hX : X < 170141183460469231731687303715884105728) (w : World) (hw : Below w0.heap.size w0 w) :
    Calls Try.prog 41 #[v] w fun e w' => (∃ r : Nat, e = .returned (.int .u64 (r : Int)) ∧ Hid (r * r ≤ X ∧ X < (r + 1) * (r + 1))) ∧ Below w.heap.size w w' := by
  have hx1 := hx.below hw
  have HX := Lib.hid hx1
  obtain ⟨b, A, n, c, ds, rfl, hs, hr, ht, hv⟩ := num_open hx1
  clear hx hw hx1 hs hr ht hv
  have P64 := Lib.hid (fun W => power_ref 64 (by omega) W)
  have e64 : (2 : Int) ^ 64 = 18446744073709551616 := by decide +kernel
  rw [e64] at P64
  clear e64
  go_enter Try.func41, Try.ntmps41
  go_wp2_with fail
  refine (open_num (P64.out _)).mono ?_
  rintro e w1 ⟨b5, A5, n5, c5, d5, rfl, hs5, hr5, ht5, hv5, hb_w1⟩
  obtain ⟨hc_w1, hf_w1⟩ := bcell hb_w1
  have hz_w1 := hb_w1.size
  try simp at hz_w1
  have hB_w1 : Below w.heap.size w w1 := Below.trans (by go_grown) (hb_w1.mono (by go_size))
  have hs_w1_0 : w.heap.size < w1.heap.size := by omega
  have hs_w1_1 : w.heap.size + 1 < w1.heap.size := by omega
  obtain rfl : b5 = false := by rw [hs5.out]; rfl
  go_wp2_with fail
  refine wp_gen (fun W hW => ?_)
  have hS : Sv w W b A n c w1.heap.size none 0 0 [] A5 n5 c5 d5 := by
    rw [hW]
    have va1 : Var w1 w.heap.size 35 #[.bool b, .slice A n c] := ((Var.new _ _ _).alloc _).keep hb_w1
    have vl1 : Var w1 (w.heap.size + 1) 35 #[.bool false, .slice none 0 0] := (Var.new' _ _ _ (by simp)).keep hb_w1
    have vh1 := Var.new w1 35 #[.bool false, .slice A5 n5 c5]
    exact ⟨by go_grown, va1.alloc _, vl1.alloc _, vh1, raw_nil _, raw_alloc hr5 _, Tight.nil, ht5, by omega⟩
  have HV0 := Lib.hid (show val ([] : List Nat) < val d5 ∧ val d5 ≤ 18446744073709551616 ∧ val ([] : List Nat) * val ([] : List Nat) ≤ X ∧ X < val d5 * val d5 ∧ val d5 - val ([] : List Nat) ≤ 18446744073709551616 by
    have h5 := hv5.out
    rw [show ((18446744073709551616 : Int)).natAbs = 18446744073709551616 by rfl] at h5
    rw [h5]
    simp only [val]
    omega)
  have HU1 := Lib.hid (fun W => unsigned_ref 1 (by omega) W)
  have HU2 := Lib.hid (fun W => unsigned_ref 2 (by omega) W)
  have HBX := Lib.hid hX
  clear hW hc_w1 hf_w1 hz_w1 hs_w1_0 hs_w1_1 hB_w1 hb_w1 P64 hs5 hr5 ht5 hv5 hX
  go_loopg [] 18446744073709551616 (fun g wr => ∃ (AL : Option Addr) (nL cL : Nat) (dL : List Nat) (AH : Option Addr) (nH cH : Nat) (dH : List Nat), Hid (val dL < val dH ∧ val dH ≤ 18446744073709551616 ∧ val dL * val dL ≤ X ∧ X < val dH * val dH ∧ val dH - val dL ≤ g) ∧ Sv w wr b A n c w1.heap.size AL nL cL dL AH nH cH dH)
  case atStart => exact ⟨none, 0, 0, [], A5, n5, c5, d5, HV0, hS⟩
  case round =>
    obtain ⟨AL, nL, cL, dL, AH, nH, cH, dH, HV, hd⟩ := hrel
    clear hS HV0
    have hBr := hd.bel
    have nl := hd.nl
    have nh := hd.nh
    have l0 : wr.cell? ⟨w.heap.size + 1, 0, none⟩ = some (.bool false) := hd.vl.cell 0
    have l1 : wr.cell? ⟨w.heap.size + 1, 1, none⟩ = some (.slice AL nL cL) := hd.vl.cell 1
    have h0 : wr.cell? ⟨w1.heap.size, 0, none⟩ = some (.bool false) := hd.vh.cell 0
    have h1 : wr.cell? ⟨w1.heap.size, 1, none⟩ = some (.slice AH nH cH) := hd.vh.cell 1
    have za := hd.va.lt
    have zl := hd.vl.lt
    have zh := hd.vh.lt
    have hK : ∀ (W' : World) (u : Value), Below wr.heap.size wr W' → NumAt W' u ((val dL : Int) + 1) → Calls Try.prog 25 #[u, .agg #[.bool false, .slice AH nH cH]] W' fun e w' => e = .returned (.int .i64 (cmpI ((val dL : Int) + 1) (val dH))) ∧ Below W'.heap.size W' w' :=
      fun _ _ hb hn => cmp_ref hn (nh.below hb) (by have := HV.out; rw [show ((val dL : Int) + 1) = ((val dL + 1 : Nat) : Int) by omega]; exact small5 (by omega)) (small5 (by have := HV.out; omega)) (by omega) _ (Below.refl _ _)
    have hA : ∀ (W' : World) (u : Value), Below wr.heap.size wr W' → NumAt W' u 1 → Calls Try.prog 19 #[.agg #[.bool false, .slice AL nL cL], u] W' fun e w' => ∃ u, e = .returned u ∧ NumAt w' u ((val dL : Int) + 1) ∧ Below W'.heap.size W' w' :=
      fun _ _ hb hn => add_ref (nl.below hb) hn (small5 (by have := HV.out; omega)) (small5 (m := 1) (by omega)) (by omega) _ (Below.refl _ _)
    have hk := cmp_ways ((val dL : Int) + 1) (val dH)
    obtain ⟨k, hkk⟩ : ∃ z, cmpI ((val dL : Int) + 1) (val dH) = z := ⟨_, rfl⟩
    rw [hkk] at hK hk
    have hdec : (k = -1 ∧ val dL + 1 < val dH) ∨ (k = 0 ∧ val dL + 1 = val dH) := by have := HV.out; omega
    have HK := Lib.hid hK
    have HA := Lib.hid hA
    clear hkk hK hA hk
    rcases hdec with ⟨rfl, hlt⟩ | ⟨rfl, heq⟩
    · have HLT := Lib.hid hlt
      clear hlt
      go_wp2_with fail
      go_region_held3 (fun w' => Below wr.heap.size wr w' ∧ (∀ b o, b < wr.heap.size → w'.cell? ⟨b, o, none⟩ = wr.cell? ⟨b, o, none⟩))
        (first | assumption | exact held_start _)
        (first
          | (go_at_call 37; refine (HU1.out _).mono ?_; rintro e wp ⟨vp, rfl, hp, hb_wp⟩; (first | replace hb_wp := undrew hb_wp | skip); have hS_wp := held_step hb_wp (W0 := wr) (by first | assumption | exact held_refl _))
          | (go_at_call 19; refine (HA.out _ _ hS_wp.1 (num_of_mag hp)).mono ?_; rintro e wn ⟨vn, rfl, hn, hb_wn⟩; (first | replace hb_wn := undrew hb_wn | skip); have hS_wn := held_step hb_wn (W0 := wr) (by first | assumption | exact held_refl _))
          | (go_at_call 25; refine (HK.out _ _ hS_wn.1 hn).mono ?_; rintro e wc ⟨rfl, hb_wc⟩; have hS_wc := held_step hb_wc (W0 := wr) (by first | assumption | exact held_refl _)))
      have hd1 := hd.keep hS_wc.1
      have l0' : wc.cell? ⟨w.heap.size + 1, 0, none⟩ = some (.bool false) := hd1.vl.cell 0
      have l1' : wc.cell? ⟨w.heap.size + 1, 1, none⟩ = some (.slice AL nL cL) := hd1.vl.cell 1
      have h0' : wc.cell? ⟨w1.heap.size, 0, none⟩ = some (.bool false) := hd1.vh.cell 0
      have h1' : wc.cell? ⟨w1.heap.size, 1, none⟩ = some (.slice AH nH cH) := hd1.vh.cell 1
      have za' := hd1.va.lt
      have zl' := hd1.vl.lt
      have zh' := hd1.vh.lt
      clear hS_wp hS_wn hS_wc hb_wp hb_wn hb_wc hp hn l0 l1 h0 h1 za zl zh hBr
      go_wp2_with fail
      refine (open_num (add_ref hd1.nl hd1.nh (small5 (by have := HV.out; omega)) (small5 (by have := HV.out; omega)) (by omega) _ (Below.refl _ _))).mono ?_
      rintro e w5 ⟨bs, As, ns, cs, es, rfl, hss, hrs, hts, hvs, hb_w5⟩
      have hd2 := hd1.keep hb_w5
      go_wp2_with fail
      refine (open_mag (HU2.out _)).mono ?_
      rintro e w6 ⟨b6, A6, n6, c6, e6, rfl, hs6, hr6, ht6, hv6, hb_w6⟩
      have hd3 := hd2.keep hb_w6
      have hsum : val es = val dL + val dH := by have := hvs.out; omega
      have hle1 : ns ≤ 6 := num_len hrs hts hsum (small6 (by have := HV.out; omega))
      have hle2 : n6 ≤ 6 := num_len hr6 ht6 hv6.out (small6 (by omega))
      have HSUM := Lib.hid hsum
      clear hsum
      go_wp2_with fail
      refine (open_div (div_ref (hrs.below hb_w6) hr6 bs b6 (by omega) (by omega) (by have := hv6.out; omega) _ (Below.refl _ _))).mono ?_
      rintro e w7 ⟨AQ, nQ, cQ, dQ, AR, nR, cR, dR, rfl, ⟨hrq, htq, hvq⟩, ⟨hrr, htr, hvr⟩, hb_w7⟩
      have hmid : val dQ = (val dL + val dH) / 2 := by rw [hvq.out, HSUM.out, hv6.out]
      have HMID := Lib.hid hmid
      clear hmid
      have hd4 := hd3.keep hb_w7
      clear hd1 hd2 hd3 l0' l1' h0' h1' za' zl' zh' hle1 hle2 hrs hts hvs hr6 ht6 hv6 hvq hrr htr hvr hss hs6 HSUM hb_w5 hb_w6 hb_w7
      go_wp2_with fail
      refine wp_gen (fun W5 hW5 => ?_)
      have hd5 : Sv w W5 b A n c w1.heap.size AL nL cL dL AH nH cH dH := by rw [hW5]; exact (hd4.keep ((Below.refl _ _).alloc (Nat.le_refl _) _)).keep ((Below.refl _ _).alloc (Nat.le_refl _) _)
      have vm : Var W5 w7.heap.size 35 #[.bool false, .slice AQ nQ cQ] := by rw [hW5]; exact (Var.new _ _ _).alloc _
      have rm : RawAt W5 AQ nQ cQ dQ := by rw [hW5]; exact raw_alloc (raw_alloc hrq _) _
      have za := hd5.va.lt
      have zl := hd5.vl.lt
      have zh := hd5.vh.lt
      have zm := vm.lt
      clear hW5 hd4 hrq
      have a0 : W5.cell? ⟨w.heap.size, 0, none⟩ = some (.bool b) := hd5.va.cell 0
      have a1 : W5.cell? ⟨w.heap.size, 1, none⟩ = some (.slice A n c) := hd5.va.cell 1
      have m0 : W5.cell? ⟨w7.heap.size, 0, none⟩ = some (.bool false) := vm.cell 0
      have m1 : W5.cell? ⟨w7.heap.size, 1, none⟩ = some (.slice AQ nQ cQ) := vm.cell 1
      have nm : NumAt W5 (.agg #[.bool false, .slice AQ nQ cQ]) (val dQ : Int) := num_mk rm htq (by simp) (by omega)
      have nx := HX.out.below hd5.bel
      have hsm : Small 5 ((val dQ : Nat) : Int).natAbs := small5 (by have := HV.out; have := HMID.out; omega)
      have hM : ∀ (W' : World), Below W5.heap.size W5 W' → Calls Try.prog 30 #[.agg #[.bool false, .slice AQ nQ cQ], .agg #[.bool false, .slice AQ nQ cQ]] W' fun e w' => ∃ u, e = .returned u ∧ NumAt w' u ((val dQ : Int) * (val dQ : Int)) ∧ Below W'.heap.size W' w' :=
        fun _ hb => mul_num (nm.below hb) (nm.below hb) hsm hsm (by omega) _ (Below.refl _ _)
      have hC : ∀ (W' : World) (u : Value), Below W5.heap.size W5 W' → NumAt W' u ((val dQ : Int) * (val dQ : Int)) → Calls Try.prog 25 #[u, .agg #[.bool b, .slice A n c]] W' fun e w' => e = .returned (.int .i64 (cmpI ((val dQ : Int) * (val dQ : Int)) (X : Int))) ∧ Below W'.heap.size W' w' :=
        fun _ _ hb hn => cmp_ref hn (nx.below hb) (by rw [← Int.natCast_mul]; exact small_sq hsm) (smallX HBX.out) (by omega) _ (Below.refl _ _)
      have hk := cmp_ways ((val dQ : Int) * (val dQ : Int)) (X : Int)
      obtain ⟨k, hkk⟩ : ∃ z, cmpI ((val dQ : Int) * (val dQ : Int)) (X : Int) = z := ⟨_, rfl⟩
      rw [hkk] at hC hk
      rw [← Int.natCast_mul] at hk
      have hdec : (k ≤ 0 ∧ val dQ * val dQ ≤ X) ∨ (0 < k ∧ X < val dQ * val dQ) := by omega
      have HM := Lib.hid hM
      have HC := Lib.hid hC
      clear hkk hM hC hk hsm nx
      rcases hdec with ⟨hk0, hcmp⟩ | ⟨hk0, hcmp⟩
      · have hkd : decide (k ≤ 0) = true := by simp; omega
        have HCMP := Lib.hid hcmp
        clear hcmp
        go_region_held3 (fun w' => Below W5.heap.size W5 w' ∧ (∀ b o, b < W5.heap.size → w'.cell? ⟨b, o, none⟩ = W5.cell? ⟨b, o, none⟩))
          (first | assumption | exact held_start _)
          (first
            | (go_at_call 30; refine (HM.out _ (by first | assumption | exact (Below.refl _ _).drew | exact hS_wp.1)).mono ?_; rintro e wn ⟨vn, rfl, hn, hb_wn⟩; (first | replace hb_wn := undrew hb_wn | skip); have hS_wn := held_step hb_wn (W0 := W5) (by first | assumption | exact held_refl _))
            | (go_at_call 25; refine (HC.out _ _ hS_wn.1 hn).mono ?_; rintro e wc2 ⟨rfl, hb_wc2⟩; have hS_wc2 := held_step hb_wc2 (W0 := W5) (by first | assumption | exact held_refl _)))
        have hd6 := hd5.keep hS_wc2.1
        have rm6 := rm.below hS_wc2.1
        have vm6 := vm.keep hS_wc2.1
        have m0' : wc2.cell? ⟨w7.heap.size, 0, none⟩ = some (.bool false) := vm6.cell 0
        have m1' : wc2.cell? ⟨w7.heap.size, 1, none⟩ = some (.slice AQ nQ cQ) := vm6.cell 1
        have l0' : wc2.cell? ⟨w.heap.size + 1, 0, none⟩ = some (.bool false) := hd6.vl.cell 0
        have l1' : wc2.cell? ⟨w.heap.size + 1, 1, none⟩ = some (.slice AL nL cL) := hd6.vl.cell 1
        have f0' := hd6.vl.free 0
        have f1' := hd6.vl.free 1
        clear hS_wn hS_wc2 hb_wn hb_wc2 hn a0 a1 m0 m1 za zl zh zm
        go_wp2_with fail
        go_roundg (val dH - val dQ)
        case measure => have h1 := HV.out; have h2 := HLT.out; have h3 := HMID.out; omega
        case rel => exact ⟨AQ, nQ, cQ, dQ, AH, nH, cH, dH, Lib.hid (by have h1 := HV.out; have h2 := HLT.out; have h3 := HMID.out; have h4 := HCMP.out; omega), hd6.setL rm6 htq⟩
      · have hkd : decide (k ≤ 0) = false := by simp; omega
        have HCMP := Lib.hid hcmp
        clear hcmp
        go_region_held3 (fun w' => Below W5.heap.size W5 w' ∧ (∀ b o, b < W5.heap.size → w'.cell? ⟨b, o, none⟩ = W5.cell? ⟨b, o, none⟩))
          (first | assumption | exact held_start _)
          (first
            | (go_at_call 30; refine (HM.out _ (by first | assumption | exact (Below.refl _ _).drew | exact hS_wp.1)).mono ?_; rintro e wn ⟨vn, rfl, hn, hb_wn⟩; (first | replace hb_wn := undrew hb_wn | skip); have hS_wn := held_step hb_wn (W0 := W5) (by first | assumption | exact held_refl _))
            | (go_at_call 25; refine (HC.out _ _ hS_wn.1 hn).mono ?_; rintro e wc2 ⟨rfl, hb_wc2⟩; have hS_wc2 := held_step hb_wc2 (W0 := W5) (by first | assumption | exact held_refl _)))
        have hd6 := hd5.keep hS_wc2.1
        have rm6 := rm.below hS_wc2.1
        have vm6 := vm.keep hS_wc2.1
        have m0' : wc2.cell? ⟨w7.heap.size, 0, none⟩ = some (.bool false) := vm6.cell 0
        have m1' : wc2.cell? ⟨w7.heap.size, 1, none⟩ = some (.slice AQ nQ cQ) := vm6.cell 1
        have l0' : wc2.cell? ⟨w1.heap.size, 0, none⟩ = some (.bool false) := hd6.vh.cell 0
        have l1' : wc2.cell? ⟨w1.heap.size, 1, none⟩ = some (.slice AH nH cH) := hd6.vh.cell 1
        have f0' := hd6.vh.free 0
        have f1' := hd6.vh.free 1
        clear hS_wn hS_wc2 hb_wn hb_wc2 hn a0 a1 m0 m1 za zl zh zm
        go_wp2_with fail
        go_roundg (val dQ - val dL)
        case measure => have h1 := HV.out; have h2 := HLT.out; have h3 := HMID.out; omega
        case rel => exact ⟨AL, nL, cL, dL, AQ, nQ, cQ, dQ, Lib.hid (by have h1 := HV.out; have h2 := HLT.out; have h3 := HMID.out; have h4 := HCMP.out; omega), hd6.setH rm6 htq⟩
    · have HEQ := Lib.hid heq
      clear heq
      go_wp2_with fail
      go_region_held3 (fun w' => Below wr.heap.size wr w' ∧ (∀ b o, b < wr.heap.size → w'.cell? ⟨b, o, none⟩ = wr.cell? ⟨b, o, none⟩))
        (first | assumption | exact held_start _)
        (first
          | (go_at_call 37; refine (HU1.out _).mono ?_; rintro e wp ⟨vp, rfl, hp, hb_wp⟩; (first | replace hb_wp := undrew hb_wp | skip); have hS_wp := held_step hb_wp (W0 := wr) (by first | assumption | exact held_refl _))
          | (go_at_call 19; refine (HA.out _ _ hS_wp.1 (num_of_mag hp)).mono ?_; rintro e wn ⟨vn, rfl, hn, hb_wn⟩; (first | replace hb_wn := undrew hb_wn | skip); have hS_wn := held_step hb_wn (W0 := wr) (by first | assumption | exact held_refl _))
          | (go_at_call 25; refine (HK.out _ _ hS_wn.1 hn).mono ?_; rintro e wc ⟨rfl, hb_wc⟩; have hS_wc := held_step hb_wc (W0 := wr) (by first | assumption | exact held_refl _)))
      have hd1 := hd.keep hS_wc.1
      have l0' : wc.cell? ⟨w.heap.size + 1, 0, none⟩ = some (.bool false) := hd1.vl.cell 0
      have l1' : wc.cell? ⟨w.heap.size + 1, 1, none⟩ = some (.slice AL nL cL) := hd1.vl.cell 1
      have hlw : nL ≤ 4 := num_len hd1.rl hd1.tl rfl (small4 (by have := HV.out; have := HEQ.out; omega))
      have WD := Lib.hid (fun W (h : Below wc.heap.size wc W) => word_ref hd1.rl hlw (by have := HV.out; have := HEQ.out; omega) false W h)
      have hans : Hid (val dL * val dL ≤ X ∧ X < (val dL + 1) * (val dL + 1)) := Lib.hid (by rw [HEQ.out]; have := HV.out; omega)
      have hBc := hd1.bel
      clear hS_wp hS_wn hb_wp hb_wn hb_wc hp hn l0 l1 h0 h1 za zl zh hBr hlw
      go_wp2_with fail
      refine (WD.out _ (Below.refl _ _)).mono ?_
      rintro e w8 ⟨rfl, hb_w8⟩
      go_wp2_with fail
      go_ret
      exact ⟨⟨val dL, rfl, hans⟩, hBc.trans (hb_w8.mono hBc.size)⟩

end Go.Proofs.Ytedodoaeecbalaa
