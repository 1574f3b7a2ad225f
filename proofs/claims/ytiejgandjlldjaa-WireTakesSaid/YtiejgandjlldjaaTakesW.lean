/-
  The law WireTakes, walked.
-/
import Derived.Test.YtiejgandjlldjaaStands
import Derived.Test.YtiejgandjlldjaaOpenWants
import Derived.Deep.Cut
import Derived.Test.YtiejgandjlldjaaWorks
namespace Go.Proofs.Ytiejgandjlldjaa
open Go.RowKit

theorem Bs.upd_ne {w w' : World} {g : Nat} {A : Option Addr} {n c : Nat} {l : List UInt8} (h : Bs w A n c l) (hu : Upd g w w') (hne : n = 0 ∨ ∃ k o, A = some ⟨k, o, none⟩ ∧ k ≠ g) : Bs w' A n c l := by
  refine ⟨h.len, h.cap, h.big, ?_⟩
  rcases h.at_ with h0 | ⟨k, o, e, hk, hc⟩
  · exact .inl h0
  · rcases hne with h0 | ⟨k', o', e', hne⟩
    · exact .inl h0
    · rw [e] at e'
      injection e' with e'
      injection e' with e1 e2
      subst e1 e2
      exact .inr ⟨k, o, e, Nat.lt_of_lt_of_le hk hu.size, fun j b hj => (World.cell?_of_block (a := ⟨k, o + j, none⟩) (hu.block k hk (fun e => by injection e with e; exact hne e))).trans (hc j b hj)⟩

set_option maxRecDepth 100000 in
theorem read_far (A : Option Addr) (n c : Nat) (l : List UInt8) (w : World) (hs : Bs w A n c l) (hlen : n ≤ 225000000000000) :
    Calls Try.prog 27 #[.slice A n c] w fun e w' => ∃ I A' c', e = .returned (.pointer (some ⟨I, 0, none⟩)) ∧ w.heap.size ≤ I ∧ Var w' I 69 #[.slice A' l.length c', .int .i64 0, .int .i64 0] ∧ Bs w' A' l.length c' l ∧ (l.length = 0 ∨ ∃ k o, A' = some ⟨k, o, none⟩ ∧ w.heap.size ≤ k) ∧ Below w.heap.size w w' := by
  have H := Lib.hid (clone_any A n c l w hs hlen)
  have hl := hs.len
  subst hl
  clear hlen hs
  go_enter Try.func27, Try.ntmps27
  go_wp2_with fail
  refine (H.out).mono ?_
  rintro e w1 ⟨A', c', rfl, ⟨hb1, hown⟩, hb_w1⟩
  obtain ⟨hc_w1, hf_w1⟩ := bcell hb_w1
  have hz_w1 := hb_w1.size
  try simp at hz_w1
  have hB_w1 : Below w.heap.size w w1 := Below.trans (by go_grown) (hb_w1.mono (by go_size))
  have HO := Lib.hid hown
  clear hown
  go_wp2_with fail
  go_ret
  refine ⟨w1.heap.size, A', c', rfl, hb_w1.size, Var.new _ _ _, hb1.below (by go_grown), ?_, by go_grown⟩
  rcases Nat.eq_zero_or_pos l.length with h0 | h0
  · exact .inl h0
  · rcases (HO.out h0).2 with ⟨_, h1⟩ | ⟨g, cap, cur, hv, hg, _⟩
    · omega
    · injection hv with hA _ _
      exact .inr ⟨g, 0, hA, hg⟩

/-- The four that take. -/
def Four (w : World) (I R Z Y : Nat) (s r z y : Ist) (W : World) : Prop := (InAt W I s ∧ RInAt W R r) ∧ (InAt W Z z ∧ RInAt W Y y) ∧ Below w.heap.size w W
structure Apart (w : World) (I R Z Y : Nat) : Prop where
  i : w.heap.size ≤ I
  r : w.heap.size ≤ R
  z : w.heap.size ≤ Z
  y : w.heap.size ≤ Y
  ir : I ≠ R
  iz : I ≠ Z
  iy : I ≠ Y
  rz : R ≠ Z
  ry : R ≠ Y
  zy : Z ≠ Y
section
variable {w W : World} {I R Z Y : Nat} {s r z y : Ist}
theorem Four.held (h : Four w I R Z Y s r z y W) : Below w.heap.size w W ∧ (∀ b o, b < w.heap.size → W.cell? ⟨b, o, none⟩ = w.cell? ⟨b, o, none⟩) := ⟨h.2.2, (bcell h.2.2).1⟩
theorem Four.keep {W' : World} (h : Four w I R Z Y s r z y W) (hb : Below W.heap.size W W') : Four w I R Z Y s r z y W' := ⟨⟨h.1.1.keep hb, h.1.2.keep hb⟩, ⟨h.2.1.1.keep hb, h.2.1.2.keep hb⟩, h.2.2.trans (hb.mono h.2.2.size)⟩
theorem four_takes (p : Apart w I R Z Y) (k m : Int) (h : Four w I R Z Y s r z y W) :
    Calls Try.prog 29 #[.pointer (some ⟨I, 0, none⟩), .agg #[.int .i64 k, .int .i64 m]] W fun e w' => e = .returned (gotV (takeOf k m s).1.1 (takeOf k m s).1.2) ∧ Four w I R Z Y (takeOf k m s).2 r z y w' :=
  (takes_all I s k m W h.1.1).mono fun _ _ ⟨he, hi, hu⟩ => ⟨he, ⟨hi, h.1.2.upd h.1.1.noB hu p.ir.symm⟩, ⟨h.2.1.1.upd h.1.1.noB hu p.iz.symm, h.2.1.2.upd h.1.1.noB hu p.iy.symm⟩, hu.below h.2.2 p.i h.2.2.size⟩
theorem four_taken (p : Apart w I R Z Y) (k m : Int) (h : Four w I R Z Y s r z y W) :
    Calls Try.prog 30 #[.pointer (some ⟨R, 0, none⟩), .agg #[.int .i64 k, .int .i64 m]] W fun e w' => e = .returned (gotV (takeOf k m r).1.1 (takeOf k m r).1.2) ∧ Four w I R Z Y s (takeOf k m r).2 z y w' :=
  (taken_all R r k m W h.1.2).mono fun _ _ ⟨he, hi, hu⟩ => ⟨he, ⟨h.1.1.upd h.1.2.noB hu p.ir, hi⟩, ⟨h.2.1.1.upd h.1.2.noB hu p.rz.symm, h.2.1.2.upd h.1.2.noB hu p.ry.symm⟩, hu.below h.2.2 p.r h.2.2.size⟩
theorem four_takes2 (p : Apart w I R Z Y) (k m : Int) (h : Four w I R Z Y s r z y W) :
    Calls Try.prog 29 #[.pointer (some ⟨Z, 0, none⟩), .agg #[.int .i64 k, .int .i64 m]] W fun e w' => e = .returned (gotV (takeOf k m z).1.1 (takeOf k m z).1.2) ∧ Four w I R Z Y s r (takeOf k m z).2 y w' :=
  (takes_all Z z k m W h.2.1.1).mono fun _ _ ⟨he, hi, hu⟩ => ⟨he, ⟨h.1.1.upd h.2.1.1.noB hu p.iz, h.1.2.upd h.2.1.1.noB hu p.rz⟩, ⟨hi, h.2.1.2.upd h.2.1.1.noB hu p.zy.symm⟩, hu.below h.2.2 p.z h.2.2.size⟩
theorem four_taken2 (p : Apart w I R Z Y) (k m : Int) (h : Four w I R Z Y s r z y W) :
    Calls Try.prog 30 #[.pointer (some ⟨Y, 0, none⟩), .agg #[.int .i64 k, .int .i64 m]] W fun e w' => e = .returned (gotV (takeOf k m y).1.1 (takeOf k m y).1.2) ∧ Four w I R Z Y s r z (takeOf k m y).2 w' :=
  (taken_all Y y k m W h.2.1.2).mono fun _ _ ⟨he, hi, hu⟩ => ⟨he, ⟨h.1.1.upd h.2.1.2.noB hu p.iy, h.1.2.upd h.2.1.2.noB hu p.ry⟩, ⟨h.2.1.1.upd h.2.1.2.noB hu p.zy, hi⟩, hu.below h.2.2 p.y h.2.2.size⟩
theorem four_stands (h : Four w I R Z Y s s z y W) :
    Calls Try.prog 28 #[.pointer (some ⟨I, 0, none⟩), .pointer (some ⟨R, 0, none⟩)] W fun e w' => e = .returned (.bool true) ∧ Four w I R Z Y s s z y w' :=
  (stands_any I R s W h.1.1 h.1.2).mono fun _ _ ⟨he, hb⟩ => ⟨he, h.keep hb⟩
theorem four_stands2 (h : Four w I R Z Y s r z z W) :
    Calls Try.prog 28 #[.pointer (some ⟨Z, 0, none⟩), .pointer (some ⟨Y, 0, none⟩)] W fun e w' => e = .returned (.bool true) ∧ Four w I R Z Y s r z z w' :=
  (stands_any Z Y z W h.2.1.1 h.2.1.2).mono fun _ _ ⟨he, hb⟩ => ⟨he, h.keep hb⟩
end

set_option maxRecDepth 100000 in
set_option maxHeartbeats 1600000 in
theorem takes_some (A B : Option Addr) (n c b off c2 : Nat) (l : List UInt8) (ls : List (Int × Int)) (w : World) (hs : Bs w A n c l) (hA0 : A = none → c = 0) (hn : n ≤ 140737488351232) (hls : ls.length * 16 ≤ 140737488351232)
    (hB : 0 < ls.length → B = some ⟨b, off, none⟩ ∧ b < w.heap.size)
    (hc : ∀ (j : Nat) k m, ls[j]? = some (k, m) → w.cell? ⟨b, off + j * 2, none⟩ = some (.int .i64 k) ∧ w.cell? ⟨b, off + (j * 2 + 1), none⟩ = some (.int .i64 m)) :
    Calls Try.prog 8 #[.slice A n c, .slice B ls.length c2] w fun e w' => e = .returned (.bool true) ∧ Below w.heap.size w w' := by
  have HC := Lib.hid hc
  have HP := Lib.hid hB
  have HS := Lib.hid hs
  have HN := Lib.hid (And.intro hn hls)
  have hl := hs.len
  have hmk : ∀ W : World, (Instr.makeSlice 23 (.int .i64 ((n : Int) + 20)) (.int .i64 ((n : Int) + 20))).run Try.prog W = .ok (.slice (some ⟨W.heap.size, 0, none⟩) (n + 20) (n + 20)) (W.alloc (.cells (List.replicate (n + 20) (B8 0)).toArray 5)) := fun W => by
    have h := make_bytes (n + 20) (by omega) W
    rwa [show ((n + 20 : Nat) : Int) = (n : Int) + 20 by omega] at h
  obtain ⟨C0, hC0⟩ : ∃ z, (l.map B8 ++ List.replicate 20 (B8 0)).toArray = z := ⟨_, rfl⟩
  have hcp : ∀ ty, (Builtin.copy_ #[23, 23] ty #[.slice (some ⟨w.heap.size, 0, none⟩) (n + 20) (n + 20), .slice A n c]).run Try.prog (w.alloc (.cells (Array.replicate (n + 20) (B8 0)) 5)) =
      .ok (.int .i64 (n : Int)) (w.alloc (.cells C0 5)) := fun ty => by
    have h := copy_bytes ty (n + 20) (n + 20) A n c l w hs hA0 (by omega)
    rw [show n + 20 - n = 20 by omega, hC0] at h
    simpa using h
  have hCs : C0.size = n + 20 := by rw [← hC0]; simp [hl]
  have hCb : ∀ (j : Nat) x, l[j]? = some x → C0[j]? = some (B8 x) := fun j x hj => by
    have hlt : j < l.length := by
      rcases Nat.lt_or_ge j l.length with h0 | h0
      · exact h0
      · rw [List.getElem?_eq_none h0] at hj; cases hj
    rw [List.getElem?_eq_getElem hlt] at hj
    injection hj with hj
    rw [← hC0, ← hj]
    simp [List.getElem?_append_left, hlt]
  have hcap := hs.cap
  have hbs0 : Bs (w.alloc (.cells C0 5)) (some ⟨w.heap.size, 0, none⟩) n (n + 20) l := ⟨hl, by omega, by simp only [maxLen]; omega, .inr ⟨w.heap.size, 0, rfl, by simp, fun j x hj => by
    rw [(Var.new w 5 C0).cell, Nat.zero_add]
    exact hCb j x hj⟩⟩
  have H0 := Lib.hid (And.intro hCs (And.intro hCb hbs0))
  have hb0 : Below w.heap.size w (w.alloc (.cells C0 5)) := by go_grown
  have HS0 := Lib.hid (hs.below hb0)
  clear hc hB hs hls hA0 hC0 hCs hCb hbs0
  go_enter Try.func8, Try.ntmps8
  go_wp2_with fail
  refine (read_far (some ⟨w.heap.size, 0, none⟩) n (n + 20) l _ H0.out.2.2 (by omega)).mono ?_
  rintro e w1 ⟨I, A', c', rfl, hI0, vI, hbI, hfar, hb1⟩
  have hB1 : Below w.heap.size w w1 := hb0.trans (hb1.mono (by simp))
  have hz1 := hb1.size
  rw [show (w.alloc (.cells C0 5)).heap.size = w.heap.size + 1 by simp] at hfar
  simp at hI0 hz1
  have hI1 := vI.lt
  have HI := Lib.hid (And.intro vI (And.intro hbI hfar))
  have hV1 : Var w1 w.heap.size 5 C0 := (Var.new w _ _).keep hb1
  have HV := Lib.hid (And.intro hV1 (And.intro (H0.out.2.2.below hb1) (HS0.out.below hb1)))
  clear vI hbI hfar hV1 hcp hmk hb0 HS0
  go_upto_region 9 with fail
  refine wp_gen (fun W3 hW3 => ?_)
  have hb3 : Below w1.heap.size w1 W3 := by rw [hW3]; go_grown
  have vR : Var W3 w1.heap.size 67 #[.slice A n c, .int .i64 0, .int .i64 0, .int .i64 0] := by rw [hW3]; exact ((Var.new _ _ _).alloc _).alloc _
  have vZ : Var W3 (w1.heap.size + 1) 69 #[.slice none 0 0, .int .i64 0, .int .i64 0] := by rw [hW3]; exact (Var.new' _ _ _ (by simp)).alloc _
  have vY : Var W3 (w1.heap.size + 2) 67 #[.slice none 0 0, .int .i64 0, .int .i64 0, .int .i64 0] := by rw [hW3]; exact Var.new' _ _ _ (by simp)
  clear hW3
  have hB3 : Below w.heap.size w W3 := hB1.trans (hb3.mono hB1.size)
  have HW := Lib.hid (And.intro vR (And.intro vZ vY))
  have hI3 : InAt W3 I ⟨l, 0, 0⟩ := ⟨A', c', HI.out.1.keep hb3, HI.out.2.1.below hb3, Nat.zero_le _⟩
  have hR3 : RInAt W3 w1.heap.size ⟨l, 0, 0⟩ := ⟨A, c, by rw [hl]; exact vR, by rw [hl]; exact HV.out.2.2.below hb3, Nat.zero_le _⟩
  have hZ3 : InAt W3 (w1.heap.size + 1) ⟨[], 0, 0⟩ := ⟨none, 0, vZ, Bs.nil _, Nat.zero_le _⟩
  have hY3 : RInAt W3 (w1.heap.size + 2) ⟨[], 0, 0⟩ := ⟨none, 0, vY, Bs.nil _, Nat.zero_le _⟩
  have hcv1 := bs_str (HV.out.2.1.below hb3)
  have hcv2 := bs_str (HV.out.2.2.below hb3)
  have H4 := Lib.hid (And.intro hI3 (And.intro hR3 (And.intro hZ3 hY3)))
  have HB3 := Lib.hid (And.intro hb3 hB3)
  clear hI3 hR3 hZ3 hY3 hb3 vR vZ vY hB3
  go_wp2_with fail
  refine (stands_any I w1.heap.size ⟨l, 0, 0⟩ W3 H4.out.1 H4.out.2.1).mono ?_
  rintro e w4 ⟨rfl, hb4⟩
  go_wp2_with fail
  refine (stands_any (w1.heap.size + 1) (w1.heap.size + 2) ⟨[], 0, 0⟩ w4 (H4.out.2.2.1.keep hb4) (H4.out.2.2.2.keep hb4)).mono ?_
  rintro e w5 ⟨rfl, hb5⟩
  have hb35 : Below W3.heap.size W3 w5 := hb4.trans (hb5.mono hb4.size)
  have hz3 := HB3.out.1.size
  have hz35 := hb35.size
  have hV5 : Var w5 w.heap.size 5 C0 := (HV.out.1.keep HB3.out.1).keep hb35
  have hB5 : Below w.heap.size w w5 := HB3.out.2.trans (hb35.mono HB3.out.2.size)
  have HB5 := Lib.hid (And.intro hb35 hB5)
  have hall0 : ∀ j, j < n → ∃ x : UInt8, C0[j]? = some (B8 x) := fun j hj => ⟨_, H0.out.2.1 j l[j] (List.getElem?_eq_getElem (by omega))⟩
  have HA0 := Lib.hid (And.intro hV5 (And.intro H0.out.1 hall0))
  clear hb4 hb5 hb35 hB5 hV5 hall0 hcv1 hcv2
  go_wp2_with fail
  go_loopw [11] (fun t wr => ∃ k : Nat, k ≤ n ∧ t = .int .i64 (k : Int) ∧ (∃ cs, Var wr w.heap.size 5 cs ∧ cs.size = n + 20 ∧ ∀ j, j < n → ∃ x : UInt8, cs[j]? = some (B8 x)) ∧ Upd w.heap.size w5 wr) (fun t _ => n - (intOf t).toNat)
  case atStart => exact ⟨0, by omega, rfl, ⟨C0, HA0.out⟩, Upd.of_below (Below.refl _ _)⟩
  case round =>
    obtain ⟨k, hk, rfl, ⟨cs, hcs, hsz, hall⟩, hU⟩ := hrel
    rcases Nat.lt_or_ge k n with hlt | hge
    · obtain ⟨x, hx⟩ := hall k hlt
      have hck : wr.cell? ⟨w.heap.size, k, none⟩ = some (B8 x) := (hcs.cell k).trans hx
      have hfk := hcs.free k
      unfold B8 at hck
      obtain ⟨xv, hxv⟩ : ∃ z : Nat, x.toNat = z := ⟨_, rfl⟩
      have hx8 : xv < 256 := by rw [← hxv]; exact UInt8.toNat_lt _
      rw [hxv] at hck
      have hk' : (k : Int) < (n : Int) := by omega
      have hgz := hcs.lt
      obtain ⟨y, hy⟩ : ∃ z, IntKind.u8.wrap ((xv : Int) + 1) = z := ⟨_, rfl⟩
      have hy8 : 0 ≤ y ∧ y ≤ 255 := by rw [← hy, IntKind.wrap_u8]; omega
      have HX := Lib.hid (And.intro hcs (And.intro hsz (And.intro hall (And.intro hU hy8))))
      clear hcs hsz hall hU hxv hx hy8
      go_wp2_with fail
      go_roundw
      case rel =>
        refine ⟨k + 1, by omega, by go_num, ⟨cs.setIfInBounds k (.int .u8 y), HX.out.1.store k _, by simp [HX.out.2.1], fun j hj => ?_⟩, HX.out.2.2.2.1.trans (Upd.set _)⟩
        rw [Array.getElem?_setIfInBounds]
        split
        · rename_i hjk
          rw [if_pos (by rw [HX.out.2.1]; omega)]
          exact ⟨_, by rw [u8_of HX.out.2.2.2.2]⟩
        · exact HX.out.2.2.1 j hj
      case measure => simp [intOf]; omega
    · have hge' : ¬ (k : Int) < (n : Int) := by omega
      have hR5 := HW.out.1.keep HB5.out.1
      have hgz := HA0.out.1.lt
      have hpos : w.heap.size + 1 ≤ I := hI0
      have hi : InAt wr I ⟨l, 0, 0⟩ := by
        refine ⟨A', c', (((HI.out.1.keep HB3.out.1).keep HB5.out.1)).upd hU (by omega), ((HI.out.2.1.below HB3.out.1).below HB5.out.1).upd_ne hU ?_, Nat.zero_le _⟩
        rcases HI.out.2.2 with h | ⟨k0, o0, h1, h2⟩
        · exact .inl h
        · exact .inr ⟨k0, o0, h1, by omega⟩
      have hr : RInAt wr w1.heap.size ⟨l, 0, 0⟩ := by
        refine ⟨A, c, by rw [hl]; exact hR5.upd hU (by omega), ?_, Nat.zero_le _⟩
        rw [hl]
        refine ((HV.out.2.2.below HB3.out.1).below HB5.out.1).upd_ne hU ?_
        rcases HS.out.at_ with h | ⟨g, o, h1, h2, _⟩
        · exact .inl h
        · exact .inr ⟨g, o, h1, by omega⟩
      have hz : InAt wr (w1.heap.size + 1) ⟨[], 0, 0⟩ := ⟨none, 0, (HW.out.2.1.keep HB5.out.1).upd hU (by omega), Bs.nil _, Nat.zero_le _⟩
      have hy : RInAt wr (w1.heap.size + 2) ⟨[], 0, 0⟩ := ⟨none, 0, (HW.out.2.2.keep HB5.out.1).upd hU (by omega), Bs.nil _, Nat.zero_le _⟩
      have hF : Four w I w1.heap.size (w1.heap.size + 1) (w1.heap.size + 2) ⟨l, 0, 0⟩ ⟨l, 0, 0⟩ ⟨[], 0, 0⟩ ⟨[], 0, 0⟩ wr := ⟨⟨hi, hr⟩, ⟨hz, hy⟩, hU.below HB5.out.2 (Nat.le_refl _) HB5.out.2.size⟩
      have hap : Apart w I w1.heap.size (w1.heap.size + 1) (w1.heap.size + 2) := ⟨by omega, by omega, by omega, by omega, by omega, by omega, by omega, by omega, by omega, by omega⟩
      have HF := Lib.hid hF
      have HAP := Lib.hid hap
      clear hi hr hz hy hF hR5 hU hcs hall hap
      go_wp2_with fail
      go_loopw [12] (fun t wr => ∃ k s z, k ≤ ls.length ∧ t = .int .i64 (k : Int) ∧ Four w I w1.heap.size (w1.heap.size + 1) (w1.heap.size + 2) s s z z wr) (fun t _ => ls.length - (intOf t).toNat)
      case atStart => exact ⟨0, _, _, by omega, rfl, HF.out⟩
      case round =>
        obtain ⟨k, s, z, hk, rfl, hF⟩ := hrel
        have hls := HN.out.2
        rcases Nat.lt_or_ge k ls.length with hlt | hge
        · obtain ⟨rfl, hb⟩ := HP.out (by omega)
          have hk' : (k : Int) < (ls.length : Int) := by omega
          obtain ⟨⟨ki, m⟩, hj⟩ : ∃ a, ls[k]? = some a := ⟨_, List.getElem?_eq_getElem hlt⟩
          obtain ⟨c0, c1⟩ := HC.out k ki m hj
          rw [← Nat.add_assoc] at c1
          obtain ⟨gn, hgn⟩ : ∃ z, (takeOf ki m s).1.1 = z := ⟨_, rfl⟩
          obtain ⟨gs, hgs⟩ : ∃ z, (takeOf ki m s).1.2 = z := ⟨_, rfl⟩
          obtain ⟨s2, hs2⟩ : ∃ z, (takeOf ki m s).2 = z := ⟨_, rfl⟩
          obtain ⟨zn, hzn⟩ : ∃ x, (takeOf ki m z).1.1 = x := ⟨_, rfl⟩
          obtain ⟨zs, hzs⟩ : ∃ x, (takeOf ki m z).1.2 = x := ⟨_, rfl⟩
          obtain ⟨z2, hz2⟩ : ∃ x, (takeOf ki m z).2 = x := ⟨_, rfl⟩
          have T1 := Lib.hid (fun W h => four_takes (W := W) (r := s) (z := z) (y := z) (s := s) HAP.out ki m h)
          have T2 := Lib.hid (fun W h => four_taken (W := W) (r := s) (z := z) (y := z) (s := s2) HAP.out ki m h)
          have T3 := Lib.hid (fun W h => four_takes2 (W := W) (r := s2) (z := z) (y := z) (s := s2) HAP.out ki m h)
          have T4 := Lib.hid (fun W h => four_taken2 (W := W) (r := s2) (z := z2) (y := z) (s := s2) HAP.out ki m h)
          have T5 := Lib.hid (fun W h => four_stands (W := W) (w := w) (I := I) (R := w1.heap.size) (Z := w1.heap.size + 1) (Y := w1.heap.size + 2) (s := s2) (z := z) (y := z) h)
          have T6 := Lib.hid (fun W h => four_stands2 (W := W) (w := w) (I := I) (R := w1.heap.size) (Z := w1.heap.size + 1) (Y := w1.heap.size + 2) (s := s2) (r := s2) (z := z2) h)
          rw [hgn, hgs, hs2] at T1 T2
          rw [hzn, hzs, hz2] at T3 T4
          unfold gotV at T1 T2 T3 T4
          have T7 := Lib.hid (fun W => takes0_all ki m W)
          unfold gotV at T7
          have HFr := Lib.hid (hF.keep (Below.refl wr.heap.size wr).drew)
          have hS0 := HFr.out.held
          have hbz : b < wr.heap.size := Nat.lt_of_lt_of_le hb hF.2.2.size
          clear hgn hgs hs2 hzn hzs hz2 hj hF
          go_wp2_with fail
          go_region_held3 (fun w' => Below w.heap.size w w' ∧ (∀ b o, b < w.heap.size → w'.cell? ⟨b, o, none⟩ = w.cell? ⟨b, o, none⟩))
            (first | assumption)
            (first
              | (go_at_call 29; with_reducible refine (T1.out _ HFr.out).mono ?_; rintro e wa ⟨rfl, hFa⟩; have hSa := hFa.held)
              | (go_at_call 30; with_reducible refine (T2.out _ hFa).mono ?_; rintro e wb ⟨rfl, hFb⟩; have hSb := hFb.held)
              | (go_at_call 28; with_reducible refine (T5.out _ hFb).mono ?_; rintro e wc ⟨rfl, hFc⟩; have hSc := hFc.held)
              | (go_at_call 29; with_reducible refine (T3.out _ hFc).mono ?_; rintro e wd ⟨rfl, hFd⟩; have hSd := hFd.held)
              | (go_at_call 30; with_reducible refine (T4.out _ hFd).mono ?_; rintro e we ⟨rfl, hFe⟩; have hSe := hFe.held)
              | (go_at_call 28; with_reducible refine (T6.out _ hFe).mono ?_; rintro e wf ⟨rfl, hFf⟩; have hSf := hFf.held))
          all_goals
            go_wp2_with fail
            refine (T7.out _).mono ?_
            rintro e w8 ⟨rfl, hb8⟩
            have hF8 := hFf.keep hb8
            go_wp2_with fail
            go_roundw
            case rel => exact ⟨k + 1, s2, z2, by omega, by go_num, hF8⟩
            case measure => simp [intOf]; omega
        · have hk' : ¬ (k : Int) < (ls.length : Int) := by omega
          have HB := Lib.hid hF.2.2
          clear hF
          go_wp2_with fail
          refine (fault_none _).mono ?_
          rintro e w8 ⟨rfl, hb8⟩
          go_wp2_with fail
          refine (at_none _).mono ?_
          rintro e w9 ⟨rfl, hb9⟩
          go_wp2_with fail
          refine (end_none _).mono ?_
          rintro e w10 ⟨rfl, hb10⟩
          go_wp2_with fail
          refine (works_any _).mono ?_
          rintro e w11 ⟨rfl, hb11⟩
          go_wp2_with fail
          refine bodyPost_ret (by simp [results, Try.results8, go_sem, *]; try rfl) rfl ?_
          have h9 := HB.out.trans (hb8.mono HB.out.size)
          have h10 := h9.trans (hb9.mono h9.size)
          have h11 := h10.trans (hb10.mono h10.size)
          exact ⟨rfl, h11.trans (hb11.mono h11.size)⟩

theorem takes_core (A : Option Addr) (n c : Nat) (l : List UInt8) (v : Value) (ls : List (Int × Int)) (w : World) (hs : Bs w A n c l) (hA0 : A = none → c = 0) (h : WantsAt w v ls) (hn : n ≤ 140737488351232) (hls : ls.length * 16 ≤ 140737488351232) :
    Calls Try.prog 8 #[.slice A n c, v] w fun e w' => e = .returned (.bool true) ∧ Below w.heap.size w w' := by
  rcases h with ⟨rfl, B, c2, rfl⟩ | ⟨b, off, c2, rfl, hb, hc⟩
  · exact takes_some A B n c 0 0 c2 l [] w hs hA0 hn hls (fun h => absurd h (by simp)) (fun j k m h => by simp at h)
  · exact takes_some A _ n c b off c2 l ls w hs hA0 hn hls (fun _ => ⟨rfl, hb⟩) hc

end Go.Proofs.Ytiejgandjlldjaa
