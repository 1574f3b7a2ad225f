/-
  The law WideTexts returns true for any number and any text.
-/
import Derived.Test.YtedodoaeecbalaaText
import Derived.Test.YtedodoaeecbalaaTextR
import Derived.Test.YtedodoaeecbalaaParseP
import Derived.Test.YtedodoaeecbalaaAdds
namespace Go.Proofs.Ytedodoaeecbalaa
open Go.RowKit

def ParseSays : Prop := ∀ (s : ByteArray), s.data.toList.length ≤ 9223372036854775807 → ∀ (w : World),
    Calls Try.prog 45 #[.string s] w fun e w' => (∃ v, e = .returned (.tuple #[v, .int .i64 (pcode s.data.toList)]) ∧ NumAt w' v (pval s.data.toList)) ∧ Below w.heap.size w w'
theorem pval_small (L : List UInt8) : In128 (pval L) ∧ Small 9 (pval L).natAbs := by
  have h : -170141183460469231731687303715884105728 ≤ pval L ∧ pval L ≤ 170141183460469231731687303715884105727 := by
    unfold pval
    split
    · rename_i h
      exact (txt_parse L h).2.2
    · decide +kernel
  refine ⟨h, ?_⟩
  unfold Small
  have : (65536 : Nat) ^ 9 = 22300745198530623141535718272648361505980416 := by decide +kernel
  omega
theorem in128_small {x : Int} (h : In128 x) : Small 9 x.natAbs := by
  unfold Small
  have : (65536 : Nat) ^ 9 = 22300745198530623141535718272648361505980416 := by decide +kernel
  unfold In128 at h
  omega

theorem txt_short (x : Int) (hx : In128 x) : (txt x).length ≤ 9223372036854775807 := by
  have h := revd_small (in128_small hx)
  unfold txt
  rw [List.length_append, List.length_reverse]
  split
  · have : [(45 : UInt8)].length = 1 := rfl
    omega
  · have : ([] : List UInt8).length = 0 := rfl
    omega

set_option maxHeartbeats 4000000 in
set_option maxRecDepth 100000 in
theorem wideTexts_core (HR : RoundSays) (PR : ParseSays) (x : Int) (hx : In128 x) (s : ByteArray) (hs : s.data.toList.length ≤ 9223372036854775807) (w : World) :
    Calls Try.prog 8 #[.agg #[.int .i64 (hi64 x), .int .u64 (lo64 x)], .string s] w fun e w' => e = .returned (.bool true) ∧ Below w.heap.size w w' := by
  have nx := fun W => num_law (hi64 x) (lo64 x) (hi_bd x) (lo_bd x) W
  rw [show of64 (hi64 x) (lo64 x) = x from s128_of hx] at nx
  have NX := Lib.hid nx
  have TP := Lib.hid (fun W => text_prog x hx W)
  have TR := Lib.hid (fun (w0 : World) (v : Value) (h : NumAt w0 v x) (W : World) (hW : Below w0.heap.size w0 W) => text_ref h (in128_small hx) W hW)
  have pt := fun W => parse_prog ⟨(txt x).toArray⟩ (by
    have h : (⟨(txt x).toArray⟩ : ByteArray).data.toList = txt x := rfl
    rw [h]; exact txt_short x hx) W
  have ht := parse_txt x (by unfold In128 at hx; omega) (by unfold In128 at hx; omega)
  rw [show (⟨(txt x).toArray⟩ : ByteArray).data.toList = txt x from rfl, ht.1, ht.2] at pt
  have PT := Lib.hid pt
  clear nx pt ht
  obtain ⟨t, htt⟩ : ∃ z, (⟨(txt x).toArray⟩ : ByteArray) = z := ⟨_, rfl⟩
  rw [htt] at TP TR PT
  clear htt
  have PS := Lib.hid (fun W => parse_prog s hs W)
  have RS := Lib.hid (fun W => PR s hs W)
  have hback := txt_parse s.data.toList
  have hsm := pval_small s.data.toList
  have hps : pcode s.data.toList = 0 → (⟨(txt (pval s.data.toList)).toArray⟩ : ByteArray) = s := fun h => by
    rw [(hback h).2.1, (hback h).1]
  have hcode : pcode s.data.toList = 0 ∨ pcode s.data.toList ≠ 0 := Decidable.em _
  obtain ⟨pc, hpc⟩ : ∃ z, pcode s.data.toList = z := ⟨_, rfl⟩
  obtain ⟨pv, hpv⟩ : ∃ z, pval s.data.toList = z := ⟨_, rfl⟩
  rw [hpc, hpv] at PS RS
  rw [hpc, hpv] at hps
  rw [hpc] at hcode
  rw [hpv] at hsm
  have TS := Lib.hid (fun W => text_prog pv hsm.1 W)
  have IS := Lib.hid (fun (w0 : World) (v : Value) (h : NumAt w0 v pv) (W : World) (hW : Below w0.heap.size w0 W) => is_same HR h hsm.2 (by omega) W hW)
  clear hpc hpv hback hsm hs hx HR PR
  go_enter Try.func8, Try.ntmps8
  go_wp2_with fail
  refine (lawof_any _ _).mono ?_
  rintro e w1 ⟨rfl, hb_w1⟩
  obtain ⟨hc_w1, hf_w1⟩ := bcell hb_w1
  have hz_w1 := hb_w1.size
  try simp at hz_w1
  have hB_w1 : Below w.heap.size w w1 := Below.trans (by go_grown) (hb_w1.mono (by go_size))
  have hs_w1_0 : w.heap.size < w1.heap.size := by omega
  go_wp2_with fail
  refine (TP.out _).mono ?_
  rintro e w2 ⟨rfl, hb_w2⟩
  obtain ⟨hc_w2, hf_w2⟩ := bcell hb_w2
  have hz_w2 := hb_w2.size
  try simp at hz_w2
  have hB_w2 : Below w.heap.size w w2 := Below.trans (by go_grown) (hb_w2.mono (by go_size))
  have hs_w2_0 : w.heap.size < w2.heap.size := by omega
  go_wp2_with fail
  refine (NX.out _).mono ?_
  rintro e w3 ⟨bm, Am, nm, cm, dm, rfl, hm, hrm, hb_w3⟩
  obtain ⟨hc_w3, hf_w3⟩ := bcell hb_w3
  have hz_w3 := hb_w3.size
  try simp at hz_w3
  have hB_w3 : Below w.heap.size w w3 := Below.trans (by go_grown) (hb_w3.mono (by go_size))
  have hs_w3_0 : w.heap.size < w3.heap.size := by omega
  go_wp2_with fail
  refine (TR.out _ _ hm _ (Below.refl _ _)).mono ?_
  rintro e w4 ⟨rfl, hb_w4⟩
  obtain ⟨hc_w4, hf_w4⟩ := bcell hb_w4
  have hz_w4 := hb_w4.size
  try simp at hz_w4
  have hB_w4 : Below w.heap.size w w4 := Below.trans (by go_grown) (hb_w4.mono (by go_size))
  have hs_w4_0 : w.heap.size < w4.heap.size := by omega
  clear hm hrm
  go_wp2_with fail
  refine (PT.out _).mono ?_
  rintro e w5 ⟨rfl, hb_w5⟩
  obtain ⟨hc_w5, hf_w5⟩ := bcell hb_w5
  have hz_w5 := hb_w5.size
  try simp at hz_w5
  have hB_w5 : Below w.heap.size w w5 := Below.trans (by go_grown) (hb_w5.mono (by go_size))
  have hs_w5_0 : w.heap.size < w5.heap.size := by omega
  go_wp2_with fail
  refine wp_gen (fun Qw6 hW0 => ?_)
  have hB_Qw6 : Below w.heap.size w Qw6 := by rw [hW0]; go_grown
  have hs_Qw6_0 : w.heap.size < Qw6.heap.size := by rw [hW0]; first | omega | (simp; done) | (simp; omega)
  have hs_Qw6_1 : w5.heap.size < Qw6.heap.size := by rw [hW0]; first | omega | (simp; done) | (simp; omega)
  have hg_Qw6_0 : Qw6.cell? ⟨w.heap.size, 0, none⟩ = some (.int .i64 (hi64 x)) := by rw [hW0]; first | (go_simp; done) | (simp [*]; done)
  have hg_Qw6_1 : Qw6.cell? ⟨w.heap.size, 1, none⟩ = some (.int .u64 (lo64 x)) := by rw [hW0]; first | (go_simp; done) | (simp [*]; done)
  have hg_Qw6_2 : Qw6.cell? ⟨w5.heap.size, 0, none⟩ = some (.int .i64 (hi64 x)) := by rw [hW0]; first | (go_simp; done) | (simp [*]; done)
  have hg_Qw6_3 : Qw6.cell? ⟨w5.heap.size, 1, none⟩ = some (.int .u64 (lo64 x)) := by rw [hW0]; first | (go_simp; done) | (simp [*]; done)
  clear hW0
  have hq_Qw6 := @wd_cell Qw6
  refine wp_region_wd (by kernel_rfl) (by kernel_rfl) ?_
  repeat (go_big_quiet_step ((first | (go_at_call 11; with_reducible exact quiet_wd (lawof_any _ _)))))
  refine wpQuiet_nil ?_
  rintro w6 ⟨⟨wx, hb_w6⟩, hwx⟩
  obtain rfl : w6 = wx := hwx
  clear hq_Qw6
  obtain ⟨hc_w6, hf_w6⟩ := bcell hb_w6
  have hB_w6 : Below w.heap.size w w6 := Below.trans (by go_grown) (hb_w6.mono (by go_size))
  have hs_w6_0 : w.heap.size < w6.heap.size := Nat.lt_of_lt_of_le hs_Qw6_0 hb_w6.size
  have hs_w6_1 : w5.heap.size < w6.heap.size := Nat.lt_of_lt_of_le hs_Qw6_1 hb_w6.size
  go_wp2_with fail
  refine (PS.out _).mono ?_
  rintro e w7 ⟨rfl, hb_w7⟩
  obtain ⟨hc_w7, hf_w7⟩ := bcell hb_w7
  have hz_w7 := hb_w7.size
  try simp at hz_w7
  have hB_w7 : Below w.heap.size w w7 := Below.trans (by go_grown) (hb_w7.mono (by go_size))
  have hs_w7_0 : w.heap.size < w7.heap.size := by omega
  go_wp2_with fail
  refine (RS.out _).mono ?_
  rintro e w8 ⟨⟨vv, rfl, hv⟩, hb_w8⟩
  obtain ⟨hc_w8, hf_w8⟩ := bcell hb_w8
  have hz_w8 := hb_w8.size
  try simp at hz_w8
  have hB_w8 : Below w.heap.size w w8 := Below.trans (by go_grown) (hb_w8.mono (by go_size))
  have hs_w8_0 : w.heap.size < w8.heap.size := by omega
  have hs_w8_1 : w7.heap.size < w8.heap.size := by omega
  obtain ⟨bv, Av, nv, cv, dv, rfl, _, _, _, _⟩ := num_open hv
  go_wp2_with fail
  refine (IS.out _ _ hv _ (by go_grown)).mono ?_
  rintro e w9 ⟨rfl, hb_w9⟩
  obtain ⟨hc_w9, hf_w9⟩ := bcell hb_w9
  have hz_w9 := hb_w9.size
  try simp at hz_w9
  have hB_w9 : Below w.heap.size w w9 := Below.trans (by go_grown) (hb_w9.mono (by go_size))
  have hs_w9_0 : w.heap.size < w9.heap.size := by omega
  have hs_w9_1 : w7.heap.size < w9.heap.size := by omega
  clear hv
  rcases hcode with rfl | hne
  · have hq := hps rfl
    rw [hq] at TS
    clear hps hq
    go_wp2_with fail
    refine (TS.out _).mono ?_
    rintro e w10 ⟨rfl, hb_w10⟩
    obtain ⟨hc_w10, hf_w10⟩ := bcell hb_w10
    have hz_w10 := hb_w10.size
    try simp at hz_w10
    have hB_w10 : Below w.heap.size w w10 := Below.trans (by go_grown) (hb_w10.mono (by go_size))
    have hs_w10_0 : w.heap.size < w10.heap.size := by omega
    go_wp2_with fail
    go_ret
    exact ⟨rfl, by go_grown⟩
  · have hz : (pc == 0) = false := by simp; exact hne
    clear hps
    go_wp2_with fail
    go_ret
    exact ⟨rfl, by go_grown⟩

end Go.Proofs.Ytedodoaeecbalaa
