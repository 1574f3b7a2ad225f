/-
  Contracts of wide.Int's size and of signed.
-/
import Derived.Test.YtedodoaeecbalaaMul
import Derived.Test.YtedodoaeecbalaaMem
namespace Go.Proofs.Ytedodoaeecbalaa
open Go.RowKit

theorem size_math {x : Int} (hx : In128 x) : (¬ x < 0 → IntKind.u64.wrap (hi64 x) = ((x.natAbs / 18446744073709551616 : Nat) : Int) ∧ lo64 x = ((x.natAbs % 18446744073709551616 : Nat) : Int)) ∧
    (x < 0 → IntKind.u64.wrap (hi64 (-x)) = ((x.natAbs / 18446744073709551616 : Nat) : Int) ∧ lo64 (-x) = ((x.natAbs % 18446744073709551616 : Nat) : Int)) := by
  unfold In128 at hx
  unfold hi64 lo64
  rw [IntKind.wrap_u64, IntKind.wrap_u64]
  unfold wrap64
  omega
theorem ret_uu {a b c d : Int} (h : a = c) (h' : b = d) : Ending.returned (.tuple #[.int .u64 a, .int .u64 b]) = .returned (.tuple #[.int .u64 c, .int .u64 d]) := by rw [h, h']

theorem size_prog (x : Int) (hx : In128 x) (w : World) :
    Calls Try.prog 65 #[.agg #[.int .i64 (hi64 x), .int .u64 (lo64 x)]] w fun e w' =>
      e = .returned (.tuple #[.int .u64 ((x.natAbs / 18446744073709551616 : Nat) : Int), .int .u64 ((x.natAbs % 18446744073709551616 : Nat) : Int)]) ∧ Below w.heap.size w w' := by
  have hs := size_math hx
  have hn := hi_neg hx
  rcases Int.lt_or_le x 0 with h | h
  · have h1 := hs.2 h
    have h2 := hn.2 h
    clear hs hn h
    go_enter Try.func65, Try.ntmps65
    go_wp2_with fail
    refine (neg_any x _).mono ?_
    rintro e w1 ⟨rfl, hb_w1⟩
    obtain ⟨hc_w1, hf_w1⟩ := bcell hb_w1
    have hz_w1 := hb_w1.size
    try simp at hz_w1
    have hB_w1 : Below w.heap.size w w1 := Below.trans (by go_grown) (hb_w1.mono (by go_size))
    have hs_w1_0 : w.heap.size < w1.heap.size := by omega
    go_wp2_with fail
    refine wp_gen (fun Qw2 hW0 => ?_)
    have hB_Qw2 : Below w.heap.size w Qw2 := by rw [hW0]; go_grown
    have hs_Qw2_0 : w.heap.size < Qw2.heap.size := by rw [hW0]; first | omega | (simp; done) | (simp; omega)
    have hg_Qw2_0 : Qw2.cell? ⟨w.heap.size, 0, none⟩ = some (.int .i64 (hi64 (-x))) := by rw [hW0]; first | (go_simp; done) | (simp [*]; done)
    have hg_Qw2_1 : Qw2.cell? ⟨w.heap.size, 1, none⟩ = some (.int .u64 (lo64 (-x))) := by rw [hW0]; first | (go_simp; done) | (simp [*]; done)
    clear hW0
    have hq_Qw2 := @wd_cell Qw2
    refine wp_region_wd (by kernel_rfl) (by kernel_rfl) ?_
    repeat (go_big_quiet_step ((first | (fail))))
    refine wpQuiet_nil ?_
    rintro w2 ⟨⟨wx, hb_w2⟩, hwx⟩
    obtain rfl : w2 = wx := hwx
    clear hq_Qw2
    obtain ⟨hc_w2, hf_w2⟩ := bcell hb_w2
    have hB_w2 : Below w.heap.size w w2 := Below.trans (by go_grown) (hb_w2.mono (by go_size))
    have hs_w2_0 : w.heap.size < w2.heap.size := Nat.lt_of_lt_of_le hs_Qw2_0 hb_w2.size
    go_wp2_with fail
    go_ret2
    exact ⟨ret_uu (by omega) (by omega), hB_w2⟩
  · have h1 := hs.1 (by omega)
    have h2 : ¬ hi64 x < 0 := by omega
    clear hs hn h
    go_enter Try.func65, Try.ntmps65
    go_wp2_with fail
    refine wp_gen (fun Qw2 hW0 => ?_)
    have hB_Qw2 : Below w.heap.size w Qw2 := by rw [hW0]; go_grown
    have hs_Qw2_0 : w.heap.size < Qw2.heap.size := by rw [hW0]; first | omega | (simp; done) | (simp; omega)
    have hg_Qw2_0 : Qw2.cell? ⟨w.heap.size, 0, none⟩ = some (.int .i64 (hi64 x)) := by rw [hW0]; first | (go_simp; done) | (simp [*]; done)
    have hg_Qw2_1 : Qw2.cell? ⟨w.heap.size, 1, none⟩ = some (.int .u64 (lo64 x)) := by rw [hW0]; first | (go_simp; done) | (simp [*]; done)
    clear hW0
    have hq_Qw2 := @wd_cell Qw2
    refine wp_region_wd (by kernel_rfl) (by kernel_rfl) ?_
    repeat (go_big_quiet_step ((first | (fail))))
    refine wpQuiet_nil ?_
    rintro w2 ⟨⟨wx, hb_w2⟩, hwx⟩
    obtain rfl : w2 = wx := hwx
    clear hq_Qw2
    obtain ⟨hc_w2, hf_w2⟩ := bcell hb_w2
    have hB_w2 : Below w.heap.size w w2 := Below.trans (by go_grown) (hb_w2.mono (by go_size))
    have hs_w2_0 : w.heap.size < w2.heap.size := Nat.lt_of_lt_of_le hs_Qw2_0 hb_w2.size
    go_wp2_with fail
    go_ret2
    exact ⟨ret_uu (by omega) (by omega), hB_w2⟩

/-- A size with a sign. -/
theorem signed_prog (h l : Int) (_ : 0 ≤ h ∧ h ≤ 18446744073709551615) (hl : 0 ≤ l ∧ l ≤ 18446744073709551615) (b : Bool) (w : World) :
    Calls Try.prog 67 #[.int .u64 h, .int .u64 l, .bool b] w fun e w' =>
      e = .returned (.agg #[.int .i64 (hi64 (if b then -(of64 h l) else of64 h l)), .int .u64 (lo64 (if b then -(of64 h l) else of64 h l))]) ∧ Below w.heap.size w w' := by
  have e1 : wrap64 h = hi64 (of64 h l) ∧ l = lo64 (of64 h l) := by unfold hi64 lo64 of64; unfold wrap64; omega
  obtain ⟨x, hx⟩ : ∃ z, of64 h l = z := ⟨_, rfl⟩
  rw [hx] at e1 ⊢
  have HN := Lib.hid (fun W => neg_any x W)
  obtain ⟨e2, e3⟩ := e1
  subst e3
  clear hl hx
  cases b
  · simp only [Bool.false_eq_true, if_false]
    go_enter Try.func67, Try.ntmps67
    go_wp2_with fail
    go_returns
    exact ⟨ret_int128 ⟨by omega, rfl⟩, by go_grown⟩
  · simp only [if_true]
    go_enter Try.func67, Try.ntmps67
    go_wp2_with fail
    refine (HN.out _).mono ?_
    rintro e w1 ⟨rfl, hb_w1⟩
    obtain ⟨hc_w1, hf_w1⟩ := bcell hb_w1
    have hz_w1 := hb_w1.size
    try simp at hz_w1
    have hB_w1 : Below w.heap.size w w1 := Below.trans (by go_grown) (hb_w1.mono (by go_size))
    have hs_w1_0 : w.heap.size < w1.heap.size := by omega
    have hs_w1_1 : w.heap.size + 1 < w1.heap.size := by omega
    have c0 : w1.cell? ⟨w.heap.size, 0, none⟩ = some (.int .i64 0) := by rw [hc_w1 _ _ (by simp; omega)]; go_simp
    have c1 : w1.cell? ⟨w.heap.size, 1, none⟩ = some (.int .u64 0) := by rw [hc_w1 _ _ (by simp; omega)]; go_simp
    go_wp2_with fail
    refine bodyPost_ret (by simp [results, Try.results67, go_sem, *]; try rfl) rfl ?_
    exact ⟨rfl, by go_grown⟩

end Go.Proofs.Ytedodoaeecbalaa
