/-
  Package wire: sums.
-/
import Derived.Test.YtiejgandjlldjaaOut
import Derived.Deep.WholeRow
import Derived.Deep.MidRow
import Derived.Deep.LoopGhost
import Derived.Laws.BitsAllLaws
namespace Go.Proofs.Ytiejgandjlldjaa
open Go.RowKit

section
variable {P : Program} {ops : Array Oper} {rest : List Oper} {op : Oper} {a : Act} {w : World} {Q : Exit → Act → World → Prop}
/-- A whole variable read, written. -/
theorem wpList_loadV (hgd : op.guard = none) (ty : TypeId) (x : Operand) (ho : op.op = .load ty x) (g : Nat) (cs : Array Value) (hx : a.eval x = .pointer (some ⟨g, 0, none⟩)) (hV : Var w g ty cs) (d : TypeDesc) (hu : P.underlying ty = some d) (hd : d.isRow = true) (hi : (P.info? ty).map (·.size) = some cs.size)
    (h : wpList P ops Q rest (a.put op.dst (.agg cs)) w) : wpList P ops Q (op :: rest) a w := by
  refine wpList_load_mid hgd ty x ho g 0 hx cs.toList d (fun j v hv => ?_) hu hd (by simpa using hi) (by simpa using h)
  rw [Nat.zero_add, hV.cell j]
  simpa using hv
theorem wpList_storeV (hgd : op.guard = none) (ty : TypeId) (x y : Operand) (ho : op.op = .store ty x y) (g : Nat) (cs old : Array Value) (hx : a.eval x = .pointer (some ⟨g, 0, none⟩)) (hy : a.eval y = .agg cs) (hV : Var w g ty old) (hi : (P.info? ty).map (·.size) = some cs.size) (hs : old.size = cs.size) (h1 : cs.all (·.oneCell') = true)
    (h : ∀ w', Var w' g ty cs → (∀ b, b ≠ g → w'.heap[b]? = w.heap[b]?) → Below g w w' → w'.heap.size = w.heap.size → wpList P ops Q rest (a.put op.dst undef) w') : wpList P ops Q (op :: rest) a w :=
  wpList_store_row hgd ty x y ho g cs hx hy ty old hV hi hs h1 (h _ (setRow_heap w g old cs ty (0, 0) hV) (fun b hb => setRow_other w g b cs hb) ⟨rfl, rfl, rfl, by simp, fun k hk => setRow_other w g k cs (by omega)⟩ (by simp))
theorem load_var {w : World} {g : Nat} {ty : TypeId} {cs : Array Value} (hV : Var w g ty cs) (d : TypeDesc) (hu : P.underlying ty = some d) (hd : d.isRow = true) (hi : (P.info? ty).map (·.size) = some cs.size) : (loadVar ty ⟨g, 0, none⟩).run P w = .ok (.agg cs) w := by
  have := run_loadVar_mid (P := P) w g 0 ty cs.toList d (fun j v hv => by rw [Nat.zero_add, hV.cell j]; simpa using hv) hu hd (by simpa using hi)
  simpa using this
end

/-- One step of the sum, bit by bit; a byte's row of the table. -/
def stp (r : Nat) : Nat := r / 2 ^^^ (r % 2 * 3988292384)
def stps : Nat → Nat → Nat
  | 0, r => r
  | n + 1, r => stp (stps n r)
def tbl (i : Nat) : Nat := stps 8 i
theorem stp_lt {r : Nat} (h : r < 4294967296) : stp r < 4294967296 := by
  unfold stp
  have h2 : r % 2 * 3988292384 < 2 ^ 32 := by omega
  exact Nat.xor_lt_two_pow (n := 32) (by omega) h2
theorem stps_lt {r : Nat} (h : r < 4294967296) : ∀ n, stps n r < 4294967296
  | 0 => h
  | n + 1 => stp_lt (stps_lt h n)
theorem stp_walk {r : Nat} (hr : r < 4294967296) : bits .xor .u32 ((r : Int) / 2) ((r : Int) % 2 * 3988292384) = ((stp r : Nat) : Int) := by
  have := u32_xor_nat (r / 2) (r % 2 * 3988292384) (by omega) (by omega)
  unfold stp
  rw [← this]
  congr 1
def z256 : Array Value := Array.replicate 256 (.int .u32 0)
def tab : Array Value := ((List.range 256).map fun i => Value.int .u32 (tbl i : Int)).toArray

theorem results_cell1 {fn : Func} {p : Tmp} {ty : TypeId} (h : fn.results = #[.cell p ty]) (tmps : Array Value) (P : Program) (w : World) :
    (results fn tmps).run P w = ((asAddr (tmps.getD p undef)).run P w).andThen fun a w₁ => (loadVar ty a).run P w₁ := by
  simp only [results, h]
  simp [Sem.run_bind, Result.andThen]
theorem tab_cells : tab.all (·.oneCell') = true := by
  rw [Array.all_eq_true_iff_forall_mem]
  intro v hv
  unfold tab at hv
  rw [List.mem_toArray, List.mem_map] at hv
  obtain ⟨i, _, rfl⟩ := hv
  rfl

set_option maxRecDepth 100000 in
set_option maxHeartbeats 800000 in
theorem sums_any (w : World) : Calls Try.prog 37 #[] w fun e w' => e = .returned (.agg tab) ∧ Below w.heap.size w w' := by
  have hz : ∀ W, (zeroValue 85).run Try.prog W = .ok (.agg z256) W := (zero_of_info (P := Try.prog) (t := 85) (v := .agg z256) (n := 256) (by kernel_rfl)).1
  go_enter Try.func37, Try.ntmps37
  go_wp2_with fail
  go_loopw [5] (fun t wr => ∃ (k : Nat) (cs : Array Value), k ≤ 256 ∧ t = .int .i64 (k : Int) ∧ Var wr w.heap.size 85 z256 ∧ Var wr (w.heap.size + 1) 85 cs ∧ cs.size = 256 ∧ Hid (∀ j, j < k → cs[j]? = some (.int .u32 (tbl j : Int))) ∧ Below w.heap.size w wr) (fun t _ => 256 - (intOf t).toNat)
  case atStart => exact ⟨0, z256, by omega, rfl, (Var.new _ _ _).alloc _, Var.new' _ _ _ (by simp), by simp [z256], Lib.hid (fun j hj => by omega), by go_grown⟩
  case round =>
    obtain ⟨k, cs, hk, rfl, hR, hT, hsz, HC, hB⟩ := hrel
    rcases Nat.lt_or_ge k 256 with hlt | hge
    · have hk' : (k : Int) < 256 := by omega
      go_wp2_with fail
      go_loop [3, 10] (fun r t => ∃ n : Nat, n ≤ 8 ∧ t = .int .i64 (n : Int) ∧ r = .int .u32 ((stps n k : Nat) : Int)) (fun _ t => 8 - (intOf t).toNat)
      case atStart => exact ⟨0, by omega, rfl, rfl⟩
      case round =>
        obtain ⟨n, hn, rfl, rfl⟩ := hrel
        rcases Nat.lt_or_ge n 8 with hlt2 | hge2
        · have hr := stps_lt (r := k) (by omega) n
          obtain ⟨r, hr'⟩ : ∃ z, stps n k = z := ⟨_, rfl⟩
          have hs : stps (n + 1) k = stp r := by rw [← hr']; rfl
          rw [hr'] at hr ⊢
          have ha : bits .and .u32 (r : Int) 1 = ((r % 2 : Nat) : Int) := by
            have := u32_and_nat r 1 hr (by omega)
            rw [Nat.and_one_is_mod] at this
            exact this
          have HS := Lib.hid hs
          have HX := Lib.hid (stp_walk hr)
          clear hs hr'
          go_wp2_with fail
          go_round
          case rel => exact ⟨n + 1, by omega, by go_num, congrArg (Value.int .u32) (by rw [HS.out]; exact HX.out)⟩
          case measure => simp [intOf]; omega
        · obtain rfl : n = 8 := by omega
          have hT0 : tbl k = stps 8 k := rfl
          rw [← hT0]
          clear hT0
          obtain ⟨x, hx⟩ : ∃ z, tbl k = z := ⟨_, rfl⟩
          rw [hx]
          have HX := Lib.hid hx
          clear hx
          obtain ⟨u, hu⟩ : ∃ u, wr.cell? ⟨w.heap.size + 1, k, none⟩ = some u := ⟨cs[k], (hT.cell k).trans (Array.getElem?_eq_getElem (by omega))⟩
          have hf := hT.free k
          have har : Try.prog.arrayLen 85 = 256 := by kernel_rfl
          have hkl : (k : Int) < 256 := by omega
          go_wp2_with fail
          go_roundw
          case rel =>
            refine ⟨k + 1, _, by omega, by go_num, hR.far (by simp) _, hT.store k _, by simp [hsz], Lib.hid (fun j hj => ?_), hB.setCell (p := ⟨w.heap.size + 1, k, none⟩) (by simp) _⟩
            rw [Array.getElem?_setIfInBounds]
            by_cases hjk : k = j
            · subst hjk
              rw [if_pos rfl, if_pos (by omega), HX.out]
            · rw [if_neg hjk]
              exact HC.out j (by omega)
          case measure => simp [intOf]; omega
    · obtain rfl : k = 256 := by omega
      have hcs : cs = tab := by
        apply Array.ext_getElem?
        intro i
        by_cases hi : i < 256
        · rw [HC.out i hi]
          simp [tab, hi]
        · rw [Array.getElem?_eq_none (by omega), Array.getElem?_eq_none (by simp [tab]; omega)]
      subst hcs
      clear HC
      go_wp2_with (first | (refine wpList_loadV rfl 85 (.tmp 1) rfl (w.heap.size + 1) tab rfl hT _ Try.underlying85 rfl (by kernel_rfl) ?_) | (refine wpList_storeV rfl 85 (.tmp 0) (.tmp 24) rfl w.heap.size tab z256 rfl rfl hR (by kernel_rfl) (by simp [z256, tab]) tab_cells ?_; intro w2 hR2 hO2 hB2 hz2))
      have hld := load_var (P := Try.prog) hR2 _ Try.underlying85 rfl (by kernel_rfl)
      refine bodyPost_ret (v := .agg tab) ?_ rfl ⟨rfl, hB.trans hB2⟩
      rw [results_cell1 Try.results37]
      refine Eq.trans (congrArg (Result.andThen · _) (show (asAddr (.pointer (some ⟨w.heap.size, 0, none⟩))).run Try.prog w2 = .ok ⟨w.heap.size, 0, none⟩ w2 from rfl)) ?_
      exact hld

end Go.Proofs.Ytiejgandjlldjaa
