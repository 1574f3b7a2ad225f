/-
  The reference's Bounds: the least box around points, whatever their number; and its Join.
-/
import Derived.Test.YtegblpoamjpdhaaJoin
namespace Go.Proofs.Ytegblpoamjpdhaa
open Go.RowKit

/-- A slice of points: its cells. -/
def Pts (w : World) (A : Option Addr) (ps : List (Int × Int)) : Prop :=
  ∀ i p, ps[i]? = some p → ∃ b o, A = some ⟨b, o, none⟩ ∧ b < w.heap.size ∧ w.cell? ⟨b, o + i * 2, none⟩ = some (.int .i32 p.1) ∧ w.cell? ⟨b, o + i * 2 + 1, none⟩ = some (.int .i32 p.2)
theorem Pts.below {w w' : World} {A : Option Addr} {ps : List (Int × Int)} (h : Pts w A ps) (hb : Below w.heap.size w w') : Pts w' A ps := fun i p hp => by
  obtain ⟨b, o, e, hlt, h0, h1⟩ := h i p hp
  exact ⟨b, o, e, Nat.lt_of_lt_of_le hlt hb.size, (hb.cell (p := ⟨b, o + i * 2, none⟩) hlt).trans h0, (hb.cell (p := ⟨b, o + i * 2 + 1, none⟩) hlt).trans h1⟩

/-- A box, one point more. -/
def grow (q : Int × Int × Int × Int) (p : Int × Int) : Int × Int × Int × Int := (min q.1 p.1, min q.2.1 p.2, max q.2.2.1 p.1, max q.2.2.2 p.2)
/-- The least box around points; of none: all noughts. -/
def bnd : List (Int × Int) → Int × Int × Int × Int
  | [] => (0, 0, 0, 0)
  | p :: t => t.foldl grow (p.1, p.2, p.1, p.2)
theorem bnd_snoc {ps : List (Int × Int)} (h : 0 < ps.length) (p : Int × Int) : bnd (ps ++ [p]) = grow (bnd ps) p := by
  cases ps with
  | nil => simp at h
  | cons q t => simp [bnd]
theorem take_snoc' {ps : List (Int × Int)} {k : Nat} {p : Int × Int} (h : ps[k]? = some p) : ps.take (k + 1) = ps.take k ++ [p] := by
  rw [List.take_add_one, h]; rfl
theorem grow_eq {a b c d x y a' b' c' d' : Int} (h1 : min a x = a') (h2 : min b y = b') (h3 : max c x = c') (h4 : max d y = d') : grow (a, b, c, d) (x, y) = (a', b', c', d') := by
  unfold grow; simp only [h1, h2, h3, h4]

section
variable {w : World} {g : Nat} {t : TypeId} {a b c d : Value}
theorem box0 (h : Var w g t #[a, b, c, d]) (u : Value) : Var (w.setCell ⟨g, 0, none⟩ u) g t #[u, b, c, d] := h.store 0 u
theorem box1 (h : Var w g t #[a, b, c, d]) (u : Value) : Var (w.setCell ⟨g, 1, none⟩ u) g t #[a, u, c, d] := h.store 1 u
theorem box2 (h : Var w g t #[a, b, c, d]) (u : Value) : Var (w.setCell ⟨g, 2, none⟩ u) g t #[a, b, u, d] := h.store 2 u
theorem box3 (h : Var w g t #[a, b, c, d]) (u : Value) : Var (w.setCell ⟨g, 3, none⟩ u) g t #[a, b, c, u] := h.store 3 u
end

set_option maxHeartbeats 1000000 in
set_option maxRecDepth 100000 in
theorem bounds_ref {w0 : World} {A : Option Addr} {n c : Nat} {ps : List (Int × Int)} (hp : Pts w0 A ps) (hl : ps.length = n) (hn : n ≤ 70000000000000) {q0 q1 q2 q3 : Int} (hq : bnd ps = (q0, q1, q2, q3)) (w : World) (hw : Below w0.heap.size w0 w) :
    Calls Try.prog 42 #[.slice A n c] w fun e w' => e = .returned (.tuple #[(Value.agg #[.int .i32 (q0), .int .i32 (q1), .int .i32 (q2), .int .i32 (q3)]), .bool (decide (0 < n))]) ∧ Below w.heap.size w w' := by
  have hp1 := hp.below hw
  have HQ := Lib.hid (And.intro hq hl)
  clear hp hw hq hl
  go_enter Try.func42, Try.ntmps42
  go_wp2_with fail
  refine wp_gen (fun W hW => ?_)
  have vR : Var W w.heap.size 27 #[.int .i32 0, .int .i32 0, .int .i32 0, .int .i32 0] := by rw [hW]; exact (Var.new _ _ _).alloc _
  have vX : Var W (w.heap.size + 1) 27 #[.int .i32 0, .int .i32 0, .int .i32 0, .int .i32 0] := by rw [hW]; exact Var.new' _ _ _ (by simp)
  have hBW : Below w.heap.size w W := by rw [hW]; go_grown
  clear hW
  go_loopw [5] (fun t wr => ∃ (k : Nat) (a b c d : Int), k ≤ n ∧ t = .int .i64 (k : Int) ∧ bnd (ps.take k) = (a, b, c, d) ∧ Var wr (w.heap.size + 1) 27 #[.int .i32 a, .int .i32 b, .int .i32 c, .int .i32 d] ∧ Below (w.heap.size + 1) W wr)
    (fun t _ => n - (intOf t).toNat)
  case atStart => exact ⟨0, 0, 0, 0, 0, by omega, rfl, rfl, vX, Below.refl _ _⟩
  case round =>
    obtain ⟨k, a, b, c', d, hk, rfl, hb, hVr, hbel⟩ := hrel
    have HB := Lib.hid hb
    clear hb
    have x0 : wr.cell? ⟨w.heap.size + 1, 0, none⟩ = some (.int .i32 a) := hVr.cell 0
    have x1 : wr.cell? ⟨w.heap.size + 1, 1, none⟩ = some (.int .i32 b) := hVr.cell 1
    have x2 : wr.cell? ⟨w.heap.size + 1, 2, none⟩ = some (.int .i32 c') := hVr.cell 2
    have x3 : wr.cell? ⟨w.heap.size + 1, 3, none⟩ = some (.int .i32 d) := hVr.cell 3
    have f0 := hVr.free 0
    have f1 := hVr.free 1
    have f2 := hVr.free 2
    have f3 := hVr.free 3
    have vR' := vR.below hbel (by omega)
    have r0 : wr.cell? ⟨w.heap.size, 0, none⟩ = some (.int .i32 0) := vR'.cell 0
    have r1 : wr.cell? ⟨w.heap.size, 1, none⟩ = some (.int .i32 0) := vR'.cell 1
    have r2 : wr.cell? ⟨w.heap.size, 2, none⟩ = some (.int .i32 0) := vR'.cell 2
    have r3 : wr.cell? ⟨w.heap.size, 3, none⟩ = some (.int .i32 0) := vR'.cell 3
    have g0 := vR'.free 0
    have g1 := vR'.free 1
    have g2 := vR'.free 2
    have g3 := vR'.free 3
    have z1 := hVr.lt
    have z0 := vR'.lt
    have hBr : Below w.heap.size w wr := hBW.trans (hbel.mono (by omega))
    rcases Nat.lt_or_ge k n with hlt | hge
    · obtain ⟨⟨x, y⟩, hxy⟩ : ∃ p, ps[k]? = some p := ⟨_, List.getElem?_eq_getElem (by rw [HQ.out.2]; exact hlt)⟩
      obtain ⟨bb, o, rfl, hbb, h0, h1⟩ := (hp1.below hBr) k (x, y) hxy
      have hne : ¬ bb = wr.heap.size := by omega
      have HX := Lib.hid hxy
      clear hxy
      simp only at h0 h1
      rcases Nat.eq_zero_or_pos k with hk0 | hk0
      · have hk0' : ((k : Int) == 0) = true := by simp; omega
        have HK := Lib.hid hk0
        clear hk0
        go_wp2_with fail
        go_roundw
        case rel =>
          refine ⟨k + 1, x, y, x, y, by omega, congrArg (Value.int .i64) (by omega), ?_, ?_, by go_grown⟩
          · have hk0 := HK.out
            subst hk0
            rw [take_snoc' HX.out]
            rfl
          · with_reducible exact Var.alloc (box3 (box2 (box1 (box0 hVr _) _) _) _) _
        case measure => simp [intOf]; omega
      · have hk0' : ((k : Int) == 0) = false := by simp; omega
        have hbb' : bnd (ps.take (k + 1)) = grow (a, b, c', d) (x, y) := by
          rw [take_snoc' HX.out, bnd_snoc (by rw [List.length_take, HQ.out.2]; omega), HB.out]
        have HG := Lib.hid hbb'
        clear hbb'
        go_wp2_with fail
        all_goals
          go_roundw
          case rel =>
            refine ⟨k + 1, ?_, ?_, ?_, ?_, by omega, congrArg (Value.int .i64) (by omega), ?_, ?_, ?_⟩
            rotate_left 5
            · first | with_reducible exact Var.alloc hVr _ | with_reducible exact Var.alloc (box3 hVr _) _ | with_reducible exact Var.alloc (box2 hVr _) _ | with_reducible exact Var.alloc (box3 (box2 hVr _) _) _ | with_reducible exact Var.alloc (box1 hVr _) _ | with_reducible exact Var.alloc (box3 (box1 hVr _) _) _ | with_reducible exact Var.alloc (box2 (box1 hVr _) _) _ | with_reducible exact Var.alloc (box3 (box2 (box1 hVr _) _) _) _ | with_reducible exact Var.alloc (box0 hVr _) _ | with_reducible exact Var.alloc (box3 (box0 hVr _) _) _ | with_reducible exact Var.alloc (box2 (box0 hVr _) _) _ | with_reducible exact Var.alloc (box3 (box2 (box0 hVr _) _) _) _ | with_reducible exact Var.alloc (box1 (box0 hVr _) _) _ | with_reducible exact Var.alloc (box3 (box1 (box0 hVr _) _) _) _ | with_reducible exact Var.alloc (box2 (box1 (box0 hVr _) _) _) _ | with_reducible exact Var.alloc (box3 (box2 (box1 (box0 hVr _) _) _) _) _
            · go_grown
            · exact HG.out.trans (grow_eq (by omega) (by omega) (by omega) (by omega))
          case measure => simp [intOf]; omega
    · have hkn : k = n := by omega
      have hfin : (a, b, c', d) = (q0, q1, q2, q3) := by
        rw [← HB.out, ← HQ.out.1, List.take_of_length_le (by rw [HQ.out.2]; omega)]
      simp only [Prod.mk.injEq] at hfin
      obtain ⟨rfl, rfl, rfl, rfl⟩ := hfin
      go_wp2_with fail
      refine bodyPost_ret (by simp [results, Try.results42, go_sem, *]; try rfl) rfl ?_
      exact ⟨rfl, by go_grown⟩

end Go.Proofs.Ytegblpoamjpdhaa
