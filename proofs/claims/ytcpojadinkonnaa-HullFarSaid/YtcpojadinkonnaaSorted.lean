/-
  The program's Sorted.
-/
import Derived.Test.YtcpojadinkonnaaSortP
import Derived.Test.YtcpojadinkonnaaSeq
namespace Go.Proofs.Ytcpojadinkonnaa
open Go.RowKit

set_option maxHeartbeats 1000000 in
theorem sortedFunc_any (Bx M cp : Nat) (A : Option Addr) (ps : List Pt) (w : World) (hBx : Var w Bx 23 #[.slice A ps.length cp]) (hP : PtsAt M w (.slice A ps.length cp) ps) (hM : M ≤ w.heap.size) (hlen : ps.length * 8 ≤ 140737488355328) :
    Calls Try.prog 68 #[.func (.func 90) #[] #[.pointer (some ⟨Bx, 0, none⟩)], .func (.func 70) #[] #[]] w fun e w' => ∃ A' c' qs, e = .returned (.slice A' ps.length c') ∧ qs.Perm ps ∧ Ord qs ∧ w'.ownsRow w.heap.size 32 2 (.slice A' ps.length c') ps.length (flat qs) ∧ Below w.heap.size w w' := by
  have H := Lib.hid (collect_any Bx M cp A ps w hBx hP hM hlen)
  have HS := Lib.hid (fun (b c : Nat) (A : Option Addr) (W : World) h => sortFunc_any ps b ps.length c A rfl (by omega) W h)
  clear hBx hP
  go_enter Try.func68, Try.ntmps68
  go_wp2_with fail
  refine H.out.mono ?_
  rintro e w1 ⟨A', c', rfl, h1, h2⟩
  have HR := Lib.hid (And.intro h1 h2)
  clear h1 h2
  go_wp2_with fail
  refine (HS.out _ _ _ _ HR.out.1).mono ?_
  rintro e w2 ⟨rfl, qs, hp, ho, hr, hg⟩
  have hB : Below w.heap.size w w2 := HR.out.2.grown hg HR.out.2.size (fun k e => (HR.out.1.lt k e).1)
  have HR2 := Lib.hid (And.intro hp (And.intro ho (And.intro hr hB)))
  clear hp ho hr hg hB
  go_wp2_with fail
  go_ret
  exact ⟨A', c', qs, rfl, HR2.out⟩

set_option maxHeartbeats 1000000 in
theorem sorted_any (M cp n : Nat) (A : Option Addr) (ps : List Pt) (hn : ps.length = n) (w : World) (hP : PtsAt M w (.slice A n cp) ps) (hM : M ≤ w.heap.size) (hlen : n * 8 ≤ 140737488355328) :
    Calls Try.prog 42 #[.slice A n cp] w fun e w' => ∃ A' c' qs, e = .returned (.slice A' n c') ∧ qs.Perm ps ∧ Ord qs ∧ w'.ownsRow w.heap.size 32 2 (.slice A' n c') n (flat qs) ∧ Below w.heap.size w w' := by
  subst hn
  have H := Lib.hid (values_any A ps.length cp w)
  have HP := Lib.hid (And.intro hP hM)
  clear hP
  go_enter Try.func42, Try.ntmps42
  go_wp2_with fail
  refine H.out.mono ?_
  rintro e w1 ⟨rfl, hv, hb⟩
  have hz := hb.size
  have HV := Lib.hid (And.intro (HP.out.1.below (hb.mono HP.out.2)) (And.intro hv hb))
  clear hv hb
  go_wp2_with fail
  refine (sortedFunc_any w.heap.size M cp A ps w1 HV.out.2.1 HV.out.1 (by omega) hlen).mono ?_
  rintro e w2 ⟨A', c', qs, rfl, hp, ho, hr, hB⟩
  have HR2 := Lib.hid (And.intro hp (And.intro ho (And.intro (own_baseS hr hz) (HV.out.2.2.trans (hB.mono hz)))))
  clear hp ho hr hB
  go_wp2_with fail
  go_ret
  exact ⟨A', c', qs, rfl, HR2.out⟩

end Go.Proofs.Ytcpojadinkonnaa
