/-
  No cell of these rows narrows 'for every input' (looked for: loops, veiled, ifaces, maps, wideKeys, modest, calm, conditions, laid).
  DERIVED. THE GIVEN ROWS OF THIS SEAT. 4 by the template 'for every input the law returns true; each argument reads behind the call as it read before'; 0 by the template 'total and deterministic' (their statements: YtpjgghakeaajbaaTotals.lean).
  GIVEN WITH THE SEED: the statements are not yours to turn. If you find one false, say at which input.
  Laid BY PROGRAM, IN A SANDBOX (cutbox-rows.mjs): the forced cells as the released guide's own fill.sh prints them over the translation ae1c3648f67e3be6… (all of the seat's roots in one cut). By AI agents, Wed Nov 11 2026. No macro, syntax, notation, axiom, sorry.
-/
import Derived.Test.YtpjgghakeaajbaaChecked
import GoSem.Claim
import GoSem.ClaimJoined
import GoSem.ClaimMapViews
import Derived.JoinedTies
import Derived.KernelRfl
namespace Go.Proofs.Ytpjgghakeaajbaa
/- THE CELL 'sum', in the pinned program and in every row, IS THE sha256 OF THE DUMP (.gsa) THAT YtpjgghakeaajbaaProg.lean LOADS. Nothing in Lean hashes anything: it is a label: what it is worth is what the hold of that sum in a sandbox is worth. -/
noncomputable def Try.pinned : Pinned := { name := "ytpjgghakeaajbaa", sum := "ae1c3648f67e3be664c7a4a3c0695c6b46df14163d792418b4c49b06fc2e0a02", checked := Try.checked }
namespace Rows
def none {H : Type} : Left H := { results := [], args := [] }

/-- 'paddocklaw05.SegMeets': WHATEVER THE INPUT: true; the input reads as it did. -/
def segMeetsSpec : ChangeSpec := { name := "segMeets", fn := fun _ => fun
  | [d] => { results := [.lit (.bool true)], args := [d] }
  | _ => none }
def segMeetsRow : OpenClaim := { program := "ytpjgghakeaajbaa", sum := "ae1c3648f67e3be664c7a4a3c0695c6b46df14163d792418b4c49b06fc2e0a02", func := "paddock/paddocklaw05.SegMeets", spec := "segMeets", apart := false }
def SegMeetsSaid : Prop := segMeetsRow.holds Try.pinned (OpenSpec.ofChange segMeetsSpec)

/-- ITS FALSE NEIGHBOUR: 'it returns false'. Refute it at one input. -/
def segMeetsWrong : ChangeSpec := { name := "segMeets", fn := fun _ => fun
  | [d] => { results := [.lit (.bool false)], args := [d] }
  | _ => none }
def SegMeetsWrongFalsely : Prop := segMeetsRow.holds Try.pinned (OpenSpec.ofChange segMeetsWrong)

/-- 'paddocklaw05.SegSides': WHATEVER THE INPUT: true; the input reads as it did. -/
def segSidesSpec : ChangeSpec := { name := "segSides", fn := fun _ => fun
  | [d1, d2, d3] => { results := [.lit (.bool true)], args := [d1, d2, d3] }
  | _ => none }
def segSidesRow : OpenClaim := { program := "ytpjgghakeaajbaa", sum := "ae1c3648f67e3be664c7a4a3c0695c6b46df14163d792418b4c49b06fc2e0a02", func := "paddock/paddocklaw05.SegSides", spec := "segSides", apart := false }
def SegSidesSaid : Prop := segSidesRow.holds Try.pinned (OpenSpec.ofChange segSidesSpec)

/-- ITS FALSE NEIGHBOUR: 'it returns false'. Refute it at one input. -/
def segSidesWrong : ChangeSpec := { name := "segSides", fn := fun _ => fun
  | [d1, d2, d3] => { results := [.lit (.bool false)], args := [d1, d2, d3] }
  | _ => none }
def SegSidesWrongFalsely : Prop := segSidesRow.holds Try.pinned (OpenSpec.ofChange segSidesWrong)

/-- 'paddocklaw05.SegNears': WHATEVER THE INPUT: true; the input reads as it did. -/
def segNearsSpec : ChangeSpec := { name := "segNears", fn := fun _ => fun
  | [d1, d2] => { results := [.lit (.bool true)], args := [d1, d2] }
  | _ => none }
def segNearsRow : OpenClaim := { program := "ytpjgghakeaajbaa", sum := "ae1c3648f67e3be664c7a4a3c0695c6b46df14163d792418b4c49b06fc2e0a02", func := "paddock/paddocklaw05.SegNears", spec := "segNears", apart := false }
def SegNearsSaid : Prop := segNearsRow.holds Try.pinned (OpenSpec.ofChange segNearsSpec)

/-- ITS FALSE NEIGHBOUR: 'it returns false'. Refute it at one input. -/
def segNearsWrong : ChangeSpec := { name := "segNears", fn := fun _ => fun
  | [d1, d2] => { results := [.lit (.bool false)], args := [d1, d2] }
  | _ => none }
def SegNearsWrongFalsely : Prop := segNearsRow.holds Try.pinned (OpenSpec.ofChange segNearsWrong)

/-- 'paddocklaw05.SegMoved': WHATEVER THE INPUT: true; the input reads as it did. -/
def segMovedSpec : ChangeSpec := { name := "segMoved", fn := fun _ => fun
  | [d1, d2, d3] => { results := [.lit (.bool true)], args := [d1, d2, d3] }
  | _ => none }
def segMovedRow : OpenClaim := { program := "ytpjgghakeaajbaa", sum := "ae1c3648f67e3be664c7a4a3c0695c6b46df14163d792418b4c49b06fc2e0a02", func := "paddock/paddocklaw05.SegMoved", spec := "segMoved", apart := false }
def SegMovedSaid : Prop := segMovedRow.holds Try.pinned (OpenSpec.ofChange segMovedSpec)

/-- ITS FALSE NEIGHBOUR: 'it returns false'. Refute it at one input. -/
def segMovedWrong : ChangeSpec := { name := "segMoved", fn := fun _ => fun
  | [d1, d2, d3] => { results := [.lit (.bool false)], args := [d1, d2, d3] }
  | _ => none }
def SegMovedWrongFalsely : Prop := segMovedRow.holds Try.pinned (OpenSpec.ofChange segMovedWrong)

/- THE SECOND FORM. 'bulk': how many values and letters a reading holds, each counted each time it is reached (what is shared counts as often as it is met; a slice's spare places count too). A statement '..UptoSaid' is the law's where the arguments, and the package variables that the reading takes, are together of bulk at most 1048576: NARROWER than '..Said'. Prove '..Said' where nothing that the law and all that it calls make is longer than what came in: it says more and counts as full. Else prove '..UptoSaid'. A law counts once. -/
mutual
def uptoBulk {H : Type} : DataW H → Nat
  | .lit (.string bytes) => bytes.length + 1
  | .lit _ => 1
  | .nil => 1
  | .ptr d => uptoBulk d + 1
  | .slice elems spare => uptoBulkAll elems + uptoBulkAll spare + 1
  | .agg parts => uptoBulkAll parts + 1
  | .iface _ d => uptoBulk d + 1
  | .map entries => uptoBulkEntries entries + 1
  | .held _ => 1
def uptoBulkAll {H : Type} : List (DataW H) → Nat
  | [] => 0
  | d :: r => uptoBulk d + uptoBulkAll r
def uptoBulkEntries {H : Type} : List (Lit × DataW H) → Nat
  | [] => 0
  | x :: r => uptoBulkEntry x + uptoBulkEntries r
def uptoBulkEntry {H : Type} : Lit × DataW H → Nat
  | (.string bytes, d) => bytes.length + uptoBulk d + 1
  | (_, d) => uptoBulk d + 1
 end
def uptoSmall : (H : Type) → List (DataW H) → Bool := fun _ ds => decide (uptoBulkAll ds ≤ 1048576)
def OpenSpec.upto (s : _root_.Go.ChangeSpec) : _root_.Go.OpenSpec := { _root_.Go.OpenSpec.ofChange s with cond := some uptoSmall }

/-- 'paddocklaw05.SegMeets', WHERE WHAT IT READS IS OF BULK AT MOST 1048576: true; the input reads as it did. -/
def segMeetsUptoRow : OpenClaim := { program := "ytpjgghakeaajbaa", sum := "ae1c3648f67e3be664c7a4a3c0695c6b46df14163d792418b4c49b06fc2e0a02", func := "paddock/paddocklaw05.SegMeets", spec := "segMeets", apart := false, narrowed := true }
def SegMeetsUptoSaid : Prop := segMeetsUptoRow.holds Try.pinned (OpenSpec.upto segMeetsSpec)

/-- 'paddocklaw05.SegSides', WHERE WHAT IT READS IS OF BULK AT MOST 1048576: true; the input reads as it did. -/
def segSidesUptoRow : OpenClaim := { program := "ytpjgghakeaajbaa", sum := "ae1c3648f67e3be664c7a4a3c0695c6b46df14163d792418b4c49b06fc2e0a02", func := "paddock/paddocklaw05.SegSides", spec := "segSides", apart := false, narrowed := true }
def SegSidesUptoSaid : Prop := segSidesUptoRow.holds Try.pinned (OpenSpec.upto segSidesSpec)

/-- 'paddocklaw05.SegNears', WHERE WHAT IT READS IS OF BULK AT MOST 1048576: true; the input reads as it did. -/
def segNearsUptoRow : OpenClaim := { program := "ytpjgghakeaajbaa", sum := "ae1c3648f67e3be664c7a4a3c0695c6b46df14163d792418b4c49b06fc2e0a02", func := "paddock/paddocklaw05.SegNears", spec := "segNears", apart := false, narrowed := true }
def SegNearsUptoSaid : Prop := segNearsUptoRow.holds Try.pinned (OpenSpec.upto segNearsSpec)

/-- 'paddocklaw05.SegMoved', WHERE WHAT IT READS IS OF BULK AT MOST 1048576: true; the input reads as it did. -/
def segMovedUptoRow : OpenClaim := { program := "ytpjgghakeaajbaa", sum := "ae1c3648f67e3be664c7a4a3c0695c6b46df14163d792418b4c49b06fc2e0a02", func := "paddock/paddocklaw05.SegMoved", spec := "segMoved", apart := false, narrowed := true }
def SegMovedUptoSaid : Prop := segMovedUptoRow.holds Try.pinned (OpenSpec.upto segMovedSpec)

end Rows
end Go.Proofs.Ytpjgghakeaajbaa
