/-
  No cell of these rows narrows 'for every input' (looked for: loops, veiled, ifaces, maps, wideKeys, modest, calm, conditions, laid).
  DERIVED. THE GIVEN ROWS OF THIS SEAT. 6 by the template 'for every input the law returns true; each argument reads behind the call as it read before'; 0 by the template 'total and deterministic' (their statements: YtegblpoamjpdhaaTotals.lean).
  GIVEN WITH THE SEED: the statements are not yours to turn. If you find one false, say at which input.
  Laid BY PROGRAM, IN A SANDBOX (cutbox-rows.mjs): the forced cells as the released guide's own fill.sh prints them over the translation a095d3ee7bccdba5… (all of the seat's roots in one cut). By AI agents, Wed Nov 11 2026. No macro, syntax, notation, axiom, sorry.
-/
import Derived.Test.YtegblpoamjpdhaaChecked
import GoSem.Claim
import GoSem.ClaimJoined
import GoSem.ClaimMapViews
import Derived.JoinedTies
import Derived.KernelRfl
namespace Go.Proofs.Ytegblpoamjpdhaa
/- THE CELL 'sum', in the pinned program and in every row, IS THE sha256 OF THE DUMP (.gsa) THAT YtegblpoamjpdhaaProg.lean LOADS. Nothing in Lean hashes anything: it is a label: what it is worth is what the hold of that sum in a sandbox is worth. -/
noncomputable def Try.pinned : Pinned := { name := "ytegblpoamjpdhaa", sum := "a095d3ee7bccdba59e78185671a25c2bbbf9f102fee8769ecd0a11b08bcd0711", checked := Try.checked }
namespace Rows
def none {H : Type} : Left H := { results := [], args := [] }

/-- 'paddocklaw04.PointNames': WHATEVER THE INPUT: true; the input reads as it did. -/
def pointNamesSpec : ChangeSpec := { name := "pointNames", fn := fun _ => fun
  | [] => { results := [.lit (.bool true)], args := [] }
  | _ => none }
def pointNamesRow : OpenClaim := { program := "ytegblpoamjpdhaa", sum := "a095d3ee7bccdba59e78185671a25c2bbbf9f102fee8769ecd0a11b08bcd0711", func := "paddock/paddocklaw04.PointNames", spec := "pointNames", apart := false }
def PointNamesSaid : Prop := pointNamesRow.holds Try.pinned (OpenSpec.ofChange pointNamesSpec)

/-- ITS FALSE NEIGHBOUR: 'it returns false'. Refute it at one input. -/
def pointNamesWrong : ChangeSpec := { name := "pointNames", fn := fun _ => fun
  | [] => { results := [.lit (.bool false)], args := [] }
  | _ => none }
def PointNamesWrongFalsely : Prop := pointNamesRow.holds Try.pinned (OpenSpec.ofChange pointNamesWrong)

/-- 'paddocklaw04.PointBoxes': WHATEVER THE INPUT: true; the input reads as it did. -/
def pointBoxesSpec : ChangeSpec := { name := "pointBoxes", fn := fun _ => fun
  | [d1, d2, d3] => { results := [.lit (.bool true)], args := [d1, d2, d3] }
  | _ => none }
def pointBoxesRow : OpenClaim := { program := "ytegblpoamjpdhaa", sum := "a095d3ee7bccdba59e78185671a25c2bbbf9f102fee8769ecd0a11b08bcd0711", func := "paddock/paddocklaw04.PointBoxes", spec := "pointBoxes", apart := false }
def PointBoxesSaid : Prop := pointBoxesRow.holds Try.pinned (OpenSpec.ofChange pointBoxesSpec)

/-- ITS FALSE NEIGHBOUR: 'it returns false'. Refute it at one input. -/
def pointBoxesWrong : ChangeSpec := { name := "pointBoxes", fn := fun _ => fun
  | [d1, d2, d3] => { results := [.lit (.bool false)], args := [d1, d2, d3] }
  | _ => none }
def PointBoxesWrongFalsely : Prop := pointBoxesRow.holds Try.pinned (OpenSpec.ofChange pointBoxesWrong)

/-- 'paddocklaw04.PointTurns': WHATEVER THE INPUT: true; the input reads as it did. -/
def pointTurnsSpec : ChangeSpec := { name := "pointTurns", fn := fun _ => fun
  | [d1, d2] => { results := [.lit (.bool true)], args := [d1, d2] }
  | _ => none }
def pointTurnsRow : OpenClaim := { program := "ytegblpoamjpdhaa", sum := "a095d3ee7bccdba59e78185671a25c2bbbf9f102fee8769ecd0a11b08bcd0711", func := "paddock/paddocklaw04.PointTurns", spec := "pointTurns", apart := false }
def PointTurnsSaid : Prop := pointTurnsRow.holds Try.pinned (OpenSpec.ofChange pointTurnsSpec)

/-- ITS FALSE NEIGHBOUR: 'it returns false'. Refute it at one input. -/
def pointTurnsWrong : ChangeSpec := { name := "pointTurns", fn := fun _ => fun
  | [d1, d2] => { results := [.lit (.bool false)], args := [d1, d2] }
  | _ => none }
def PointTurnsWrongFalsely : Prop := pointTurnsRow.holds Try.pinned (OpenSpec.ofChange pointTurnsWrong)

/-- 'paddocklaw04.PointOrder': WHATEVER THE INPUT: true; the input reads as it did. -/
def pointOrderSpec : ChangeSpec := { name := "pointOrder", fn := fun _ => fun
  | [d] => { results := [.lit (.bool true)], args := [d] }
  | _ => none }
def pointOrderRow : OpenClaim := { program := "ytegblpoamjpdhaa", sum := "a095d3ee7bccdba59e78185671a25c2bbbf9f102fee8769ecd0a11b08bcd0711", func := "paddock/paddocklaw04.PointOrder", spec := "pointOrder", apart := false }
def PointOrderSaid : Prop := pointOrderRow.holds Try.pinned (OpenSpec.ofChange pointOrderSpec)

/-- ITS FALSE NEIGHBOUR: 'it returns false'. Refute it at one input. -/
def pointOrderWrong : ChangeSpec := { name := "pointOrder", fn := fun _ => fun
  | [d] => { results := [.lit (.bool false)], args := [d] }
  | _ => none }
def PointOrderWrongFalsely : Prop := pointOrderRow.holds Try.pinned (OpenSpec.ofChange pointOrderWrong)

/-- 'paddocklaw04.PointExact': WHATEVER THE INPUT: true; the input reads as it did. -/
def pointExactSpec : ChangeSpec := { name := "pointExact", fn := fun _ => fun
  | [d] => { results := [.lit (.bool true)], args := [d] }
  | _ => none }
def pointExactRow : OpenClaim := { program := "ytegblpoamjpdhaa", sum := "a095d3ee7bccdba59e78185671a25c2bbbf9f102fee8769ecd0a11b08bcd0711", func := "paddock/paddocklaw04.PointExact", spec := "pointExact", apart := false }
def PointExactSaid : Prop := pointExactRow.holds Try.pinned (OpenSpec.ofChange pointExactSpec)

/-- ITS FALSE NEIGHBOUR: 'it returns false'. Refute it at one input. -/
def pointExactWrong : ChangeSpec := { name := "pointExact", fn := fun _ => fun
  | [d] => { results := [.lit (.bool false)], args := [d] }
  | _ => none }
def PointExactWrongFalsely : Prop := pointExactRow.holds Try.pinned (OpenSpec.ofChange pointExactWrong)

/-- 'paddocklaw04.PointLists': WHATEVER THE INPUT: true; the input reads as it did. -/
def pointListsSpec : ChangeSpec := { name := "pointLists", fn := fun _ => fun
  | [d] => { results := [.lit (.bool true)], args := [d] }
  | _ => none }
def pointListsRow : OpenClaim := { program := "ytegblpoamjpdhaa", sum := "a095d3ee7bccdba59e78185671a25c2bbbf9f102fee8769ecd0a11b08bcd0711", func := "paddock/paddocklaw04.PointLists", spec := "pointLists", unfollowed := true, recurses := true, apart := false }
def PointListsSaid : Prop := pointListsRow.holds Try.pinned (OpenSpec.ofChange pointListsSpec)

/-- ITS FALSE NEIGHBOUR: 'it returns false'. Refute it at one input. -/
def pointListsWrong : ChangeSpec := { name := "pointLists", fn := fun _ => fun
  | [d] => { results := [.lit (.bool false)], args := [d] }
  | _ => none }
def PointListsWrongFalsely : Prop := pointListsRow.holds Try.pinned (OpenSpec.ofChange pointListsWrong)

/- THE SECOND FORM. 'bulk': how many values and letters a reading holds, each counted each time it is reached (what is shared counts as often as it is met; a slice's spare places count too). A statement '..UptoSaid' is the law's where the arguments, and the package variables that the reading takes, are together of bulk at most 1048576: NARROWER than '..Said'. Prove '..Said' where nothing that the law and all that it calls make is longer than what came in: it says more and counts as full. Else prove '..UptoSaid'. A law counts once. -/
mutual
def uptoBulk {H : Type} : DataW H → Nat
  | .lit (.string bytes) => bytes.length + 1
  | .lit _ => 1
  | .nil => 1
  | .ptr d => uptoBulk d + 1
  | .slice elems spare => uptoBulkAll elems + uptoBulkAll spare + 1
  | .agg parts => uptoBulkAll parts + 1
  | .iface _ d => uptoBulk d + 1
  | .map entries => uptoBulkEntries entries + 1
  | .held _ => 1
def uptoBulkAll {H : Type} : List (DataW H) → Nat
  | [] => 0
  | d :: r => uptoBulk d + uptoBulkAll r
def uptoBulkEntries {H : Type} : List (Lit × DataW H) → Nat
  | [] => 0
  | x :: r => uptoBulkEntry x + uptoBulkEntries r
def uptoBulkEntry {H : Type} : Lit × DataW H → Nat
  | (.string bytes, d) => bytes.length + uptoBulk d + 1
  | (_, d) => uptoBulk d + 1
 end
def uptoSmall : (H : Type) → List (DataW H) → Bool := fun _ ds => decide (uptoBulkAll ds ≤ 1048576)
def OpenSpec.upto (s : _root_.Go.ChangeSpec) : _root_.Go.OpenSpec := { _root_.Go.OpenSpec.ofChange s with cond := some uptoSmall }

/-- 'paddocklaw04.PointNames', WHERE WHAT IT READS IS OF BULK AT MOST 1048576: true; the input reads as it did. -/
def pointNamesUptoRow : OpenClaim := { program := "ytegblpoamjpdhaa", sum := "a095d3ee7bccdba59e78185671a25c2bbbf9f102fee8769ecd0a11b08bcd0711", func := "paddock/paddocklaw04.PointNames", spec := "pointNames", apart := false, narrowed := true }
def PointNamesUptoSaid : Prop := pointNamesUptoRow.holds Try.pinned (OpenSpec.upto pointNamesSpec)

/-- 'paddocklaw04.PointBoxes', WHERE WHAT IT READS IS OF BULK AT MOST 1048576: true; the input reads as it did. -/
def pointBoxesUptoRow : OpenClaim := { program := "ytegblpoamjpdhaa", sum := "a095d3ee7bccdba59e78185671a25c2bbbf9f102fee8769ecd0a11b08bcd0711", func := "paddock/paddocklaw04.PointBoxes", spec := "pointBoxes", apart := false, narrowed := true }
def PointBoxesUptoSaid : Prop := pointBoxesUptoRow.holds Try.pinned (OpenSpec.upto pointBoxesSpec)

/-- 'paddocklaw04.PointTurns', WHERE WHAT IT READS IS OF BULK AT MOST 1048576: true; the input reads as it did. -/
def pointTurnsUptoRow : OpenClaim := { program := "ytegblpoamjpdhaa", sum := "a095d3ee7bccdba59e78185671a25c2bbbf9f102fee8769ecd0a11b08bcd0711", func := "paddock/paddocklaw04.PointTurns", spec := "pointTurns", apart := false, narrowed := true }
def PointTurnsUptoSaid : Prop := pointTurnsUptoRow.holds Try.pinned (OpenSpec.upto pointTurnsSpec)

/-- 'paddocklaw04.PointOrder', WHERE WHAT IT READS IS OF BULK AT MOST 1048576: true; the input reads as it did. -/
def pointOrderUptoRow : OpenClaim := { program := "ytegblpoamjpdhaa", sum := "a095d3ee7bccdba59e78185671a25c2bbbf9f102fee8769ecd0a11b08bcd0711", func := "paddock/paddocklaw04.PointOrder", spec := "pointOrder", apart := false, narrowed := true }
def PointOrderUptoSaid : Prop := pointOrderUptoRow.holds Try.pinned (OpenSpec.upto pointOrderSpec)

/-- 'paddocklaw04.PointExact', WHERE WHAT IT READS IS OF BULK AT MOST 1048576: true; the input reads as it did. -/
def pointExactUptoRow : OpenClaim := { program := "ytegblpoamjpdhaa", sum := "a095d3ee7bccdba59e78185671a25c2bbbf9f102fee8769ecd0a11b08bcd0711", func := "paddock/paddocklaw04.PointExact", spec := "pointExact", apart := false, narrowed := true }
def PointExactUptoSaid : Prop := pointExactUptoRow.holds Try.pinned (OpenSpec.upto pointExactSpec)

/-- 'paddocklaw04.PointLists', WHERE WHAT IT READS IS OF BULK AT MOST 1048576: true; the input reads as it did. -/
def pointListsUptoRow : OpenClaim := { program := "ytegblpoamjpdhaa", sum := "a095d3ee7bccdba59e78185671a25c2bbbf9f102fee8769ecd0a11b08bcd0711", func := "paddock/paddocklaw04.PointLists", spec := "pointLists", unfollowed := true, recurses := true, apart := false, narrowed := true }
def PointListsUptoSaid : Prop := pointListsUptoRow.holds Try.pinned (OpenSpec.upto pointListsSpec)

end Rows
end Go.Proofs.Ytegblpoamjpdhaa
