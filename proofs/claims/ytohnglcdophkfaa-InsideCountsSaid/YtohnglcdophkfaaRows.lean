/-
  No cell of these rows narrows 'for every input' (looked for: loops, veiled, ifaces, maps, wideKeys, modest, calm, conditions, laid).
  DERIVED. THE GIVEN ROWS OF THIS SEAT. 6 by the template 'for every input the law returns true; each argument reads behind the call as it read before'; 0 by the template 'total and deterministic' (their statements: YtohnglcdophkfaaTotals.lean).
  GIVEN WITH THE SEED: the statements are not yours to turn. If you find one false, say at which input.
  Laid BY PROGRAM, IN A SANDBOX (cutbox-rows.mjs): the forced cells as the released guide's own fill.sh prints them over the translation 96bd5980f3815518… (all of the seat's roots in one cut). By AI agents, Wed Nov 11 2026. No macro, syntax, notation, axiom, sorry.
-/
import Derived.Test.YtohnglcdophkfaaChecked
import GoSem.Claim
import GoSem.ClaimJoined
import GoSem.ClaimMapViews
import Derived.JoinedTies
import Derived.KernelRfl
namespace Go.Proofs.Ytohnglcdophkfaa
/- THE CELL 'sum', in the pinned program and in every row, IS THE sha256 OF THE DUMP (.gsa) THAT YtohnglcdophkfaaProg.lean LOADS. Nothing in Lean hashes anything: it is a label: what it is worth is what the hold of that sum in a sandbox is worth. -/
noncomputable def Try.pinned : Pinned := { name := "ytohnglcdophkfaa", sum := "96bd5980f381551853939386d6c397721ff285fc774cf5c5a4e5fc3a4755b7f6", checked := Try.checked }
namespace Rows
def none {H : Type} : Left H := { results := [], args := [] }

/-- 'paddocklaw07.InsideRound': WHATEVER THE INPUT: true; the input reads as it did. -/
def insideRoundSpec : ChangeSpec := { name := "insideRound", fn := fun _ => fun
  | [d1, d2, d3] => { results := [.lit (.bool true)], args := [d1, d2, d3] }
  | _ => none }
def insideRoundRow : OpenClaim := { program := "ytohnglcdophkfaa", sum := "96bd5980f381551853939386d6c397721ff285fc774cf5c5a4e5fc3a4755b7f6", func := "paddock/paddocklaw07.InsideRound", spec := "insideRound", unfollowed := true, recurses := true, apart := false }
def InsideRoundSaid : Prop := insideRoundRow.holds Try.pinned (OpenSpec.ofChange insideRoundSpec)

/-- ITS FALSE NEIGHBOUR: 'it returns false'. Refute it at one input. -/
def insideRoundWrong : ChangeSpec := { name := "insideRound", fn := fun _ => fun
  | [d1, d2, d3] => { results := [.lit (.bool false)], args := [d1, d2, d3] }
  | _ => none }
def InsideRoundWrongFalsely : Prop := insideRoundRow.holds Try.pinned (OpenSpec.ofChange insideRoundWrong)

/-- 'paddocklaw07.InsideSimple': WHATEVER THE INPUT: true; the input reads as it did. -/
def insideSimpleSpec : ChangeSpec := { name := "insideSimple", fn := fun _ => fun
  | [d1, d2] => { results := [.lit (.bool true)], args := [d1, d2] }
  | _ => none }
def insideSimpleRow : OpenClaim := { program := "ytohnglcdophkfaa", sum := "96bd5980f381551853939386d6c397721ff285fc774cf5c5a4e5fc3a4755b7f6", func := "paddock/paddocklaw07.InsideSimple", spec := "insideSimple", unfollowed := true, recurses := true, apart := false }
def InsideSimpleSaid : Prop := insideSimpleRow.holds Try.pinned (OpenSpec.ofChange insideSimpleSpec)

/-- ITS FALSE NEIGHBOUR: 'it returns false'. Refute it at one input. -/
def insideSimpleWrong : ChangeSpec := { name := "insideSimple", fn := fun _ => fun
  | [d1, d2] => { results := [.lit (.bool false)], args := [d1, d2] }
  | _ => none }
def InsideSimpleWrongFalsely : Prop := insideSimpleRow.holds Try.pinned (OpenSpec.ofChange insideSimpleWrong)

/-- 'paddocklaw07.InsideCuts': WHATEVER THE INPUT: true; the input reads as it did. -/
def insideCutsSpec : ChangeSpec := { name := "insideCuts", fn := fun _ => fun
  | [d1, d2, d3] => { results := [.lit (.bool true)], args := [d1, d2, d3] }
  | _ => none }
def insideCutsRow : OpenClaim := { program := "ytohnglcdophkfaa", sum := "96bd5980f381551853939386d6c397721ff285fc774cf5c5a4e5fc3a4755b7f6", func := "paddock/paddocklaw07.InsideCuts", spec := "insideCuts", unfollowed := true, recurses := true, apart := false }
def InsideCutsSaid : Prop := insideCutsRow.holds Try.pinned (OpenSpec.ofChange insideCutsSpec)

/-- ITS FALSE NEIGHBOUR: 'it returns false'. Refute it at one input. -/
def insideCutsWrong : ChangeSpec := { name := "insideCuts", fn := fun _ => fun
  | [d1, d2, d3] => { results := [.lit (.bool false)], args := [d1, d2, d3] }
  | _ => none }
def InsideCutsWrongFalsely : Prop := insideCutsRow.holds Try.pinned (OpenSpec.ofChange insideCutsWrong)

/-- 'paddocklaw07.InsideExact': WHATEVER THE INPUT: true; the input reads as it did. -/
def insideExactSpec : ChangeSpec := { name := "insideExact", fn := fun _ => fun
  | [d] => { results := [.lit (.bool true)], args := [d] }
  | _ => none }
def insideExactRow : OpenClaim := { program := "ytohnglcdophkfaa", sum := "96bd5980f381551853939386d6c397721ff285fc774cf5c5a4e5fc3a4755b7f6", func := "paddock/paddocklaw07.InsideExact", spec := "insideExact", unfollowed := true, recurses := true, apart := false }
def InsideExactSaid : Prop := insideExactRow.holds Try.pinned (OpenSpec.ofChange insideExactSpec)

/-- ITS FALSE NEIGHBOUR: 'it returns false'. Refute it at one input. -/
def insideExactWrong : ChangeSpec := { name := "insideExact", fn := fun _ => fun
  | [d] => { results := [.lit (.bool false)], args := [d] }
  | _ => none }
def InsideExactWrongFalsely : Prop := insideExactRow.holds Try.pinned (OpenSpec.ofChange insideExactWrong)

/-- 'paddocklaw07.InsideCounts': WHATEVER THE INPUT: true; the input reads as it did. -/
def insideCountsSpec : ChangeSpec := { name := "insideCounts", fn := fun _ => fun
  | [d] => { results := [.lit (.bool true)], args := [d] }
  | _ => none }
def insideCountsRow : OpenClaim := { program := "ytohnglcdophkfaa", sum := "96bd5980f381551853939386d6c397721ff285fc774cf5c5a4e5fc3a4755b7f6", func := "paddock/paddocklaw07.InsideCounts", spec := "insideCounts", inPlace := ["math/bits.Add64", "math/bits.Sub64"], unfollowed := true, recurses := true, apart := false }
def InsideCountsSaid : Prop := insideCountsRow.holds Try.pinned (OpenSpec.ofChange insideCountsSpec)

/-- ITS FALSE NEIGHBOUR: 'it returns false'. Refute it at one input. -/
def insideCountsWrong : ChangeSpec := { name := "insideCounts", fn := fun _ => fun
  | [d] => { results := [.lit (.bool false)], args := [d] }
  | _ => none }
def InsideCountsWrongFalsely : Prop := insideCountsRow.holds Try.pinned (OpenSpec.ofChange insideCountsWrong)

/-- 'paddocklaw07.InsidePicks': WHATEVER THE INPUT: true; the input reads as it did. -/
def insidePicksSpec : ChangeSpec := { name := "insidePicks", fn := fun _ => fun
  | [d] => { results := [.lit (.bool true)], args := [d] }
  | _ => none }
def insidePicksRow : OpenClaim := { program := "ytohnglcdophkfaa", sum := "96bd5980f381551853939386d6c397721ff285fc774cf5c5a4e5fc3a4755b7f6", func := "paddock/paddocklaw07.InsidePicks", spec := "insidePicks", inPlace := ["math/bits.Add64", "math/bits.Sub64"], unfollowed := true, recurses := true, apart := false }
def InsidePicksSaid : Prop := insidePicksRow.holds Try.pinned (OpenSpec.ofChange insidePicksSpec)

/-- ITS FALSE NEIGHBOUR: 'it returns false'. Refute it at one input. -/
def insidePicksWrong : ChangeSpec := { name := "insidePicks", fn := fun _ => fun
  | [d] => { results := [.lit (.bool false)], args := [d] }
  | _ => none }
def InsidePicksWrongFalsely : Prop := insidePicksRow.holds Try.pinned (OpenSpec.ofChange insidePicksWrong)

/- THE SECOND FORM. 'bulk': how many values and letters a reading holds, each counted each time it is reached (what is shared counts as often as it is met; a slice's spare places count too). A statement '..UptoSaid' is the law's where the arguments, and the package variables that the reading takes, are together of bulk at most 1048576: NARROWER than '..Said'. Prove '..Said' where nothing that the law and all that it calls make is longer than what came in: it says more and counts as full. Else prove '..UptoSaid'. A law counts once. -/
mutual
def uptoBulk {H : Type} : DataW H → Nat
  | .lit (.string bytes) => bytes.length + 1
  | .lit _ => 1
  | .nil => 1
  | .ptr d => uptoBulk d + 1
  | .slice elems spare => uptoBulkAll elems + uptoBulkAll spare + 1
  | .agg parts => uptoBulkAll parts + 1
  | .iface _ d => uptoBulk d + 1
  | .map entries => uptoBulkEntries entries + 1
  | .held _ => 1
def uptoBulkAll {H : Type} : List (DataW H) → Nat
  | [] => 0
  | d :: r => uptoBulk d + uptoBulkAll r
def uptoBulkEntries {H : Type} : List (Lit × DataW H) → Nat
  | [] => 0
  | x :: r => uptoBulkEntry x + uptoBulkEntries r
def uptoBulkEntry {H : Type} : Lit × DataW H → Nat
  | (.string bytes, d) => bytes.length + uptoBulk d + 1
  | (_, d) => uptoBulk d + 1
 end
def uptoSmall : (H : Type) → List (DataW H) → Bool := fun _ ds => decide (uptoBulkAll ds ≤ 1048576)
def OpenSpec.upto (s : _root_.Go.ChangeSpec) : _root_.Go.OpenSpec := { _root_.Go.OpenSpec.ofChange s with cond := some uptoSmall }

/-- 'paddocklaw07.InsideRound', WHERE WHAT IT READS IS OF BULK AT MOST 1048576: true; the input reads as it did. -/
def insideRoundUptoRow : OpenClaim := { program := "ytohnglcdophkfaa", sum := "96bd5980f381551853939386d6c397721ff285fc774cf5c5a4e5fc3a4755b7f6", func := "paddock/paddocklaw07.InsideRound", spec := "insideRound", unfollowed := true, recurses := true, apart := false, narrowed := true }
def InsideRoundUptoSaid : Prop := insideRoundUptoRow.holds Try.pinned (OpenSpec.upto insideRoundSpec)

/-- 'paddocklaw07.InsideSimple', WHERE WHAT IT READS IS OF BULK AT MOST 1048576: true; the input reads as it did. -/
def insideSimpleUptoRow : OpenClaim := { program := "ytohnglcdophkfaa", sum := "96bd5980f381551853939386d6c397721ff285fc774cf5c5a4e5fc3a4755b7f6", func := "paddock/paddocklaw07.InsideSimple", spec := "insideSimple", unfollowed := true, recurses := true, apart := false, narrowed := true }
def InsideSimpleUptoSaid : Prop := insideSimpleUptoRow.holds Try.pinned (OpenSpec.upto insideSimpleSpec)

/-- 'paddocklaw07.InsideCuts', WHERE WHAT IT READS IS OF BULK AT MOST 1048576: true; the input reads as it did. -/
def insideCutsUptoRow : OpenClaim := { program := "ytohnglcdophkfaa", sum := "96bd5980f381551853939386d6c397721ff285fc774cf5c5a4e5fc3a4755b7f6", func := "paddock/paddocklaw07.InsideCuts", spec := "insideCuts", unfollowed := true, recurses := true, apart := false, narrowed := true }
def InsideCutsUptoSaid : Prop := insideCutsUptoRow.holds Try.pinned (OpenSpec.upto insideCutsSpec)

/-- 'paddocklaw07.InsideExact', WHERE WHAT IT READS IS OF BULK AT MOST 1048576: true; the input reads as it did. -/
def insideExactUptoRow : OpenClaim := { program := "ytohnglcdophkfaa", sum := "96bd5980f381551853939386d6c397721ff285fc774cf5c5a4e5fc3a4755b7f6", func := "paddock/paddocklaw07.InsideExact", spec := "insideExact", unfollowed := true, recurses := true, apart := false, narrowed := true }
def InsideExactUptoSaid : Prop := insideExactUptoRow.holds Try.pinned (OpenSpec.upto insideExactSpec)

/-- 'paddocklaw07.InsideCounts', WHERE WHAT IT READS IS OF BULK AT MOST 1048576: true; the input reads as it did. -/
def insideCountsUptoRow : OpenClaim := { program := "ytohnglcdophkfaa", sum := "96bd5980f381551853939386d6c397721ff285fc774cf5c5a4e5fc3a4755b7f6", func := "paddock/paddocklaw07.InsideCounts", spec := "insideCounts", inPlace := ["math/bits.Add64", "math/bits.Sub64"], unfollowed := true, recurses := true, apart := false, narrowed := true }
def InsideCountsUptoSaid : Prop := insideCountsUptoRow.holds Try.pinned (OpenSpec.upto insideCountsSpec)

/-- 'paddocklaw07.InsidePicks', WHERE WHAT IT READS IS OF BULK AT MOST 1048576: true; the input reads as it did. -/
def insidePicksUptoRow : OpenClaim := { program := "ytohnglcdophkfaa", sum := "96bd5980f381551853939386d6c397721ff285fc774cf5c5a4e5fc3a4755b7f6", func := "paddock/paddocklaw07.InsidePicks", spec := "insidePicks", inPlace := ["math/bits.Add64", "math/bits.Sub64"], unfollowed := true, recurses := true, apart := false, narrowed := true }
def InsidePicksUptoSaid : Prop := insidePicksUptoRow.holds Try.pinned (OpenSpec.upto insidePicksSpec)

end Rows
end Go.Proofs.Ytohnglcdophkfaa
