/-
  No cell of these rows narrows 'for every input' (looked for: loops, veiled, ifaces, maps, wideKeys, modest, calm, conditions, laid).
  DERIVED. THE GIVEN ROWS OF THIS SEAT. 7 by the template 'for every input the law returns true; each argument reads behind the call as it read before'; 0 by the template 'total and deterministic' (their statements: YtcpojadinkonnaaTotals.lean).
  GIVEN WITH THE SEED: the statements are not yours to turn. If you find one false, say at which input.
  Laid BY PROGRAM, IN A SANDBOX (cutbox-rows.mjs): the forced cells as the released guide's own fill.sh prints them over the translation 2f0ad817a80a97eb… (all of the seat's roots in one cut). By AI agents, Wed Nov 11 2026. No macro, syntax, notation, axiom, sorry.
-/
import Derived.Test.YtcpojadinkonnaaChecked
import GoSem.Claim
import GoSem.ClaimJoined
import GoSem.ClaimMapViews
import Derived.JoinedTies
import Derived.KernelRfl
namespace Go.Proofs.Ytcpojadinkonnaa
/- THE CELL 'sum', in the pinned program and in every row, IS THE sha256 OF THE DUMP (.gsa) THAT YtcpojadinkonnaaProg.lean LOADS. Nothing in Lean hashes anything: it is a label: what it is worth is what the hold of that sum in a sandbox is worth. -/
noncomputable def Try.pinned : Pinned := { name := "ytcpojadinkonnaa", sum := "2f0ad817a80a97eb1c546aa2456560b172edeca513974f0b5a1f1566e0ba976b", checked := Try.checked }
namespace Rows
def none {H : Type} : Left H := { results := [], args := [] }

/-- 'paddocklaw10.HullNames': WHATEVER THE INPUT: true; the input reads as it did. -/
def hullNamesSpec : ChangeSpec := { name := "hullNames", fn := fun _ => fun
  | [] => { results := [.lit (.bool true)], args := [] }
  | _ => none }
def hullNamesRow : OpenClaim := { program := "ytcpojadinkonnaa", sum := "2f0ad817a80a97eb1c546aa2456560b172edeca513974f0b5a1f1566e0ba976b", func := "paddock/paddocklaw10.HullNames", spec := "hullNames", apart := false }
def HullNamesSaid : Prop := hullNamesRow.holds Try.pinned (OpenSpec.ofChange hullNamesSpec)

/-- ITS FALSE NEIGHBOUR: 'it returns false'. Refute it at one input. -/
def hullNamesWrong : ChangeSpec := { name := "hullNames", fn := fun _ => fun
  | [] => { results := [.lit (.bool false)], args := [] }
  | _ => none }
def HullNamesWrongFalsely : Prop := hullNamesRow.holds Try.pinned (OpenSpec.ofChange hullNamesWrong)

/-- 'paddocklaw10.HullThin': WHATEVER THE INPUT: true; the input reads as it did. -/
def hullThinSpec : ChangeSpec := { name := "hullThin", fn := fun _ => fun
  | [d1, d2] => { results := [.lit (.bool true)], args := [d1, d2] }
  | _ => none }
def hullThinRow : OpenClaim := { program := "ytcpojadinkonnaa", sum := "2f0ad817a80a97eb1c546aa2456560b172edeca513974f0b5a1f1566e0ba976b", func := "paddock/paddocklaw10.HullThin", spec := "hullThin", unfollowed := true, recurses := true, apart := false }
def HullThinSaid : Prop := hullThinRow.holds Try.pinned (OpenSpec.ofChange hullThinSpec)

/-- ITS FALSE NEIGHBOUR: 'it returns false'. Refute it at one input. -/
def hullThinWrong : ChangeSpec := { name := "hullThin", fn := fun _ => fun
  | [d1, d2] => { results := [.lit (.bool false)], args := [d1, d2] }
  | _ => none }
def HullThinWrongFalsely : Prop := hullThinRow.holds Try.pinned (OpenSpec.ofChange hullThinWrong)

/-- 'paddocklaw10.HullKeeps': WHATEVER THE INPUT: true; the input reads as it did. -/
def hullKeepsSpec : ChangeSpec := { name := "hullKeeps", fn := fun _ => fun
  | [d1, d2] => { results := [.lit (.bool true)], args := [d1, d2] }
  | _ => none }
def hullKeepsRow : OpenClaim := { program := "ytcpojadinkonnaa", sum := "2f0ad817a80a97eb1c546aa2456560b172edeca513974f0b5a1f1566e0ba976b", func := "paddock/paddocklaw10.HullKeeps", spec := "hullKeeps", unfollowed := true, recurses := true, apart := false }
def HullKeepsSaid : Prop := hullKeepsRow.holds Try.pinned (OpenSpec.ofChange hullKeepsSpec)

/-- ITS FALSE NEIGHBOUR: 'it returns false'. Refute it at one input. -/
def hullKeepsWrong : ChangeSpec := { name := "hullKeeps", fn := fun _ => fun
  | [d1, d2] => { results := [.lit (.bool false)], args := [d1, d2] }
  | _ => none }
def HullKeepsWrongFalsely : Prop := hullKeepsRow.holds Try.pinned (OpenSpec.ofChange hullKeepsWrong)

/-- 'paddocklaw10.HullExact': WHATEVER THE INPUT: true; the input reads as it did. -/
def hullExactSpec : ChangeSpec := { name := "hullExact", fn := fun _ => fun
  | [d] => { results := [.lit (.bool true)], args := [d] }
  | _ => none }
def hullExactRow : OpenClaim := { program := "ytcpojadinkonnaa", sum := "2f0ad817a80a97eb1c546aa2456560b172edeca513974f0b5a1f1566e0ba976b", func := "paddock/paddocklaw10.HullExact", spec := "hullExact", unfollowed := true, recurses := true, apart := false }
def HullExactSaid : Prop := hullExactRow.holds Try.pinned (OpenSpec.ofChange hullExactSpec)

/-- ITS FALSE NEIGHBOUR: 'it returns false'. Refute it at one input. -/
def hullExactWrong : ChangeSpec := { name := "hullExact", fn := fun _ => fun
  | [d] => { results := [.lit (.bool false)], args := [d] }
  | _ => none }
def HullExactWrongFalsely : Prop := hullExactRow.holds Try.pinned (OpenSpec.ofChange hullExactWrong)

/-- 'paddocklaw10.HullHas': WHATEVER THE INPUT: true; the input reads as it did. -/
def hullHasSpec : ChangeSpec := { name := "hullHas", fn := fun _ => fun
  | [d1, d2] => { results := [.lit (.bool true)], args := [d1, d2] }
  | _ => none }
def hullHasRow : OpenClaim := { program := "ytcpojadinkonnaa", sum := "2f0ad817a80a97eb1c546aa2456560b172edeca513974f0b5a1f1566e0ba976b", func := "paddock/paddocklaw10.HullHas", spec := "hullHas", unfollowed := true, recurses := true, apart := false }
def HullHasSaid : Prop := hullHasRow.holds Try.pinned (OpenSpec.ofChange hullHasSpec)

/-- ITS FALSE NEIGHBOUR: 'it returns false'. Refute it at one input. -/
def hullHasWrong : ChangeSpec := { name := "hullHas", fn := fun _ => fun
  | [d1, d2] => { results := [.lit (.bool false)], args := [d1, d2] }
  | _ => none }
def HullHasWrongFalsely : Prop := hullHasRow.holds Try.pinned (OpenSpec.ofChange hullHasWrong)

/-- 'paddocklaw10.HullFar': WHATEVER THE INPUT: true; the input reads as it did. -/
def hullFarSpec : ChangeSpec := { name := "hullFar", fn := fun _ => fun
  | [d] => { results := [.lit (.bool true)], args := [d] }
  | _ => none }
def hullFarRow : OpenClaim := { program := "ytcpojadinkonnaa", sum := "2f0ad817a80a97eb1c546aa2456560b172edeca513974f0b5a1f1566e0ba976b", func := "paddock/paddocklaw10.HullFar", spec := "hullFar", inPlace := ["math/bits.Add64"], unfollowed := true, recurses := true, apart := false }
def HullFarSaid : Prop := hullFarRow.holds Try.pinned (OpenSpec.ofChange hullFarSpec)

/-- ITS FALSE NEIGHBOUR: 'it returns false'. Refute it at one input. -/
def hullFarWrong : ChangeSpec := { name := "hullFar", fn := fun _ => fun
  | [d] => { results := [.lit (.bool false)], args := [d] }
  | _ => none }
def HullFarWrongFalsely : Prop := hullFarRow.holds Try.pinned (OpenSpec.ofChange hullFarWrong)

/-- 'paddocklaw10.HullAround': WHATEVER THE INPUT: true; the input reads as it did. -/
def hullAroundSpec : ChangeSpec := { name := "hullAround", fn := fun _ => fun
  | [d1, d2, d3] => { results := [.lit (.bool true)], args := [d1, d2, d3] }
  | _ => none }
def hullAroundRow : OpenClaim := { program := "ytcpojadinkonnaa", sum := "2f0ad817a80a97eb1c546aa2456560b172edeca513974f0b5a1f1566e0ba976b", func := "paddock/paddocklaw10.HullAround", spec := "hullAround", unfollowed := true, recurses := true, apart := false }
def HullAroundSaid : Prop := hullAroundRow.holds Try.pinned (OpenSpec.ofChange hullAroundSpec)

/-- ITS FALSE NEIGHBOUR: 'it returns false'. Refute it at one input. -/
def hullAroundWrong : ChangeSpec := { name := "hullAround", fn := fun _ => fun
  | [d1, d2, d3] => { results := [.lit (.bool false)], args := [d1, d2, d3] }
  | _ => none }
def HullAroundWrongFalsely : Prop := hullAroundRow.holds Try.pinned (OpenSpec.ofChange hullAroundWrong)

/- THE SECOND FORM. 'bulk': how many values and letters a reading holds, each counted each time it is reached (what is shared counts as often as it is met; a slice's spare places count too). A statement '..UptoSaid' is the law's where the arguments, and the package variables that the reading takes, are together of bulk at most 1048576: NARROWER than '..Said'. Prove '..Said' where nothing that the law and all that it calls make is longer than what came in: it says more and counts as full. Else prove '..UptoSaid'. A law counts once. -/
mutual
def uptoBulk {H : Type} : DataW H → Nat
  | .lit (.string bytes) => bytes.length + 1
  | .lit _ => 1
  | .nil => 1
  | .ptr d => uptoBulk d + 1
  | .slice elems spare => uptoBulkAll elems + uptoBulkAll spare + 1
  | .agg parts => uptoBulkAll parts + 1
  | .iface _ d => uptoBulk d + 1
  | .map entries => uptoBulkEntries entries + 1
  | .held _ => 1
def uptoBulkAll {H : Type} : List (DataW H) → Nat
  | [] => 0
  | d :: r => uptoBulk d + uptoBulkAll r
def uptoBulkEntries {H : Type} : List (Lit × DataW H) → Nat
  | [] => 0
  | x :: r => uptoBulkEntry x + uptoBulkEntries r
def uptoBulkEntry {H : Type} : Lit × DataW H → Nat
  | (.string bytes, d) => bytes.length + uptoBulk d + 1
  | (_, d) => uptoBulk d + 1
 end
def uptoSmall : (H : Type) → List (DataW H) → Bool := fun _ ds => decide (uptoBulkAll ds ≤ 1048576)
def OpenSpec.upto (s : _root_.Go.ChangeSpec) : _root_.Go.OpenSpec := { _root_.Go.OpenSpec.ofChange s with cond := some uptoSmall }

/-- 'paddocklaw10.HullNames', WHERE WHAT IT READS IS OF BULK AT MOST 1048576: true; the input reads as it did. -/
def hullNamesUptoRow : OpenClaim := { program := "ytcpojadinkonnaa", sum := "2f0ad817a80a97eb1c546aa2456560b172edeca513974f0b5a1f1566e0ba976b", func := "paddock/paddocklaw10.HullNames", spec := "hullNames", apart := false, narrowed := true }
def HullNamesUptoSaid : Prop := hullNamesUptoRow.holds Try.pinned (OpenSpec.upto hullNamesSpec)

/-- 'paddocklaw10.HullThin', WHERE WHAT IT READS IS OF BULK AT MOST 1048576: true; the input reads as it did. -/
def hullThinUptoRow : OpenClaim := { program := "ytcpojadinkonnaa", sum := "2f0ad817a80a97eb1c546aa2456560b172edeca513974f0b5a1f1566e0ba976b", func := "paddock/paddocklaw10.HullThin", spec := "hullThin", unfollowed := true, recurses := true, apart := false, narrowed := true }
def HullThinUptoSaid : Prop := hullThinUptoRow.holds Try.pinned (OpenSpec.upto hullThinSpec)

/-- 'paddocklaw10.HullKeeps', WHERE WHAT IT READS IS OF BULK AT MOST 1048576: true; the input reads as it did. -/
def hullKeepsUptoRow : OpenClaim := { program := "ytcpojadinkonnaa", sum := "2f0ad817a80a97eb1c546aa2456560b172edeca513974f0b5a1f1566e0ba976b", func := "paddock/paddocklaw10.HullKeeps", spec := "hullKeeps", unfollowed := true, recurses := true, apart := false, narrowed := true }
def HullKeepsUptoSaid : Prop := hullKeepsUptoRow.holds Try.pinned (OpenSpec.upto hullKeepsSpec)

/-- 'paddocklaw10.HullExact', WHERE WHAT IT READS IS OF BULK AT MOST 1048576: true; the input reads as it did. -/
def hullExactUptoRow : OpenClaim := { program := "ytcpojadinkonnaa", sum := "2f0ad817a80a97eb1c546aa2456560b172edeca513974f0b5a1f1566e0ba976b", func := "paddock/paddocklaw10.HullExact", spec := "hullExact", unfollowed := true, recurses := true, apart := false, narrowed := true }
def HullExactUptoSaid : Prop := hullExactUptoRow.holds Try.pinned (OpenSpec.upto hullExactSpec)

/-- 'paddocklaw10.HullHas', WHERE WHAT IT READS IS OF BULK AT MOST 1048576: true; the input reads as it did. -/
def hullHasUptoRow : OpenClaim := { program := "ytcpojadinkonnaa", sum := "2f0ad817a80a97eb1c546aa2456560b172edeca513974f0b5a1f1566e0ba976b", func := "paddock/paddocklaw10.HullHas", spec := "hullHas", unfollowed := true, recurses := true, apart := false, narrowed := true }
def HullHasUptoSaid : Prop := hullHasUptoRow.holds Try.pinned (OpenSpec.upto hullHasSpec)

/-- 'paddocklaw10.HullFar', WHERE WHAT IT READS IS OF BULK AT MOST 1048576: true; the input reads as it did. -/
def hullFarUptoRow : OpenClaim := { program := "ytcpojadinkonnaa", sum := "2f0ad817a80a97eb1c546aa2456560b172edeca513974f0b5a1f1566e0ba976b", func := "paddock/paddocklaw10.HullFar", spec := "hullFar", inPlace := ["math/bits.Add64"], unfollowed := true, recurses := true, apart := false, narrowed := true }
def HullFarUptoSaid : Prop := hullFarUptoRow.holds Try.pinned (OpenSpec.upto hullFarSpec)

/-- 'paddocklaw10.HullAround', WHERE WHAT IT READS IS OF BULK AT MOST 1048576: true; the input reads as it did. -/
def hullAroundUptoRow : OpenClaim := { program := "ytcpojadinkonnaa", sum := "2f0ad817a80a97eb1c546aa2456560b172edeca513974f0b5a1f1566e0ba976b", func := "paddock/paddocklaw10.HullAround", spec := "hullAround", unfollowed := true, recurses := true, apart := false, narrowed := true }
def HullAroundUptoSaid : Prop := hullAroundUptoRow.holds Try.pinned (OpenSpec.upto hullAroundSpec)

end Rows
end Go.Proofs.Ytcpojadinkonnaa
