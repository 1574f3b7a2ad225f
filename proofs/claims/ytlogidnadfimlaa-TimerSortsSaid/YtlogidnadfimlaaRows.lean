/-
  No cell of these rows narrows 'for every input' (looked for: loops, veiled, ifaces, maps, wideKeys, modest, calm, conditions, laid).
  DERIVED. THE GIVEN ROWS OF THIS SEAT. 5 by the template 'for every input the law returns true; each argument reads behind the call as it read before'; 0 by the template 'total and deterministic' (their statements: YtlogidnadfimlaaTotals.lean).
  GIVEN WITH THE SEED: the statements are not yours to turn. If you find one false, say at which input.
  Laid BY PROGRAM, IN A SANDBOX (cutbox-rows.mjs): the forced cells as the released guide's own fill.sh prints them over the translation 192314e6bddefe40… (all of the seat's roots in one cut). By AI agents, Wed Nov 11 2026. No macro, syntax, notation, axiom, sorry.
-/
import Derived.Test.YtlogidnadfimlaaChecked
import GoSem.Claim
import GoSem.ClaimJoined
import GoSem.ClaimMapViews
import Derived.JoinedTies
import Derived.KernelRfl
namespace Go.Proofs.Ytlogidnadfimlaa
/- THE CELL 'sum', in the pinned program and in every row, IS THE sha256 OF THE DUMP (.gsa) THAT YtlogidnadfimlaaProg.lean LOADS. Nothing in Lean hashes anything: it is a label: what it is worth is what the hold of that sum in a sandbox is worth. -/
noncomputable def Try.pinned : Pinned := { name := "ytlogidnadfimlaa", sum := "192314e6bddefe40306d67c09b2fd4f04ff7e7692cb0d43c17d62ee860a8e7dd", checked := Try.checked }
namespace Rows
def none {H : Type} : Left H := { results := [], args := [] }

/-- 'paddocklaw16.TimerNames': WHATEVER THE INPUT: true; the input reads as it did. -/
def timerNamesSpec : ChangeSpec := { name := "timerNames", fn := fun _ => fun
  | [] => { results := [.lit (.bool true)], args := [] }
  | _ => none }
def timerNamesRow : OpenClaim := { program := "ytlogidnadfimlaa", sum := "192314e6bddefe40306d67c09b2fd4f04ff7e7692cb0d43c17d62ee860a8e7dd", func := "paddock/paddocklaw16.TimerNames", spec := "timerNames", plainKeys := false, apart := false }
def TimerNamesSaid : Prop := timerNamesRow.holds Try.pinned (OpenSpec.ofChange timerNamesSpec)

/-- ITS FALSE NEIGHBOUR: 'it returns false'. Refute it at one input. -/
def timerNamesWrong : ChangeSpec := { name := "timerNames", fn := fun _ => fun
  | [] => { results := [.lit (.bool false)], args := [] }
  | _ => none }
def TimerNamesWrongFalsely : Prop := timerNamesRow.holds Try.pinned (OpenSpec.ofChange timerNamesWrong)

/-- 'paddocklaw16.TimerSorts': WHATEVER THE INPUT: true; the input reads as it did. -/
def timerSortsSpec : ChangeSpec := { name := "timerSorts", fn := fun _ => fun
  | [d] => { results := [.lit (.bool true)], args := [d] }
  | _ => none }
def timerSortsRow : OpenClaim := { program := "ytlogidnadfimlaa", sum := "192314e6bddefe40306d67c09b2fd4f04ff7e7692cb0d43c17d62ee860a8e7dd", func := "paddock/paddocklaw16.TimerSorts", spec := "timerSorts", unfollowed := true, recurses := true, plainKeys := false, apart := false }
def TimerSortsSaid : Prop := timerSortsRow.holds Try.pinned (OpenSpec.ofChange timerSortsSpec)

/-- ITS FALSE NEIGHBOUR: 'it returns false'. Refute it at one input. -/
def timerSortsWrong : ChangeSpec := { name := "timerSorts", fn := fun _ => fun
  | [d] => { results := [.lit (.bool false)], args := [d] }
  | _ => none }
def TimerSortsWrongFalsely : Prop := timerSortsRow.holds Try.pinned (OpenSpec.ofChange timerSortsWrong)

/-- 'paddocklaw16.TimerMeanwhile': WHATEVER THE INPUT: true; the input reads as it did. -/
def timerMeanwhileSpec : ChangeSpec := { name := "timerMeanwhile", fn := fun _ => fun
  | [d] => { results := [.lit (.bool true)], args := [d] }
  | _ => none }
def timerMeanwhileRow : OpenClaim := { program := "ytlogidnadfimlaa", sum := "192314e6bddefe40306d67c09b2fd4f04ff7e7692cb0d43c17d62ee860a8e7dd", func := "paddock/paddocklaw16.TimerMeanwhile", spec := "timerMeanwhile", unfollowed := true, recurses := true, plainKeys := false, apart := false }
def TimerMeanwhileSaid : Prop := timerMeanwhileRow.holds Try.pinned (OpenSpec.ofChange timerMeanwhileSpec)

/-- ITS FALSE NEIGHBOUR: 'it returns false'. Refute it at one input. -/
def timerMeanwhileWrong : ChangeSpec := { name := "timerMeanwhile", fn := fun _ => fun
  | [d] => { results := [.lit (.bool false)], args := [d] }
  | _ => none }
def TimerMeanwhileWrongFalsely : Prop := timerMeanwhileRow.holds Try.pinned (OpenSpec.ofChange timerMeanwhileWrong)

/-- 'paddocklaw16.TimerNil': WHATEVER THE INPUT: true; the input reads as it did. -/
def timerNilSpec : ChangeSpec := { name := "timerNil", fn := fun _ => fun
  | [d] => { results := [.lit (.bool true)], args := [d] }
  | _ => none }
def timerNilRow : OpenClaim := { program := "ytlogidnadfimlaa", sum := "192314e6bddefe40306d67c09b2fd4f04ff7e7692cb0d43c17d62ee860a8e7dd", func := "paddock/paddocklaw16.TimerNil", spec := "timerNil", unfollowed := true, recurses := true, plainKeys := false, apart := false }
def TimerNilSaid : Prop := timerNilRow.holds Try.pinned (OpenSpec.ofChange timerNilSpec)

/-- ITS FALSE NEIGHBOUR: 'it returns false'. Refute it at one input. -/
def timerNilWrong : ChangeSpec := { name := "timerNil", fn := fun _ => fun
  | [d] => { results := [.lit (.bool false)], args := [d] }
  | _ => none }
def TimerNilWrongFalsely : Prop := timerNilRow.holds Try.pinned (OpenSpec.ofChange timerNilWrong)

/-- 'paddocklaw16.TimerPlays': WHATEVER THE INPUT: true; the input reads as it did. -/
def timerPlaysSpec : ChangeSpec := { name := "timerPlays", fn := fun _ => fun
  | [d1, d2] => { results := [.lit (.bool true)], args := [d1, d2] }
  | _ => none }
def timerPlaysRow : OpenClaim := { program := "ytlogidnadfimlaa", sum := "192314e6bddefe40306d67c09b2fd4f04ff7e7692cb0d43c17d62ee860a8e7dd", func := "paddock/paddocklaw16.TimerPlays", spec := "timerPlays", unfollowed := true, recurses := true, plainKeys := false, apart := false }
def TimerPlaysSaid : Prop := timerPlaysRow.holds Try.pinned (OpenSpec.ofChange timerPlaysSpec)

/-- ITS FALSE NEIGHBOUR: 'it returns false'. Refute it at one input. -/
def timerPlaysWrong : ChangeSpec := { name := "timerPlays", fn := fun _ => fun
  | [d1, d2] => { results := [.lit (.bool false)], args := [d1, d2] }
  | _ => none }
def TimerPlaysWrongFalsely : Prop := timerPlaysRow.holds Try.pinned (OpenSpec.ofChange timerPlaysWrong)

/- THE SECOND FORM. 'bulk': how many values and letters a reading holds, each counted each time it is reached (what is shared counts as often as it is met; a slice's spare places count too). A statement '..UptoSaid' is the law's where the arguments, and the package variables that the reading takes, are together of bulk at most 1048576: NARROWER than '..Said'. Prove '..Said' where nothing that the law and all that it calls make is longer than what came in: it says more and counts as full. Else prove '..UptoSaid'. A law counts once. -/
mutual
def uptoBulk {H : Type} : DataW H → Nat
  | .lit (.string bytes) => bytes.length + 1
  | .lit _ => 1
  | .nil => 1
  | .ptr d => uptoBulk d + 1
  | .slice elems spare => uptoBulkAll elems + uptoBulkAll spare + 1
  | .agg parts => uptoBulkAll parts + 1
  | .iface _ d => uptoBulk d + 1
  | .map entries => uptoBulkEntries entries + 1
  | .held _ => 1
def uptoBulkAll {H : Type} : List (DataW H) → Nat
  | [] => 0
  | d :: r => uptoBulk d + uptoBulkAll r
def uptoBulkEntries {H : Type} : List (Lit × DataW H) → Nat
  | [] => 0
  | x :: r => uptoBulkEntry x + uptoBulkEntries r
def uptoBulkEntry {H : Type} : Lit × DataW H → Nat
  | (.string bytes, d) => bytes.length + uptoBulk d + 1
  | (_, d) => uptoBulk d + 1
 end
def uptoSmall : (H : Type) → List (DataW H) → Bool := fun _ ds => decide (uptoBulkAll ds ≤ 1048576)
def OpenSpec.upto (s : _root_.Go.ChangeSpec) : _root_.Go.OpenSpec := { _root_.Go.OpenSpec.ofChange s with cond := some uptoSmall }

/-- 'paddocklaw16.TimerNames', WHERE WHAT IT READS IS OF BULK AT MOST 1048576: true; the input reads as it did. -/
def timerNamesUptoRow : OpenClaim := { program := "ytlogidnadfimlaa", sum := "192314e6bddefe40306d67c09b2fd4f04ff7e7692cb0d43c17d62ee860a8e7dd", func := "paddock/paddocklaw16.TimerNames", spec := "timerNames", plainKeys := false, apart := false, narrowed := true }
def TimerNamesUptoSaid : Prop := timerNamesUptoRow.holds Try.pinned (OpenSpec.upto timerNamesSpec)

/-- 'paddocklaw16.TimerSorts', WHERE WHAT IT READS IS OF BULK AT MOST 1048576: true; the input reads as it did. -/
def timerSortsUptoRow : OpenClaim := { program := "ytlogidnadfimlaa", sum := "192314e6bddefe40306d67c09b2fd4f04ff7e7692cb0d43c17d62ee860a8e7dd", func := "paddock/paddocklaw16.TimerSorts", spec := "timerSorts", unfollowed := true, recurses := true, plainKeys := false, apart := false, narrowed := true }
def TimerSortsUptoSaid : Prop := timerSortsUptoRow.holds Try.pinned (OpenSpec.upto timerSortsSpec)

/-- 'paddocklaw16.TimerMeanwhile', WHERE WHAT IT READS IS OF BULK AT MOST 1048576: true; the input reads as it did. -/
def timerMeanwhileUptoRow : OpenClaim := { program := "ytlogidnadfimlaa", sum := "192314e6bddefe40306d67c09b2fd4f04ff7e7692cb0d43c17d62ee860a8e7dd", func := "paddock/paddocklaw16.TimerMeanwhile", spec := "timerMeanwhile", unfollowed := true, recurses := true, plainKeys := false, apart := false, narrowed := true }
def TimerMeanwhileUptoSaid : Prop := timerMeanwhileUptoRow.holds Try.pinned (OpenSpec.upto timerMeanwhileSpec)

/-- 'paddocklaw16.TimerNil', WHERE WHAT IT READS IS OF BULK AT MOST 1048576: true; the input reads as it did. -/
def timerNilUptoRow : OpenClaim := { program := "ytlogidnadfimlaa", sum := "192314e6bddefe40306d67c09b2fd4f04ff7e7692cb0d43c17d62ee860a8e7dd", func := "paddock/paddocklaw16.TimerNil", spec := "timerNil", unfollowed := true, recurses := true, plainKeys := false, apart := false, narrowed := true }
def TimerNilUptoSaid : Prop := timerNilUptoRow.holds Try.pinned (OpenSpec.upto timerNilSpec)

/-- 'paddocklaw16.TimerPlays', WHERE WHAT IT READS IS OF BULK AT MOST 1048576: true; the input reads as it did. -/
def timerPlaysUptoRow : OpenClaim := { program := "ytlogidnadfimlaa", sum := "192314e6bddefe40306d67c09b2fd4f04ff7e7692cb0d43c17d62ee860a8e7dd", func := "paddock/paddocklaw16.TimerPlays", spec := "timerPlays", unfollowed := true, recurses := true, plainKeys := false, apart := false, narrowed := true }
def TimerPlaysUptoSaid : Prop := timerPlaysUptoRow.holds Try.pinned (OpenSpec.upto timerPlaysSpec)

end Rows
end Go.Proofs.Ytlogidnadfimlaa
