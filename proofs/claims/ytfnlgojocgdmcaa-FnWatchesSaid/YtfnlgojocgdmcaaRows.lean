/-
  No cell of these rows narrows 'for every input' (looked for: loops, veiled, ifaces, maps, wideKeys, modest, calm, conditions, laid).
  DERIVED. THE GIVEN ROWS OF THIS SEAT. 5 by the template 'for every input the law returns true; each argument reads behind the call as it read before'; 0 by the template 'total and deterministic' (their statements: YtfnlgojocgdmcaaTotals.lean).
  GIVEN WITH THE SEED: the statements are not yours to turn. If you find one false, say at which input.
  Laid BY PROGRAM, IN A SANDBOX (cutbox-rows.mjs): the forced cells as the released guide's own fill.sh prints them over the translation 35c78aea794a8099… (all of the seat's roots in one cut). By AI agents, Wed Nov 11 2026. No macro, syntax, notation, axiom, sorry.
-/
import Derived.Test.YtfnlgojocgdmcaaChecked
import GoSem.Claim
import GoSem.ClaimJoined
import GoSem.ClaimMapViews
import Derived.JoinedTies
import Derived.KernelRfl
namespace Go.Proofs.Ytfnlgojocgdmcaa
/- THE CELL 'sum', in the pinned program and in every row, IS THE sha256 OF THE DUMP (.gsa) THAT YtfnlgojocgdmcaaProg.lean LOADS. Nothing in Lean hashes anything: it is a label: what it is worth is what the hold of that sum in a sandbox is worth. -/
noncomputable def Try.pinned : Pinned := { name := "ytfnlgojocgdmcaa", sum := "35c78aea794a80999f62ca4beb70e9130e1805e00121688f9f0c799414c92356", checked := Try.checked }
namespace Rows
def none {H : Type} : Left H := { results := [], args := [] }

/-- 'laws.FnExactSwarmsOf': WHATEVER THE INPUT: true; the input reads as it did. -/
def fnExactSwarmsOfSpec : ChangeSpec := { name := "fnExactSwarmsOf", fn := fun _ => fun
  | [d1, d2] => { results := [.lit (.bool true)], args := [d1, d2] }
  | _ => none }
def fnExactSwarmsOfRow : OpenClaim := { program := "ytfnlgojocgdmcaa", sum := "35c78aea794a80999f62ca4beb70e9130e1805e00121688f9f0c799414c92356", func := "loop.example/g01017/laws.FnExactSwarmsOf", spec := "fnExactSwarmsOf", unfollowed := true, recurses := true, apart := false }
def FnExactSwarmsOfSaid : Prop := fnExactSwarmsOfRow.holds Try.pinned (OpenSpec.ofChange fnExactSwarmsOfSpec)

/-- ITS FALSE NEIGHBOUR: 'it returns false'. Refute it at one input. -/
def fnExactSwarmsOfWrong : ChangeSpec := { name := "fnExactSwarmsOf", fn := fun _ => fun
  | [d1, d2] => { results := [.lit (.bool false)], args := [d1, d2] }
  | _ => none }
def FnExactSwarmsOfWrongFalsely : Prop := fnExactSwarmsOfRow.holds Try.pinned (OpenSpec.ofChange fnExactSwarmsOfWrong)

/-- 'laws.FnWatches': WHATEVER THE INPUT: true; the input reads as it did. -/
def fnWatchesSpec : ChangeSpec := { name := "fnWatches", fn := fun _ => fun
  | [d] => { results := [.lit (.bool true)], args := [d] }
  | _ => none }
def fnWatchesRow : OpenClaim := { program := "ytfnlgojocgdmcaa", sum := "35c78aea794a80999f62ca4beb70e9130e1805e00121688f9f0c799414c92356", func := "loop.example/g01017/laws.FnWatches", spec := "fnWatches", unfollowed := true, recurses := true, apart := false }
def FnWatchesSaid : Prop := fnWatchesRow.holds Try.pinned (OpenSpec.ofChange fnWatchesSpec)

/-- ITS FALSE NEIGHBOUR: 'it returns false'. Refute it at one input. -/
def fnWatchesWrong : ChangeSpec := { name := "fnWatches", fn := fun _ => fun
  | [d] => { results := [.lit (.bool false)], args := [d] }
  | _ => none }
def FnWatchesWrongFalsely : Prop := fnWatchesRow.holds Try.pinned (OpenSpec.ofChange fnWatchesWrong)

/-- 'laws.FnQuakes': WHATEVER THE INPUT: true; the input reads as it did. -/
def fnQuakesSpec : ChangeSpec := { name := "fnQuakes", fn := fun _ => fun
  | [d] => { results := [.lit (.bool true)], args := [d] }
  | _ => none }
def fnQuakesRow : OpenClaim := { program := "ytfnlgojocgdmcaa", sum := "35c78aea794a80999f62ca4beb70e9130e1805e00121688f9f0c799414c92356", func := "loop.example/g01017/laws.FnQuakes", spec := "fnQuakes", unfollowed := true, recurses := true, apart := false }
def FnQuakesSaid : Prop := fnQuakesRow.holds Try.pinned (OpenSpec.ofChange fnQuakesSpec)

/-- ITS FALSE NEIGHBOUR: 'it returns false'. Refute it at one input. -/
def fnQuakesWrong : ChangeSpec := { name := "fnQuakes", fn := fun _ => fun
  | [d] => { results := [.lit (.bool false)], args := [d] }
  | _ => none }
def FnQuakesWrongFalsely : Prop := fnQuakesRow.holds Try.pinned (OpenSpec.ofChange fnQuakesWrong)

/-- 'laws.FnExactJoinWeeks': WHATEVER THE INPUT: true; the input reads as it did. -/
def fnExactJoinWeeksSpec : ChangeSpec := { name := "fnExactJoinWeeks", fn := fun _ => fun
  | [d1, d2] => { results := [.lit (.bool true)], args := [d1, d2] }
  | _ => none }
def fnExactJoinWeeksRow : OpenClaim := { program := "ytfnlgojocgdmcaa", sum := "35c78aea794a80999f62ca4beb70e9130e1805e00121688f9f0c799414c92356", func := "loop.example/g01017/laws.FnExactJoinWeeks", spec := "fnExactJoinWeeks", unfollowed := true, recurses := true, apart := false }
def FnExactJoinWeeksSaid : Prop := fnExactJoinWeeksRow.holds Try.pinned (OpenSpec.ofChange fnExactJoinWeeksSpec)

/-- ITS FALSE NEIGHBOUR: 'it returns false'. Refute it at one input. -/
def fnExactJoinWeeksWrong : ChangeSpec := { name := "fnExactJoinWeeks", fn := fun _ => fun
  | [d1, d2] => { results := [.lit (.bool false)], args := [d1, d2] }
  | _ => none }
def FnExactJoinWeeksWrongFalsely : Prop := fnExactJoinWeeksRow.holds Try.pinned (OpenSpec.ofChange fnExactJoinWeeksWrong)

/-- 'laws.FnAlarms': WHATEVER THE INPUT: true; the input reads as it did. -/
def fnAlarmsSpec : ChangeSpec := { name := "fnAlarms", fn := fun _ => fun
  | [d] => { results := [.lit (.bool true)], args := [d] }
  | _ => none }
def fnAlarmsRow : OpenClaim := { program := "ytfnlgojocgdmcaa", sum := "35c78aea794a80999f62ca4beb70e9130e1805e00121688f9f0c799414c92356", func := "loop.example/g01017/laws.FnAlarms", spec := "fnAlarms", unfollowed := true, recurses := true, apart := false }
def FnAlarmsSaid : Prop := fnAlarmsRow.holds Try.pinned (OpenSpec.ofChange fnAlarmsSpec)

/-- ITS FALSE NEIGHBOUR: 'it returns false'. Refute it at one input. -/
def fnAlarmsWrong : ChangeSpec := { name := "fnAlarms", fn := fun _ => fun
  | [d] => { results := [.lit (.bool false)], args := [d] }
  | _ => none }
def FnAlarmsWrongFalsely : Prop := fnAlarmsRow.holds Try.pinned (OpenSpec.ofChange fnAlarmsWrong)

/- THE SECOND FORM. 'bulk': how many values and letters a reading holds, each counted each time it is reached (what is shared counts as often as it is met; a slice's spare places count too). A statement '..UptoSaid' is the law's where the arguments, and the package variables that the reading takes, are together of bulk at most 1048576: NARROWER than '..Said'. Prove '..Said' where nothing that the law and all that it calls make is longer than what came in: it says more and counts as full. Else prove '..UptoSaid'. A law counts once. -/
mutual
def uptoBulk {H : Type} : DataW H → Nat
  | .lit (.string bytes) => bytes.length + 1
  | .lit _ => 1
  | .nil => 1
  | .ptr d => uptoBulk d + 1
  | .slice elems spare => uptoBulkAll elems + uptoBulkAll spare + 1
  | .agg parts => uptoBulkAll parts + 1
  | .iface _ d => uptoBulk d + 1
  | .map entries => uptoBulkEntries entries + 1
  | .held _ => 1
def uptoBulkAll {H : Type} : List (DataW H) → Nat
  | [] => 0
  | d :: r => uptoBulk d + uptoBulkAll r
def uptoBulkEntries {H : Type} : List (Lit × DataW H) → Nat
  | [] => 0
  | x :: r => uptoBulkEntry x + uptoBulkEntries r
def uptoBulkEntry {H : Type} : Lit × DataW H → Nat
  | (.string bytes, d) => bytes.length + uptoBulk d + 1
  | (_, d) => uptoBulk d + 1
 end
def uptoSmall : (H : Type) → List (DataW H) → Bool := fun _ ds => decide (uptoBulkAll ds ≤ 1048576)
def OpenSpec.upto (s : _root_.Go.ChangeSpec) : _root_.Go.OpenSpec := { _root_.Go.OpenSpec.ofChange s with cond := some uptoSmall }

/-- 'laws.FnExactSwarmsOf', WHERE WHAT IT READS IS OF BULK AT MOST 1048576: true; the input reads as it did. -/
def fnExactSwarmsOfUptoRow : OpenClaim := { program := "ytfnlgojocgdmcaa", sum := "35c78aea794a80999f62ca4beb70e9130e1805e00121688f9f0c799414c92356", func := "loop.example/g01017/laws.FnExactSwarmsOf", spec := "fnExactSwarmsOf", unfollowed := true, recurses := true, apart := false, narrowed := true }
def FnExactSwarmsOfUptoSaid : Prop := fnExactSwarmsOfUptoRow.holds Try.pinned (OpenSpec.upto fnExactSwarmsOfSpec)

/-- 'laws.FnWatches', WHERE WHAT IT READS IS OF BULK AT MOST 1048576: true; the input reads as it did. -/
def fnWatchesUptoRow : OpenClaim := { program := "ytfnlgojocgdmcaa", sum := "35c78aea794a80999f62ca4beb70e9130e1805e00121688f9f0c799414c92356", func := "loop.example/g01017/laws.FnWatches", spec := "fnWatches", unfollowed := true, recurses := true, apart := false, narrowed := true }
def FnWatchesUptoSaid : Prop := fnWatchesUptoRow.holds Try.pinned (OpenSpec.upto fnWatchesSpec)

/-- 'laws.FnQuakes', WHERE WHAT IT READS IS OF BULK AT MOST 1048576: true; the input reads as it did. -/
def fnQuakesUptoRow : OpenClaim := { program := "ytfnlgojocgdmcaa", sum := "35c78aea794a80999f62ca4beb70e9130e1805e00121688f9f0c799414c92356", func := "loop.example/g01017/laws.FnQuakes", spec := "fnQuakes", unfollowed := true, recurses := true, apart := false, narrowed := true }
def FnQuakesUptoSaid : Prop := fnQuakesUptoRow.holds Try.pinned (OpenSpec.upto fnQuakesSpec)

/-- 'laws.FnExactJoinWeeks', WHERE WHAT IT READS IS OF BULK AT MOST 1048576: true; the input reads as it did. -/
def fnExactJoinWeeksUptoRow : OpenClaim := { program := "ytfnlgojocgdmcaa", sum := "35c78aea794a80999f62ca4beb70e9130e1805e00121688f9f0c799414c92356", func := "loop.example/g01017/laws.FnExactJoinWeeks", spec := "fnExactJoinWeeks", unfollowed := true, recurses := true, apart := false, narrowed := true }
def FnExactJoinWeeksUptoSaid : Prop := fnExactJoinWeeksUptoRow.holds Try.pinned (OpenSpec.upto fnExactJoinWeeksSpec)

/-- 'laws.FnAlarms', WHERE WHAT IT READS IS OF BULK AT MOST 1048576: true; the input reads as it did. -/
def fnAlarmsUptoRow : OpenClaim := { program := "ytfnlgojocgdmcaa", sum := "35c78aea794a80999f62ca4beb70e9130e1805e00121688f9f0c799414c92356", func := "loop.example/g01017/laws.FnAlarms", spec := "fnAlarms", unfollowed := true, recurses := true, apart := false, narrowed := true }
def FnAlarmsUptoSaid : Prop := fnAlarmsUptoRow.holds Try.pinned (OpenSpec.upto fnAlarmsSpec)

end Rows
end Go.Proofs.Ytfnlgojocgdmcaa
