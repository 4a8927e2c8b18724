/-
  No cell of these rows narrows 'for every input' (looked for: loops, veiled, ifaces, maps, wideKeys, modest, calm, conditions, laid).
  DERIVED. THE GIVEN ROWS OF THIS SEAT. 10 by the template 'for every input the law returns true; each argument reads behind the call as it read before'; 0 by the template 'total and deterministic' (their statements: YtekhnmibkkinaaaTotals.lean).
  GIVEN WITH THE SEED: the statements are not yours to turn. If you find one false, say at which input.
  Laid BY PROGRAM, IN A SANDBOX (cutbox-rows.mjs): the forced cells as the released guide's own fill.sh prints them over the translation 975272a6d1e2ff50… (all of the seat's roots in one cut). By AI agents, Wed Nov 11 2026. No macro, syntax, notation, axiom, sorry.
-/
import Derived.Test.YtekhnmibkkinaaaChecked
import GoSem.Claim
import GoSem.ClaimJoined
import GoSem.ClaimMapViews
import Derived.JoinedTies
import Derived.KernelRfl
namespace Go.Proofs.Ytekhnmibkkinaaa
/- THE CELL 'sum', in the pinned program and in every row, IS THE sha256 OF THE DUMP (.gsa) THAT YtekhnmibkkinaaaProg.lean LOADS. Nothing in Lean hashes anything: it is a label: what it is worth is what the hold of that sum in a sandbox is worth. -/
noncomputable def Try.pinned : Pinned := { name := "ytekhnmibkkinaaa", sum := "975272a6d1e2ff5089c2567ceda592794cdf3b9ab6a4f7c5b2741b059a75de26", checked := Try.checked }
namespace Rows
def none {H : Type} : Left H := { results := [], args := [] }

/-- 'laws.FnExactSwarmsOf': WHATEVER THE INPUT: true; the input reads as it did. -/
def fnExactSwarmsOfSpec : ChangeSpec := { name := "fnExactSwarmsOf", fn := fun _ => fun
  | [d1, d2] => { results := [.lit (.bool true)], args := [d1, d2] }
  | _ => none }
def fnExactSwarmsOfRow : OpenClaim := { program := "ytekhnmibkkinaaa", sum := "975272a6d1e2ff5089c2567ceda592794cdf3b9ab6a4f7c5b2741b059a75de26", func := "loop.example/g01017/laws.FnExactSwarmsOf", spec := "fnExactSwarmsOf", unfollowed := true, recurses := true, apart := false }
def FnExactSwarmsOfSaid : Prop := fnExactSwarmsOfRow.holds Try.pinned (OpenSpec.ofChange fnExactSwarmsOfSpec)

/-- ITS FALSE NEIGHBOUR: 'it returns false'. Refute it at one input. -/
def fnExactSwarmsOfWrong : ChangeSpec := { name := "fnExactSwarmsOf", fn := fun _ => fun
  | [d1, d2] => { results := [.lit (.bool false)], args := [d1, d2] }
  | _ => none }
def FnExactSwarmsOfWrongFalsely : Prop := fnExactSwarmsOfRow.holds Try.pinned (OpenSpec.ofChange fnExactSwarmsOfWrong)

/-- 'laws.FnExactConnectFaults': WHATEVER THE INPUT: true; the input reads as it did. -/
def fnExactConnectFaultsSpec : ChangeSpec := { name := "fnExactConnectFaults", fn := fun _ => fun
  | [d1, d2, d3] => { results := [.lit (.bool true)], args := [d1, d2, d3] }
  | _ => none }
def fnExactConnectFaultsRow : OpenClaim := { program := "ytekhnmibkkinaaa", sum := "975272a6d1e2ff5089c2567ceda592794cdf3b9ab6a4f7c5b2741b059a75de26", func := "loop.example/g01017/laws.FnExactConnectFaults", spec := "fnExactConnectFaults", unfollowed := true, recurses := true, apart := false }
def FnExactConnectFaultsSaid : Prop := fnExactConnectFaultsRow.holds Try.pinned (OpenSpec.ofChange fnExactConnectFaultsSpec)

/-- ITS FALSE NEIGHBOUR: 'it returns false'. Refute it at one input. -/
def fnExactConnectFaultsWrong : ChangeSpec := { name := "fnExactConnectFaults", fn := fun _ => fun
  | [d1, d2, d3] => { results := [.lit (.bool false)], args := [d1, d2, d3] }
  | _ => none }
def FnExactConnectFaultsWrongFalsely : Prop := fnExactConnectFaultsRow.holds Try.pinned (OpenSpec.ofChange fnExactConnectFaultsWrong)

/-- 'laws.FnExactStepAlarm': WHATEVER THE INPUT: true; the input reads as it did. -/
def fnExactStepAlarmSpec : ChangeSpec := { name := "fnExactStepAlarm", fn := fun _ => fun
  | [d1, d2] => { results := [.lit (.bool true)], args := [d1, d2] }
  | _ => none }
def fnExactStepAlarmRow : OpenClaim := { program := "ytekhnmibkkinaaa", sum := "975272a6d1e2ff5089c2567ceda592794cdf3b9ab6a4f7c5b2741b059a75de26", func := "loop.example/g01017/laws.FnExactStepAlarm", spec := "fnExactStepAlarm", unfollowed := true, recurses := true, apart := false }
def FnExactStepAlarmSaid : Prop := fnExactStepAlarmRow.holds Try.pinned (OpenSpec.ofChange fnExactStepAlarmSpec)

/-- ITS FALSE NEIGHBOUR: 'it returns false'. Refute it at one input. -/
def fnExactStepAlarmWrong : ChangeSpec := { name := "fnExactStepAlarm", fn := fun _ => fun
  | [d1, d2] => { results := [.lit (.bool false)], args := [d1, d2] }
  | _ => none }
def FnExactStepAlarmWrongFalsely : Prop := fnExactStepAlarmRow.holds Try.pinned (OpenSpec.ofChange fnExactStepAlarmWrong)

/-- 'laws.FnExactBestOfBoth': WHATEVER THE INPUT: true; the input reads as it did. -/
def fnExactBestOfBothSpec : ChangeSpec := { name := "fnExactBestOfBoth", fn := fun _ => fun
  | [d1, d2] => { results := [.lit (.bool true)], args := [d1, d2] }
  | _ => none }
def fnExactBestOfBothRow : OpenClaim := { program := "ytekhnmibkkinaaa", sum := "975272a6d1e2ff5089c2567ceda592794cdf3b9ab6a4f7c5b2741b059a75de26", func := "loop.example/g01017/laws.FnExactBestOfBoth", spec := "fnExactBestOfBoth", unfollowed := true, recurses := true, apart := false }
def FnExactBestOfBothSaid : Prop := fnExactBestOfBothRow.holds Try.pinned (OpenSpec.ofChange fnExactBestOfBothSpec)

/-- ITS FALSE NEIGHBOUR: 'it returns false'. Refute it at one input. -/
def fnExactBestOfBothWrong : ChangeSpec := { name := "fnExactBestOfBoth", fn := fun _ => fun
  | [d1, d2] => { results := [.lit (.bool false)], args := [d1, d2] }
  | _ => none }
def FnExactBestOfBothWrongFalsely : Prop := fnExactBestOfBothRow.holds Try.pinned (OpenSpec.ofChange fnExactBestOfBothWrong)

/-- 'laws.FnExactRunAlarm': WHATEVER THE INPUT: true; the input reads as it did. -/
def fnExactRunAlarmSpec : ChangeSpec := { name := "fnExactRunAlarm", fn := fun _ => fun
  | [d1, d2] => { results := [.lit (.bool true)], args := [d1, d2] }
  | _ => none }
def fnExactRunAlarmRow : OpenClaim := { program := "ytekhnmibkkinaaa", sum := "975272a6d1e2ff5089c2567ceda592794cdf3b9ab6a4f7c5b2741b059a75de26", func := "loop.example/g01017/laws.FnExactRunAlarm", spec := "fnExactRunAlarm", unfollowed := true, recurses := true, apart := false }
def FnExactRunAlarmSaid : Prop := fnExactRunAlarmRow.holds Try.pinned (OpenSpec.ofChange fnExactRunAlarmSpec)

/-- ITS FALSE NEIGHBOUR: 'it returns false'. Refute it at one input. -/
def fnExactRunAlarmWrong : ChangeSpec := { name := "fnExactRunAlarm", fn := fun _ => fun
  | [d1, d2] => { results := [.lit (.bool false)], args := [d1, d2] }
  | _ => none }
def FnExactRunAlarmWrongFalsely : Prop := fnExactRunAlarmRow.holds Try.pinned (OpenSpec.ofChange fnExactRunAlarmWrong)

/-- 'laws.FnWatches': WHATEVER THE INPUT: true; the input reads as it did. -/
def fnWatchesSpec : ChangeSpec := { name := "fnWatches", fn := fun _ => fun
  | [d] => { results := [.lit (.bool true)], args := [d] }
  | _ => none }
def fnWatchesRow : OpenClaim := { program := "ytekhnmibkkinaaa", sum := "975272a6d1e2ff5089c2567ceda592794cdf3b9ab6a4f7c5b2741b059a75de26", func := "loop.example/g01017/laws.FnWatches", spec := "fnWatches", unfollowed := true, recurses := true, apart := false }
def FnWatchesSaid : Prop := fnWatchesRow.holds Try.pinned (OpenSpec.ofChange fnWatchesSpec)

/-- ITS FALSE NEIGHBOUR: 'it returns false'. Refute it at one input. -/
def fnWatchesWrong : ChangeSpec := { name := "fnWatches", fn := fun _ => fun
  | [d] => { results := [.lit (.bool false)], args := [d] }
  | _ => none }
def FnWatchesWrongFalsely : Prop := fnWatchesRow.holds Try.pinned (OpenSpec.ofChange fnWatchesWrong)

/-- 'laws.FnExactMedianEvents': WHATEVER THE INPUT: true; the input reads as it did. -/
def fnExactMedianEventsSpec : ChangeSpec := { name := "fnExactMedianEvents", fn := fun _ => fun
  | [d] => { results := [.lit (.bool true)], args := [d] }
  | _ => none }
def fnExactMedianEventsRow : OpenClaim := { program := "ytekhnmibkkinaaa", sum := "975272a6d1e2ff5089c2567ceda592794cdf3b9ab6a4f7c5b2741b059a75de26", func := "loop.example/g01017/laws.FnExactMedianEvents", spec := "fnExactMedianEvents", unfollowed := true, recurses := true, apart := false }
def FnExactMedianEventsSaid : Prop := fnExactMedianEventsRow.holds Try.pinned (OpenSpec.ofChange fnExactMedianEventsSpec)

/-- ITS FALSE NEIGHBOUR: 'it returns false'. Refute it at one input. -/
def fnExactMedianEventsWrong : ChangeSpec := { name := "fnExactMedianEvents", fn := fun _ => fun
  | [d] => { results := [.lit (.bool false)], args := [d] }
  | _ => none }
def FnExactMedianEventsWrongFalsely : Prop := fnExactMedianEventsRow.holds Try.pinned (OpenSpec.ofChange fnExactMedianEventsWrong)

/-- 'laws.FnExactStepWatch': WHATEVER THE INPUT: true; the input reads as it did. -/
def fnExactStepWatchSpec : ChangeSpec := { name := "fnExactStepWatch", fn := fun _ => fun
  | [d1, d2] => { results := [.lit (.bool true)], args := [d1, d2] }
  | _ => none }
def fnExactStepWatchRow : OpenClaim := { program := "ytekhnmibkkinaaa", sum := "975272a6d1e2ff5089c2567ceda592794cdf3b9ab6a4f7c5b2741b059a75de26", func := "loop.example/g01017/laws.FnExactStepWatch", spec := "fnExactStepWatch", unfollowed := true, recurses := true, apart := false }
def FnExactStepWatchSaid : Prop := fnExactStepWatchRow.holds Try.pinned (OpenSpec.ofChange fnExactStepWatchSpec)

/-- ITS FALSE NEIGHBOUR: 'it returns false'. Refute it at one input. -/
def fnExactStepWatchWrong : ChangeSpec := { name := "fnExactStepWatch", fn := fun _ => fun
  | [d1, d2] => { results := [.lit (.bool false)], args := [d1, d2] }
  | _ => none }
def FnExactStepWatchWrongFalsely : Prop := fnExactStepWatchRow.holds Try.pinned (OpenSpec.ofChange fnExactStepWatchWrong)

/-- 'laws.FnExactJoinWeeks': WHATEVER THE INPUT: true; the input reads as it did. -/
def fnExactJoinWeeksSpec : ChangeSpec := { name := "fnExactJoinWeeks", fn := fun _ => fun
  | [d1, d2] => { results := [.lit (.bool true)], args := [d1, d2] }
  | _ => none }
def fnExactJoinWeeksRow : OpenClaim := { program := "ytekhnmibkkinaaa", sum := "975272a6d1e2ff5089c2567ceda592794cdf3b9ab6a4f7c5b2741b059a75de26", func := "loop.example/g01017/laws.FnExactJoinWeeks", spec := "fnExactJoinWeeks", unfollowed := true, recurses := true, apart := false }
def FnExactJoinWeeksSaid : Prop := fnExactJoinWeeksRow.holds Try.pinned (OpenSpec.ofChange fnExactJoinWeeksSpec)

/-- ITS FALSE NEIGHBOUR: 'it returns false'. Refute it at one input. -/
def fnExactJoinWeeksWrong : ChangeSpec := { name := "fnExactJoinWeeks", fn := fun _ => fun
  | [d1, d2] => { results := [.lit (.bool false)], args := [d1, d2] }
  | _ => none }
def FnExactJoinWeeksWrongFalsely : Prop := fnExactJoinWeeksRow.holds Try.pinned (OpenSpec.ofChange fnExactJoinWeeksWrong)

/-- 'laws.FnExactRunWatch': WHATEVER THE INPUT: true; the input reads as it did. -/
def fnExactRunWatchSpec : ChangeSpec := { name := "fnExactRunWatch", fn := fun _ => fun
  | [d1, d2] => { results := [.lit (.bool true)], args := [d1, d2] }
  | _ => none }
def fnExactRunWatchRow : OpenClaim := { program := "ytekhnmibkkinaaa", sum := "975272a6d1e2ff5089c2567ceda592794cdf3b9ab6a4f7c5b2741b059a75de26", func := "loop.example/g01017/laws.FnExactRunWatch", spec := "fnExactRunWatch", unfollowed := true, recurses := true, apart := false }
def FnExactRunWatchSaid : Prop := fnExactRunWatchRow.holds Try.pinned (OpenSpec.ofChange fnExactRunWatchSpec)

/-- ITS FALSE NEIGHBOUR: 'it returns false'. Refute it at one input. -/
def fnExactRunWatchWrong : ChangeSpec := { name := "fnExactRunWatch", fn := fun _ => fun
  | [d1, d2] => { results := [.lit (.bool false)], args := [d1, d2] }
  | _ => none }
def FnExactRunWatchWrongFalsely : Prop := fnExactRunWatchRow.holds Try.pinned (OpenSpec.ofChange fnExactRunWatchWrong)

/- THE SECOND FORM. 'bulk': how many values and letters a reading holds, each counted each time it is reached (what is shared counts as often as it is met; a slice's spare places count too). A statement '..UptoSaid' is the law's where the arguments, and the package variables that the reading takes, are together of bulk at most 1048576: NARROWER than '..Said'. Prove '..Said' where nothing that the law and all that it calls make is longer than what came in: it says more and counts as full. Else prove '..UptoSaid'. A law counts once. -/
mutual
def uptoBulk {H : Type} : DataW H → Nat
  | .lit (.string bytes) => bytes.length + 1
  | .lit _ => 1
  | .nil => 1
  | .ptr d => uptoBulk d + 1
  | .slice elems spare => uptoBulkAll elems + uptoBulkAll spare + 1
  | .agg parts => uptoBulkAll parts + 1
  | .iface _ d => uptoBulk d + 1
  | .map entries => uptoBulkEntries entries + 1
  | .held _ => 1
def uptoBulkAll {H : Type} : List (DataW H) → Nat
  | [] => 0
  | d :: r => uptoBulk d + uptoBulkAll r
def uptoBulkEntries {H : Type} : List (Lit × DataW H) → Nat
  | [] => 0
  | x :: r => uptoBulkEntry x + uptoBulkEntries r
def uptoBulkEntry {H : Type} : Lit × DataW H → Nat
  | (.string bytes, d) => bytes.length + uptoBulk d + 1
  | (_, d) => uptoBulk d + 1
 end
def uptoSmall : (H : Type) → List (DataW H) → Bool := fun _ ds => decide (uptoBulkAll ds ≤ 1048576)
def OpenSpec.upto (s : _root_.Go.ChangeSpec) : _root_.Go.OpenSpec := { _root_.Go.OpenSpec.ofChange s with cond := some uptoSmall }

/-- 'laws.FnExactSwarmsOf', WHERE WHAT IT READS IS OF BULK AT MOST 1048576: true; the input reads as it did. -/
def fnExactSwarmsOfUptoRow : OpenClaim := { program := "ytekhnmibkkinaaa", sum := "975272a6d1e2ff5089c2567ceda592794cdf3b9ab6a4f7c5b2741b059a75de26", func := "loop.example/g01017/laws.FnExactSwarmsOf", spec := "fnExactSwarmsOf", unfollowed := true, recurses := true, apart := false, narrowed := true }
def FnExactSwarmsOfUptoSaid : Prop := fnExactSwarmsOfUptoRow.holds Try.pinned (OpenSpec.upto fnExactSwarmsOfSpec)

/-- 'laws.FnExactConnectFaults', WHERE WHAT IT READS IS OF BULK AT MOST 1048576: true; the input reads as it did. -/
def fnExactConnectFaultsUptoRow : OpenClaim := { program := "ytekhnmibkkinaaa", sum := "975272a6d1e2ff5089c2567ceda592794cdf3b9ab6a4f7c5b2741b059a75de26", func := "loop.example/g01017/laws.FnExactConnectFaults", spec := "fnExactConnectFaults", unfollowed := true, recurses := true, apart := false, narrowed := true }
def FnExactConnectFaultsUptoSaid : Prop := fnExactConnectFaultsUptoRow.holds Try.pinned (OpenSpec.upto fnExactConnectFaultsSpec)

/-- 'laws.FnExactStepAlarm', WHERE WHAT IT READS IS OF BULK AT MOST 1048576: true; the input reads as it did. -/
def fnExactStepAlarmUptoRow : OpenClaim := { program := "ytekhnmibkkinaaa", sum := "975272a6d1e2ff5089c2567ceda592794cdf3b9ab6a4f7c5b2741b059a75de26", func := "loop.example/g01017/laws.FnExactStepAlarm", spec := "fnExactStepAlarm", unfollowed := true, recurses := true, apart := false, narrowed := true }
def FnExactStepAlarmUptoSaid : Prop := fnExactStepAlarmUptoRow.holds Try.pinned (OpenSpec.upto fnExactStepAlarmSpec)

/-- 'laws.FnExactBestOfBoth', WHERE WHAT IT READS IS OF BULK AT MOST 1048576: true; the input reads as it did. -/
def fnExactBestOfBothUptoRow : OpenClaim := { program := "ytekhnmibkkinaaa", sum := "975272a6d1e2ff5089c2567ceda592794cdf3b9ab6a4f7c5b2741b059a75de26", func := "loop.example/g01017/laws.FnExactBestOfBoth", spec := "fnExactBestOfBoth", unfollowed := true, recurses := true, apart := false, narrowed := true }
def FnExactBestOfBothUptoSaid : Prop := fnExactBestOfBothUptoRow.holds Try.pinned (OpenSpec.upto fnExactBestOfBothSpec)

/-- 'laws.FnExactRunAlarm', WHERE WHAT IT READS IS OF BULK AT MOST 1048576: true; the input reads as it did. -/
def fnExactRunAlarmUptoRow : OpenClaim := { program := "ytekhnmibkkinaaa", sum := "975272a6d1e2ff5089c2567ceda592794cdf3b9ab6a4f7c5b2741b059a75de26", func := "loop.example/g01017/laws.FnExactRunAlarm", spec := "fnExactRunAlarm", unfollowed := true, recurses := true, apart := false, narrowed := true }
def FnExactRunAlarmUptoSaid : Prop := fnExactRunAlarmUptoRow.holds Try.pinned (OpenSpec.upto fnExactRunAlarmSpec)

/-- 'laws.FnWatches', WHERE WHAT IT READS IS OF BULK AT MOST 1048576: true; the input reads as it did. -/
def fnWatchesUptoRow : OpenClaim := { program := "ytekhnmibkkinaaa", sum := "975272a6d1e2ff5089c2567ceda592794cdf3b9ab6a4f7c5b2741b059a75de26", func := "loop.example/g01017/laws.FnWatches", spec := "fnWatches", unfollowed := true, recurses := true, apart := false, narrowed := true }
def FnWatchesUptoSaid : Prop := fnWatchesUptoRow.holds Try.pinned (OpenSpec.upto fnWatchesSpec)

/-- 'laws.FnExactMedianEvents', WHERE WHAT IT READS IS OF BULK AT MOST 1048576: true; the input reads as it did. -/
def fnExactMedianEventsUptoRow : OpenClaim := { program := "ytekhnmibkkinaaa", sum := "975272a6d1e2ff5089c2567ceda592794cdf3b9ab6a4f7c5b2741b059a75de26", func := "loop.example/g01017/laws.FnExactMedianEvents", spec := "fnExactMedianEvents", unfollowed := true, recurses := true, apart := false, narrowed := true }
def FnExactMedianEventsUptoSaid : Prop := fnExactMedianEventsUptoRow.holds Try.pinned (OpenSpec.upto fnExactMedianEventsSpec)

/-- 'laws.FnExactStepWatch', WHERE WHAT IT READS IS OF BULK AT MOST 1048576: true; the input reads as it did. -/
def fnExactStepWatchUptoRow : OpenClaim := { program := "ytekhnmibkkinaaa", sum := "975272a6d1e2ff5089c2567ceda592794cdf3b9ab6a4f7c5b2741b059a75de26", func := "loop.example/g01017/laws.FnExactStepWatch", spec := "fnExactStepWatch", unfollowed := true, recurses := true, apart := false, narrowed := true }
def FnExactStepWatchUptoSaid : Prop := fnExactStepWatchUptoRow.holds Try.pinned (OpenSpec.upto fnExactStepWatchSpec)

/-- 'laws.FnExactJoinWeeks', WHERE WHAT IT READS IS OF BULK AT MOST 1048576: true; the input reads as it did. -/
def fnExactJoinWeeksUptoRow : OpenClaim := { program := "ytekhnmibkkinaaa", sum := "975272a6d1e2ff5089c2567ceda592794cdf3b9ab6a4f7c5b2741b059a75de26", func := "loop.example/g01017/laws.FnExactJoinWeeks", spec := "fnExactJoinWeeks", unfollowed := true, recurses := true, apart := false, narrowed := true }
def FnExactJoinWeeksUptoSaid : Prop := fnExactJoinWeeksUptoRow.holds Try.pinned (OpenSpec.upto fnExactJoinWeeksSpec)

/-- 'laws.FnExactRunWatch', WHERE WHAT IT READS IS OF BULK AT MOST 1048576: true; the input reads as it did. -/
def fnExactRunWatchUptoRow : OpenClaim := { program := "ytekhnmibkkinaaa", sum := "975272a6d1e2ff5089c2567ceda592794cdf3b9ab6a4f7c5b2741b059a75de26", func := "loop.example/g01017/laws.FnExactRunWatch", spec := "fnExactRunWatch", unfollowed := true, recurses := true, apart := false, narrowed := true }
def FnExactRunWatchUptoSaid : Prop := fnExactRunWatchUptoRow.holds Try.pinned (OpenSpec.upto fnExactRunWatchSpec)

end Rows
end Go.Proofs.Ytekhnmibkkinaaa
