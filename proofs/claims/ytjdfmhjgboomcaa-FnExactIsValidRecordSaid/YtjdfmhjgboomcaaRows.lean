/-
  No cell of these rows narrows 'for every input' (looked for: loops, veiled, ifaces, maps, wideKeys, modest, calm, conditions, laid).
  DERIVED. THE GIVEN ROWS OF THIS SEAT. 13 by the template 'for every input the law returns true; each argument reads behind the call as it read before'; 0 by the template 'total and deterministic' (their statements: YtjdfmhjgboomcaaTotals.lean).
  GIVEN WITH THE SEED: the statements are not yours to turn. If you find one false, say at which input.
  Laid BY PROGRAM, IN A SANDBOX (cutbox-rows.mjs): the forced cells as the released guide's own fill.sh prints them over the translation 0423341412dea63f… (all of the seat's roots in one cut). By AI agents, Wed Nov 11 2026. No macro, syntax, notation, axiom, sorry.
-/
import Derived.Test.YtjdfmhjgboomcaaChecked
import GoSem.Claim
import GoSem.ClaimJoined
import GoSem.ClaimMapViews
import Derived.JoinedTies
import Derived.KernelRfl
namespace Go.Proofs.Ytjdfmhjgboomcaa
/- THE CELL 'sum', in the pinned program and in every row, IS THE sha256 OF THE DUMP (.gsa) THAT YtjdfmhjgboomcaaProg.lean LOADS. Nothing in Lean hashes anything: it is a label: what it is worth is what the hold of that sum in a sandbox is worth. -/
noncomputable def Try.pinned : Pinned := { name := "ytjdfmhjgboomcaa", sum := "0423341412dea63f0006d369c9a5e6623928802474cf725195f11d3c9e50daa4", checked := Try.checked }
namespace Rows
def none {H : Type} : Left H := { results := [], args := [] }

/-- 'laws.FnEventsFound': WHATEVER THE INPUT: true; the input reads as it did. -/
def fnEventsFoundSpec : ChangeSpec := { name := "fnEventsFound", fn := fun _ => fun
  | [d] => { results := [.lit (.bool true)], args := [d] }
  | _ => none }
def fnEventsFoundRow : OpenClaim := { program := "ytjdfmhjgboomcaa", sum := "0423341412dea63f0006d369c9a5e6623928802474cf725195f11d3c9e50daa4", func := "loop.example/g01017/laws.FnEventsFound", spec := "fnEventsFound", unfollowed := true, recurses := true, apart := false }
def FnEventsFoundSaid : Prop := fnEventsFoundRow.holds Try.pinned (OpenSpec.ofChange fnEventsFoundSpec)

/-- ITS FALSE NEIGHBOUR: 'it returns false'. Refute it at one input. -/
def fnEventsFoundWrong : ChangeSpec := { name := "fnEventsFound", fn := fun _ => fun
  | [d] => { results := [.lit (.bool false)], args := [d] }
  | _ => none }
def FnEventsFoundWrongFalsely : Prop := fnEventsFoundRow.holds Try.pinned (OpenSpec.ofChange fnEventsFoundWrong)

/-- 'laws.FnExactSwarmsOf': WHATEVER THE INPUT: true; the input reads as it did. -/
def fnExactSwarmsOfSpec : ChangeSpec := { name := "fnExactSwarmsOf", fn := fun _ => fun
  | [d1, d2] => { results := [.lit (.bool true)], args := [d1, d2] }
  | _ => none }
def fnExactSwarmsOfRow : OpenClaim := { program := "ytjdfmhjgboomcaa", sum := "0423341412dea63f0006d369c9a5e6623928802474cf725195f11d3c9e50daa4", func := "loop.example/g01017/laws.FnExactSwarmsOf", spec := "fnExactSwarmsOf", unfollowed := true, recurses := true, apart := false }
def FnExactSwarmsOfSaid : Prop := fnExactSwarmsOfRow.holds Try.pinned (OpenSpec.ofChange fnExactSwarmsOfSpec)

/-- ITS FALSE NEIGHBOUR: 'it returns false'. Refute it at one input. -/
def fnExactSwarmsOfWrong : ChangeSpec := { name := "fnExactSwarmsOf", fn := fun _ => fun
  | [d1, d2] => { results := [.lit (.bool false)], args := [d1, d2] }
  | _ => none }
def FnExactSwarmsOfWrongFalsely : Prop := fnExactSwarmsOfRow.holds Try.pinned (OpenSpec.ofChange fnExactSwarmsOfWrong)

/-- 'laws.FnExactReverseFault': WHATEVER THE INPUT: true; the input reads as it did. -/
def fnExactReverseFaultSpec : ChangeSpec := { name := "fnExactReverseFault", fn := fun _ => fun
  | [d] => { results := [.lit (.bool true)], args := [d] }
  | _ => none }
def fnExactReverseFaultRow : OpenClaim := { program := "ytjdfmhjgboomcaa", sum := "0423341412dea63f0006d369c9a5e6623928802474cf725195f11d3c9e50daa4", func := "loop.example/g01017/laws.FnExactReverseFault", spec := "fnExactReverseFault", unfollowed := true, recurses := true, apart := false }
def FnExactReverseFaultSaid : Prop := fnExactReverseFaultRow.holds Try.pinned (OpenSpec.ofChange fnExactReverseFaultSpec)

/-- ITS FALSE NEIGHBOUR: 'it returns false'. Refute it at one input. -/
def fnExactReverseFaultWrong : ChangeSpec := { name := "fnExactReverseFault", fn := fun _ => fun
  | [d] => { results := [.lit (.bool false)], args := [d] }
  | _ => none }
def FnExactReverseFaultWrongFalsely : Prop := fnExactReverseFaultRow.holds Try.pinned (OpenSpec.ofChange fnExactReverseFaultWrong)

/-- 'laws.FnExactDepthCounts': WHATEVER THE INPUT: true; the input reads as it did. -/
def fnExactDepthCountsSpec : ChangeSpec := { name := "fnExactDepthCounts", fn := fun _ => fun
  | [d1, d2] => { results := [.lit (.bool true)], args := [d1, d2] }
  | _ => none }
def fnExactDepthCountsRow : OpenClaim := { program := "ytjdfmhjgboomcaa", sum := "0423341412dea63f0006d369c9a5e6623928802474cf725195f11d3c9e50daa4", func := "loop.example/g01017/laws.FnExactDepthCounts", spec := "fnExactDepthCounts", unfollowed := true, recurses := true, apart := false }
def FnExactDepthCountsSaid : Prop := fnExactDepthCountsRow.holds Try.pinned (OpenSpec.ofChange fnExactDepthCountsSpec)

/-- ITS FALSE NEIGHBOUR: 'it returns false'. Refute it at one input. -/
def fnExactDepthCountsWrong : ChangeSpec := { name := "fnExactDepthCounts", fn := fun _ => fun
  | [d1, d2] => { results := [.lit (.bool false)], args := [d1, d2] }
  | _ => none }
def FnExactDepthCountsWrongFalsely : Prop := fnExactDepthCountsRow.holds Try.pinned (OpenSpec.ofChange fnExactDepthCountsWrong)

/-- 'laws.FnExactLongestDown': WHATEVER THE INPUT: true; the input reads as it did. -/
def fnExactLongestDownSpec : ChangeSpec := { name := "fnExactLongestDown", fn := fun _ => fun
  | [d] => { results := [.lit (.bool true)], args := [d] }
  | _ => none }
def fnExactLongestDownRow : OpenClaim := { program := "ytjdfmhjgboomcaa", sum := "0423341412dea63f0006d369c9a5e6623928802474cf725195f11d3c9e50daa4", func := "loop.example/g01017/laws.FnExactLongestDown", spec := "fnExactLongestDown", unfollowed := true, recurses := true, apart := false }
def FnExactLongestDownSaid : Prop := fnExactLongestDownRow.holds Try.pinned (OpenSpec.ofChange fnExactLongestDownSpec)

/-- ITS FALSE NEIGHBOUR: 'it returns false'. Refute it at one input. -/
def fnExactLongestDownWrong : ChangeSpec := { name := "fnExactLongestDown", fn := fun _ => fun
  | [d] => { results := [.lit (.bool false)], args := [d] }
  | _ => none }
def FnExactLongestDownWrongFalsely : Prop := fnExactLongestDownRow.holds Try.pinned (OpenSpec.ofChange fnExactLongestDownWrong)

/-- 'laws.FnExactCanCancel': WHATEVER THE INPUT: true; the input reads as it did. -/
def fnExactCanCancelSpec : ChangeSpec := { name := "fnExactCanCancel", fn := fun _ => fun
  | [d] => { results := [.lit (.bool true)], args := [d] }
  | _ => none }
def fnExactCanCancelRow : OpenClaim := { program := "ytjdfmhjgboomcaa", sum := "0423341412dea63f0006d369c9a5e6623928802474cf725195f11d3c9e50daa4", func := "loop.example/g01017/laws.FnExactCanCancel", spec := "fnExactCanCancel", unfollowed := true, recurses := true, apart := false }
def FnExactCanCancelSaid : Prop := fnExactCanCancelRow.holds Try.pinned (OpenSpec.ofChange fnExactCanCancelSpec)

/-- ITS FALSE NEIGHBOUR: 'it returns false'. Refute it at one input. -/
def fnExactCanCancelWrong : ChangeSpec := { name := "fnExactCanCancel", fn := fun _ => fun
  | [d] => { results := [.lit (.bool false)], args := [d] }
  | _ => none }
def FnExactCanCancelWrongFalsely : Prop := fnExactCanCancelRow.holds Try.pinned (OpenSpec.ofChange fnExactCanCancelWrong)

/-- 'laws.FnExactNewWatch': WHATEVER THE INPUT: true; the input reads as it did. -/
def fnExactNewWatchSpec : ChangeSpec := { name := "fnExactNewWatch", fn := fun _ => fun
  | [d] => { results := [.lit (.bool true)], args := [d] }
  | _ => none }
def fnExactNewWatchRow : OpenClaim := { program := "ytjdfmhjgboomcaa", sum := "0423341412dea63f0006d369c9a5e6623928802474cf725195f11d3c9e50daa4", func := "loop.example/g01017/laws.FnExactNewWatch", spec := "fnExactNewWatch", unfollowed := true, recurses := true, apart := false }
def FnExactNewWatchSaid : Prop := fnExactNewWatchRow.holds Try.pinned (OpenSpec.ofChange fnExactNewWatchSpec)

/-- ITS FALSE NEIGHBOUR: 'it returns false'. Refute it at one input. -/
def fnExactNewWatchWrong : ChangeSpec := { name := "fnExactNewWatch", fn := fun _ => fun
  | [d] => { results := [.lit (.bool false)], args := [d] }
  | _ => none }
def FnExactNewWatchWrongFalsely : Prop := fnExactNewWatchRow.holds Try.pinned (OpenSpec.ofChange fnExactNewWatchWrong)

/-- 'laws.FnExactBestOnGrid': WHATEVER THE INPUT: true; the input reads as it did. -/
def fnExactBestOnGridSpec : ChangeSpec := { name := "fnExactBestOnGrid", fn := fun _ => fun
  | [d1, d2] => { results := [.lit (.bool true)], args := [d1, d2] }
  | _ => none }
def fnExactBestOnGridRow : OpenClaim := { program := "ytjdfmhjgboomcaa", sum := "0423341412dea63f0006d369c9a5e6623928802474cf725195f11d3c9e50daa4", func := "loop.example/g01017/laws.FnExactBestOnGrid", spec := "fnExactBestOnGrid", unfollowed := true, recurses := true, apart := false }
def FnExactBestOnGridSaid : Prop := fnExactBestOnGridRow.holds Try.pinned (OpenSpec.ofChange fnExactBestOnGridSpec)

/-- ITS FALSE NEIGHBOUR: 'it returns false'. Refute it at one input. -/
def fnExactBestOnGridWrong : ChangeSpec := { name := "fnExactBestOnGrid", fn := fun _ => fun
  | [d1, d2] => { results := [.lit (.bool false)], args := [d1, d2] }
  | _ => none }
def FnExactBestOnGridWrongFalsely : Prop := fnExactBestOnGridRow.holds Try.pinned (OpenSpec.ofChange fnExactBestOnGridWrong)

/-- 'laws.FnExactShockStates': WHATEVER THE INPUT: true; the input reads as it did. -/
def fnExactShockStatesSpec : ChangeSpec := { name := "fnExactShockStates", fn := fun _ => fun
  | [d] => { results := [.lit (.bool true)], args := [d] }
  | _ => none }
def fnExactShockStatesRow : OpenClaim := { program := "ytjdfmhjgboomcaa", sum := "0423341412dea63f0006d369c9a5e6623928802474cf725195f11d3c9e50daa4", func := "loop.example/g01017/laws.FnExactShockStates", spec := "fnExactShockStates", unfollowed := true, recurses := true, apart := false }
def FnExactShockStatesSaid : Prop := fnExactShockStatesRow.holds Try.pinned (OpenSpec.ofChange fnExactShockStatesSpec)

/-- ITS FALSE NEIGHBOUR: 'it returns false'. Refute it at one input. -/
def fnExactShockStatesWrong : ChangeSpec := { name := "fnExactShockStates", fn := fun _ => fun
  | [d] => { results := [.lit (.bool false)], args := [d] }
  | _ => none }
def FnExactShockStatesWrongFalsely : Prop := fnExactShockStatesRow.holds Try.pinned (OpenSpec.ofChange fnExactShockStatesWrong)

/-- 'laws.FnExactPostsUp': WHATEVER THE INPUT: true; the input reads as it did. -/
def fnExactPostsUpSpec : ChangeSpec := { name := "fnExactPostsUp", fn := fun _ => fun
  | [d] => { results := [.lit (.bool true)], args := [d] }
  | _ => none }
def fnExactPostsUpRow : OpenClaim := { program := "ytjdfmhjgboomcaa", sum := "0423341412dea63f0006d369c9a5e6623928802474cf725195f11d3c9e50daa4", func := "loop.example/g01017/laws.FnExactPostsUp", spec := "fnExactPostsUp", unfollowed := true, recurses := true, apart := false }
def FnExactPostsUpSaid : Prop := fnExactPostsUpRow.holds Try.pinned (OpenSpec.ofChange fnExactPostsUpSpec)

/-- ITS FALSE NEIGHBOUR: 'it returns false'. Refute it at one input. -/
def fnExactPostsUpWrong : ChangeSpec := { name := "fnExactPostsUp", fn := fun _ => fun
  | [d] => { results := [.lit (.bool false)], args := [d] }
  | _ => none }
def FnExactPostsUpWrongFalsely : Prop := fnExactPostsUpRow.holds Try.pinned (OpenSpec.ofChange fnExactPostsUpWrong)

/-- 'laws.FnExactIsValidRecord': WHATEVER THE INPUT: true; the input reads as it did. -/
def fnExactIsValidRecordSpec : ChangeSpec := { name := "fnExactIsValidRecord", fn := fun _ => fun
  | [d] => { results := [.lit (.bool true)], args := [d] }
  | _ => none }
def fnExactIsValidRecordRow : OpenClaim := { program := "ytjdfmhjgboomcaa", sum := "0423341412dea63f0006d369c9a5e6623928802474cf725195f11d3c9e50daa4", func := "loop.example/g01017/laws.FnExactIsValidRecord", spec := "fnExactIsValidRecord", inPlace := ["internal/bytealg.IndexByteString", "internal/bytealg.IndexString"], named := ["internal/bytealg.MaxLen"], apart := false }
def FnExactIsValidRecordSaid : Prop := fnExactIsValidRecordRow.holds Try.pinned (OpenSpec.ofChange fnExactIsValidRecordSpec)

/-- ITS FALSE NEIGHBOUR: 'it returns false'. Refute it at one input. -/
def fnExactIsValidRecordWrong : ChangeSpec := { name := "fnExactIsValidRecord", fn := fun _ => fun
  | [d] => { results := [.lit (.bool false)], args := [d] }
  | _ => none }
def FnExactIsValidRecordWrongFalsely : Prop := fnExactIsValidRecordRow.holds Try.pinned (OpenSpec.ofChange fnExactIsValidRecordWrong)

/-- 'laws.FnExactNewConsole': WHATEVER THE INPUT: true; the input reads as it did. -/
def fnExactNewConsoleSpec : ChangeSpec := { name := "fnExactNewConsole", fn := fun _ => fun
  | [d] => { results := [.lit (.bool true)], args := [d] }
  | _ => none }
def fnExactNewConsoleRow : OpenClaim := { program := "ytjdfmhjgboomcaa", sum := "0423341412dea63f0006d369c9a5e6623928802474cf725195f11d3c9e50daa4", func := "loop.example/g01017/laws.FnExactNewConsole", spec := "fnExactNewConsole", unfollowed := true, recurses := true, apart := false }
def FnExactNewConsoleSaid : Prop := fnExactNewConsoleRow.holds Try.pinned (OpenSpec.ofChange fnExactNewConsoleSpec)

/-- ITS FALSE NEIGHBOUR: 'it returns false'. Refute it at one input. -/
def fnExactNewConsoleWrong : ChangeSpec := { name := "fnExactNewConsole", fn := fun _ => fun
  | [d] => { results := [.lit (.bool false)], args := [d] }
  | _ => none }
def FnExactNewConsoleWrongFalsely : Prop := fnExactNewConsoleRow.holds Try.pinned (OpenSpec.ofChange fnExactNewConsoleWrong)

/-- 'laws.FnExactEventsFound': WHATEVER THE INPUT: true; the input reads as it did. -/
def fnExactEventsFoundSpec : ChangeSpec := { name := "fnExactEventsFound", fn := fun _ => fun
  | [d1, d2, d3] => { results := [.lit (.bool true)], args := [d1, d2, d3] }
  | _ => none }
def fnExactEventsFoundRow : OpenClaim := { program := "ytjdfmhjgboomcaa", sum := "0423341412dea63f0006d369c9a5e6623928802474cf725195f11d3c9e50daa4", func := "loop.example/g01017/laws.FnExactEventsFound", spec := "fnExactEventsFound", unfollowed := true, recurses := true, apart := false }
def FnExactEventsFoundSaid : Prop := fnExactEventsFoundRow.holds Try.pinned (OpenSpec.ofChange fnExactEventsFoundSpec)

/-- ITS FALSE NEIGHBOUR: 'it returns false'. Refute it at one input. -/
def fnExactEventsFoundWrong : ChangeSpec := { name := "fnExactEventsFound", fn := fun _ => fun
  | [d1, d2, d3] => { results := [.lit (.bool false)], args := [d1, d2, d3] }
  | _ => none }
def FnExactEventsFoundWrongFalsely : Prop := fnExactEventsFoundRow.holds Try.pinned (OpenSpec.ofChange fnExactEventsFoundWrong)

/- THE SECOND FORM. 'bulk': how many values and letters a reading holds, each counted each time it is reached (what is shared counts as often as it is met; a slice's spare places count too). A statement '..UptoSaid' is the law's where the arguments, and the package variables that the reading takes, are together of bulk at most 1048576: NARROWER than '..Said'. Prove '..Said' where nothing that the law and all that it calls make is longer than what came in: it says more and counts as full. Else prove '..UptoSaid'. A law counts once. -/
mutual
def uptoBulk {H : Type} : DataW H → Nat
  | .lit (.string bytes) => bytes.length + 1
  | .lit _ => 1
  | .nil => 1
  | .ptr d => uptoBulk d + 1
  | .slice elems spare => uptoBulkAll elems + uptoBulkAll spare + 1
  | .agg parts => uptoBulkAll parts + 1
  | .iface _ d => uptoBulk d + 1
  | .map entries => uptoBulkEntries entries + 1
  | .held _ => 1
def uptoBulkAll {H : Type} : List (DataW H) → Nat
  | [] => 0
  | d :: r => uptoBulk d + uptoBulkAll r
def uptoBulkEntries {H : Type} : List (Lit × DataW H) → Nat
  | [] => 0
  | x :: r => uptoBulkEntry x + uptoBulkEntries r
def uptoBulkEntry {H : Type} : Lit × DataW H → Nat
  | (.string bytes, d) => bytes.length + uptoBulk d + 1
  | (_, d) => uptoBulk d + 1
 end
def uptoSmall : (H : Type) → List (DataW H) → Bool := fun _ ds => decide (uptoBulkAll ds ≤ 1048576)
def OpenSpec.upto (s : _root_.Go.ChangeSpec) : _root_.Go.OpenSpec := { _root_.Go.OpenSpec.ofChange s with cond := some uptoSmall }

/-- 'laws.FnEventsFound', WHERE WHAT IT READS IS OF BULK AT MOST 1048576: true; the input reads as it did. -/
def fnEventsFoundUptoRow : OpenClaim := { program := "ytjdfmhjgboomcaa", sum := "0423341412dea63f0006d369c9a5e6623928802474cf725195f11d3c9e50daa4", func := "loop.example/g01017/laws.FnEventsFound", spec := "fnEventsFound", unfollowed := true, recurses := true, apart := false, narrowed := true }
def FnEventsFoundUptoSaid : Prop := fnEventsFoundUptoRow.holds Try.pinned (OpenSpec.upto fnEventsFoundSpec)

/-- 'laws.FnExactSwarmsOf', WHERE WHAT IT READS IS OF BULK AT MOST 1048576: true; the input reads as it did. -/
def fnExactSwarmsOfUptoRow : OpenClaim := { program := "ytjdfmhjgboomcaa", sum := "0423341412dea63f0006d369c9a5e6623928802474cf725195f11d3c9e50daa4", func := "loop.example/g01017/laws.FnExactSwarmsOf", spec := "fnExactSwarmsOf", unfollowed := true, recurses := true, apart := false, narrowed := true }
def FnExactSwarmsOfUptoSaid : Prop := fnExactSwarmsOfUptoRow.holds Try.pinned (OpenSpec.upto fnExactSwarmsOfSpec)

/-- 'laws.FnExactReverseFault', WHERE WHAT IT READS IS OF BULK AT MOST 1048576: true; the input reads as it did. -/
def fnExactReverseFaultUptoRow : OpenClaim := { program := "ytjdfmhjgboomcaa", sum := "0423341412dea63f0006d369c9a5e6623928802474cf725195f11d3c9e50daa4", func := "loop.example/g01017/laws.FnExactReverseFault", spec := "fnExactReverseFault", unfollowed := true, recurses := true, apart := false, narrowed := true }
def FnExactReverseFaultUptoSaid : Prop := fnExactReverseFaultUptoRow.holds Try.pinned (OpenSpec.upto fnExactReverseFaultSpec)

/-- 'laws.FnExactDepthCounts', WHERE WHAT IT READS IS OF BULK AT MOST 1048576: true; the input reads as it did. -/
def fnExactDepthCountsUptoRow : OpenClaim := { program := "ytjdfmhjgboomcaa", sum := "0423341412dea63f0006d369c9a5e6623928802474cf725195f11d3c9e50daa4", func := "loop.example/g01017/laws.FnExactDepthCounts", spec := "fnExactDepthCounts", unfollowed := true, recurses := true, apart := false, narrowed := true }
def FnExactDepthCountsUptoSaid : Prop := fnExactDepthCountsUptoRow.holds Try.pinned (OpenSpec.upto fnExactDepthCountsSpec)

/-- 'laws.FnExactLongestDown', WHERE WHAT IT READS IS OF BULK AT MOST 1048576: true; the input reads as it did. -/
def fnExactLongestDownUptoRow : OpenClaim := { program := "ytjdfmhjgboomcaa", sum := "0423341412dea63f0006d369c9a5e6623928802474cf725195f11d3c9e50daa4", func := "loop.example/g01017/laws.FnExactLongestDown", spec := "fnExactLongestDown", unfollowed := true, recurses := true, apart := false, narrowed := true }
def FnExactLongestDownUptoSaid : Prop := fnExactLongestDownUptoRow.holds Try.pinned (OpenSpec.upto fnExactLongestDownSpec)

/-- 'laws.FnExactCanCancel', WHERE WHAT IT READS IS OF BULK AT MOST 1048576: true; the input reads as it did. -/
def fnExactCanCancelUptoRow : OpenClaim := { program := "ytjdfmhjgboomcaa", sum := "0423341412dea63f0006d369c9a5e6623928802474cf725195f11d3c9e50daa4", func := "loop.example/g01017/laws.FnExactCanCancel", spec := "fnExactCanCancel", unfollowed := true, recurses := true, apart := false, narrowed := true }
def FnExactCanCancelUptoSaid : Prop := fnExactCanCancelUptoRow.holds Try.pinned (OpenSpec.upto fnExactCanCancelSpec)

/-- 'laws.FnExactNewWatch', WHERE WHAT IT READS IS OF BULK AT MOST 1048576: true; the input reads as it did. -/
def fnExactNewWatchUptoRow : OpenClaim := { program := "ytjdfmhjgboomcaa", sum := "0423341412dea63f0006d369c9a5e6623928802474cf725195f11d3c9e50daa4", func := "loop.example/g01017/laws.FnExactNewWatch", spec := "fnExactNewWatch", unfollowed := true, recurses := true, apart := false, narrowed := true }
def FnExactNewWatchUptoSaid : Prop := fnExactNewWatchUptoRow.holds Try.pinned (OpenSpec.upto fnExactNewWatchSpec)

/-- 'laws.FnExactBestOnGrid', WHERE WHAT IT READS IS OF BULK AT MOST 1048576: true; the input reads as it did. -/
def fnExactBestOnGridUptoRow : OpenClaim := { program := "ytjdfmhjgboomcaa", sum := "0423341412dea63f0006d369c9a5e6623928802474cf725195f11d3c9e50daa4", func := "loop.example/g01017/laws.FnExactBestOnGrid", spec := "fnExactBestOnGrid", unfollowed := true, recurses := true, apart := false, narrowed := true }
def FnExactBestOnGridUptoSaid : Prop := fnExactBestOnGridUptoRow.holds Try.pinned (OpenSpec.upto fnExactBestOnGridSpec)

/-- 'laws.FnExactShockStates', WHERE WHAT IT READS IS OF BULK AT MOST 1048576: true; the input reads as it did. -/
def fnExactShockStatesUptoRow : OpenClaim := { program := "ytjdfmhjgboomcaa", sum := "0423341412dea63f0006d369c9a5e6623928802474cf725195f11d3c9e50daa4", func := "loop.example/g01017/laws.FnExactShockStates", spec := "fnExactShockStates", unfollowed := true, recurses := true, apart := false, narrowed := true }
def FnExactShockStatesUptoSaid : Prop := fnExactShockStatesUptoRow.holds Try.pinned (OpenSpec.upto fnExactShockStatesSpec)

/-- 'laws.FnExactPostsUp', WHERE WHAT IT READS IS OF BULK AT MOST 1048576: true; the input reads as it did. -/
def fnExactPostsUpUptoRow : OpenClaim := { program := "ytjdfmhjgboomcaa", sum := "0423341412dea63f0006d369c9a5e6623928802474cf725195f11d3c9e50daa4", func := "loop.example/g01017/laws.FnExactPostsUp", spec := "fnExactPostsUp", unfollowed := true, recurses := true, apart := false, narrowed := true }
def FnExactPostsUpUptoSaid : Prop := fnExactPostsUpUptoRow.holds Try.pinned (OpenSpec.upto fnExactPostsUpSpec)

/-- 'laws.FnExactIsValidRecord', WHERE WHAT IT READS IS OF BULK AT MOST 1048576: true; the input reads as it did. -/
def fnExactIsValidRecordUptoRow : OpenClaim := { program := "ytjdfmhjgboomcaa", sum := "0423341412dea63f0006d369c9a5e6623928802474cf725195f11d3c9e50daa4", func := "loop.example/g01017/laws.FnExactIsValidRecord", spec := "fnExactIsValidRecord", inPlace := ["internal/bytealg.IndexByteString", "internal/bytealg.IndexString"], named := ["internal/bytealg.MaxLen"], apart := false, narrowed := true }
def FnExactIsValidRecordUptoSaid : Prop := fnExactIsValidRecordUptoRow.holds Try.pinned (OpenSpec.upto fnExactIsValidRecordSpec)

/-- 'laws.FnExactNewConsole', WHERE WHAT IT READS IS OF BULK AT MOST 1048576: true; the input reads as it did. -/
def fnExactNewConsoleUptoRow : OpenClaim := { program := "ytjdfmhjgboomcaa", sum := "0423341412dea63f0006d369c9a5e6623928802474cf725195f11d3c9e50daa4", func := "loop.example/g01017/laws.FnExactNewConsole", spec := "fnExactNewConsole", unfollowed := true, recurses := true, apart := false, narrowed := true }
def FnExactNewConsoleUptoSaid : Prop := fnExactNewConsoleUptoRow.holds Try.pinned (OpenSpec.upto fnExactNewConsoleSpec)

/-- 'laws.FnExactEventsFound', WHERE WHAT IT READS IS OF BULK AT MOST 1048576: true; the input reads as it did. -/
def fnExactEventsFoundUptoRow : OpenClaim := { program := "ytjdfmhjgboomcaa", sum := "0423341412dea63f0006d369c9a5e6623928802474cf725195f11d3c9e50daa4", func := "loop.example/g01017/laws.FnExactEventsFound", spec := "fnExactEventsFound", unfollowed := true, recurses := true, apart := false, narrowed := true }
def FnExactEventsFoundUptoSaid : Prop := fnExactEventsFoundUptoRow.holds Try.pinned (OpenSpec.upto fnExactEventsFoundSpec)

end Rows
end Go.Proofs.Ytjdfmhjgboomcaa
