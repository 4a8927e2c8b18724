/-
  No cell of these rows narrows 'for every input' (looked for: loops, veiled, ifaces, maps, wideKeys, modest, calm, conditions, laid).
  DERIVED. THE GIVEN ROWS OF THIS SEAT. 12 by the template 'for every input the law returns true; each argument reads behind the call as it read before'; 0 by the template 'total and deterministic' (their statements: YtnoknihkmfbdbaaTotals.lean).
  GIVEN WITH THE SEED: the statements are not yours to turn. If you find one false, say at which input.
  Laid BY PROGRAM, IN A SANDBOX (cutbox-rows.mjs): the forced cells as the released guide's own fill.sh prints them over the translation 094f9e6c3370b93c… (all of the seat's roots in one cut). By AI agents, Wed Nov 11 2026. No macro, syntax, notation, axiom, sorry.
-/
import Derived.Test.YtnoknihkmfbdbaaChecked
import GoSem.Claim
import GoSem.ClaimJoined
import GoSem.ClaimMapViews
import Derived.JoinedTies
import Derived.KernelRfl
namespace Go.Proofs.Ytnoknihkmfbdbaa
/- THE CELL 'sum', in the pinned program and in every row, IS THE sha256 OF THE DUMP (.gsa) THAT YtnoknihkmfbdbaaProg.lean LOADS. Nothing in Lean hashes anything: it is a label: what it is worth is what the hold of that sum in a sandbox is worth. -/
noncomputable def Try.pinned : Pinned := { name := "ytnoknihkmfbdbaa", sum := "094f9e6c3370b93c8114ca702192a71602c96689de69a50b353824159d9cdf7f", checked := Try.checked }
namespace Rows
def none {H : Type} : Left H := { results := [], args := [] }

/-- 'laws.FnExactIsWeekRow': WHATEVER THE INPUT: true; the input reads as it did. -/
def fnExactIsWeekRowSpec : ChangeSpec := { name := "fnExactIsWeekRow", fn := fun _ => fun
  | [d] => { results := [.lit (.bool true)], args := [d] }
  | _ => none }
def fnExactIsWeekRowRow : OpenClaim := { program := "ytnoknihkmfbdbaa", sum := "094f9e6c3370b93c8114ca702192a71602c96689de69a50b353824159d9cdf7f", func := "loop.example/g01017/laws.FnExactIsWeekRow", spec := "fnExactIsWeekRow", apart := false }
def FnExactIsWeekRowSaid : Prop := fnExactIsWeekRowRow.holds Try.pinned (OpenSpec.ofChange fnExactIsWeekRowSpec)

/-- ITS FALSE NEIGHBOUR: 'it returns false'. Refute it at one input. -/
def fnExactIsWeekRowWrong : ChangeSpec := { name := "fnExactIsWeekRow", fn := fun _ => fun
  | [d] => { results := [.lit (.bool false)], args := [d] }
  | _ => none }
def FnExactIsWeekRowWrongFalsely : Prop := fnExactIsWeekRowRow.holds Try.pinned (OpenSpec.ofChange fnExactIsWeekRowWrong)

/-- 'laws.FnExactAreWeekRows': WHATEVER THE INPUT: true; the input reads as it did. -/
def fnExactAreWeekRowsSpec : ChangeSpec := { name := "fnExactAreWeekRows", fn := fun _ => fun
  | [d] => { results := [.lit (.bool true)], args := [d] }
  | _ => none }
def fnExactAreWeekRowsRow : OpenClaim := { program := "ytnoknihkmfbdbaa", sum := "094f9e6c3370b93c8114ca702192a71602c96689de69a50b353824159d9cdf7f", func := "loop.example/g01017/laws.FnExactAreWeekRows", spec := "fnExactAreWeekRows", unfollowed := true, recurses := true, apart := false }
def FnExactAreWeekRowsSaid : Prop := fnExactAreWeekRowsRow.holds Try.pinned (OpenSpec.ofChange fnExactAreWeekRowsSpec)

/-- ITS FALSE NEIGHBOUR: 'it returns false'. Refute it at one input. -/
def fnExactAreWeekRowsWrong : ChangeSpec := { name := "fnExactAreWeekRows", fn := fun _ => fun
  | [d] => { results := [.lit (.bool false)], args := [d] }
  | _ => none }
def FnExactAreWeekRowsWrongFalsely : Prop := fnExactAreWeekRowsRow.holds Try.pinned (OpenSpec.ofChange fnExactAreWeekRowsWrong)

/-- 'laws.FnExactPicksForEvent': WHATEVER THE INPUT: true; the input reads as it did. -/
def fnExactPicksForEventSpec : ChangeSpec := { name := "fnExactPicksForEvent", fn := fun _ => fun
  | [d] => { results := [.lit (.bool true)], args := [d] }
  | _ => none }
def fnExactPicksForEventRow : OpenClaim := { program := "ytnoknihkmfbdbaa", sum := "094f9e6c3370b93c8114ca702192a71602c96689de69a50b353824159d9cdf7f", func := "loop.example/g01017/laws.FnExactPicksForEvent", spec := "fnExactPicksForEvent", unfollowed := true, recurses := true, apart := false }
def FnExactPicksForEventSaid : Prop := fnExactPicksForEventRow.holds Try.pinned (OpenSpec.ofChange fnExactPicksForEventSpec)

/-- ITS FALSE NEIGHBOUR: 'it returns false'. Refute it at one input. -/
def fnExactPicksForEventWrong : ChangeSpec := { name := "fnExactPicksForEvent", fn := fun _ => fun
  | [d] => { results := [.lit (.bool false)], args := [d] }
  | _ => none }
def FnExactPicksForEventWrongFalsely : Prop := fnExactPicksForEventRow.holds Try.pinned (OpenSpec.ofChange fnExactPicksForEventWrong)

/-- 'laws.FnExactLargestSince': WHATEVER THE INPUT: true; the input reads as it did. -/
def fnExactLargestSinceSpec : ChangeSpec := { name := "fnExactLargestSince", fn := fun _ => fun
  | [d1, d2] => { results := [.lit (.bool true)], args := [d1, d2] }
  | _ => none }
def fnExactLargestSinceRow : OpenClaim := { program := "ytnoknihkmfbdbaa", sum := "094f9e6c3370b93c8114ca702192a71602c96689de69a50b353824159d9cdf7f", func := "loop.example/g01017/laws.FnExactLargestSince", spec := "fnExactLargestSince", unfollowed := true, recurses := true, apart := false }
def FnExactLargestSinceSaid : Prop := fnExactLargestSinceRow.holds Try.pinned (OpenSpec.ofChange fnExactLargestSinceSpec)

/-- ITS FALSE NEIGHBOUR: 'it returns false'. Refute it at one input. -/
def fnExactLargestSinceWrong : ChangeSpec := { name := "fnExactLargestSince", fn := fun _ => fun
  | [d1, d2] => { results := [.lit (.bool false)], args := [d1, d2] }
  | _ => none }
def FnExactLargestSinceWrongFalsely : Prop := fnExactLargestSinceRow.holds Try.pinned (OpenSpec.ofChange fnExactLargestSinceWrong)

/-- 'laws.FnExactQuietRun': WHATEVER THE INPUT: true; the input reads as it did. -/
def fnExactQuietRunSpec : ChangeSpec := { name := "fnExactQuietRun", fn := fun _ => fun
  | [d1, d2] => { results := [.lit (.bool true)], args := [d1, d2] }
  | _ => none }
def fnExactQuietRunRow : OpenClaim := { program := "ytnoknihkmfbdbaa", sum := "094f9e6c3370b93c8114ca702192a71602c96689de69a50b353824159d9cdf7f", func := "loop.example/g01017/laws.FnExactQuietRun", spec := "fnExactQuietRun", unfollowed := true, recurses := true, apart := false }
def FnExactQuietRunSaid : Prop := fnExactQuietRunRow.holds Try.pinned (OpenSpec.ofChange fnExactQuietRunSpec)

/-- ITS FALSE NEIGHBOUR: 'it returns false'. Refute it at one input. -/
def fnExactQuietRunWrong : ChangeSpec := { name := "fnExactQuietRun", fn := fun _ => fun
  | [d1, d2] => { results := [.lit (.bool false)], args := [d1, d2] }
  | _ => none }
def FnExactQuietRunWrongFalsely : Prop := fnExactQuietRunRow.holds Try.pinned (OpenSpec.ofChange fnExactQuietRunWrong)

/-- 'laws.FnExactMissingWeeks': WHATEVER THE INPUT: true; the input reads as it did. -/
def fnExactMissingWeeksSpec : ChangeSpec := { name := "fnExactMissingWeeks", fn := fun _ => fun
  | [d] => { results := [.lit (.bool true)], args := [d] }
  | _ => none }
def fnExactMissingWeeksRow : OpenClaim := { program := "ytnoknihkmfbdbaa", sum := "094f9e6c3370b93c8114ca702192a71602c96689de69a50b353824159d9cdf7f", func := "loop.example/g01017/laws.FnExactMissingWeeks", spec := "fnExactMissingWeeks", unfollowed := true, recurses := true, apart := false }
def FnExactMissingWeeksSaid : Prop := fnExactMissingWeeksRow.holds Try.pinned (OpenSpec.ofChange fnExactMissingWeeksSpec)

/-- ITS FALSE NEIGHBOUR: 'it returns false'. Refute it at one input. -/
def fnExactMissingWeeksWrong : ChangeSpec := { name := "fnExactMissingWeeks", fn := fun _ => fun
  | [d] => { results := [.lit (.bool false)], args := [d] }
  | _ => none }
def FnExactMissingWeeksWrongFalsely : Prop := fnExactMissingWeeksRow.holds Try.pinned (OpenSpec.ofChange fnExactMissingWeeksWrong)

/-- 'laws.FnExactRunningEvents': WHATEVER THE INPUT: true; the input reads as it did. -/
def fnExactRunningEventsSpec : ChangeSpec := { name := "fnExactRunningEvents", fn := fun _ => fun
  | [d] => { results := [.lit (.bool true)], args := [d] }
  | _ => none }
def fnExactRunningEventsRow : OpenClaim := { program := "ytnoknihkmfbdbaa", sum := "094f9e6c3370b93c8114ca702192a71602c96689de69a50b353824159d9cdf7f", func := "loop.example/g01017/laws.FnExactRunningEvents", spec := "fnExactRunningEvents", unfollowed := true, recurses := true, apart := false }
def FnExactRunningEventsSaid : Prop := fnExactRunningEventsRow.holds Try.pinned (OpenSpec.ofChange fnExactRunningEventsSpec)

/-- ITS FALSE NEIGHBOUR: 'it returns false'. Refute it at one input. -/
def fnExactRunningEventsWrong : ChangeSpec := { name := "fnExactRunningEvents", fn := fun _ => fun
  | [d] => { results := [.lit (.bool false)], args := [d] }
  | _ => none }
def FnExactRunningEventsWrongFalsely : Prop := fnExactRunningEventsRow.holds Try.pinned (OpenSpec.ofChange fnExactRunningEventsWrong)

/-- 'laws.FnEventsFound': WHATEVER THE INPUT: true; the input reads as it did. -/
def fnEventsFoundSpec : ChangeSpec := { name := "fnEventsFound", fn := fun _ => fun
  | [d] => { results := [.lit (.bool true)], args := [d] }
  | _ => none }
def fnEventsFoundRow : OpenClaim := { program := "ytnoknihkmfbdbaa", sum := "094f9e6c3370b93c8114ca702192a71602c96689de69a50b353824159d9cdf7f", func := "loop.example/g01017/laws.FnEventsFound", spec := "fnEventsFound", unfollowed := true, recurses := true, apart := false }
def FnEventsFoundSaid : Prop := fnEventsFoundRow.holds Try.pinned (OpenSpec.ofChange fnEventsFoundSpec)

/-- ITS FALSE NEIGHBOUR: 'it returns false'. Refute it at one input. -/
def fnEventsFoundWrong : ChangeSpec := { name := "fnEventsFound", fn := fun _ => fun
  | [d] => { results := [.lit (.bool false)], args := [d] }
  | _ => none }
def FnEventsFoundWrongFalsely : Prop := fnEventsFoundRow.holds Try.pinned (OpenSpec.ofChange fnEventsFoundWrong)

/-- 'laws.FnExactIsWatch': WHATEVER THE INPUT: true; the input reads as it did. -/
def fnExactIsWatchSpec : ChangeSpec := { name := "fnExactIsWatch", fn := fun _ => fun
  | [d] => { results := [.lit (.bool true)], args := [d] }
  | _ => none }
def fnExactIsWatchRow : OpenClaim := { program := "ytnoknihkmfbdbaa", sum := "094f9e6c3370b93c8114ca702192a71602c96689de69a50b353824159d9cdf7f", func := "loop.example/g01017/laws.FnExactIsWatch", spec := "fnExactIsWatch", unfollowed := true, recurses := true, apart := false }
def FnExactIsWatchSaid : Prop := fnExactIsWatchRow.holds Try.pinned (OpenSpec.ofChange fnExactIsWatchSpec)

/-- ITS FALSE NEIGHBOUR: 'it returns false'. Refute it at one input. -/
def fnExactIsWatchWrong : ChangeSpec := { name := "fnExactIsWatch", fn := fun _ => fun
  | [d] => { results := [.lit (.bool false)], args := [d] }
  | _ => none }
def FnExactIsWatchWrongFalsely : Prop := fnExactIsWatchRow.holds Try.pinned (OpenSpec.ofChange fnExactIsWatchWrong)

/-- 'laws.FnExactQuakesNear': WHATEVER THE INPUT: true; the input reads as it did. -/
def fnExactQuakesNearSpec : ChangeSpec := { name := "fnExactQuakesNear", fn := fun _ => fun
  | [d1, d2, d3, d4] => { results := [.lit (.bool true)], args := [d1, d2, d3, d4] }
  | _ => none }
def fnExactQuakesNearRow : OpenClaim := { program := "ytnoknihkmfbdbaa", sum := "094f9e6c3370b93c8114ca702192a71602c96689de69a50b353824159d9cdf7f", func := "loop.example/g01017/laws.FnExactQuakesNear", spec := "fnExactQuakesNear", unfollowed := true, recurses := true, apart := false }
def FnExactQuakesNearSaid : Prop := fnExactQuakesNearRow.holds Try.pinned (OpenSpec.ofChange fnExactQuakesNearSpec)

/-- ITS FALSE NEIGHBOUR: 'it returns false'. Refute it at one input. -/
def fnExactQuakesNearWrong : ChangeSpec := { name := "fnExactQuakesNear", fn := fun _ => fun
  | [d1, d2, d3, d4] => { results := [.lit (.bool false)], args := [d1, d2, d3, d4] }
  | _ => none }
def FnExactQuakesNearWrongFalsely : Prop := fnExactQuakesNearRow.holds Try.pinned (OpenSpec.ofChange fnExactQuakesNearWrong)

/-- 'laws.FnExactSwarmsOf': WHATEVER THE INPUT: true; the input reads as it did. -/
def fnExactSwarmsOfSpec : ChangeSpec := { name := "fnExactSwarmsOf", fn := fun _ => fun
  | [d1, d2] => { results := [.lit (.bool true)], args := [d1, d2] }
  | _ => none }
def fnExactSwarmsOfRow : OpenClaim := { program := "ytnoknihkmfbdbaa", sum := "094f9e6c3370b93c8114ca702192a71602c96689de69a50b353824159d9cdf7f", func := "loop.example/g01017/laws.FnExactSwarmsOf", spec := "fnExactSwarmsOf", unfollowed := true, recurses := true, apart := false }
def FnExactSwarmsOfSaid : Prop := fnExactSwarmsOfRow.holds Try.pinned (OpenSpec.ofChange fnExactSwarmsOfSpec)

/-- ITS FALSE NEIGHBOUR: 'it returns false'. Refute it at one input. -/
def fnExactSwarmsOfWrong : ChangeSpec := { name := "fnExactSwarmsOf", fn := fun _ => fun
  | [d1, d2] => { results := [.lit (.bool false)], args := [d1, d2] }
  | _ => none }
def FnExactSwarmsOfWrongFalsely : Prop := fnExactSwarmsOfRow.holds Try.pinned (OpenSpec.ofChange fnExactSwarmsOfWrong)

/-- 'laws.FnExactReverseFault': WHATEVER THE INPUT: true; the input reads as it did. -/
def fnExactReverseFaultSpec : ChangeSpec := { name := "fnExactReverseFault", fn := fun _ => fun
  | [d] => { results := [.lit (.bool true)], args := [d] }
  | _ => none }
def fnExactReverseFaultRow : OpenClaim := { program := "ytnoknihkmfbdbaa", sum := "094f9e6c3370b93c8114ca702192a71602c96689de69a50b353824159d9cdf7f", func := "loop.example/g01017/laws.FnExactReverseFault", spec := "fnExactReverseFault", unfollowed := true, recurses := true, apart := false }
def FnExactReverseFaultSaid : Prop := fnExactReverseFaultRow.holds Try.pinned (OpenSpec.ofChange fnExactReverseFaultSpec)

/-- ITS FALSE NEIGHBOUR: 'it returns false'. Refute it at one input. -/
def fnExactReverseFaultWrong : ChangeSpec := { name := "fnExactReverseFault", fn := fun _ => fun
  | [d] => { results := [.lit (.bool false)], args := [d] }
  | _ => none }
def FnExactReverseFaultWrongFalsely : Prop := fnExactReverseFaultRow.holds Try.pinned (OpenSpec.ofChange fnExactReverseFaultWrong)

/- THE SECOND FORM. 'bulk': how many values and letters a reading holds, each counted each time it is reached (what is shared counts as often as it is met; a slice's spare places count too). A statement '..UptoSaid' is the law's where the arguments, and the package variables that the reading takes, are together of bulk at most 1048576: NARROWER than '..Said'. Prove '..Said' where nothing that the law and all that it calls make is longer than what came in: it says more and counts as full. Else prove '..UptoSaid'. A law counts once. -/
mutual
def uptoBulk {H : Type} : DataW H → Nat
  | .lit (.string bytes) => bytes.length + 1
  | .lit _ => 1
  | .nil => 1
  | .ptr d => uptoBulk d + 1
  | .slice elems spare => uptoBulkAll elems + uptoBulkAll spare + 1
  | .agg parts => uptoBulkAll parts + 1
  | .iface _ d => uptoBulk d + 1
  | .map entries => uptoBulkEntries entries + 1
  | .held _ => 1
def uptoBulkAll {H : Type} : List (DataW H) → Nat
  | [] => 0
  | d :: r => uptoBulk d + uptoBulkAll r
def uptoBulkEntries {H : Type} : List (Lit × DataW H) → Nat
  | [] => 0
  | x :: r => uptoBulkEntry x + uptoBulkEntries r
def uptoBulkEntry {H : Type} : Lit × DataW H → Nat
  | (.string bytes, d) => bytes.length + uptoBulk d + 1
  | (_, d) => uptoBulk d + 1
 end
def uptoSmall : (H : Type) → List (DataW H) → Bool := fun _ ds => decide (uptoBulkAll ds ≤ 1048576)
def OpenSpec.upto (s : _root_.Go.ChangeSpec) : _root_.Go.OpenSpec := { _root_.Go.OpenSpec.ofChange s with cond := some uptoSmall }

/-- 'laws.FnExactIsWeekRow', WHERE WHAT IT READS IS OF BULK AT MOST 1048576: true; the input reads as it did. -/
def fnExactIsWeekRowUptoRow : OpenClaim := { program := "ytnoknihkmfbdbaa", sum := "094f9e6c3370b93c8114ca702192a71602c96689de69a50b353824159d9cdf7f", func := "loop.example/g01017/laws.FnExactIsWeekRow", spec := "fnExactIsWeekRow", apart := false, narrowed := true }
def FnExactIsWeekRowUptoSaid : Prop := fnExactIsWeekRowUptoRow.holds Try.pinned (OpenSpec.upto fnExactIsWeekRowSpec)

/-- 'laws.FnExactAreWeekRows', WHERE WHAT IT READS IS OF BULK AT MOST 1048576: true; the input reads as it did. -/
def fnExactAreWeekRowsUptoRow : OpenClaim := { program := "ytnoknihkmfbdbaa", sum := "094f9e6c3370b93c8114ca702192a71602c96689de69a50b353824159d9cdf7f", func := "loop.example/g01017/laws.FnExactAreWeekRows", spec := "fnExactAreWeekRows", unfollowed := true, recurses := true, apart := false, narrowed := true }
def FnExactAreWeekRowsUptoSaid : Prop := fnExactAreWeekRowsUptoRow.holds Try.pinned (OpenSpec.upto fnExactAreWeekRowsSpec)

/-- 'laws.FnExactPicksForEvent', WHERE WHAT IT READS IS OF BULK AT MOST 1048576: true; the input reads as it did. -/
def fnExactPicksForEventUptoRow : OpenClaim := { program := "ytnoknihkmfbdbaa", sum := "094f9e6c3370b93c8114ca702192a71602c96689de69a50b353824159d9cdf7f", func := "loop.example/g01017/laws.FnExactPicksForEvent", spec := "fnExactPicksForEvent", unfollowed := true, recurses := true, apart := false, narrowed := true }
def FnExactPicksForEventUptoSaid : Prop := fnExactPicksForEventUptoRow.holds Try.pinned (OpenSpec.upto fnExactPicksForEventSpec)

/-- 'laws.FnExactLargestSince', WHERE WHAT IT READS IS OF BULK AT MOST 1048576: true; the input reads as it did. -/
def fnExactLargestSinceUptoRow : OpenClaim := { program := "ytnoknihkmfbdbaa", sum := "094f9e6c3370b93c8114ca702192a71602c96689de69a50b353824159d9cdf7f", func := "loop.example/g01017/laws.FnExactLargestSince", spec := "fnExactLargestSince", unfollowed := true, recurses := true, apart := false, narrowed := true }
def FnExactLargestSinceUptoSaid : Prop := fnExactLargestSinceUptoRow.holds Try.pinned (OpenSpec.upto fnExactLargestSinceSpec)

/-- 'laws.FnExactQuietRun', WHERE WHAT IT READS IS OF BULK AT MOST 1048576: true; the input reads as it did. -/
def fnExactQuietRunUptoRow : OpenClaim := { program := "ytnoknihkmfbdbaa", sum := "094f9e6c3370b93c8114ca702192a71602c96689de69a50b353824159d9cdf7f", func := "loop.example/g01017/laws.FnExactQuietRun", spec := "fnExactQuietRun", unfollowed := true, recurses := true, apart := false, narrowed := true }
def FnExactQuietRunUptoSaid : Prop := fnExactQuietRunUptoRow.holds Try.pinned (OpenSpec.upto fnExactQuietRunSpec)

/-- 'laws.FnExactMissingWeeks', WHERE WHAT IT READS IS OF BULK AT MOST 1048576: true; the input reads as it did. -/
def fnExactMissingWeeksUptoRow : OpenClaim := { program := "ytnoknihkmfbdbaa", sum := "094f9e6c3370b93c8114ca702192a71602c96689de69a50b353824159d9cdf7f", func := "loop.example/g01017/laws.FnExactMissingWeeks", spec := "fnExactMissingWeeks", unfollowed := true, recurses := true, apart := false, narrowed := true }
def FnExactMissingWeeksUptoSaid : Prop := fnExactMissingWeeksUptoRow.holds Try.pinned (OpenSpec.upto fnExactMissingWeeksSpec)

/-- 'laws.FnExactRunningEvents', WHERE WHAT IT READS IS OF BULK AT MOST 1048576: true; the input reads as it did. -/
def fnExactRunningEventsUptoRow : OpenClaim := { program := "ytnoknihkmfbdbaa", sum := "094f9e6c3370b93c8114ca702192a71602c96689de69a50b353824159d9cdf7f", func := "loop.example/g01017/laws.FnExactRunningEvents", spec := "fnExactRunningEvents", unfollowed := true, recurses := true, apart := false, narrowed := true }
def FnExactRunningEventsUptoSaid : Prop := fnExactRunningEventsUptoRow.holds Try.pinned (OpenSpec.upto fnExactRunningEventsSpec)

/-- 'laws.FnEventsFound', WHERE WHAT IT READS IS OF BULK AT MOST 1048576: true; the input reads as it did. -/
def fnEventsFoundUptoRow : OpenClaim := { program := "ytnoknihkmfbdbaa", sum := "094f9e6c3370b93c8114ca702192a71602c96689de69a50b353824159d9cdf7f", func := "loop.example/g01017/laws.FnEventsFound", spec := "fnEventsFound", unfollowed := true, recurses := true, apart := false, narrowed := true }
def FnEventsFoundUptoSaid : Prop := fnEventsFoundUptoRow.holds Try.pinned (OpenSpec.upto fnEventsFoundSpec)

/-- 'laws.FnExactIsWatch', WHERE WHAT IT READS IS OF BULK AT MOST 1048576: true; the input reads as it did. -/
def fnExactIsWatchUptoRow : OpenClaim := { program := "ytnoknihkmfbdbaa", sum := "094f9e6c3370b93c8114ca702192a71602c96689de69a50b353824159d9cdf7f", func := "loop.example/g01017/laws.FnExactIsWatch", spec := "fnExactIsWatch", unfollowed := true, recurses := true, apart := false, narrowed := true }
def FnExactIsWatchUptoSaid : Prop := fnExactIsWatchUptoRow.holds Try.pinned (OpenSpec.upto fnExactIsWatchSpec)

/-- 'laws.FnExactQuakesNear', WHERE WHAT IT READS IS OF BULK AT MOST 1048576: true; the input reads as it did. -/
def fnExactQuakesNearUptoRow : OpenClaim := { program := "ytnoknihkmfbdbaa", sum := "094f9e6c3370b93c8114ca702192a71602c96689de69a50b353824159d9cdf7f", func := "loop.example/g01017/laws.FnExactQuakesNear", spec := "fnExactQuakesNear", unfollowed := true, recurses := true, apart := false, narrowed := true }
def FnExactQuakesNearUptoSaid : Prop := fnExactQuakesNearUptoRow.holds Try.pinned (OpenSpec.upto fnExactQuakesNearSpec)

/-- 'laws.FnExactSwarmsOf', WHERE WHAT IT READS IS OF BULK AT MOST 1048576: true; the input reads as it did. -/
def fnExactSwarmsOfUptoRow : OpenClaim := { program := "ytnoknihkmfbdbaa", sum := "094f9e6c3370b93c8114ca702192a71602c96689de69a50b353824159d9cdf7f", func := "loop.example/g01017/laws.FnExactSwarmsOf", spec := "fnExactSwarmsOf", unfollowed := true, recurses := true, apart := false, narrowed := true }
def FnExactSwarmsOfUptoSaid : Prop := fnExactSwarmsOfUptoRow.holds Try.pinned (OpenSpec.upto fnExactSwarmsOfSpec)

/-- 'laws.FnExactReverseFault', WHERE WHAT IT READS IS OF BULK AT MOST 1048576: true; the input reads as it did. -/
def fnExactReverseFaultUptoRow : OpenClaim := { program := "ytnoknihkmfbdbaa", sum := "094f9e6c3370b93c8114ca702192a71602c96689de69a50b353824159d9cdf7f", func := "loop.example/g01017/laws.FnExactReverseFault", spec := "fnExactReverseFault", unfollowed := true, recurses := true, apart := false, narrowed := true }
def FnExactReverseFaultUptoSaid : Prop := fnExactReverseFaultUptoRow.holds Try.pinned (OpenSpec.upto fnExactReverseFaultSpec)

end Rows
end Go.Proofs.Ytnoknihkmfbdbaa
