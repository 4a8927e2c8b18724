/-
  No cell of these rows narrows 'for every input' (looked for: loops, veiled, ifaces, maps, wideKeys, modest, calm, conditions, laid).
  DERIVED. THE GIVEN ROWS OF THIS SEAT. 9 by the template 'for every input the law returns true; each argument reads behind the call as it read before'; 0 by the template 'total and deterministic' (their statements: YtjfjnpopjjpagaaTotals.lean).
  GIVEN WITH THE SEED: the statements are not yours to turn. If you find one false, say at which input.
  Laid BY PROGRAM, IN A SANDBOX (cutbox-rows.mjs): the forced cells as the released guide's own fill.sh prints them over the translation b2c465753f628c3c… (all of the seat's roots in one cut). By AI agents, Wed Nov 11 2026. No macro, syntax, notation, axiom, sorry.
-/
import Derived.Test.YtjfjnpopjjpagaaChecked
import GoSem.Claim
import GoSem.ClaimJoined
import GoSem.ClaimMapViews
import Derived.JoinedTies
import Derived.KernelRfl
namespace Go.Proofs.Ytjfjnpopjjpagaa
/- THE CELL 'sum', in the pinned program and in every row, IS THE sha256 OF THE DUMP (.gsa) THAT YtjfjnpopjjpagaaProg.lean LOADS. Nothing in Lean hashes anything: it is a label: what it is worth is what the hold of that sum in a sandbox is worth. -/
noncomputable def Try.pinned : Pinned := { name := "ytjfjnpopjjpagaa", sum := "b2c465753f628c3c59ba4441fcca63480ec42dc1c021c06c642cbba18bdacd0f", checked := Try.checked }
namespace Rows
def none {H : Type} : Left H := { results := [], args := [] }

/-- 'laws.FnExactCanCancel': WHATEVER THE INPUT: true; the input reads as it did. -/
def fnExactCanCancelSpec : ChangeSpec := { name := "fnExactCanCancel", fn := fun _ => fun
  | [d] => { results := [.lit (.bool true)], args := [d] }
  | _ => none }
def fnExactCanCancelRow : OpenClaim := { program := "ytjfjnpopjjpagaa", sum := "b2c465753f628c3c59ba4441fcca63480ec42dc1c021c06c642cbba18bdacd0f", func := "loop.example/g01017/laws.FnExactCanCancel", spec := "fnExactCanCancel", unfollowed := true, recurses := true, apart := false }
def FnExactCanCancelSaid : Prop := fnExactCanCancelRow.holds Try.pinned (OpenSpec.ofChange fnExactCanCancelSpec)

/-- ITS FALSE NEIGHBOUR: 'it returns false'. Refute it at one input. -/
def fnExactCanCancelWrong : ChangeSpec := { name := "fnExactCanCancel", fn := fun _ => fun
  | [d] => { results := [.lit (.bool false)], args := [d] }
  | _ => none }
def FnExactCanCancelWrongFalsely : Prop := fnExactCanCancelRow.holds Try.pinned (OpenSpec.ofChange fnExactCanCancelWrong)

/-- 'laws.FnExactStepAlarm': WHATEVER THE INPUT: true; the input reads as it did. -/
def fnExactStepAlarmSpec : ChangeSpec := { name := "fnExactStepAlarm", fn := fun _ => fun
  | [d1, d2] => { results := [.lit (.bool true)], args := [d1, d2] }
  | _ => none }
def fnExactStepAlarmRow : OpenClaim := { program := "ytjfjnpopjjpagaa", sum := "b2c465753f628c3c59ba4441fcca63480ec42dc1c021c06c642cbba18bdacd0f", func := "loop.example/g01017/laws.FnExactStepAlarm", spec := "fnExactStepAlarm", unfollowed := true, recurses := true, apart := false }
def FnExactStepAlarmSaid : Prop := fnExactStepAlarmRow.holds Try.pinned (OpenSpec.ofChange fnExactStepAlarmSpec)

/-- ITS FALSE NEIGHBOUR: 'it returns false'. Refute it at one input. -/
def fnExactStepAlarmWrong : ChangeSpec := { name := "fnExactStepAlarm", fn := fun _ => fun
  | [d1, d2] => { results := [.lit (.bool false)], args := [d1, d2] }
  | _ => none }
def FnExactStepAlarmWrongFalsely : Prop := fnExactStepAlarmRow.holds Try.pinned (OpenSpec.ofChange fnExactStepAlarmWrong)

/-- 'laws.FnExactBestOfBoth': WHATEVER THE INPUT: true; the input reads as it did. -/
def fnExactBestOfBothSpec : ChangeSpec := { name := "fnExactBestOfBoth", fn := fun _ => fun
  | [d1, d2] => { results := [.lit (.bool true)], args := [d1, d2] }
  | _ => none }
def fnExactBestOfBothRow : OpenClaim := { program := "ytjfjnpopjjpagaa", sum := "b2c465753f628c3c59ba4441fcca63480ec42dc1c021c06c642cbba18bdacd0f", func := "loop.example/g01017/laws.FnExactBestOfBoth", spec := "fnExactBestOfBoth", unfollowed := true, recurses := true, apart := false }
def FnExactBestOfBothSaid : Prop := fnExactBestOfBothRow.holds Try.pinned (OpenSpec.ofChange fnExactBestOfBothSpec)

/-- ITS FALSE NEIGHBOUR: 'it returns false'. Refute it at one input. -/
def fnExactBestOfBothWrong : ChangeSpec := { name := "fnExactBestOfBoth", fn := fun _ => fun
  | [d1, d2] => { results := [.lit (.bool false)], args := [d1, d2] }
  | _ => none }
def FnExactBestOfBothWrongFalsely : Prop := fnExactBestOfBothRow.holds Try.pinned (OpenSpec.ofChange fnExactBestOfBothWrong)

/-- 'laws.FnExactRunAlarm': WHATEVER THE INPUT: true; the input reads as it did. -/
def fnExactRunAlarmSpec : ChangeSpec := { name := "fnExactRunAlarm", fn := fun _ => fun
  | [d1, d2] => { results := [.lit (.bool true)], args := [d1, d2] }
  | _ => none }
def fnExactRunAlarmRow : OpenClaim := { program := "ytjfjnpopjjpagaa", sum := "b2c465753f628c3c59ba4441fcca63480ec42dc1c021c06c642cbba18bdacd0f", func := "loop.example/g01017/laws.FnExactRunAlarm", spec := "fnExactRunAlarm", unfollowed := true, recurses := true, apart := false }
def FnExactRunAlarmSaid : Prop := fnExactRunAlarmRow.holds Try.pinned (OpenSpec.ofChange fnExactRunAlarmSpec)

/-- ITS FALSE NEIGHBOUR: 'it returns false'. Refute it at one input. -/
def fnExactRunAlarmWrong : ChangeSpec := { name := "fnExactRunAlarm", fn := fun _ => fun
  | [d1, d2] => { results := [.lit (.bool false)], args := [d1, d2] }
  | _ => none }
def FnExactRunAlarmWrongFalsely : Prop := fnExactRunAlarmRow.holds Try.pinned (OpenSpec.ofChange fnExactRunAlarmWrong)

/-- 'laws.FnExactToReview': WHATEVER THE INPUT: true; the input reads as it did. -/
def fnExactToReviewSpec : ChangeSpec := { name := "fnExactToReview", fn := fun _ => fun
  | [d] => { results := [.lit (.bool true)], args := [d] }
  | _ => none }
def fnExactToReviewRow : OpenClaim := { program := "ytjfjnpopjjpagaa", sum := "b2c465753f628c3c59ba4441fcca63480ec42dc1c021c06c642cbba18bdacd0f", func := "loop.example/g01017/laws.FnExactToReview", spec := "fnExactToReview", unfollowed := true, recurses := true, apart := false }
def FnExactToReviewSaid : Prop := fnExactToReviewRow.holds Try.pinned (OpenSpec.ofChange fnExactToReviewSpec)

/-- ITS FALSE NEIGHBOUR: 'it returns false'. Refute it at one input. -/
def fnExactToReviewWrong : ChangeSpec := { name := "fnExactToReview", fn := fun _ => fun
  | [d] => { results := [.lit (.bool false)], args := [d] }
  | _ => none }
def FnExactToReviewWrongFalsely : Prop := fnExactToReviewRow.holds Try.pinned (OpenSpec.ofChange fnExactToReviewWrong)

/-- 'laws.FnExactMedianEvents': WHATEVER THE INPUT: true; the input reads as it did. -/
def fnExactMedianEventsSpec : ChangeSpec := { name := "fnExactMedianEvents", fn := fun _ => fun
  | [d] => { results := [.lit (.bool true)], args := [d] }
  | _ => none }
def fnExactMedianEventsRow : OpenClaim := { program := "ytjfjnpopjjpagaa", sum := "b2c465753f628c3c59ba4441fcca63480ec42dc1c021c06c642cbba18bdacd0f", func := "loop.example/g01017/laws.FnExactMedianEvents", spec := "fnExactMedianEvents", unfollowed := true, recurses := true, apart := false }
def FnExactMedianEventsSaid : Prop := fnExactMedianEventsRow.holds Try.pinned (OpenSpec.ofChange fnExactMedianEventsSpec)

/-- ITS FALSE NEIGHBOUR: 'it returns false'. Refute it at one input. -/
def fnExactMedianEventsWrong : ChangeSpec := { name := "fnExactMedianEvents", fn := fun _ => fun
  | [d] => { results := [.lit (.bool false)], args := [d] }
  | _ => none }
def FnExactMedianEventsWrongFalsely : Prop := fnExactMedianEventsRow.holds Try.pinned (OpenSpec.ofChange fnExactMedianEventsWrong)

/-- 'laws.FnExactStepWatch': WHATEVER THE INPUT: true; the input reads as it did. -/
def fnExactStepWatchSpec : ChangeSpec := { name := "fnExactStepWatch", fn := fun _ => fun
  | [d1, d2] => { results := [.lit (.bool true)], args := [d1, d2] }
  | _ => none }
def fnExactStepWatchRow : OpenClaim := { program := "ytjfjnpopjjpagaa", sum := "b2c465753f628c3c59ba4441fcca63480ec42dc1c021c06c642cbba18bdacd0f", func := "loop.example/g01017/laws.FnExactStepWatch", spec := "fnExactStepWatch", unfollowed := true, recurses := true, apart := false }
def FnExactStepWatchSaid : Prop := fnExactStepWatchRow.holds Try.pinned (OpenSpec.ofChange fnExactStepWatchSpec)

/-- ITS FALSE NEIGHBOUR: 'it returns false'. Refute it at one input. -/
def fnExactStepWatchWrong : ChangeSpec := { name := "fnExactStepWatch", fn := fun _ => fun
  | [d1, d2] => { results := [.lit (.bool false)], args := [d1, d2] }
  | _ => none }
def FnExactStepWatchWrongFalsely : Prop := fnExactStepWatchRow.holds Try.pinned (OpenSpec.ofChange fnExactStepWatchWrong)

/-- 'laws.FnExactJoinWeeks': WHATEVER THE INPUT: true; the input reads as it did. -/
def fnExactJoinWeeksSpec : ChangeSpec := { name := "fnExactJoinWeeks", fn := fun _ => fun
  | [d1, d2] => { results := [.lit (.bool true)], args := [d1, d2] }
  | _ => none }
def fnExactJoinWeeksRow : OpenClaim := { program := "ytjfjnpopjjpagaa", sum := "b2c465753f628c3c59ba4441fcca63480ec42dc1c021c06c642cbba18bdacd0f", func := "loop.example/g01017/laws.FnExactJoinWeeks", spec := "fnExactJoinWeeks", unfollowed := true, recurses := true, apart := false }
def FnExactJoinWeeksSaid : Prop := fnExactJoinWeeksRow.holds Try.pinned (OpenSpec.ofChange fnExactJoinWeeksSpec)

/-- ITS FALSE NEIGHBOUR: 'it returns false'. Refute it at one input. -/
def fnExactJoinWeeksWrong : ChangeSpec := { name := "fnExactJoinWeeks", fn := fun _ => fun
  | [d1, d2] => { results := [.lit (.bool false)], args := [d1, d2] }
  | _ => none }
def FnExactJoinWeeksWrongFalsely : Prop := fnExactJoinWeeksRow.holds Try.pinned (OpenSpec.ofChange fnExactJoinWeeksWrong)

/-- 'laws.FnExactRunWatch': WHATEVER THE INPUT: true; the input reads as it did. -/
def fnExactRunWatchSpec : ChangeSpec := { name := "fnExactRunWatch", fn := fun _ => fun
  | [d1, d2] => { results := [.lit (.bool true)], args := [d1, d2] }
  | _ => none }
def fnExactRunWatchRow : OpenClaim := { program := "ytjfjnpopjjpagaa", sum := "b2c465753f628c3c59ba4441fcca63480ec42dc1c021c06c642cbba18bdacd0f", func := "loop.example/g01017/laws.FnExactRunWatch", spec := "fnExactRunWatch", unfollowed := true, recurses := true, apart := false }
def FnExactRunWatchSaid : Prop := fnExactRunWatchRow.holds Try.pinned (OpenSpec.ofChange fnExactRunWatchSpec)

/-- ITS FALSE NEIGHBOUR: 'it returns false'. Refute it at one input. -/
def fnExactRunWatchWrong : ChangeSpec := { name := "fnExactRunWatch", fn := fun _ => fun
  | [d1, d2] => { results := [.lit (.bool false)], args := [d1, d2] }
  | _ => none }
def FnExactRunWatchWrongFalsely : Prop := fnExactRunWatchRow.holds Try.pinned (OpenSpec.ofChange fnExactRunWatchWrong)

/- THE SECOND FORM. 'bulk': how many values and letters a reading holds, each counted each time it is reached (what is shared counts as often as it is met; a slice's spare places count too). A statement '..UptoSaid' is the law's where the arguments, and the package variables that the reading takes, are together of bulk at most 1048576: NARROWER than '..Said'. Prove '..Said' where nothing that the law and all that it calls make is longer than what came in: it says more and counts as full. Else prove '..UptoSaid'. A law counts once. -/
mutual
def uptoBulk {H : Type} : DataW H → Nat
  | .lit (.string bytes) => bytes.length + 1
  | .lit _ => 1
  | .nil => 1
  | .ptr d => uptoBulk d + 1
  | .slice elems spare => uptoBulkAll elems + uptoBulkAll spare + 1
  | .agg parts => uptoBulkAll parts + 1
  | .iface _ d => uptoBulk d + 1
  | .map entries => uptoBulkEntries entries + 1
  | .held _ => 1
def uptoBulkAll {H : Type} : List (DataW H) → Nat
  | [] => 0
  | d :: r => uptoBulk d + uptoBulkAll r
def uptoBulkEntries {H : Type} : List (Lit × DataW H) → Nat
  | [] => 0
  | x :: r => uptoBulkEntry x + uptoBulkEntries r
def uptoBulkEntry {H : Type} : Lit × DataW H → Nat
  | (.string bytes, d) => bytes.length + uptoBulk d + 1
  | (_, d) => uptoBulk d + 1
 end
def uptoSmall : (H : Type) → List (DataW H) → Bool := fun _ ds => decide (uptoBulkAll ds ≤ 1048576)
def OpenSpec.upto (s : _root_.Go.ChangeSpec) : _root_.Go.OpenSpec := { _root_.Go.OpenSpec.ofChange s with cond := some uptoSmall }

/-- 'laws.FnExactCanCancel', WHERE WHAT IT READS IS OF BULK AT MOST 1048576: true; the input reads as it did. -/
def fnExactCanCancelUptoRow : OpenClaim := { program := "ytjfjnpopjjpagaa", sum := "b2c465753f628c3c59ba4441fcca63480ec42dc1c021c06c642cbba18bdacd0f", func := "loop.example/g01017/laws.FnExactCanCancel", spec := "fnExactCanCancel", unfollowed := true, recurses := true, apart := false, narrowed := true }
def FnExactCanCancelUptoSaid : Prop := fnExactCanCancelUptoRow.holds Try.pinned (OpenSpec.upto fnExactCanCancelSpec)

/-- 'laws.FnExactStepAlarm', WHERE WHAT IT READS IS OF BULK AT MOST 1048576: true; the input reads as it did. -/
def fnExactStepAlarmUptoRow : OpenClaim := { program := "ytjfjnpopjjpagaa", sum := "b2c465753f628c3c59ba4441fcca63480ec42dc1c021c06c642cbba18bdacd0f", func := "loop.example/g01017/laws.FnExactStepAlarm", spec := "fnExactStepAlarm", unfollowed := true, recurses := true, apart := false, narrowed := true }
def FnExactStepAlarmUptoSaid : Prop := fnExactStepAlarmUptoRow.holds Try.pinned (OpenSpec.upto fnExactStepAlarmSpec)

/-- 'laws.FnExactBestOfBoth', WHERE WHAT IT READS IS OF BULK AT MOST 1048576: true; the input reads as it did. -/
def fnExactBestOfBothUptoRow : OpenClaim := { program := "ytjfjnpopjjpagaa", sum := "b2c465753f628c3c59ba4441fcca63480ec42dc1c021c06c642cbba18bdacd0f", func := "loop.example/g01017/laws.FnExactBestOfBoth", spec := "fnExactBestOfBoth", unfollowed := true, recurses := true, apart := false, narrowed := true }
def FnExactBestOfBothUptoSaid : Prop := fnExactBestOfBothUptoRow.holds Try.pinned (OpenSpec.upto fnExactBestOfBothSpec)

/-- 'laws.FnExactRunAlarm', WHERE WHAT IT READS IS OF BULK AT MOST 1048576: true; the input reads as it did. -/
def fnExactRunAlarmUptoRow : OpenClaim := { program := "ytjfjnpopjjpagaa", sum := "b2c465753f628c3c59ba4441fcca63480ec42dc1c021c06c642cbba18bdacd0f", func := "loop.example/g01017/laws.FnExactRunAlarm", spec := "fnExactRunAlarm", unfollowed := true, recurses := true, apart := false, narrowed := true }
def FnExactRunAlarmUptoSaid : Prop := fnExactRunAlarmUptoRow.holds Try.pinned (OpenSpec.upto fnExactRunAlarmSpec)

/-- 'laws.FnExactToReview', WHERE WHAT IT READS IS OF BULK AT MOST 1048576: true; the input reads as it did. -/
def fnExactToReviewUptoRow : OpenClaim := { program := "ytjfjnpopjjpagaa", sum := "b2c465753f628c3c59ba4441fcca63480ec42dc1c021c06c642cbba18bdacd0f", func := "loop.example/g01017/laws.FnExactToReview", spec := "fnExactToReview", unfollowed := true, recurses := true, apart := false, narrowed := true }
def FnExactToReviewUptoSaid : Prop := fnExactToReviewUptoRow.holds Try.pinned (OpenSpec.upto fnExactToReviewSpec)

/-- 'laws.FnExactMedianEvents', WHERE WHAT IT READS IS OF BULK AT MOST 1048576: true; the input reads as it did. -/
def fnExactMedianEventsUptoRow : OpenClaim := { program := "ytjfjnpopjjpagaa", sum := "b2c465753f628c3c59ba4441fcca63480ec42dc1c021c06c642cbba18bdacd0f", func := "loop.example/g01017/laws.FnExactMedianEvents", spec := "fnExactMedianEvents", unfollowed := true, recurses := true, apart := false, narrowed := true }
def FnExactMedianEventsUptoSaid : Prop := fnExactMedianEventsUptoRow.holds Try.pinned (OpenSpec.upto fnExactMedianEventsSpec)

/-- 'laws.FnExactStepWatch', WHERE WHAT IT READS IS OF BULK AT MOST 1048576: true; the input reads as it did. -/
def fnExactStepWatchUptoRow : OpenClaim := { program := "ytjfjnpopjjpagaa", sum := "b2c465753f628c3c59ba4441fcca63480ec42dc1c021c06c642cbba18bdacd0f", func := "loop.example/g01017/laws.FnExactStepWatch", spec := "fnExactStepWatch", unfollowed := true, recurses := true, apart := false, narrowed := true }
def FnExactStepWatchUptoSaid : Prop := fnExactStepWatchUptoRow.holds Try.pinned (OpenSpec.upto fnExactStepWatchSpec)

/-- 'laws.FnExactJoinWeeks', WHERE WHAT IT READS IS OF BULK AT MOST 1048576: true; the input reads as it did. -/
def fnExactJoinWeeksUptoRow : OpenClaim := { program := "ytjfjnpopjjpagaa", sum := "b2c465753f628c3c59ba4441fcca63480ec42dc1c021c06c642cbba18bdacd0f", func := "loop.example/g01017/laws.FnExactJoinWeeks", spec := "fnExactJoinWeeks", unfollowed := true, recurses := true, apart := false, narrowed := true }
def FnExactJoinWeeksUptoSaid : Prop := fnExactJoinWeeksUptoRow.holds Try.pinned (OpenSpec.upto fnExactJoinWeeksSpec)

/-- 'laws.FnExactRunWatch', WHERE WHAT IT READS IS OF BULK AT MOST 1048576: true; the input reads as it did. -/
def fnExactRunWatchUptoRow : OpenClaim := { program := "ytjfjnpopjjpagaa", sum := "b2c465753f628c3c59ba4441fcca63480ec42dc1c021c06c642cbba18bdacd0f", func := "loop.example/g01017/laws.FnExactRunWatch", spec := "fnExactRunWatch", unfollowed := true, recurses := true, apart := false, narrowed := true }
def FnExactRunWatchUptoSaid : Prop := fnExactRunWatchUptoRow.holds Try.pinned (OpenSpec.upto fnExactRunWatchSpec)

end Rows
end Go.Proofs.Ytjfjnpopjjpagaa
