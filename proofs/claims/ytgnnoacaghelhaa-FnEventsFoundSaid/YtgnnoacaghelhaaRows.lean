/-
  No cell of these rows narrows 'for every input' (looked for: loops, veiled, ifaces, maps, wideKeys, modest, calm, conditions, laid).
  DERIVED. THE GIVEN ROWS OF THIS SEAT. 2 by the template 'for every input the law returns true; each argument reads behind the call as it read before'; 0 by the template 'total and deterministic' (their statements: YtgnnoacaghelhaaTotals.lean).
  GIVEN WITH THE SEED: the statements are not yours to turn. If you find one false, say at which input.
  Laid BY PROGRAM, IN A SANDBOX (cutbox-rows.mjs): the forced cells as the released guide's own fill.sh prints them over the translation 7768aff1e6e20aeb… (all of the seat's roots in one cut). By AI agents, Wed Nov 11 2026. No macro, syntax, notation, axiom, sorry.
-/
import Derived.Test.YtgnnoacaghelhaaChecked
import GoSem.Claim
import GoSem.ClaimJoined
import GoSem.ClaimMapViews
import Derived.JoinedTies
import Derived.KernelRfl
namespace Go.Proofs.Ytgnnoacaghelhaa
/- THE CELL 'sum', in the pinned program and in every row, IS THE sha256 OF THE DUMP (.gsa) THAT YtgnnoacaghelhaaProg.lean LOADS. Nothing in Lean hashes anything: it is a label: what it is worth is what the hold of that sum in a sandbox is worth. -/
noncomputable def Try.pinned : Pinned := { name := "ytgnnoacaghelhaa", sum := "7768aff1e6e20aebc22188f849a5d297a9f4839a333b2e6afcee97ba851ff3cf", checked := Try.checked }
namespace Rows
def none {H : Type} : Left H := { results := [], args := [] }

/-- 'laws.FnEventsFound': WHATEVER THE INPUT: true; the input reads as it did. -/
def fnEventsFoundSpec : ChangeSpec := { name := "fnEventsFound", fn := fun _ => fun
  | [d] => { results := [.lit (.bool true)], args := [d] }
  | _ => none }
def fnEventsFoundRow : OpenClaim := { program := "ytgnnoacaghelhaa", sum := "7768aff1e6e20aebc22188f849a5d297a9f4839a333b2e6afcee97ba851ff3cf", func := "loop.example/g01017/laws.FnEventsFound", spec := "fnEventsFound", unfollowed := true, recurses := true, apart := false }
def FnEventsFoundSaid : Prop := fnEventsFoundRow.holds Try.pinned (OpenSpec.ofChange fnEventsFoundSpec)

/-- ITS FALSE NEIGHBOUR: 'it returns false'. Refute it at one input. -/
def fnEventsFoundWrong : ChangeSpec := { name := "fnEventsFound", fn := fun _ => fun
  | [d] => { results := [.lit (.bool false)], args := [d] }
  | _ => none }
def FnEventsFoundWrongFalsely : Prop := fnEventsFoundRow.holds Try.pinned (OpenSpec.ofChange fnEventsFoundWrong)

/-- 'laws.FnExactJoinWeeks': WHATEVER THE INPUT: true; the input reads as it did. -/
def fnExactJoinWeeksSpec : ChangeSpec := { name := "fnExactJoinWeeks", fn := fun _ => fun
  | [d1, d2] => { results := [.lit (.bool true)], args := [d1, d2] }
  | _ => none }
def fnExactJoinWeeksRow : OpenClaim := { program := "ytgnnoacaghelhaa", sum := "7768aff1e6e20aebc22188f849a5d297a9f4839a333b2e6afcee97ba851ff3cf", func := "loop.example/g01017/laws.FnExactJoinWeeks", spec := "fnExactJoinWeeks", unfollowed := true, recurses := true, apart := false }
def FnExactJoinWeeksSaid : Prop := fnExactJoinWeeksRow.holds Try.pinned (OpenSpec.ofChange fnExactJoinWeeksSpec)

/-- ITS FALSE NEIGHBOUR: 'it returns false'. Refute it at one input. -/
def fnExactJoinWeeksWrong : ChangeSpec := { name := "fnExactJoinWeeks", fn := fun _ => fun
  | [d1, d2] => { results := [.lit (.bool false)], args := [d1, d2] }
  | _ => none }
def FnExactJoinWeeksWrongFalsely : Prop := fnExactJoinWeeksRow.holds Try.pinned (OpenSpec.ofChange fnExactJoinWeeksWrong)

/- THE SECOND FORM. 'bulk': how many values and letters a reading holds, each counted each time it is reached (what is shared counts as often as it is met; a slice's spare places count too). A statement '..UptoSaid' is the law's where the arguments, and the package variables that the reading takes, are together of bulk at most 1048576: NARROWER than '..Said'. Prove '..Said' where nothing that the law and all that it calls make is longer than what came in: it says more and counts as full. Else prove '..UptoSaid'. A law counts once. -/
mutual
def uptoBulk {H : Type} : DataW H → Nat
  | .lit (.string bytes) => bytes.length + 1
  | .lit _ => 1
  | .nil => 1
  | .ptr d => uptoBulk d + 1
  | .slice elems spare => uptoBulkAll elems + uptoBulkAll spare + 1
  | .agg parts => uptoBulkAll parts + 1
  | .iface _ d => uptoBulk d + 1
  | .map entries => uptoBulkEntries entries + 1
  | .held _ => 1
def uptoBulkAll {H : Type} : List (DataW H) → Nat
  | [] => 0
  | d :: r => uptoBulk d + uptoBulkAll r
def uptoBulkEntries {H : Type} : List (Lit × DataW H) → Nat
  | [] => 0
  | x :: r => uptoBulkEntry x + uptoBulkEntries r
def uptoBulkEntry {H : Type} : Lit × DataW H → Nat
  | (.string bytes, d) => bytes.length + uptoBulk d + 1
  | (_, d) => uptoBulk d + 1
 end
def uptoSmall : (H : Type) → List (DataW H) → Bool := fun _ ds => decide (uptoBulkAll ds ≤ 1048576)
def OpenSpec.upto (s : _root_.Go.ChangeSpec) : _root_.Go.OpenSpec := { _root_.Go.OpenSpec.ofChange s with cond := some uptoSmall }

/-- 'laws.FnEventsFound', WHERE WHAT IT READS IS OF BULK AT MOST 1048576: true; the input reads as it did. -/
def fnEventsFoundUptoRow : OpenClaim := { program := "ytgnnoacaghelhaa", sum := "7768aff1e6e20aebc22188f849a5d297a9f4839a333b2e6afcee97ba851ff3cf", func := "loop.example/g01017/laws.FnEventsFound", spec := "fnEventsFound", unfollowed := true, recurses := true, apart := false, narrowed := true }
def FnEventsFoundUptoSaid : Prop := fnEventsFoundUptoRow.holds Try.pinned (OpenSpec.upto fnEventsFoundSpec)

/-- 'laws.FnExactJoinWeeks', WHERE WHAT IT READS IS OF BULK AT MOST 1048576: true; the input reads as it did. -/
def fnExactJoinWeeksUptoRow : OpenClaim := { program := "ytgnnoacaghelhaa", sum := "7768aff1e6e20aebc22188f849a5d297a9f4839a333b2e6afcee97ba851ff3cf", func := "loop.example/g01017/laws.FnExactJoinWeeks", spec := "fnExactJoinWeeks", unfollowed := true, recurses := true, apart := false, narrowed := true }
def FnExactJoinWeeksUptoSaid : Prop := fnExactJoinWeeksUptoRow.holds Try.pinned (OpenSpec.upto fnExactJoinWeeksSpec)

end Rows
end Go.Proofs.Ytgnnoacaghelhaa
