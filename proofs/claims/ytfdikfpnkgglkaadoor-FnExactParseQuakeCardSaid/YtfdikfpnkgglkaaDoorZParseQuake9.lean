/-
  A part of the proof: texts put together by a program of the prover. Conditions: none.
-/
import Derived.Test.YtfdikfpnkgglkaaDoorRows
import Derived.JoinedOf
import Derived.Below
import Derived.ChangeOld
import Derived.ProofKit
import Derived.KernelRfl
set_option linter.unusedSimpArgs false
set_option linter.unusedVariables false
section
set_option maxRecDepth 100000
namespace Go.Proofs.YtfdikfpnkgglkaaDoor
open Go.RowKit
theorem pf1 : laidOutB Tryd.prog = true := by kernel_rfl
theorem pf2 : mapsRowed Tryd.prog = true := by kernel_rfl
theorem pf3 : (Tryd.prog.stops == []) = true := by kernel_rfl
theorem pf4 : (Tryd.prog.stopKnobs == []) = true := by kernel_rfl
theorem pf5 : Tryd.prog.stopsHeard = true := by kernel_rfl
theorem pf6 : Tryd.prog.mayEnter = true := by kernel_rfl
theorem pf7 : (Rows.fnExactParseQuakeRow.plainKeys == Tryd.prog.plainKeys) = true := by kernel_rfl
theorem pf8 : (Rows.fnExactParseQuakeRow.lifted == Tryd.prog.liftsFinal) = true := by kernel_rfl
theorem pf9 : (Tryd.prog.make == some Rows.fnExactParseQuakeRow.make) = true := by kernel_rfl
theorem own : ownKnob Tryd.prog.godebug = none := by kernel_rfl
end Go.Proofs.YtfdikfpnkgglkaaDoor
end
