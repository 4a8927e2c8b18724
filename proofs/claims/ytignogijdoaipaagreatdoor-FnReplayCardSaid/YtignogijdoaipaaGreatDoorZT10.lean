/-
  A part of the proof: texts put together by a program of the prover. Conditions: none.
-/
import Derived.Test.YtignogijdoaipaaGreatDoorRows
import Derived.JoinedOf
import Derived.Below
import Derived.ChangeOld
import Derived.ProofKit
import Derived.KernelRfl
set_option linter.unusedSimpArgs false
set_option linter.unusedVariables false
section
set_option maxRecDepth 100000
namespace Go.Proofs.YtignogijdoaipaaGreatDoor
open Go.RowKit
theorem pf1 : laidOutB Tryz.prog = true := by kernel_rfl
theorem pf2 : mapsRowed Tryz.prog = true := by kernel_rfl
theorem pf3 : (Tryz.prog.stops == []) = true := by kernel_rfl
theorem pf4 : (Tryz.prog.stopKnobs == []) = true := by kernel_rfl
theorem pf5 : Tryz.prog.stopsHeard = true := by kernel_rfl
theorem pf6 : Tryz.prog.mayEnter = true := by kernel_rfl
theorem pf7 : (Rows.fnConsoleRow.plainKeys == Tryz.prog.plainKeys) = true := by kernel_rfl
theorem pf8 : (Rows.fnConsoleRow.lifted == Tryz.prog.liftsFinal) = true := by kernel_rfl
theorem pf9 : (Tryz.prog.make == some Rows.fnConsoleRow.make) = true := by kernel_rfl
theorem own : ownKnob Tryz.prog.godebug = none := by kernel_rfl
end Go.Proofs.YtignogijdoaipaaGreatDoor
end
