/-
  A part of the proof: texts put together by a program of the prover. Conditions: none.
-/
import Derived.Test.YtfdikfpnkgglkaaRows
import Derived.JoinedOf
import Derived.Below
import Derived.ChangeOld
import Derived.ProofKit
import Derived.KernelRfl
set_option linter.unusedSimpArgs false
set_option linter.unusedVariables false
section
set_option maxRecDepth 100000
namespace Go.Proofs.Ytfdikfpnkgglkaa
open Go.RowKit
theorem pf1 : laidOutB Try.prog = true := by kernel_rfl
theorem pf2 : mapsRowed Try.prog = true := by kernel_rfl
theorem pf3 : (Try.prog.stops == []) = true := by kernel_rfl
theorem pf4 : (Try.prog.stopKnobs == []) = true := by kernel_rfl
theorem pf5 : Try.prog.stopsHeard = true := by kernel_rfl
theorem pf6 : Try.prog.mayEnter = true := by kernel_rfl
theorem pf7 : (Rows.fnExactConnectFaultsRow.plainKeys == Try.prog.plainKeys) = true := by kernel_rfl
theorem pf8 : (Rows.fnExactConnectFaultsRow.lifted == Try.prog.liftsFinal) = true := by kernel_rfl
theorem pf9 : (Try.prog.make == some Rows.fnExactConnectFaultsRow.make) = true := by kernel_rfl
theorem own : ownKnob Try.prog.godebug = none := by kernel_rfl
end Go.Proofs.Ytfdikfpnkgglkaa
end
