/-
  LogRecord: the pure form of its values, and what the plain helpers do with it. Conditions: none.
-/
import Derived.Test.YtfnlgojocgdmcaaDoorLvFacts
import Derived.Test.YtfnlgojocgdmcaaDoorLvR
set_option linter.unusedSimpArgs false
set_option linter.unusedVariables false
set_option maxRecDepth 100000
namespace Go.Proofs
open Go.Lv
structure LogRecord where
  Command : ByteArray
  Reply : ByteArray
def LogRecord.cs (r : LogRecord) : List V := [.str r.Command, .str r.Reply]
def LogRecord.v (r : LogRecord) : V := .agg [.str r.Command, .str r.Reply]
theorem LogRecord.csl (a : LogRecord) : a.cs.length = 2 := rfl
theorem LogRecord.csp (a : LogRecord) : a.cs.all (noOwn 2) = true := rfl
instance : FlatP LogRecord.cs 2 := ⟨fun _ => rfl, fun _ d => by cases d <;> rfl, fun _ => rfl, fun _ => rfl⟩
def LogRecord.ok (r : LogRecord) : Prop := strR r.Command ∧ strR r.Reply
abbrev LogRecord.rows (L : List LogRecord) : List V := Go.Lv.rows LogRecord.cs L
abbrev LogRecord.sl (L : List LogRecord) : V := .sl L.length 2 (Go.Lv.rows LogRecord.cs L)
abbrev LogRecord.zs : List V := [.str ByteArray.empty, .str ByteArray.empty]
end Go.Proofs
