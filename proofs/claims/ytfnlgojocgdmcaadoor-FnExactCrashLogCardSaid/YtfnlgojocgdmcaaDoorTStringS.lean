/-
  Lists of String: what the plain helpers do with them. Conditions: none.
-/
import Derived.Test.YtfnlgojocgdmcaaDoorLvFacts
import Derived.Test.YtfnlgojocgdmcaaDoorLvR
set_option linter.unusedSimpArgs false
set_option linter.unusedVariables false
set_option maxRecDepth 100000
namespace Go.Proofs
open Go.Lv
def StringS.cs (x : ByteArray) : List V := [.str x]
instance : FlatP StringS.cs 1 := ⟨fun _ => rfl, fun _ d => by cases d <;> rfl, fun _ => rfl, fun _ => rfl⟩
theorem StringS.csl (a : ByteArray) : (StringS.cs a).length = 1 := rfl
theorem StringS.csp (a : ByteArray) : (StringS.cs a).all (noOwn 2) = true := rfl
abbrev StringS.ok (x : ByteArray) : Prop := strR x
abbrev StringS.sl (L : List ByteArray) : V := .sl L.length 1 (Go.Lv.rows StringS.cs L)
abbrev StringS.zs : List V := [.str ByteArray.empty]
abbrev StringS.v (x : ByteArray) : V := .str x
end Go.Proofs
