/-
  Log: the pure form of its values, and what the plain helpers do with it. Conditions: none.
-/
import Derived.Test.YtfnlgojocgdmcaaDoorLvFacts
import Derived.Test.YtfnlgojocgdmcaaDoorLvR
set_option linter.unusedSimpArgs false
set_option linter.unusedVariables false
set_option maxRecDepth 100000
namespace Go.Proofs
open Go.Lv
structure Log where
  Durable : ByteArray
  Pending : ByteArray
  Count : Int
def Log.cs (r : Log) : List V := [.str r.Durable, .str r.Pending, .int .i64 r.Count]
def Log.v (r : Log) : V := .agg [.str r.Durable, .str r.Pending, .int .i64 r.Count]
theorem Log.csl (a : Log) : a.cs.length = 3 := rfl
theorem Log.csp (a : Log) : a.cs.all (noOwn 2) = true := rfl
instance : FlatP Log.cs 3 := ⟨fun _ => rfl, fun _ d => by cases d <;> rfl, fun _ => rfl, fun _ => rfl⟩
def Log.ok (r : Log) : Prop := strR r.Durable ∧ strR r.Pending ∧ i64R r.Count
abbrev Log.rows (L : List Log) : List V := Go.Lv.rows Log.cs L
abbrev Log.sl (L : List Log) : V := .sl L.length 3 (Go.Lv.rows Log.cs L)
abbrev Log.zs : List V := [.str ByteArray.empty, .str ByteArray.empty, .int .i64 0]
theorem toLog_ok (r : Log) : Ctr Tryd.prog 11 [r.v] [] r.v [] := by
  refine Ctr.intro Tryd.mixed Tryd.func11 rfl Tryd.okF11 ?_
  simp -implicitDefEqProofs -dsimp only [go_sem, Nat.reduceSub, Nat.reduceAdd, Nat.reduceMul, Nat.reduceLT, Nat.reduceLeDiff, Nat.reduceEqDiff, Nat.reduceDiv, Nat.reduceMod, Int.reduceToNat, Int.reduceLE, Int.reduceLT, Int.reduceBEq, Int.reduceBNe, Int.reduceNeg, Int.reduceAdd, Int.reduceSub, Int.reduceMul, reduceCtorEq, Tryd.ntmps11, Tryd.results11]
  simp -implicitDefEqProofs -dsimp only [go_sem, Nat.reduceSub, Nat.reduceAdd, Nat.reduceMul, Nat.reduceLT, Nat.reduceLeDiff, Nat.reduceEqDiff, Nat.reduceDiv, Nat.reduceMod, Int.reduceToNat, Int.reduceLE, Int.reduceLT, Int.reduceBEq, Int.reduceBNe, Int.reduceNeg, Int.reduceAdd, Int.reduceSub, Int.reduceMul, reduceCtorEq, Log.v]
  exact WeakR.drop' rfl rfl
theorem eqLog_ok (r : Log) : Ctr Tryd.prog 63 [r.v, r.v] [] (.bool true) [] := by
  refine Ctr.intro Tryd.mixed Tryd.func63 rfl Tryd.okF63 ?_
  simp -implicitDefEqProofs -dsimp only [go_sem, Nat.reduceSub, Nat.reduceAdd, Nat.reduceMul, Nat.reduceLT, Nat.reduceLeDiff, Nat.reduceEqDiff, Nat.reduceDiv, Nat.reduceMod, Int.reduceToNat, Int.reduceLE, Int.reduceLT, Int.reduceBEq, Int.reduceBNe, Int.reduceNeg, Int.reduceAdd, Int.reduceSub, Int.reduceMul, reduceCtorEq, Tryd.ntmps63, Tryd.results63]
  simp -implicitDefEqProofs -dsimp only [go_sem, Nat.reduceSub, Nat.reduceAdd, Nat.reduceMul, Nat.reduceLT, Nat.reduceLeDiff, Nat.reduceEqDiff, Nat.reduceDiv, Nat.reduceMod, Int.reduceToNat, Int.reduceLE, Int.reduceLT, Int.reduceBEq, Int.reduceBNe, Int.reduceNeg, Int.reduceAdd, Int.reduceSub, Int.reduceMul, reduceCtorEq, Log.v, bne_self_eq_false, beq_self_eq_true, Bool.not_true]
  exact WeakR.drop' rfl rfl
end Go.Proofs
