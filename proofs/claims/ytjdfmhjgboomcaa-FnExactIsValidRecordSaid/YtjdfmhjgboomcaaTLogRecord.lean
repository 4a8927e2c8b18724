/-
  LogRecord: the pure form of its values, and what the plain helpers do with it. Conditions: none.
-/
import Derived.Test.YtjdfmhjgboomcaaLvFacts
import Derived.Test.YtjdfmhjgboomcaaLvR
set_option linter.unusedSimpArgs false
set_option linter.unusedVariables false
set_option maxRecDepth 100000
namespace Go.Proofs
open Go.Lv
structure LogRecord where
  Command : ByteArray
  Reply : ByteArray
def LogRecord.cs (r : LogRecord) : List V := [.str r.Command, .str r.Reply]
def LogRecord.v (r : LogRecord) : V := .agg [.str r.Command, .str r.Reply]
theorem LogRecord.csl (a : LogRecord) : a.cs.length = 2 := rfl
theorem LogRecord.csp (a : LogRecord) : a.cs.all (noOwn 2) = true := rfl
instance : FlatP LogRecord.cs 2 := ⟨fun _ => rfl, fun _ d => by cases d <;> rfl, fun _ => rfl, fun _ => rfl⟩
def LogRecord.ok (r : LogRecord) : Prop := strR r.Command ∧ strR r.Reply
abbrev LogRecord.rows (L : List LogRecord) : List V := Go.Lv.rows LogRecord.cs L
abbrev LogRecord.sl (L : List LogRecord) : V := .sl L.length 2 (Go.Lv.rows LogRecord.cs L)
abbrev LogRecord.zs : List V := [.str ByteArray.empty, .str ByteArray.empty]
theorem toLogRecord_ok (r : LogRecord) : Ctr Try.prog 79 [r.v] [] r.v [] := by
  refine Ctr.intro Try.mixed Try.func79 rfl Try.okF79 ?_
  simp -implicitDefEqProofs -dsimp only [go_sem, Nat.reduceSub, Nat.reduceAdd, Nat.reduceMul, Nat.reduceLT, Nat.reduceLeDiff, Nat.reduceEqDiff, Nat.reduceDiv, Nat.reduceMod, Int.reduceToNat, Int.reduceLE, Int.reduceLT, Nat.le_refl, Int.toNat_natCast, beq_self_eq_true, bne_self_eq_false, Int.reduceBEq, Int.reduceBNe, Int.reduceNeg, Int.reduceAdd, Int.reduceSub, Int.reduceMul, decide_true, decide_false, eq_self, ne_eq, Option.some.injEq, reduceCtorEq, not_false_eq_true, Option.map_some, map_ren_rows, Try.ntmps79, Try.results79]
  simp -implicitDefEqProofs -dsimp only [go_sem, Nat.reduceSub, Nat.reduceAdd, Nat.reduceMul, Nat.reduceLT, Nat.reduceLeDiff, Nat.reduceEqDiff, Nat.reduceDiv, Nat.reduceMod, Int.reduceToNat, Int.reduceLE, Int.reduceLT, Nat.le_refl, Int.toNat_natCast, beq_self_eq_true, bne_self_eq_false, Int.reduceBEq, Int.reduceBNe, Int.reduceNeg, Int.reduceAdd, Int.reduceSub, Int.reduceMul, decide_true, decide_false, eq_self, ne_eq, Option.some.injEq, reduceCtorEq, not_false_eq_true, Option.map_some, map_ren_rows, LogRecord.v]
  exact WeakR.drop' rfl rfl
end Go.Proofs
