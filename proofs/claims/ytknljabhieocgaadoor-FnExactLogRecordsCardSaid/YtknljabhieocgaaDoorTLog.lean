/-
  Log: the pure form of its values, and what the plain helpers do with it. Conditions: none.
-/
import Derived.Test.YtknljabhieocgaaDoorLvFacts
import Derived.Test.YtknljabhieocgaaDoorLvR
set_option linter.unusedSimpArgs false
set_option linter.unusedVariables false
set_option maxRecDepth 100000
namespace Go.Proofs
open Go.Lv
structure Log where
  Durable : ByteArray
  Pending : ByteArray
  Count : Int
def Log.cs (r : Log) : List V := [.str r.Durable, .str r.Pending, .int .i64 r.Count]
def Log.v (r : Log) : V := .agg [.str r.Durable, .str r.Pending, .int .i64 r.Count]
theorem Log.csl (a : Log) : a.cs.length = 3 := rfl
theorem Log.csp (a : Log) : a.cs.all (noOwn 2) = true := rfl
instance : FlatP Log.cs 3 := ⟨fun _ => rfl, fun _ d => by cases d <;> rfl, fun _ => rfl, fun _ => rfl⟩
def Log.ok (r : Log) : Prop := strR r.Durable ∧ strR r.Pending ∧ i64R r.Count
abbrev Log.rows (L : List Log) : List V := Go.Lv.rows Log.cs L
abbrev Log.sl (L : List Log) : V := .sl L.length 3 (Go.Lv.rows Log.cs L)
abbrev Log.zs : List V := [.str ByteArray.empty, .str ByteArray.empty, .int .i64 0]
theorem toLog_ok (r : Log) : Ctr Tryd.prog 19 [r.v] [] r.v [] := by
  refine Ctr.intro Tryd.mixed Tryd.func19 rfl Tryd.okF19 ?_
  simp -implicitDefEqProofs -dsimp only [go_sem, Nat.reduceSub, Nat.reduceAdd, Nat.reduceMul, Nat.reduceLT, Nat.reduceLeDiff, Nat.reduceEqDiff, Nat.reduceDiv, Nat.reduceMod, Int.reduceToNat, Int.reduceLE, Int.reduceLT, Nat.le_refl, Int.toNat_natCast, beq_self_eq_true, bne_self_eq_false, Int.reduceBEq, Int.reduceBNe, Int.reduceNeg, Int.reduceAdd, Int.reduceSub, Int.reduceMul, decide_true, decide_false, eq_self, ne_eq, Option.some.injEq, reduceCtorEq, not_false_eq_true, Option.map_some, map_ren_rows, Tryd.ntmps19, Tryd.results19]
  simp -implicitDefEqProofs -dsimp only [go_sem, Nat.reduceSub, Nat.reduceAdd, Nat.reduceMul, Nat.reduceLT, Nat.reduceLeDiff, Nat.reduceEqDiff, Nat.reduceDiv, Nat.reduceMod, Int.reduceToNat, Int.reduceLE, Int.reduceLT, Nat.le_refl, Int.toNat_natCast, beq_self_eq_true, bne_self_eq_false, Int.reduceBEq, Int.reduceBNe, Int.reduceNeg, Int.reduceAdd, Int.reduceSub, Int.reduceMul, decide_true, decide_false, eq_self, ne_eq, Option.some.injEq, reduceCtorEq, not_false_eq_true, Option.map_some, map_ren_rows, Log.v]
  exact WeakR.drop' rfl rfl
theorem eqLog_ok (r : Log) : Ctr Tryd.prog 16 [r.v, r.v] [] (.bool true) [] := by
  refine Ctr.intro Tryd.mixed Tryd.func16 rfl Tryd.okF16 ?_
  simp -implicitDefEqProofs -dsimp only [go_sem, Nat.reduceSub, Nat.reduceAdd, Nat.reduceMul, Nat.reduceLT, Nat.reduceLeDiff, Nat.reduceEqDiff, Nat.reduceDiv, Nat.reduceMod, Int.reduceToNat, Int.reduceLE, Int.reduceLT, Nat.le_refl, Int.toNat_natCast, beq_self_eq_true, bne_self_eq_false, Int.reduceBEq, Int.reduceBNe, Int.reduceNeg, Int.reduceAdd, Int.reduceSub, Int.reduceMul, decide_true, decide_false, eq_self, ne_eq, Option.some.injEq, reduceCtorEq, not_false_eq_true, Option.map_some, map_ren_rows, Tryd.ntmps16, Tryd.results16]
  simp -implicitDefEqProofs -dsimp only [go_sem, Nat.reduceSub, Nat.reduceAdd, Nat.reduceMul, Nat.reduceLT, Nat.reduceLeDiff, Nat.reduceEqDiff, Nat.reduceDiv, Nat.reduceMod, Int.reduceToNat, Int.reduceLE, Int.reduceLT, Nat.le_refl, Int.toNat_natCast, beq_self_eq_true, bne_self_eq_false, Int.reduceBEq, Int.reduceBNe, Int.reduceNeg, Int.reduceAdd, Int.reduceSub, Int.reduceMul, decide_true, decide_false, eq_self, ne_eq, Option.some.injEq, reduceCtorEq, not_false_eq_true, Option.map_some, map_ren_rows, Log.v, bne_self_eq_false, beq_self_eq_true, Bool.not_true]
  exact WeakR.drop' rfl rfl
end Go.Proofs
