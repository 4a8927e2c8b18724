/-
  Bulletins: the events near a place. Conditions: none.
-/
import Derived.Test.YtekhnmibkkinaaaF24b
set_option linter.unusedSimpArgs false
set_option linter.unusedVariables false
set_option maxRecDepth 100000
namespace Go.Proofs
open Go.Lv
def nearB (x y far : Int) (r : QuakeRow) : Bool := decide ((r.X - x) * (r.X - x) + (r.Y - y) * (r.Y - y) ≤ far * far)
def nearTo (x y far : Int) (L : List QuakeRow) (i : Nat) : List Int := ((L.take i).filter (nearB x y far)).map QuakeRow.Id
def nearR (L : List QuakeRow) (x y far : Int) : Option (List Int) := if bulB L = true ∧ placeB x y = true ∧ inB' far 0 1500 = true then some ((L.filter (nearB x y far)).map QuakeRow.Id) else none
theorem nearTo_succ {x y far : Int} {L : List QuakeRow} {i : Nat} (hi : i < L.length) : nearTo x y far L (i + 1) = nearTo x y far L i ++ if nearB x y far L[i] then [L[i].Id] else [] := by
  rw [nearTo, List.take_succ_eq_append_getElem hi, List.filter_append, List.map_append]
  congr 1
  cases h : nearB x y far L[i] <;> simp [h]
theorem nearTo_len (x y far : Int) (L : List QuakeRow) (i : Nat) : (nearTo x y far L i).length ≤ i := by
  rw [nearTo, List.length_map]
  exact Nat.le_trans (List.length_filter_le _ _) (by simp; omega)
theorem l24Square_ok (r : QuakeRow) (x y : Int) (h1 : -1000000 ≤ r.X - x ∧ r.X - x ≤ 1000000) (h2 : -1000000 ≤ r.Y - y ∧ r.Y - y ≤ 1000000) : Ctr Try.prog 200 [r.v, .int .i64 x, .int .i64 y] [] (.int .i64 ((r.X - x) * (r.X - x) + (r.Y - y) * (r.Y - y))) [] := by
  refine Ctr.intro Try.mixed Try.func200 rfl Try.okF200 ?_
  simp -implicitDefEqProofs -dsimp only [go_sem, Nat.reduceSub, Nat.reduceAdd, Nat.reduceMul, Nat.reduceLT, Nat.reduceLeDiff, Nat.reduceEqDiff, Nat.reduceDiv, Nat.reduceMod, Int.reduceToNat, Int.reduceLE, Int.reduceLT, Int.reduceBEq, Int.reduceBNe, Int.reduceNeg, Int.reduceAdd, Int.reduceSub, Int.reduceMul, reduceCtorEq, Try.ntmps200, Try.results200]
  have g1 : 0 ≤ (r.X - x) * (r.X - x) ∧ (r.X - x) * (r.X - x) ≤ 1000000000000 := ⟨mul_self_nonneg' _, sq_le h1⟩
  have g2 : 0 ≤ (r.Y - y) * (r.Y - y) ∧ (r.Y - y) * (r.Y - y) ≤ 1000000000000 := ⟨mul_self_nonneg' _, sq_le h2⟩
  (repeat1' (first | simp -implicitDefEqProofs -dsimp only [go_sem, Nat.reduceSub, Nat.reduceAdd, Nat.reduceMul, Nat.reduceLT, Nat.reduceLeDiff, Nat.reduceEqDiff, Nat.reduceDiv, Nat.reduceMod, Int.reduceToNat, Int.reduceLE, Int.reduceLT, Int.reduceBEq, Int.reduceBNe, Int.reduceNeg, Int.reduceAdd, Int.reduceSub, Int.reduceMul, reduceCtorEq, QuakeRow.v] | simp -implicitDefEqProofs -dsimp (disch := omega) only [wrap_i64]))
  exact WeakR.drop' rfl (by rfl)
end Go.Proofs
