/-
  Watches: what is to be reviewed. Conditions: none.
-/
import Derived.Test.YtekhnmibkkinaaaF25
import Derived.Test.YtekhnmibkkinaaaOShock
import Derived.Test.YtekhnmibkkinaaaRevP
import Derived.Test.YtekhnmibkkinaaaTIntS
set_option linter.unusedSimpArgs false
set_option linter.unusedVariables false
set_option maxRecDepth 100000
set_option maxHeartbeats 1000000
namespace Go.Proofs
open Go.Lv
def cmpI (a b : Int) : Int := if a < b then -1 else if b < a then 1 else 0
theorem cmpI_neg (a b : Int) : decide (cmpI a b < 0) = decide (a < b) := by
  unfold cmpI
  split
  · rename_i h; simp [h]
  · rename_i h; split <;> simp [h]
theorem isNaNInt_ok (a : Int) : Ctr Try.prog 209 [.int .i64 a] [] (.bool false) [] := by
  refine Ctr.intro Try.mixed Try.func209 rfl Try.okF209 ?_
  simp -implicitDefEqProofs -dsimp only [go_sem, Nat.reduceSub, Nat.reduceAdd, Nat.reduceMul, Nat.reduceLT, Nat.reduceLeDiff, Nat.reduceEqDiff, Nat.reduceDiv, Nat.reduceMod, Int.reduceToNat, Int.reduceLE, Int.reduceLT, Int.reduceBEq, Int.reduceBNe, Int.reduceNeg, Int.reduceAdd, Int.reduceSub, Int.reduceMul, reduceCtorEq, Try.ntmps209, Try.results209]
  exact WeakR.drop' (by simp) (by rfl)
theorem compareInt_ok (a b : Int) : Ctr Try.prog 121 [.int .i64 a, .int .i64 b] [] (.int .i64 (cmpI a b)) [] := by
  refine Ctr.intro Try.mixed Try.func121 rfl Try.okF121 ?_
  simp -implicitDefEqProofs -dsimp only [go_sem, Nat.reduceSub, Nat.reduceAdd, Nat.reduceMul, Nat.reduceLT, Nat.reduceLeDiff, Nat.reduceEqDiff, Nat.reduceDiv, Nat.reduceMod, Int.reduceToNat, Int.reduceLE, Int.reduceLT, Int.reduceBEq, Int.reduceBNe, Int.reduceNeg, Int.reduceAdd, Int.reduceSub, Int.reduceMul, reduceCtorEq, Try.ntmps121, Try.results121]
  (first | refine callT.at (isNaNInt_ok a) ⟨leA, trivial⟩ ?_ | refine callS.at (isNaNInt_ok a) ⟨leA, trivial⟩ ?_)
  simp -implicitDefEqProofs -dsimp only [go_sem, Nat.reduceSub, Nat.reduceAdd, Nat.reduceMul, Nat.reduceLT, Nat.reduceLeDiff, Nat.reduceEqDiff, Nat.reduceDiv, Nat.reduceMod, Int.reduceToNat, Int.reduceLE, Int.reduceLT, Int.reduceBEq, Int.reduceBNe, Int.reduceNeg, Int.reduceAdd, Int.reduceSub, Int.reduceMul, reduceCtorEq]
  (first | refine callT.at (isNaNInt_ok b) ⟨leA, trivial⟩ ?_ | refine callS.at (isNaNInt_ok b) ⟨leA, trivial⟩ ?_)
  simp -implicitDefEqProofs -dsimp only [go_sem, Nat.reduceSub, Nat.reduceAdd, Nat.reduceMul, Nat.reduceLT, Nat.reduceLeDiff, Nat.reduceEqDiff, Nat.reduceDiv, Nat.reduceMod, Int.reduceToNat, Int.reduceLE, Int.reduceLT, Int.reduceBEq, Int.reduceBNe, Int.reduceNeg, Int.reduceAdd, Int.reduceSub, Int.reduceMul, reduceCtorEq]
  refine condT.split (fun h1 => ?_) (fun h1 => ?_) <;> simp -implicitDefEqProofs -dsimp only [go_sem, Nat.reduceSub, Nat.reduceAdd, Nat.reduceMul, Nat.reduceLT, Nat.reduceLeDiff, Nat.reduceEqDiff, Nat.reduceDiv, Nat.reduceMod, Int.reduceToNat, Int.reduceLE, Int.reduceLT, Int.reduceBEq, Int.reduceBNe, Int.reduceNeg, Int.reduceAdd, Int.reduceSub, Int.reduceMul, reduceCtorEq, h1]
  · exact WeakR.drop' (by rw [cmpI, if_pos (of_decide_eq_true h1)]) (by rfl)
  · refine condT.split (fun h2 => ?_) (fun h2 => ?_) <;> simp -implicitDefEqProofs -dsimp only [go_sem, Nat.reduceSub, Nat.reduceAdd, Nat.reduceMul, Nat.reduceLT, Nat.reduceLeDiff, Nat.reduceEqDiff, Nat.reduceDiv, Nat.reduceMod, Int.reduceToNat, Int.reduceLE, Int.reduceLT, Int.reduceBEq, Int.reduceBNe, Int.reduceNeg, Int.reduceAdd, Int.reduceSub, Int.reduceMul, reduceCtorEq, h2]
    · exact WeakR.drop' (by rw [cmpI, if_neg (of_decide_eq_false h1), if_pos (of_decide_eq_true h2)]) (by rfl)
    · exact WeakR.drop' (by rw [cmpI, if_neg (of_decide_eq_false h1), if_neg (of_decide_eq_false h2)]) (by rfl)
def locP (x : Shock) : Bool := x.State == 1
def sizeC (x y : Shock) : Int := cmpI y.Size x.Size
def revL (w : Watch) : List Shock := insSort (fun x y => decide (sizeC x y < 0)) (w.Shocks.filter locP)
theorem revL_byKey {w : Watch} (hw : wB w = true) : revL w = byKey Shock.Size 95 (w.Shocks.filter locP) (List.range 116) := by
  have h : (fun x y : Shock => decide (sizeC x y < 0)) = fun x y => decide (y.Size < x.Size) := by
    funext x y
    exact cmpI_neg _ _
  rw [revL, h]
  refine insSort_byKey (fun x hx => ?_)
  have := shockB_iff.1 ((wB_ok hw).shocks x (List.mem_filter.1 hx).1)
  omega
theorem revL_steps {w : Watch} (hw : wB w = true) : ∃ G : Nat → List Shock, G 0 = [] ∧ (∀ j : Nat, G (j + 1) = G j ++ (w.Shocks.filter fun x => locP x && x.Size == 95 - (j : Int))) ∧ (∀ j, (G j).length ≤ 6 * j) ∧ revL w = G 116 := by
  have hlen := (wB_ok hw).slen
  have GS : ∀ j : Nat, byKey Shock.Size 95 (w.Shocks.filter locP) (List.range (j + 1)) = byKey Shock.Size 95 (w.Shocks.filter locP) (List.range j) ++ (w.Shocks.filter fun x => locP x && x.Size == 95 - (j : Int)) := by
    intro j
    rw [List.range_succ, byKey_app]
    congr 1
    simp only [byKey, List.flatMap_cons, List.flatMap_nil, List.append_nil, List.filter_filter]
    congr 1
    funext x
    exact Bool.and_comm _ _
  refine ⟨fun j => byKey Shock.Size 95 (w.Shocks.filter locP) (List.range j), rfl, GS, fun j => ?_, revL_byKey hw⟩
  induction j with
  | zero => simp [byKey]
  | succ j ih =>
    show (byKey Shock.Size 95 (w.Shocks.filter locP) (List.range (j + 1))).length ≤ _
    rw [GS, List.length_append]
    have := List.length_filter_le (fun x => locP x && x.Size == 95 - (j : Int)) w.Shocks
    have ih' : (byKey Shock.Size 95 (w.Shocks.filter locP) (List.range j)).length ≤ 6 * j := ih
    omega
def reviewR (w : Watch) : Option (List Int) := if wB w = true then some ((revL w).map Shock.Number) else none
end Go.Proofs
