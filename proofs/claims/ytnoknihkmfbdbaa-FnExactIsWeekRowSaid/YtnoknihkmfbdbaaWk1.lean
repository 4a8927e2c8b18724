/-
  Week rows: one row is valid. Conditions: none.
-/
import Derived.Test.YtnoknihkmfbdbaaLvFacts
set_option linter.unusedSimpArgs false
set_option linter.unusedVariables false
namespace Go.Proofs
open Go.Lv
def inB' (n a b : Int) : Bool := decide (a ≤ n) && decide (n ≤ b)
theorem in_ok (n a b : Int) : Ctr Try.prog 74 [.int .i64 n, .int .i64 a, .int .i64 b] [] (.bool (inB' n a b)) [] := by
  refine Ctr.intro Try.mixed Try.func74 rfl Try.okF74 ?_
  simp -implicitDefEqProofs -dsimp only [go_sem, Nat.reduceSub, Nat.reduceAdd, Nat.reduceMul, Nat.reduceLT, Nat.reduceLeDiff, Nat.reduceEqDiff, Nat.reduceDiv, Nat.reduceMod, Int.reduceToNat, Int.reduceLE, Int.reduceLT, Nat.le_refl, Try.ntmps74, Try.results74]
  refine guardT.splitT (fun h1 => ?_) (fun h1 => ?_) <;> simp -implicitDefEqProofs -dsimp only [go_sem, Nat.reduceSub, Nat.reduceAdd, Nat.reduceMul, Nat.reduceLT, Nat.reduceLeDiff, Nat.reduceEqDiff, Nat.reduceDiv, Nat.reduceMod, Int.reduceToNat, Int.reduceLE, Int.reduceLT, Nat.le_refl, h1]
  · exact WeakR.of_eq (by simp [inB', h1])
  · exact WeakR.of_eq (by simp [inB', h1])
theorem l1In_ok (n a b : Int) : Ctr Try.prog 100 [.int .i64 n, .int .i64 a, .int .i64 b] [] (.bool (inB' n a b)) [] := by
  refine Ctr.intro Try.mixed Try.func100 rfl Try.okF100 ?_
  simp -implicitDefEqProofs -dsimp only [go_sem, Nat.reduceSub, Nat.reduceAdd, Nat.reduceMul, Nat.reduceLT, Nat.reduceLeDiff, Nat.reduceEqDiff, Nat.reduceDiv, Nat.reduceMod, Int.reduceToNat, Int.reduceLE, Int.reduceLT, Nat.le_refl, Try.ntmps100, Try.results100]
  refine guardT.splitT (fun h1 => ?_) (fun h1 => ?_) <;> simp -implicitDefEqProofs -dsimp only [go_sem, Nat.reduceSub, Nat.reduceAdd, Nat.reduceMul, Nat.reduceLT, Nat.reduceLeDiff, Nat.reduceEqDiff, Nat.reduceDiv, Nat.reduceMod, Int.reduceToNat, Int.reduceLE, Int.reduceLT, Nat.le_refl, h1]
  · exact WeakR.of_eq (by simp [inB', h1])
  · exact WeakR.of_eq (by simp [inB', h1])
/-- A week's row, as a pure value. -/
structure WeekRow where
  a : Int
  b : Int
  c : Int
  d : Int
  e : Int
def WeekRow.cs (r : WeekRow) : List V := [.int .i64 r.a, .int .i64 r.b, .int .i64 r.c, .int .i64 r.d, .int .i64 r.e]
def WeekRow.v (r : WeekRow) : V := .agg [.int .i64 r.a, .int .i64 r.b, .int .i64 r.c, .int .i64 r.d, .int .i64 r.e]
def wrB (r : WeekRow) : Bool := inB' r.a 1 5000 && inB' r.b 0 9999 && inB' r.c 0 r.b && inB' r.d 0 99999 && inB' r.e 0 9999
theorem l26One_ok (r : WeekRow) : Ctr Try.prog 73 [r.v] [] (.bool (wrB r)) [] := by
  refine Ctr.intro Try.mixed Try.func73 rfl Try.okF73 ?_
  simp -implicitDefEqProofs -dsimp only [go_sem, Nat.reduceSub, Nat.reduceAdd, Nat.reduceMul, Nat.reduceLT, Nat.reduceLeDiff, Nat.reduceEqDiff, Nat.reduceDiv, Nat.reduceMod, Int.reduceToNat, Int.reduceLE, Int.reduceLT, Nat.le_refl, Try.ntmps73, Try.results73, WeekRow.v]
  refine callT.intro (l1In_ok _ _ _) ⟨.inl rfl, .inl rfl, .inl rfl, trivial⟩ (.inl rfl) ?_
  simp -implicitDefEqProofs -dsimp only [go_sem, Nat.reduceSub, Nat.reduceAdd, Nat.reduceMul, Nat.reduceLT, Nat.reduceLeDiff, Nat.reduceEqDiff, Nat.reduceDiv, Nat.reduceMod, Int.reduceToNat, Int.reduceLE, Int.reduceLT, Nat.le_refl]
  refine guardT.splitT (fun h1 => ?_) (fun h1 => ?_) <;> simp -implicitDefEqProofs -dsimp only [go_sem, Nat.reduceSub, Nat.reduceAdd, Nat.reduceMul, Nat.reduceLT, Nat.reduceLeDiff, Nat.reduceEqDiff, Nat.reduceDiv, Nat.reduceMod, Int.reduceToNat, Int.reduceLE, Int.reduceLT, Nat.le_refl, h1]
  rotate_left
  · exact WeakR.drop' (by simp [wrB, h1]) rfl
  refine callT.intro (l1In_ok _ _ _) ⟨.inl rfl, .inl rfl, .inl rfl, trivial⟩ (.inl rfl) ?_
  simp -implicitDefEqProofs -dsimp only [go_sem, Nat.reduceSub, Nat.reduceAdd, Nat.reduceMul, Nat.reduceLT, Nat.reduceLeDiff, Nat.reduceEqDiff, Nat.reduceDiv, Nat.reduceMod, Int.reduceToNat, Int.reduceLE, Int.reduceLT, Nat.le_refl, h1]
  refine guardT.splitT (fun h2 => ?_) (fun h2 => ?_) <;> simp -implicitDefEqProofs -dsimp only [go_sem, Nat.reduceSub, Nat.reduceAdd, Nat.reduceMul, Nat.reduceLT, Nat.reduceLeDiff, Nat.reduceEqDiff, Nat.reduceDiv, Nat.reduceMod, Int.reduceToNat, Int.reduceLE, Int.reduceLT, Nat.le_refl, h1, h2]
  rotate_left
  · exact WeakR.drop' (by simp [wrB, h1, h2]) rfl
  refine callT.intro (l1In_ok _ _ _) ⟨.inl rfl, .inl rfl, .inl rfl, trivial⟩ (.inl rfl) ?_
  simp -implicitDefEqProofs -dsimp only [go_sem, Nat.reduceSub, Nat.reduceAdd, Nat.reduceMul, Nat.reduceLT, Nat.reduceLeDiff, Nat.reduceEqDiff, Nat.reduceDiv, Nat.reduceMod, Int.reduceToNat, Int.reduceLE, Int.reduceLT, Nat.le_refl, h1, h2]
  refine guardT.splitT (fun h3 => ?_) (fun h3 => ?_) <;> simp -implicitDefEqProofs -dsimp only [go_sem, Nat.reduceSub, Nat.reduceAdd, Nat.reduceMul, Nat.reduceLT, Nat.reduceLeDiff, Nat.reduceEqDiff, Nat.reduceDiv, Nat.reduceMod, Int.reduceToNat, Int.reduceLE, Int.reduceLT, Nat.le_refl, h1, h2, h3]
  rotate_left
  · exact WeakR.drop' (by simp [wrB, h1, h2, h3]) rfl
  refine callT.intro (l1In_ok _ _ _) ⟨.inl rfl, .inl rfl, .inl rfl, trivial⟩ (.inl rfl) ?_
  simp -implicitDefEqProofs -dsimp only [go_sem, Nat.reduceSub, Nat.reduceAdd, Nat.reduceMul, Nat.reduceLT, Nat.reduceLeDiff, Nat.reduceEqDiff, Nat.reduceDiv, Nat.reduceMod, Int.reduceToNat, Int.reduceLE, Int.reduceLT, Nat.le_refl, h1, h2, h3]
  refine guardT.splitT (fun h4 => ?_) (fun h4 => ?_) <;> simp -implicitDefEqProofs -dsimp only [go_sem, Nat.reduceSub, Nat.reduceAdd, Nat.reduceMul, Nat.reduceLT, Nat.reduceLeDiff, Nat.reduceEqDiff, Nat.reduceDiv, Nat.reduceMod, Int.reduceToNat, Int.reduceLE, Int.reduceLT, Nat.le_refl, h1, h2, h3, h4]
  rotate_left
  · exact WeakR.drop' (by simp [wrB, h1, h2, h3, h4]) rfl
  refine callT.intro (l1In_ok _ _ _) ⟨.inl rfl, .inl rfl, .inl rfl, trivial⟩ (.inl rfl) ?_
  simp -implicitDefEqProofs -dsimp only [go_sem, Nat.reduceSub, Nat.reduceAdd, Nat.reduceMul, Nat.reduceLT, Nat.reduceLeDiff, Nat.reduceEqDiff, Nat.reduceDiv, Nat.reduceMod, Int.reduceToNat, Int.reduceLE, Int.reduceLT, Nat.le_refl, h1, h2, h3, h4]
  exact WeakR.drop' (by simp [wrB, h1, h2, h3, h4]) rfl
theorem sIsWeekRow_ok (r : WeekRow) : Ctr Try.prog 15 [r.v] [] (.bool (wrB r)) [] := by
  refine Ctr.intro Try.mixed Try.func15 rfl Try.okF15 ?_
  simp -implicitDefEqProofs -dsimp only [go_sem, Nat.reduceSub, Nat.reduceAdd, Nat.reduceMul, Nat.reduceLT, Nat.reduceLeDiff, Nat.reduceEqDiff, Nat.reduceDiv, Nat.reduceMod, Int.reduceToNat, Int.reduceLE, Int.reduceLT, Nat.le_refl, Try.ntmps15, Try.results15, WeekRow.v]
  refine callT.intro (l26One_ok r) ⟨.inl rfl, trivial⟩ (.inl rfl) ?_
  simp -implicitDefEqProofs -dsimp only [go_sem, Nat.reduceSub, Nat.reduceAdd, Nat.reduceMul, Nat.reduceLT, Nat.reduceLeDiff, Nat.reduceEqDiff, Nat.reduceDiv, Nat.reduceMod, Int.reduceToNat, Int.reduceLE, Int.reduceLT, Nat.le_refl]
  exact WeakR.drop' rfl rfl
theorem iIsWeekRow_ok (r : WeekRow) : Ctr Try.prog 17 [r.v] [] (.bool (wrB r)) [] := by
  refine Ctr.intro Try.mixed Try.func17 rfl Try.okF17 ?_
  simp -implicitDefEqProofs -dsimp only [go_sem, Nat.reduceSub, Nat.reduceAdd, Nat.reduceMul, Nat.reduceLT, Nat.reduceLeDiff, Nat.reduceEqDiff, Nat.reduceDiv, Nat.reduceMod, Int.reduceToNat, Int.reduceLE, Int.reduceLT, Nat.le_refl, Try.ntmps17, Try.results17, WeekRow.v]
  repeat' (first | (refine WeakR.drop' ?_ rfl; (simp [wrB, *]; done)) | (refine callT.intro (in_ok _ _ _) ⟨.inl rfl, .inl rfl, .inl rfl, trivial⟩ (.inl rfl) ?_; simp -implicitDefEqProofs -dsimp only [go_sem, Nat.reduceSub, Nat.reduceAdd, Nat.reduceMul, Nat.reduceLT, Nat.reduceLeDiff, Nat.reduceEqDiff, Nat.reduceDiv, Nat.reduceMod, Int.reduceToNat, Int.reduceLE, Int.reduceLT, Nat.le_refl, *]) | (refine guardT.splitT (fun _ => ?_) (fun _ => ?_) <;> simp -implicitDefEqProofs -dsimp only [go_sem, Nat.reduceSub, Nat.reduceAdd, Nat.reduceMul, Nat.reduceLT, Nat.reduceLeDiff, Nat.reduceEqDiff, Nat.reduceDiv, Nat.reduceMod, Int.reduceToNat, Int.reduceLE, Int.reduceLT, Nat.le_refl, *]))
theorem toWeekRow_ok (r : WeekRow) : Ctr Try.prog 16 [r.v] [] r.v [] := by
  refine Ctr.intro Try.mixed Try.func16 rfl Try.okF16 ?_
  simp -implicitDefEqProofs -dsimp only [go_sem, Nat.reduceSub, Nat.reduceAdd, Nat.reduceMul, Nat.reduceLT, Nat.reduceLeDiff, Nat.reduceEqDiff, Nat.reduceDiv, Nat.reduceMod, Int.reduceToNat, Int.reduceLE, Int.reduceLT, Nat.le_refl, Try.ntmps16, Try.results16, WeekRow.v]
  exact WeakR.drop' rfl rfl
theorem fnIsWeekRow_ok (r : WeekRow) : Ctr Try.prog 3 [r.v] [] (.bool true) [] := by
  refine Ctr.intro Try.mixed Try.func3 rfl Try.okF3 ?_
  simp -implicitDefEqProofs -dsimp only [go_sem, Nat.reduceSub, Nat.reduceAdd, Nat.reduceMul, Nat.reduceLT, Nat.reduceLeDiff, Nat.reduceEqDiff, Nat.reduceDiv, Nat.reduceMod, Int.reduceToNat, Int.reduceLE, Int.reduceLT, Nat.le_refl, Try.ntmps3, Try.results3, WeekRow.v]
  refine callT.intro (toWeekRow_ok r) ⟨.inl rfl, trivial⟩ (.inl rfl) ?_
  simp -implicitDefEqProofs -dsimp only [go_sem, Nat.reduceSub, Nat.reduceAdd, Nat.reduceMul, Nat.reduceLT, Nat.reduceLeDiff, Nat.reduceEqDiff, Nat.reduceDiv, Nat.reduceMod, Int.reduceToNat, Int.reduceLE, Int.reduceLT, Nat.le_refl, WeekRow.v]
  refine callT.intro (sIsWeekRow_ok r) ⟨.inl rfl, trivial⟩ (.inl rfl) ?_
  simp -implicitDefEqProofs -dsimp only [go_sem, Nat.reduceSub, Nat.reduceAdd, Nat.reduceMul, Nat.reduceLT, Nat.reduceLeDiff, Nat.reduceEqDiff, Nat.reduceDiv, Nat.reduceMod, Int.reduceToNat, Int.reduceLE, Int.reduceLT, Nat.le_refl, WeekRow.v]
  refine callT.intro (toWeekRow_ok r) ⟨.inl rfl, trivial⟩ (.inl rfl) ?_
  simp -implicitDefEqProofs -dsimp only [go_sem, Nat.reduceSub, Nat.reduceAdd, Nat.reduceMul, Nat.reduceLT, Nat.reduceLeDiff, Nat.reduceEqDiff, Nat.reduceDiv, Nat.reduceMod, Int.reduceToNat, Int.reduceLE, Int.reduceLT, Nat.le_refl, WeekRow.v]
  refine callT.intro (iIsWeekRow_ok r) ⟨.inl rfl, trivial⟩ (.inl rfl) ?_
  simp -implicitDefEqProofs -dsimp only [go_sem, Nat.reduceSub, Nat.reduceAdd, Nat.reduceMul, Nat.reduceLT, Nat.reduceLeDiff, Nat.reduceEqDiff, Nat.reduceDiv, Nat.reduceMod, Int.reduceToNat, Int.reduceLE, Int.reduceLT, Nat.le_refl, WeekRow.v]
  refine condT.split (fun h => ?_) (fun h => ?_)
  · simp at h
  · simp -implicitDefEqProofs -dsimp only [go_sem, Nat.reduceSub, Nat.reduceAdd, Nat.reduceMul, Nat.reduceLT, Nat.reduceLeDiff, Nat.reduceEqDiff, Nat.reduceDiv, Nat.reduceMod, Int.reduceToNat, Int.reduceLE, Int.reduceLT, Nat.le_refl, h]
    exact WeakR.drop' rfl rfl
end Go.Proofs
