/-
  Bulletins: validity. Conditions: none.
-/
import Derived.Test.YtekhnmibkkinaaaB2
import Derived.Test.YtekhnmibkkinaaaTQuakeRow
set_option linter.unusedSimpArgs false
set_option linter.unusedVariables false
set_option maxRecDepth 100000
namespace Go.Proofs
open Go.Lv
def qrB (r : QuakeRow) : Bool := inB' r.Id 1 9999 && inB' r.Tick 0 1000000 && placeB r.X r.Y && inB' r.Deep 0 700 && inB' r.Size (-100) 1000 && inB' r.Grade 1 4
theorem qrB_iff {r : QuakeRow} : qrB r = true ↔ (1 ≤ r.Id ∧ r.Id ≤ 9999) ∧ (0 ≤ r.Tick ∧ r.Tick ≤ 1000000) ∧ ((0 ≤ r.X ∧ r.X ≤ 999) ∧ 0 ≤ r.Y ∧ r.Y ≤ 999) ∧ (0 ≤ r.Deep ∧ r.Deep ≤ 700) ∧ (-100 ≤ r.Size ∧ r.Size ≤ 1000) ∧ 1 ≤ r.Grade ∧ r.Grade ≤ 4 := by
  simp [qrB, placeB, inB', and_assoc]
theorem l24One_ok (r : QuakeRow) : Ctr Try.prog 199 [r.v] [] (.bool (qrB r)) [] := by
  refine Ctr.intro Try.mixed Try.func199 rfl Try.okF199 ?_
  simp -implicitDefEqProofs -dsimp only [go_sem, Nat.reduceSub, Nat.reduceAdd, Nat.reduceMul, Nat.reduceLT, Nat.reduceLeDiff, Nat.reduceEqDiff, Nat.reduceDiv, Nat.reduceMod, Int.reduceToNat, Int.reduceLE, Int.reduceLT, Int.reduceBEq, Int.reduceBNe, Int.reduceNeg, Int.reduceAdd, Int.reduceSub, Int.reduceMul, reduceCtorEq, Try.ntmps199, Try.results199]
  simp -implicitDefEqProofs -dsimp only [go_sem, Nat.reduceSub, Nat.reduceAdd, Nat.reduceMul, Nat.reduceLT, Nat.reduceLeDiff, Nat.reduceEqDiff, Nat.reduceDiv, Nat.reduceMod, Int.reduceToNat, Int.reduceLE, Int.reduceLT, Int.reduceBEq, Int.reduceBNe, Int.reduceNeg, Int.reduceAdd, Int.reduceSub, Int.reduceMul, reduceCtorEq, QuakeRow.v]
  repeat' (first | (refine WeakR.drop' ?_ (by rfl); first | rfl | (simp [qrB, *]; done)) | ((first | refine callT.at (l1In_ok _ _ _) ⟨leA, leA, leA, trivial⟩ ?_ | refine callS.at (l1In_ok _ _ _) ⟨leA, leA, leA, trivial⟩ ?_); simp -implicitDefEqProofs -dsimp only [go_sem, Nat.reduceSub, Nat.reduceAdd, Nat.reduceMul, Nat.reduceLT, Nat.reduceLeDiff, Nat.reduceEqDiff, Nat.reduceDiv, Nat.reduceMod, Int.reduceToNat, Int.reduceLE, Int.reduceLT, Int.reduceBEq, Int.reduceBNe, Int.reduceNeg, Int.reduceAdd, Int.reduceSub, Int.reduceMul, reduceCtorEq, *]) | ((first | refine callT.at (l2Tick_ok _) ⟨leA, trivial⟩ ?_ | refine callS.at (l2Tick_ok _) ⟨leA, trivial⟩ ?_); simp -implicitDefEqProofs -dsimp only [go_sem, Nat.reduceSub, Nat.reduceAdd, Nat.reduceMul, Nat.reduceLT, Nat.reduceLeDiff, Nat.reduceEqDiff, Nat.reduceDiv, Nat.reduceMod, Int.reduceToNat, Int.reduceLE, Int.reduceLT, Int.reduceBEq, Int.reduceBNe, Int.reduceNeg, Int.reduceAdd, Int.reduceSub, Int.reduceMul, reduceCtorEq, *]) | ((first | refine callT.at (l2Place_ok _ _) ⟨leA, leA, trivial⟩ ?_ | refine callS.at (l2Place_ok _ _) ⟨leA, leA, trivial⟩ ?_); simp -implicitDefEqProofs -dsimp only [go_sem, Nat.reduceSub, Nat.reduceAdd, Nat.reduceMul, Nat.reduceLT, Nat.reduceLeDiff, Nat.reduceEqDiff, Nat.reduceDiv, Nat.reduceMod, Int.reduceToNat, Int.reduceLE, Int.reduceLT, Int.reduceBEq, Int.reduceBNe, Int.reduceNeg, Int.reduceAdd, Int.reduceSub, Int.reduceMul, reduceCtorEq, *]) | ((first | refine callT.at (l24Size_ok _) ⟨leA, trivial⟩ ?_ | refine callS.at (l24Size_ok _) ⟨leA, trivial⟩ ?_); simp -implicitDefEqProofs -dsimp only [go_sem, Nat.reduceSub, Nat.reduceAdd, Nat.reduceMul, Nat.reduceLT, Nat.reduceLeDiff, Nat.reduceEqDiff, Nat.reduceDiv, Nat.reduceMod, Int.reduceToNat, Int.reduceLE, Int.reduceLT, Int.reduceBEq, Int.reduceBNe, Int.reduceNeg, Int.reduceAdd, Int.reduceSub, Int.reduceMul, reduceCtorEq, *]) | (refine guardT.splitT (fun _ => ?_) (fun _ => ?_) <;> simp -implicitDefEqProofs -dsimp only [go_sem, Nat.reduceSub, Nat.reduceAdd, Nat.reduceMul, Nat.reduceLT, Nat.reduceLeDiff, Nat.reduceEqDiff, Nat.reduceDiv, Nat.reduceMod, Int.reduceToNat, Int.reduceLE, Int.reduceLT, Int.reduceBEq, Int.reduceBNe, Int.reduceNeg, Int.reduceAdd, Int.reduceSub, Int.reduceMul, reduceCtorEq, *]) | (refine guardT.splitF (fun _ => ?_) (fun _ => ?_) <;> simp -implicitDefEqProofs -dsimp only [go_sem, Nat.reduceSub, Nat.reduceAdd, Nat.reduceMul, Nat.reduceLT, Nat.reduceLeDiff, Nat.reduceEqDiff, Nat.reduceDiv, Nat.reduceMod, Int.reduceToNat, Int.reduceLE, Int.reduceLT, Int.reduceBEq, Int.reduceBNe, Int.reduceNeg, Int.reduceAdd, Int.reduceSub, Int.reduceMul, reduceCtorEq, *]) | (refine condT.split (fun _ => ?_) (fun _ => ?_) <;> simp -implicitDefEqProofs -dsimp only [go_sem, Nat.reduceSub, Nat.reduceAdd, Nat.reduceMul, Nat.reduceLT, Nat.reduceLeDiff, Nat.reduceEqDiff, Nat.reduceDiv, Nat.reduceMod, Int.reduceToNat, Int.reduceLE, Int.reduceLT, Int.reduceBEq, Int.reduceBNe, Int.reduceNeg, Int.reduceAdd, Int.reduceSub, Int.reduceMul, reduceCtorEq, *]))
theorem iIsQuakeRow_ok (r : QuakeRow) : Ctr Try.prog 202 [r.v] [] (.bool (qrB r)) [] := by
  refine Ctr.intro Try.mixed Try.func202 rfl Try.okF202 ?_
  simp -implicitDefEqProofs -dsimp only [go_sem, Nat.reduceSub, Nat.reduceAdd, Nat.reduceMul, Nat.reduceLT, Nat.reduceLeDiff, Nat.reduceEqDiff, Nat.reduceDiv, Nat.reduceMod, Int.reduceToNat, Int.reduceLE, Int.reduceLT, Int.reduceBEq, Int.reduceBNe, Int.reduceNeg, Int.reduceAdd, Int.reduceSub, Int.reduceMul, reduceCtorEq, Try.ntmps202, Try.results202]
  simp -implicitDefEqProofs -dsimp only [go_sem, Nat.reduceSub, Nat.reduceAdd, Nat.reduceMul, Nat.reduceLT, Nat.reduceLeDiff, Nat.reduceEqDiff, Nat.reduceDiv, Nat.reduceMod, Int.reduceToNat, Int.reduceLE, Int.reduceLT, Int.reduceBEq, Int.reduceBNe, Int.reduceNeg, Int.reduceAdd, Int.reduceSub, Int.reduceMul, reduceCtorEq, QuakeRow.v]
  repeat' (first | (refine WeakR.drop' ?_ (by rfl); first | rfl | (simp [qrB, *]; done)) | ((first | refine callT.at (in_ok _ _ _) ⟨leA, leA, leA, trivial⟩ ?_ | refine callS.at (in_ok _ _ _) ⟨leA, leA, leA, trivial⟩ ?_); simp -implicitDefEqProofs -dsimp only [go_sem, Nat.reduceSub, Nat.reduceAdd, Nat.reduceMul, Nat.reduceLT, Nat.reduceLeDiff, Nat.reduceEqDiff, Nat.reduceDiv, Nat.reduceMod, Int.reduceToNat, Int.reduceLE, Int.reduceLT, Int.reduceBEq, Int.reduceBNe, Int.reduceNeg, Int.reduceAdd, Int.reduceSub, Int.reduceMul, reduceCtorEq, *]) | ((first | refine callT.at (isTick_ok _) ⟨leA, trivial⟩ ?_ | refine callS.at (isTick_ok _) ⟨leA, trivial⟩ ?_); simp -implicitDefEqProofs -dsimp only [go_sem, Nat.reduceSub, Nat.reduceAdd, Nat.reduceMul, Nat.reduceLT, Nat.reduceLeDiff, Nat.reduceEqDiff, Nat.reduceDiv, Nat.reduceMod, Int.reduceToNat, Int.reduceLE, Int.reduceLT, Int.reduceBEq, Int.reduceBNe, Int.reduceNeg, Int.reduceAdd, Int.reduceSub, Int.reduceMul, reduceCtorEq, *]) | ((first | refine callT.at (isPlace_ok _ _) ⟨leA, leA, trivial⟩ ?_ | refine callS.at (isPlace_ok _ _) ⟨leA, leA, trivial⟩ ?_); simp -implicitDefEqProofs -dsimp only [go_sem, Nat.reduceSub, Nat.reduceAdd, Nat.reduceMul, Nat.reduceLT, Nat.reduceLeDiff, Nat.reduceEqDiff, Nat.reduceDiv, Nat.reduceMod, Int.reduceToNat, Int.reduceLE, Int.reduceLT, Int.reduceBEq, Int.reduceBNe, Int.reduceNeg, Int.reduceAdd, Int.reduceSub, Int.reduceMul, reduceCtorEq, *]) | ((first | refine callT.at (isRowSize_ok _) ⟨leA, trivial⟩ ?_ | refine callS.at (isRowSize_ok _) ⟨leA, trivial⟩ ?_); simp -implicitDefEqProofs -dsimp only [go_sem, Nat.reduceSub, Nat.reduceAdd, Nat.reduceMul, Nat.reduceLT, Nat.reduceLeDiff, Nat.reduceEqDiff, Nat.reduceDiv, Nat.reduceMod, Int.reduceToNat, Int.reduceLE, Int.reduceLT, Int.reduceBEq, Int.reduceBNe, Int.reduceNeg, Int.reduceAdd, Int.reduceSub, Int.reduceMul, reduceCtorEq, *]) | (refine guardT.splitT (fun _ => ?_) (fun _ => ?_) <;> simp -implicitDefEqProofs -dsimp only [go_sem, Nat.reduceSub, Nat.reduceAdd, Nat.reduceMul, Nat.reduceLT, Nat.reduceLeDiff, Nat.reduceEqDiff, Nat.reduceDiv, Nat.reduceMod, Int.reduceToNat, Int.reduceLE, Int.reduceLT, Int.reduceBEq, Int.reduceBNe, Int.reduceNeg, Int.reduceAdd, Int.reduceSub, Int.reduceMul, reduceCtorEq, *]) | (refine guardT.splitF (fun _ => ?_) (fun _ => ?_) <;> simp -implicitDefEqProofs -dsimp only [go_sem, Nat.reduceSub, Nat.reduceAdd, Nat.reduceMul, Nat.reduceLT, Nat.reduceLeDiff, Nat.reduceEqDiff, Nat.reduceDiv, Nat.reduceMod, Int.reduceToNat, Int.reduceLE, Int.reduceLT, Int.reduceBEq, Int.reduceBNe, Int.reduceNeg, Int.reduceAdd, Int.reduceSub, Int.reduceMul, reduceCtorEq, *]) | (refine condT.split (fun _ => ?_) (fun _ => ?_) <;> simp -implicitDefEqProofs -dsimp only [go_sem, Nat.reduceSub, Nat.reduceAdd, Nat.reduceMul, Nat.reduceLT, Nat.reduceLeDiff, Nat.reduceEqDiff, Nat.reduceDiv, Nat.reduceMod, Int.reduceToNat, Int.reduceLE, Int.reduceLT, Int.reduceBEq, Int.reduceBNe, Int.reduceNeg, Int.reduceAdd, Int.reduceSub, Int.reduceMul, reduceCtorEq, *]))
theorem tickOf_ok (r : QuakeRow) : Ctr Try.prog 203 [r.v] [] (.int .i64 r.Tick) [] := by
  refine Ctr.intro Try.mixed Try.func203 rfl Try.okF203 ?_
  simp -implicitDefEqProofs -dsimp only [go_sem, Nat.reduceSub, Nat.reduceAdd, Nat.reduceMul, Nat.reduceLT, Nat.reduceLeDiff, Nat.reduceEqDiff, Nat.reduceDiv, Nat.reduceMod, Int.reduceToNat, Int.reduceLE, Int.reduceLT, Int.reduceBEq, Int.reduceBNe, Int.reduceNeg, Int.reduceAdd, Int.reduceSub, Int.reduceMul, reduceCtorEq, Try.ntmps203, Try.results203]
  simp -implicitDefEqProofs -dsimp only [go_sem, Nat.reduceSub, Nat.reduceAdd, Nat.reduceMul, Nat.reduceLT, Nat.reduceLeDiff, Nat.reduceEqDiff, Nat.reduceDiv, Nat.reduceMod, Int.reduceToNat, Int.reduceLE, Int.reduceLT, Int.reduceBEq, Int.reduceBNe, Int.reduceNeg, Int.reduceAdd, Int.reduceSub, Int.reduceMul, reduceCtorEq, QuakeRow.v]
  exact WeakR.drop' rfl rfl
theorem idOf_ok (r : QuakeRow) : Ctr Try.prog 205 [r.v] [] (.int .i64 r.Id) [] := by
  refine Ctr.intro Try.mixed Try.func205 rfl Try.okF205 ?_
  simp -implicitDefEqProofs -dsimp only [go_sem, Nat.reduceSub, Nat.reduceAdd, Nat.reduceMul, Nat.reduceLT, Nat.reduceLeDiff, Nat.reduceEqDiff, Nat.reduceDiv, Nat.reduceMod, Int.reduceToNat, Int.reduceLE, Int.reduceLT, Int.reduceBEq, Int.reduceBNe, Int.reduceNeg, Int.reduceAdd, Int.reduceSub, Int.reduceMul, reduceCtorEq, Try.ntmps205, Try.results205]
  simp -implicitDefEqProofs -dsimp only [go_sem, Nat.reduceSub, Nat.reduceAdd, Nat.reduceMul, Nat.reduceLT, Nat.reduceLeDiff, Nat.reduceEqDiff, Nat.reduceDiv, Nat.reduceMod, Int.reduceToNat, Int.reduceLE, Int.reduceLT, Int.reduceBEq, Int.reduceBNe, Int.reduceNeg, Int.reduceAdd, Int.reduceSub, Int.reduceMul, reduceCtorEq, QuakeRow.v]
  exact WeakR.drop' rfl rfl
def bulB (L : List QuakeRow) : Bool := listedB qrB QuakeRow.Tick 12 L && decide (L.map QuakeRow.Id).Nodup
theorem bulB_all {L : List QuakeRow} (h : bulB L = true) : (∀ x ∈ L, qrB x = true) ∧ L.length ≤ 12 := by
  simp only [bulB, Bool.and_eq_true] at h
  exact listedB_all h.1
theorem iIsBulletin_ok (L : List QuakeRow) (hl : L.length ≤ 281474976710656) : Ctr Try.prog 114 [QuakeRow.sl L] [] (.bool (bulB L)) [] := by
  refine Ctr.intro Try.mixed Try.func114 rfl Try.okF114 ?_
  simp -implicitDefEqProofs -dsimp only [go_sem, Nat.reduceSub, Nat.reduceAdd, Nat.reduceMul, Nat.reduceLT, Nat.reduceLeDiff, Nat.reduceEqDiff, Nat.reduceDiv, Nat.reduceMod, Int.reduceToNat, Int.reduceLE, Int.reduceLT, Int.reduceBEq, Int.reduceBNe, Int.reduceNeg, Int.reduceAdd, Int.reduceSub, Int.reduceMul, reduceCtorEq, Try.ntmps114, Try.results114]
  refine callS.intro (areListedQuakeRow_ok L qrB QuakeRow.Tick 12 _ _ [] [] (fun _ => rfl) (fun _ => rfl) iIsQuakeRow_ok tickOf_ok 12 rfl hl) ⟨.inl rfl, .inl rfl, .inl rfl, .inl rfl, trivial⟩ (.inl rfl) ?_
  simp -implicitDefEqProofs -dsimp only [go_sem, Nat.reduceSub, Nat.reduceAdd, Nat.reduceMul, Nat.reduceLT, Nat.reduceLeDiff, Nat.reduceEqDiff, Nat.reduceDiv, Nat.reduceMod, Int.reduceToNat, Int.reduceLE, Int.reduceLT, Int.reduceBEq, Int.reduceBNe, Int.reduceNeg, Int.reduceAdd, Int.reduceSub, Int.reduceMul, reduceCtorEq]
  refine guardT.splitT (fun h1 => ?_) (fun h1 => ?_) <;> simp -implicitDefEqProofs -dsimp only [go_sem, Nat.reduceSub, Nat.reduceAdd, Nat.reduceMul, Nat.reduceLT, Nat.reduceLeDiff, Nat.reduceEqDiff, Nat.reduceDiv, Nat.reduceMod, Int.reduceToNat, Int.reduceLE, Int.reduceLT, Int.reduceBEq, Int.reduceBNe, Int.reduceNeg, Int.reduceAdd, Int.reduceSub, Int.reduceMul, reduceCtorEq, h1]
  · (first | refine callT.at (differQuakeRow_ok L QuakeRow.Id _ idOf_ok hl) ⟨leA, leA, trivial⟩ ?_ | refine callS.at (differQuakeRow_ok L QuakeRow.Id _ idOf_ok hl) ⟨leA, leA, trivial⟩ ?_)
    simp -implicitDefEqProofs -dsimp only [go_sem, Nat.reduceSub, Nat.reduceAdd, Nat.reduceMul, Nat.reduceLT, Nat.reduceLeDiff, Nat.reduceEqDiff, Nat.reduceDiv, Nat.reduceMod, Int.reduceToNat, Int.reduceLE, Int.reduceLT, Int.reduceBEq, Int.reduceBNe, Int.reduceNeg, Int.reduceAdd, Int.reduceSub, Int.reduceMul, reduceCtorEq, h1]
    exact WeakR.drop' (by simp [bulB, h1]) (by rfl)
  · exact WeakR.drop' (by simp [bulB, h1]) (by rfl)
theorem l24Good_ok (L : List QuakeRow) (hl : L.length ≤ 281474976710656) : Ctr Try.prog 111 [QuakeRow.sl L] [] (.bool (bulB L)) [] := by
  refine Ctr.intro Try.mixed Try.func111 rfl Try.okF111 ?_
  simp -implicitDefEqProofs -dsimp only [go_sem, Nat.reduceSub, Nat.reduceAdd, Nat.reduceMul, Nat.reduceLT, Nat.reduceLeDiff, Nat.reduceEqDiff, Nat.reduceDiv, Nat.reduceMod, Int.reduceToNat, Int.reduceLE, Int.reduceLT, Int.reduceBEq, Int.reduceBNe, Int.reduceNeg, Int.reduceAdd, Int.reduceSub, Int.reduceMul, reduceCtorEq, Try.ntmps111, Try.results111]
  refine LoopT.intro (fun i : Nat => i ≤ L.length ∧ i ≤ 13 ∧ (List.range i).all (listedQ qrB QuakeRow.Tick L) = true ∧ ((L.take i).map QuakeRow.Id).Nodup) (fun i => ⟨[QuakeRow.sl L, .undef, .undef, .int .i64 i, .undef, .undef, .undef, .undef, .undef, .undef, .undef, .undef, .undef, .undef, .undef, .undef, .undef, .undef, .undef, .undef, .undef, .undef, .undef, .undef, .undef, .undef, .undef, .undef, .undef, .undef, .undef, .undef, .undef, .undef, .undef, .undef, .undef, .undef, .undef, .undef, .undef, .undef, .undef, .undef, .undef, .undef, .undef, .undef, .undef, .undef, .undef, .undef, .undef, .undef, .undef, .undef, .undef, .undef], [], 0⟩) (fun i => L.length - i) 0 ⟨Nat.zero_le _, by omega, rfl, by simp⟩ ?_ (fun i hi => ?_)
  · refine Weak.cut (0) (by simp) (by simp) ?_ ?_
    · simp [LeC, LeV, ren, cutF]
    · rfl
  obtain ⟨hi0, hi1, hi2, hi3⟩ := hi
  have hend : ∀ b : Bool, (i = L.length ∨ i = 13) → b = decide ((L.length : Int) ≤ 12) → b = bulB L := by
    intro b h1 h2
    subst h2
    rcases h1 with h1 | h1
    · subst h1
      rw [List.take_length] at hi3
      rw [bulB, listedB, hi2, decide_eq_true hi3]
      simp
      omega
    · have : ¬ L.length ≤ 12 := by omega
      rw [bulB, listedB, decide_eq_false this, decide_eq_false (by omega)]
      simp
  simp -implicitDefEqProofs -dsimp only [go_sem, Nat.reduceSub, Nat.reduceAdd, Nat.reduceMul, Nat.reduceLT, Nat.reduceLeDiff, Nat.reduceEqDiff, Nat.reduceDiv, Nat.reduceMod, Int.reduceToNat, Int.reduceLE, Int.reduceLT, Int.reduceBEq, Int.reduceBNe, Int.reduceNeg, Int.reduceAdd, Int.reduceSub, Int.reduceMul, reduceCtorEq]
  refine guardT.splitT (fun h1 => ?_) (fun h1 => ?_) <;> simp -implicitDefEqProofs -dsimp only [go_sem, Nat.reduceSub, Nat.reduceAdd, Nat.reduceMul, Nat.reduceLT, Nat.reduceLeDiff, Nat.reduceEqDiff, Nat.reduceDiv, Nat.reduceMod, Int.reduceToNat, Int.reduceLE, Int.reduceLT, Int.reduceBEq, Int.reduceBNe, Int.reduceNeg, Int.reduceAdd, Int.reduceSub, Int.reduceMul, reduceCtorEq, h1]
  · have hi' : i < L.length := by simpa using h1
    refine condT.split (fun h2 => ?_) (fun h2 => ?_) <;> simp -implicitDefEqProofs -dsimp only [go_sem, Nat.reduceSub, Nat.reduceAdd, Nat.reduceMul, Nat.reduceLT, Nat.reduceLeDiff, Nat.reduceEqDiff, Nat.reduceDiv, Nat.reduceMod, Int.reduceToNat, Int.reduceLE, Int.reduceLT, Int.reduceBEq, Int.reduceBNe, Int.reduceNeg, Int.reduceAdd, Int.reduceSub, Int.reduceMul, reduceCtorEq, h2]
    · have hi12 : i ≤ 12 := by simp at h2; omega
      have h5 := QuakeRow.csl L[i]
      have hr := rows_at QuakeRow.csl hi'
      have hbad : listedQ qrB QuakeRow.Tick L i = false → V.bool false = V.bool (bulB L) := by
        intro hq
        rw [bulB, listedB_false hi' hq, Bool.false_and]
      simp -implicitDefEqProofs -dsimp only [go_sem, Nat.reduceSub, Nat.reduceAdd, Nat.reduceMul, Nat.reduceLT, Nat.reduceLeDiff, Nat.reduceEqDiff, Nat.reduceDiv, Nat.reduceMod, Int.reduceToNat, Int.reduceLE, Int.reduceLT, Int.reduceBEq, Int.reduceBNe, Int.reduceNeg, Int.reduceAdd, Int.reduceSub, Int.reduceMul, reduceCtorEq, hr]
      repeat (with_reducible refine sideA ?_)
      (first | refine callT.at (l24One_ok L[i]) ⟨.inl rfl, trivial⟩ ?_ | refine callS.at (l24One_ok L[i]) ⟨.inl rfl, trivial⟩ ?_)
      simp -implicitDefEqProofs -dsimp only [go_sem, Nat.reduceSub, Nat.reduceAdd, Nat.reduceMul, Nat.reduceLT, Nat.reduceLeDiff, Nat.reduceEqDiff, Nat.reduceDiv, Nat.reduceMod, Int.reduceToNat, Int.reduceLE, Int.reduceLT, Int.reduceBEq, Int.reduceBNe, Int.reduceNeg, Int.reduceAdd, Int.reduceSub, Int.reduceMul, reduceCtorEq]
      -- the inner loop
      have inner : ∀ (t : List V), listedQ qrB QuakeRow.Tick L i = true → True := fun _ _ => trivial
      refine guardT.splitF (fun h3 => ?_) (fun h3 => ?_) <;> simp -implicitDefEqProofs -dsimp only [go_sem, Nat.reduceSub, Nat.reduceAdd, Nat.reduceMul, Nat.reduceLT, Nat.reduceLeDiff, Nat.reduceEqDiff, Nat.reduceDiv, Nat.reduceMod, Int.reduceToNat, Int.reduceLE, Int.reduceLT, Int.reduceBEq, Int.reduceBNe, Int.reduceNeg, Int.reduceAdd, Int.reduceSub, Int.reduceMul, reduceCtorEq, h3]
      · have hw : qrB L[i] = true := by simpa using h3
        refine guardT.splitT (fun h4 => ?_) (fun h4 => ?_) <;> simp -implicitDefEqProofs -dsimp only [go_sem, Nat.reduceSub, Nat.reduceAdd, Nat.reduceMul, Nat.reduceLT, Nat.reduceLeDiff, Nat.reduceEqDiff, Nat.reduceDiv, Nat.reduceMod, Int.reduceToNat, Int.reduceLE, Int.reduceLT, Int.reduceBEq, Int.reduceBNe, Int.reduceNeg, Int.reduceAdd, Int.reduceSub, Int.reduceMul, reduceCtorEq, h4]
        · obtain ⟨j, rfl⟩ : ∃ j, i = j + 1 := ⟨i - 1, by simp at h4; omega⟩
          have hj : j < L.length := by omega
          have hw1 : IntKind.i64.wrap (((j + 1 : Nat) : Int) - 1) = (j : Int) := by rw [wrap_i64 (by omega) (by omega)]; omega
          have hr2 := rows_at QuakeRow.csl hj
          simp -implicitDefEqProofs -dsimp only [go_sem, Nat.reduceSub, Nat.reduceAdd, Nat.reduceMul, Nat.reduceLT, Nat.reduceLeDiff, Nat.reduceEqDiff, Nat.reduceDiv, Nat.reduceMod, Int.reduceToNat, Int.reduceLE, Int.reduceLT, Int.reduceBEq, Int.reduceBNe, Int.reduceNeg, Int.reduceAdd, Int.reduceSub, Int.reduceMul, reduceCtorEq, hw1, hr, hr2, QuakeRow.cs]
          repeat (with_reducible refine sideA ?_)
          refine condT.split (fun h6 => ?_) (fun h6 => ?_) <;> simp -implicitDefEqProofs -dsimp only [go_sem, Nat.reduceSub, Nat.reduceAdd, Nat.reduceMul, Nat.reduceLT, Nat.reduceLeDiff, Nat.reduceEqDiff, Nat.reduceDiv, Nat.reduceMod, Int.reduceToNat, Int.reduceLE, Int.reduceLT, Int.reduceBEq, Int.reduceBNe, Int.reduceNeg, Int.reduceAdd, Int.reduceSub, Int.reduceMul, reduceCtorEq, h6]
          · exact WeakR.drop' (hbad (by rw [listedQ_succ hi', hw]; simp at h6 ⊢; omega)) (by rfl)
          · have hq : listedQ qrB QuakeRow.Tick L (j + 1) = true := by rw [listedQ_succ hi', hw]; simp at h6 ⊢; omega
            refine LoopT.intro (fun k : Nat => k ≤ (j + 1) ∧ ∀ q, q < k → ∀ hq : q < L.length, (L[q]).Id ≠ (L[(j + 1)]).Id) (fun k => ⟨[QuakeRow.sl L, .undef, .undef, .int .i64 ((j + 1) : Nat), .int .i64 k, .undef, .undef, .undef, .undef, .undef, .undef, .undef, .undef, .undef, .undef, .undef, .undef, .undef, .undef, .undef, .undef, .undef, .undef, .undef, .undef, .undef, .undef, .undef, .undef, .undef, .undef, .undef, .undef, .undef, .undef, .undef, .undef, .undef, .undef, .undef, .undef, .undef, .undef, .undef, .undef, .undef, .undef, .undef, .undef, .undef, .undef, .undef, .undef, .undef, .undef, .undef, .undef, .undef], [], 0⟩) (fun k => (j + 1) - k) 0 ⟨Nat.zero_le _, fun q hq => by omega⟩ ?_ (fun k hk => ?_)
            · refine Weak.cut (0) (by simp) (by simp) ?_ ?_
              · simp [LeC, LeV, ren, cutF]
              · rfl
            simp -implicitDefEqProofs -dsimp only [go_sem, Nat.reduceSub, Nat.reduceAdd, Nat.reduceMul, Nat.reduceLT, Nat.reduceLeDiff, Nat.reduceEqDiff, Nat.reduceDiv, Nat.reduceMod, Int.reduceToNat, Int.reduceLE, Int.reduceLT, Int.reduceBEq, Int.reduceBNe, Int.reduceNeg, Int.reduceAdd, Int.reduceSub, Int.reduceMul, reduceCtorEq]
            refine condT.split (fun h7 => ?_) (fun h7 => ?_) <;> simp -implicitDefEqProofs -dsimp only [go_sem, Nat.reduceSub, Nat.reduceAdd, Nat.reduceMul, Nat.reduceLT, Nat.reduceLeDiff, Nat.reduceEqDiff, Nat.reduceDiv, Nat.reduceMod, Int.reduceToNat, Int.reduceLE, Int.reduceLT, Int.reduceBEq, Int.reduceBNe, Int.reduceNeg, Int.reduceAdd, Int.reduceSub, Int.reduceMul, reduceCtorEq, h7]
            · have hk' : k < (j + 1) := by simp at h7; omega
              have hkl : k < L.length := by omega
              have hr3 := rows_at QuakeRow.csl hkl
              have hr4 := rows_at QuakeRow.csl hi'
              simp -implicitDefEqProofs -dsimp only [go_sem, Nat.reduceSub, Nat.reduceAdd, Nat.reduceMul, Nat.reduceLT, Nat.reduceLeDiff, Nat.reduceEqDiff, Nat.reduceDiv, Nat.reduceMod, Int.reduceToNat, Int.reduceLE, Int.reduceLT, Int.reduceBEq, Int.reduceBNe, Int.reduceNeg, Int.reduceAdd, Int.reduceSub, Int.reduceMul, reduceCtorEq, hr3, hr4, QuakeRow.cs]
              repeat (with_reducible refine sideA ?_)
              refine condT.split (fun h8 => ?_) (fun h8 => ?_) <;> simp -implicitDefEqProofs -dsimp only [go_sem, Nat.reduceSub, Nat.reduceAdd, Nat.reduceMul, Nat.reduceLT, Nat.reduceLeDiff, Nat.reduceEqDiff, Nat.reduceDiv, Nat.reduceMod, Int.reduceToNat, Int.reduceLE, Int.reduceLT, Int.reduceBEq, Int.reduceBNe, Int.reduceNeg, Int.reduceAdd, Int.reduceSub, Int.reduceMul, reduceCtorEq, h8]
              · refine WeakR.drop' ?_ (by rfl)
                have hid : (L[k]).Id = (L[(j + 1)]).Id := by simpa using h8
                have : ¬ (L.map QuakeRow.Id).Nodup := by
                  intro hn
                  have h9 := nodup_get hn (i := k) (j := (j + 1)) (by simp; omega) (by simp; omega) (by simpa using hid)
                  omega
                rw [bulB, decide_eq_false this, Bool.and_false]
              · refine ⟨k + 1, ⟨hk', fun q hq hql => ?_⟩, ?_, by omega⟩
                · rcases Nat.lt_succ_iff_lt_or_eq.1 hq with h | rfl
                  · exact hk.2 q h hql
                  · simpa using h8
                refine Weak.cut (0) (by simp) (by simp) ?_ ?_
                · rw [wrap_i64 (by omega) (by omega)]
                  simp [LeC, LeV, ren, cutF]
                · rfl
            · have hk' : k = (j + 1) := by simp at h7; omega
              refine ⟨(j + 1) + 1, ⟨hi', by omega, range_all_succ hi2 hq, ?_⟩, ?_, by omega⟩
              · rw [List.take_succ_eq_append_getElem hi', List.map_append, List.nodup_append]
                refine ⟨hi3, by simp, fun a ha b hb => ?_⟩
                simp at hb; subst hb
                obtain ⟨x, hx, rfl⟩ := List.mem_map.1 ha
                obtain ⟨q, hq1, rfl⟩ := List.getElem_of_mem hx
                simp only [List.getElem_take]
                simp at hq1
                exact hk.2 q (by omega) (by omega)
              refine Weak.cut (0) (by simp) (by simp) ?_ ?_
              · rw [wrap_i64 (by omega) (by omega)]
                simp [LeC, LeV, ren, cutF]
              · rfl
        · have h0 : i = 0 := by simp at h4; omega
          have hq : listedQ qrB QuakeRow.Tick L i = true := by subst h0; rw [listedQ_zero hi', hw]
          refine LoopT.intro (fun k : Nat => k ≤ i ∧ ∀ q, q < k → ∀ hq : q < L.length, (L[q]).Id ≠ (L[i]).Id) (fun k => ⟨[QuakeRow.sl L, .undef, .undef, .int .i64 (i : Nat), .int .i64 k, .undef, .undef, .undef, .undef, .undef, .undef, .undef, .undef, .undef, .undef, .undef, .undef, .undef, .undef, .undef, .undef, .undef, .undef, .undef, .undef, .undef, .undef, .undef, .undef, .undef, .undef, .undef, .undef, .undef, .undef, .undef, .undef, .undef, .undef, .undef, .undef, .undef, .undef, .undef, .undef, .undef, .undef, .undef, .undef, .undef, .undef, .undef, .undef, .undef, .undef, .undef, .undef, .undef], [], 0⟩) (fun k => i - k) 0 ⟨Nat.zero_le _, fun q hq => by omega⟩ ?_ (fun k hk => ?_)
          · refine Weak.cut (0) (by simp) (by simp) ?_ ?_
            · simp [LeC, LeV, ren, cutF]
            · rfl
          simp -implicitDefEqProofs -dsimp only [go_sem, Nat.reduceSub, Nat.reduceAdd, Nat.reduceMul, Nat.reduceLT, Nat.reduceLeDiff, Nat.reduceEqDiff, Nat.reduceDiv, Nat.reduceMod, Int.reduceToNat, Int.reduceLE, Int.reduceLT, Int.reduceBEq, Int.reduceBNe, Int.reduceNeg, Int.reduceAdd, Int.reduceSub, Int.reduceMul, reduceCtorEq]
          refine condT.split (fun h7 => ?_) (fun h7 => ?_) <;> simp -implicitDefEqProofs -dsimp only [go_sem, Nat.reduceSub, Nat.reduceAdd, Nat.reduceMul, Nat.reduceLT, Nat.reduceLeDiff, Nat.reduceEqDiff, Nat.reduceDiv, Nat.reduceMod, Int.reduceToNat, Int.reduceLE, Int.reduceLT, Int.reduceBEq, Int.reduceBNe, Int.reduceNeg, Int.reduceAdd, Int.reduceSub, Int.reduceMul, reduceCtorEq, h7]
          · have hk' : k < i := by simp at h7; omega
            have hkl : k < L.length := by omega
            have hr3 := rows_at QuakeRow.csl hkl
            have hr4 := rows_at QuakeRow.csl hi'
            simp -implicitDefEqProofs -dsimp only [go_sem, Nat.reduceSub, Nat.reduceAdd, Nat.reduceMul, Nat.reduceLT, Nat.reduceLeDiff, Nat.reduceEqDiff, Nat.reduceDiv, Nat.reduceMod, Int.reduceToNat, Int.reduceLE, Int.reduceLT, Int.reduceBEq, Int.reduceBNe, Int.reduceNeg, Int.reduceAdd, Int.reduceSub, Int.reduceMul, reduceCtorEq, hr3, hr4, QuakeRow.cs]
            repeat (with_reducible refine sideA ?_)
            refine condT.split (fun h8 => ?_) (fun h8 => ?_) <;> simp -implicitDefEqProofs -dsimp only [go_sem, Nat.reduceSub, Nat.reduceAdd, Nat.reduceMul, Nat.reduceLT, Nat.reduceLeDiff, Nat.reduceEqDiff, Nat.reduceDiv, Nat.reduceMod, Int.reduceToNat, Int.reduceLE, Int.reduceLT, Int.reduceBEq, Int.reduceBNe, Int.reduceNeg, Int.reduceAdd, Int.reduceSub, Int.reduceMul, reduceCtorEq, h8]
            · refine WeakR.drop' ?_ (by rfl)
              have hid : (L[k]).Id = (L[i]).Id := by simpa using h8
              have : ¬ (L.map QuakeRow.Id).Nodup := by
                intro hn
                have h9 := nodup_get hn (i := k) (j := i) (by simp; omega) (by simp; omega) (by simpa using hid)
                omega
              rw [bulB, decide_eq_false this, Bool.and_false]
            · refine ⟨k + 1, ⟨hk', fun q hq hql => ?_⟩, ?_, by omega⟩
              · rcases Nat.lt_succ_iff_lt_or_eq.1 hq with h | rfl
                · exact hk.2 q h hql
                · simpa using h8
              refine Weak.cut (0) (by simp) (by simp) ?_ ?_
              · rw [wrap_i64 (by omega) (by omega)]
                simp [LeC, LeV, ren, cutF]
              · rfl
          · have hk' : k = i := by simp at h7; omega
            refine ⟨i + 1, ⟨hi', by omega, range_all_succ hi2 hq, ?_⟩, ?_, by omega⟩
            · rw [List.take_succ_eq_append_getElem hi', List.map_append, List.nodup_append]
              refine ⟨hi3, by simp, fun a ha b hb => ?_⟩
              simp at hb; subst hb
              obtain ⟨x, hx, rfl⟩ := List.mem_map.1 ha
              obtain ⟨q, hq1, rfl⟩ := List.getElem_of_mem hx
              simp only [List.getElem_take]
              simp at hq1
              exact hk.2 q (by omega) (by omega)
            refine Weak.cut (0) (by simp) (by simp) ?_ ?_
            · rw [wrap_i64 (by omega) (by omega)]
              simp [LeC, LeV, ren, cutF]
            · rfl
      · have hw : qrB L[i] = false := by simpa using h3
        exact WeakR.drop' (hbad (by simp [listedQ, hi', hw])) (by rfl)
    · have : i = 13 := by simp at h2; omega
      exact WeakR.drop' (by rw [hend _ (.inr this) rfl]) (by rfl)
  · have : i = L.length := by simp at h1; omega
    exact WeakR.drop' (by rw [hend _ (.inl this) rfl]) (by rfl)
end Go.Proofs
