/-
  Searches in lists of QuakeRow. Conditions: none.
-/
import Derived.Test.YtekhnmibkkinaaaTQuakeRow
import Derived.Test.YtekhnmibkkinaaaSearch
set_option linter.unusedSimpArgs false
set_option linter.unusedVariables false
set_option maxRecDepth 100000
namespace Go.Proofs
open Go.Lv
theorem indexFuncQuakeRow_ok (L : List QuakeRow) (p : QuakeRow → Bool) (fv : Nat) (vc : List V) (hvc : ∀ d, vc.all (noOwn d) = true) (hv : ∀ x ∈ L, Ctr Try.prog fv (QuakeRow.v x :: vc) [] (.bool (p x)) []) (hl : L.length ≤ 281474976710656) :
    Ctr Try.prog 116 [QuakeRow.sl L, .fn (.func fv) [] vc] [] (.int .i64 (idxI p L)) [] := by
  refine Ctr.intro Try.mixed Try.func116 rfl Try.okF116 ?_
  simp -implicitDefEqProofs -dsimp only [go_sem, Nat.reduceSub, Nat.reduceAdd, Nat.reduceMul, Nat.reduceLT, Nat.reduceLeDiff, Nat.reduceEqDiff, Nat.reduceDiv, Nat.reduceMod, Int.reduceToNat, Int.reduceLE, Int.reduceLT, Int.reduceBEq, Int.reduceBNe, Int.reduceNeg, Int.reduceAdd, Int.reduceSub, Int.reduceMul, reduceCtorEq, Try.ntmps116, Try.results116]
  have hvc2 : ∀ f d, vc.map (ren f d) = vc := fun f d => map_ren f (hvc d)
  refine LoopT.intro (fun i : Nat => i ≤ L.length ∧ (L.take i).any p = false) (fun i => ⟨[QuakeRow.sl L, .fn (.func fv) [] vc, .undef, .undef, .undef, .undef, .undef, .int .i64 L.length, .int .i64 i, .undef, .undef, .undef, .undef, .undef, .undef, .undef, .undef, .undef, .undef], [], 0⟩) (fun i => L.length - i) 0 ⟨Nat.zero_le _, rfl⟩ ?_ (fun i hi => ?_)
  · refine Weak.cut (0) (by simp) (by simp) ?_ ?_
    · simp [LeC, LeV, ren, cutF, hvc2]
    · rfl
  simp -implicitDefEqProofs -dsimp only [go_sem, Nat.reduceSub, Nat.reduceAdd, Nat.reduceMul, Nat.reduceLT, Nat.reduceLeDiff, Nat.reduceEqDiff, Nat.reduceDiv, Nat.reduceMod, Int.reduceToNat, Int.reduceLE, Int.reduceLT, Int.reduceBEq, Int.reduceBNe, Int.reduceNeg, Int.reduceAdd, Int.reduceSub, Int.reduceMul, reduceCtorEq]
  refine condT.split (fun h1 => ?_) (fun h1 => ?_)
  · simp -implicitDefEqProofs -dsimp only [go_sem, Nat.reduceSub, Nat.reduceAdd, Nat.reduceMul, Nat.reduceLT, Nat.reduceLeDiff, Nat.reduceEqDiff, Nat.reduceDiv, Nat.reduceMod, Int.reduceToNat, Int.reduceLE, Int.reduceLT, Int.reduceBEq, Int.reduceBNe, Int.reduceNeg, Int.reduceAdd, Int.reduceSub, Int.reduceMul, reduceCtorEq, h1]
    have hi' : i < L.length := by simpa using h1
    have h5 := QuakeRow.csl L[i]
    have hr := rows_at QuakeRow.csl hi'
    (repeat1' (first | simp -implicitDefEqProofs -dsimp only [go_sem, Nat.reduceSub, Nat.reduceAdd, Nat.reduceMul, Nat.reduceLT, Nat.reduceLeDiff, Nat.reduceEqDiff, Nat.reduceDiv, Nat.reduceMod, Int.reduceToNat, Int.reduceLE, Int.reduceLT, Int.reduceBEq, Int.reduceBNe, Int.reduceNeg, Int.reduceAdd, Int.reduceSub, Int.reduceMul, reduceCtorEq, hr, QuakeRow.cs] | simp -implicitDefEqProofs -dsimp (disch := omega) only [wrap_i64]))
    repeat (with_reducible refine sideA ?_)
    refine callS.intro (hv L[i] (List.getElem_mem hi')) ⟨.inl rfl, LeL_same (hvc2 _ _)⟩ (.inl (by simp only [List.nil_append, List.cons_append, List.all_cons, hvc, Bool.and_true]; rfl)) ?_
    simp -implicitDefEqProofs -dsimp only [go_sem, Nat.reduceSub, Nat.reduceAdd, Nat.reduceMul, Nat.reduceLT, Nat.reduceLeDiff, Nat.reduceEqDiff, Nat.reduceDiv, Nat.reduceMod, Int.reduceToNat, Int.reduceLE, Int.reduceLT, Int.reduceBEq, Int.reduceBNe, Int.reduceNeg, Int.reduceAdd, Int.reduceSub, Int.reduceMul, reduceCtorEq]
    refine condT.split (fun h2 => ?_) (fun h2 => ?_) <;> simp -implicitDefEqProofs -dsimp only [go_sem, Nat.reduceSub, Nat.reduceAdd, Nat.reduceMul, Nat.reduceLT, Nat.reduceLeDiff, Nat.reduceEqDiff, Nat.reduceDiv, Nat.reduceMod, Int.reduceToNat, Int.reduceLE, Int.reduceLT, Int.reduceBEq, Int.reduceBNe, Int.reduceNeg, Int.reduceAdd, Int.reduceSub, Int.reduceMul, reduceCtorEq, h2]
    · exact WeakR.drop' (by rw [idxI_found hi' hi.2 h2]) (by rfl)
    · refine ⟨i + 1, ⟨hi', by rw [List.take_succ_eq_append_getElem hi']; simp only [List.any_append, hi.2, List.any_cons, h2, List.any_nil, Bool.or_self]⟩, ?_, by omega⟩
      refine Weak.cut (0) (by simp) (by simp) ?_ ?_
      · rw [wrap_i64 (by omega) (by omega)]
        simp [LeC, LeV, ren, cutF, hvc2]
      · rfl
  · simp -implicitDefEqProofs -dsimp only [go_sem, Nat.reduceSub, Nat.reduceAdd, Nat.reduceMul, Nat.reduceLT, Nat.reduceLeDiff, Nat.reduceEqDiff, Nat.reduceDiv, Nat.reduceMod, Int.reduceToNat, Int.reduceLE, Int.reduceLT, Int.reduceBEq, Int.reduceBNe, Int.reduceNeg, Int.reduceAdd, Int.reduceSub, Int.reduceMul, reduceCtorEq, h1]
    have hi' : i = L.length := by simp at h1; omega
    subst hi'
    have h2 := hi.2
    rw [List.take_length] at h2
    exact WeakR.drop' (by rw [idxI_none h2]) (by rfl)
theorem indexFuncFQuakeRow_ok (L : List QuakeRow) (p : QuakeRow → Bool) (fv : Nat) (fa : V) (hf2 : noOwn 2 fa = true) (hf3 : noOwn 3 fa = true) (hv : ∀ x, Ctr Try.prog fv [fa, QuakeRow.v x] [] (.bool (p x)) []) (hl : L.length ≤ 281474976710656) :
    Ctr Try.prog 116 [QuakeRow.sl L, .fn (.func fv) [fa] []] [] (.int .i64 (idxI p L)) [] := by
  refine Ctr.intro Try.mixed Try.func116 rfl Try.okF116 ?_
  simp -implicitDefEqProofs -dsimp only [go_sem, Nat.reduceSub, Nat.reduceAdd, Nat.reduceMul, Nat.reduceLT, Nat.reduceLeDiff, Nat.reduceEqDiff, Nat.reduceDiv, Nat.reduceMod, Int.reduceToNat, Int.reduceLE, Int.reduceLT, Int.reduceBEq, Int.reduceBNe, Int.reduceNeg, Int.reduceAdd, Int.reduceSub, Int.reduceMul, reduceCtorEq, Try.ntmps116, Try.results116]
  have hr2 : ∀ f, ren f 2 fa = fa := fun f => ren_noOwn f 2 fa hf2
  have hr3 : ∀ f, ren f 3 fa = fa := fun f => ren_noOwn f 3 fa hf3
  refine LoopT.intro (fun i : Nat => i ≤ L.length ∧ (L.take i).any p = false) (fun i => ⟨[QuakeRow.sl L, .fn (.func fv) [fa] [], .undef, .undef, .undef, .undef, .undef, .int .i64 L.length, .int .i64 i, .undef, .undef, .undef, .undef, .undef, .undef, .undef, .undef, .undef, .undef], [], 0⟩) (fun i => L.length - i) 0 ⟨Nat.zero_le _, rfl⟩ ?_ (fun i hi => ?_)
  · refine Weak.cut (0) (by simp) (by simp) ?_ ?_
    · simp [LeC, LeV, ren, cutF, hr2]
    · rfl
  simp -implicitDefEqProofs -dsimp only [go_sem, Nat.reduceSub, Nat.reduceAdd, Nat.reduceMul, Nat.reduceLT, Nat.reduceLeDiff, Nat.reduceEqDiff, Nat.reduceDiv, Nat.reduceMod, Int.reduceToNat, Int.reduceLE, Int.reduceLT, Int.reduceBEq, Int.reduceBNe, Int.reduceNeg, Int.reduceAdd, Int.reduceSub, Int.reduceMul, reduceCtorEq]
  refine condT.split (fun h1 => ?_) (fun h1 => ?_)
  · simp -implicitDefEqProofs -dsimp only [go_sem, Nat.reduceSub, Nat.reduceAdd, Nat.reduceMul, Nat.reduceLT, Nat.reduceLeDiff, Nat.reduceEqDiff, Nat.reduceDiv, Nat.reduceMod, Int.reduceToNat, Int.reduceLE, Int.reduceLT, Int.reduceBEq, Int.reduceBNe, Int.reduceNeg, Int.reduceAdd, Int.reduceSub, Int.reduceMul, reduceCtorEq, h1]
    have hi' : i < L.length := by simpa using h1
    have h5 := QuakeRow.csl L[i]
    have hr := rows_at QuakeRow.csl hi'
    (repeat1' (first | simp -implicitDefEqProofs -dsimp only [go_sem, Nat.reduceSub, Nat.reduceAdd, Nat.reduceMul, Nat.reduceLT, Nat.reduceLeDiff, Nat.reduceEqDiff, Nat.reduceDiv, Nat.reduceMod, Int.reduceToNat, Int.reduceLE, Int.reduceLT, Int.reduceBEq, Int.reduceBNe, Int.reduceNeg, Int.reduceAdd, Int.reduceSub, Int.reduceMul, reduceCtorEq, hr, QuakeRow.cs] | simp -implicitDefEqProofs -dsimp (disch := omega) only [wrap_i64]))
    repeat (with_reducible refine sideA ?_)
    refine callS.intro (hv L[i]) ⟨.inl (hr3 _).symm, .inl rfl, trivial⟩ (.inl (by simp only [List.append_nil, List.nil_append, List.cons_append, List.all_cons, hf3, Bool.and_true, Bool.true_and]; rfl)) ?_
    simp -implicitDefEqProofs -dsimp only [go_sem, Nat.reduceSub, Nat.reduceAdd, Nat.reduceMul, Nat.reduceLT, Nat.reduceLeDiff, Nat.reduceEqDiff, Nat.reduceDiv, Nat.reduceMod, Int.reduceToNat, Int.reduceLE, Int.reduceLT, Int.reduceBEq, Int.reduceBNe, Int.reduceNeg, Int.reduceAdd, Int.reduceSub, Int.reduceMul, reduceCtorEq]
    refine condT.split (fun h2 => ?_) (fun h2 => ?_) <;> simp -implicitDefEqProofs -dsimp only [go_sem, Nat.reduceSub, Nat.reduceAdd, Nat.reduceMul, Nat.reduceLT, Nat.reduceLeDiff, Nat.reduceEqDiff, Nat.reduceDiv, Nat.reduceMod, Int.reduceToNat, Int.reduceLE, Int.reduceLT, Int.reduceBEq, Int.reduceBNe, Int.reduceNeg, Int.reduceAdd, Int.reduceSub, Int.reduceMul, reduceCtorEq, h2]
    · exact WeakR.drop' (by rw [idxI_found hi' hi.2 h2]) (by rfl)
    · refine ⟨i + 1, ⟨hi', by rw [List.take_succ_eq_append_getElem hi']; simp only [List.any_append, hi.2, List.any_cons, h2, List.any_nil, Bool.or_self]⟩, ?_, by omega⟩
      refine Weak.cut (0) (by simp) (by simp) ?_ ?_
      · rw [wrap_i64 (by omega) (by omega)]
        simp [LeC, LeV, ren, cutF, hr2]
      · rfl
  · simp -implicitDefEqProofs -dsimp only [go_sem, Nat.reduceSub, Nat.reduceAdd, Nat.reduceMul, Nat.reduceLT, Nat.reduceLeDiff, Nat.reduceEqDiff, Nat.reduceDiv, Nat.reduceMod, Int.reduceToNat, Int.reduceLE, Int.reduceLT, Int.reduceBEq, Int.reduceBNe, Int.reduceNeg, Int.reduceAdd, Int.reduceSub, Int.reduceMul, reduceCtorEq, h1]
    have hi' : i = L.length := by simp at h1; omega
    subst hi'
    have h2 := hi.2
    rw [List.take_length] at h2
    exact WeakR.drop' (by rw [idxI_none h2]) (by rfl)
end Go.Proofs
