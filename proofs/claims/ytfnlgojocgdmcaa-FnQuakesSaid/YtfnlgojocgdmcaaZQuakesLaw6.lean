/-
  A part of the proof: texts put together by a program of the prover. Conditions: none.
-/
import Derived.Test.YtfnlgojocgdmcaaZQuakesLaw5
import Derived.ProofKit
import Derived.Deep.Slices
set_option linter.unusedSimpArgs false
set_option linter.unusedVariables false
section
set_option linter.unusedSimpArgs false
set_option linter.unusedVariables false
set_option maxRecDepth 100000
set_option maxHeartbeats 4000000
namespace Go.Proofs
open Go.Lv
theorem quietR_cases (L : List QuakeRow) (size : Int) : ∃ (f t : Int) (b : Bool), quietR L size = [.int .i64 f, .int .i64 t, .bool b] ∧ (b = true → bulB L = true ∧ f = (qs (qT size L)).2.1 ∧ t = (qs (qT size L)).2.2) := by
  unfold quietR
  split
  · rename_i h
    exact ⟨_, _, _, rfl, fun _ => ⟨h.1, rfl, rfl⟩⟩
  · exact ⟨_, _, _, rfl, (fun h => by cases h)⟩
theorem fnQuakesLaw_ok (L : List Int) (hL : lstR ByteS.ok L) : Ctr Try.prog 5 [ByteS.sl L] [] (.bool true) [] := by
  have hB : CB L := hL
  refine Ctr.intro Try.mixed Try.func5 rfl Try.okF5 ?_
  simp -implicitDefEqProofs -dsimp only [go_sem, Nat.reduceSub, Nat.reduceAdd, Nat.reduceMul, Nat.reduceLT, Nat.reduceLeDiff, Nat.reduceEqDiff, Nat.reduceDiv, Nat.reduceMod, Int.reduceToNat, Int.reduceLE, Int.reduceLT, Int.reduceBEq, Int.reduceBNe, Int.reduceNeg, Int.reduceAdd, Int.reduceSub, Int.reduceMul, reduceCtorEq, Try.ntmps5, Try.results5]
  (repeat ((repeat1' (first | simp -implicitDefEqProofs -dsimp only [go_sem, Nat.reduceSub, Nat.reduceAdd, Nat.reduceMul, Nat.reduceLT, Nat.reduceLeDiff, Nat.reduceEqDiff, Nat.reduceDiv, Nat.reduceMod, Int.reduceToNat, Int.reduceLE, Int.reduceLT, Int.reduceBEq, Int.reduceBNe, Int.reduceNeg, Int.reduceAdd, Int.reduceSub, Int.reduceMul, reduceCtorEq] | simp -implicitDefEqProofs -dsimp (disch := omega) only [wrap_i64])); repeat (with_reducible refine sideA ?_)))
  (first | refine callT.at (rBig_ok L) ⟨leA, trivial⟩ ?_ | refine callS.at (rBig_ok L) ⟨leA, trivial⟩ ?_)
  (repeat ((repeat1' (first | simp -implicitDefEqProofs -dsimp only [go_sem, Nat.reduceSub, Nat.reduceAdd, Nat.reduceMul, Nat.reduceLT, Nat.reduceLeDiff, Nat.reduceEqDiff, Nat.reduceDiv, Nat.reduceMod, Int.reduceToNat, Int.reduceLE, Int.reduceLT, Int.reduceBEq, Int.reduceBNe, Int.reduceNeg, Int.reduceAdd, Int.reduceSub, Int.reduceMul, reduceCtorEq] | simp -implicitDefEqProofs -dsimp (disch := omega) only [wrap_i64])); repeat (with_reducible refine sideA ?_)))
  refine condT.split (fun h1 => ?_) (fun h1 => ?_) <;> (repeat ((repeat1' (first | simp -implicitDefEqProofs -dsimp only [go_sem, Nat.reduceSub, Nat.reduceAdd, Nat.reduceMul, Nat.reduceLT, Nat.reduceLeDiff, Nat.reduceEqDiff, Nat.reduceDiv, Nat.reduceMod, Int.reduceToNat, Int.reduceLE, Int.reduceLT, Int.reduceBEq, Int.reduceBNe, Int.reduceNeg, Int.reduceAdd, Int.reduceSub, Int.reduceMul, reduceCtorEq, h1] | simp -implicitDefEqProofs -dsimp (disch := omega) only [wrap_i64])); repeat (with_reducible refine sideA ?_)))
  · exact WeakR.drop' rfl (by rfl)
  refine callS.rel [] (drawBestOfBoth_ok hB) (by decide) ⟨leO, trivial⟩ rfl rfl (fun r hout hΦ => ?_)
  obtain ⟨L1, M1, hL1, hM1, rfl, rfl⟩ := hΦ
  refine ⟨trivial, ?_⟩
  (repeat ((repeat1' (first | simp -implicitDefEqProofs -dsimp only [go_sem, Nat.reduceSub, Nat.reduceAdd, Nat.reduceMul, Nat.reduceLT, Nat.reduceLeDiff, Nat.reduceEqDiff, Nat.reduceDiv, Nat.reduceMod, Int.reduceToNat, Int.reduceLE, Int.reduceLT, Int.reduceBEq, Int.reduceBNe, Int.reduceNeg, Int.reduceAdd, Int.reduceSub, Int.reduceMul, reduceCtorEq] | simp -implicitDefEqProofs -dsimp (disch := omega) only [wrap_i64])); repeat (with_reducible refine sideA ?_)))
  have hi1 := (iBestOfBoth_ok L1 M1 (by have := hL1.2; omega) (by have := hM1.2; omega)).weak (frzN (cs := QuakeRow.cs) (bothR L1 M1))
  have hs1 := (sBestOfBoth_ok L1 M1 (by have := hL1.2; omega) (by have := hM1.2; omega)).weak (frzO (cs := QuakeRow.cs) (bothR L1 M1))
  simp only [frzV] at hi1 hs1
  cases hbr : bothR L1 M1 with
  | none =>
    rw [hbr] at hi1 hs1
    simp only [Option.getD_none, Option.isSome_none] at hi1 hs1
    (first | refine callT.at (hi1) ⟨leA, leA, trivial⟩ ?_ | refine callS.at (hi1) ⟨leA, leA, trivial⟩ ?_)
    (repeat ((repeat1' (first | simp -implicitDefEqProofs -dsimp only [go_sem, Nat.reduceSub, Nat.reduceAdd, Nat.reduceMul, Nat.reduceLT, Nat.reduceLeDiff, Nat.reduceEqDiff, Nat.reduceDiv, Nat.reduceMod, Int.reduceToNat, Int.reduceLE, Int.reduceLT, Int.reduceBEq, Int.reduceBNe, Int.reduceNeg, Int.reduceAdd, Int.reduceSub, Int.reduceMul, reduceCtorEq] | simp -implicitDefEqProofs -dsimp (disch := omega) only [wrap_i64])); repeat (with_reducible refine sideA ?_)))
    (first | refine callT.at (hs1) ⟨leA, leA, trivial⟩ ?_ | refine callS.at (hs1) ⟨leA, leA, trivial⟩ ?_)
    (repeat ((repeat1' (first | simp -implicitDefEqProofs -dsimp only [go_sem, Nat.reduceSub, Nat.reduceAdd, Nat.reduceMul, Nat.reduceLT, Nat.reduceLeDiff, Nat.reduceEqDiff, Nat.reduceDiv, Nat.reduceMod, Int.reduceToNat, Int.reduceLE, Int.reduceLT, Int.reduceBEq, Int.reduceBNe, Int.reduceNeg, Int.reduceAdd, Int.reduceSub, Int.reduceMul, reduceCtorEq] | simp -implicitDefEqProofs -dsimp (disch := omega) only [wrap_i64])); repeat (with_reducible refine sideA ?_)))
    (first | refine callT.at (rQuakes_ok [] (by simp)) ⟨leA, leA, trivial⟩ ?_ | refine callS.at (rQuakes_ok [] (by simp)) ⟨leA, leA, trivial⟩ ?_)
    (repeat ((repeat1' (first | simp -implicitDefEqProofs -dsimp only [go_sem, Nat.reduceSub, Nat.reduceAdd, Nat.reduceMul, Nat.reduceLT, Nat.reduceLeDiff, Nat.reduceEqDiff, Nat.reduceDiv, Nat.reduceMod, Int.reduceToNat, Int.reduceLE, Int.reduceLT, Int.reduceBEq, Int.reduceBNe, Int.reduceNeg, Int.reduceAdd, Int.reduceSub, Int.reduceMul, reduceCtorEq] | simp -implicitDefEqProofs -dsimp (disch := omega) only [wrap_i64])); repeat (with_reducible refine sideA ?_)))
    refine callS.rel [] (drawDepthCounts_ok hB) (by decide) ⟨leO, trivial⟩ rfl rfl (fun r hout hΦ => ?_)
    obtain ⟨L2, K2, hL2, hK2, hk2, rfl, rfl⟩ := hΦ
    refine ⟨trivial, ?_⟩
    (repeat ((repeat1' (first | simp -implicitDefEqProofs -dsimp only [go_sem, Nat.reduceSub, Nat.reduceAdd, Nat.reduceMul, Nat.reduceLT, Nat.reduceLeDiff, Nat.reduceEqDiff, Nat.reduceDiv, Nat.reduceMod, Int.reduceToNat, Int.reduceLE, Int.reduceLT, Int.reduceBEq, Int.reduceBNe, Int.reduceNeg, Int.reduceAdd, Int.reduceSub, Int.reduceMul, reduceCtorEq] | simp -implicitDefEqProofs -dsimp (disch := omega) only [wrap_i64])); repeat (with_reducible refine sideA ?_)))
    have hi2 := (iDepthCounts_ok L2 K2 (by have := hL2.2; omega) (by omega)).weak (frzN (cs := IntS.cs) (depthR L2 K2))
    have hs2 := (sDepthCounts_ok L2 K2 (by have := hL2.2; omega) (by omega)).weak (frzO (cs := IntS.cs) (depthR L2 K2))
    simp only [frzV] at hi2 hs2
    cases hdr : depthR L2 K2 with
    | none =>
      rw [hdr] at hi2 hs2
      simp only [Option.getD_none, Option.isSome_none] at hi2 hs2
      (first | refine callT.at (hi2) ⟨leA, leA, trivial⟩ ?_ | refine callS.at (hi2) ⟨leA, leA, trivial⟩ ?_)
      (repeat ((repeat1' (first | simp -implicitDefEqProofs -dsimp only [go_sem, Nat.reduceSub, Nat.reduceAdd, Nat.reduceMul, Nat.reduceLT, Nat.reduceLeDiff, Nat.reduceEqDiff, Nat.reduceDiv, Nat.reduceMod, Int.reduceToNat, Int.reduceLE, Int.reduceLT, Int.reduceBEq, Int.reduceBNe, Int.reduceNeg, Int.reduceAdd, Int.reduceSub, Int.reduceMul, reduceCtorEq] | simp -implicitDefEqProofs -dsimp (disch := omega) only [wrap_i64])); repeat (with_reducible refine sideA ?_)))
      (first | refine callT.at (hs2) ⟨leA, leA, trivial⟩ ?_ | refine callS.at (hs2) ⟨leA, leA, trivial⟩ ?_)
      (repeat ((repeat1' (first | simp -implicitDefEqProofs -dsimp only [go_sem, Nat.reduceSub, Nat.reduceAdd, Nat.reduceMul, Nat.reduceLT, Nat.reduceLeDiff, Nat.reduceEqDiff, Nat.reduceDiv, Nat.reduceMod, Int.reduceToNat, Int.reduceLE, Int.reduceLT, Int.reduceBEq, Int.reduceBNe, Int.reduceNeg, Int.reduceAdd, Int.reduceSub, Int.reduceMul, reduceCtorEq] | simp -implicitDefEqProofs -dsimp (disch := omega) only [wrap_i64])); repeat (with_reducible refine sideA ?_)))
      (first | refine callT.at (rInts_ok [] (by simp)) ⟨leA, leA, trivial⟩ ?_ | refine callS.at (rInts_ok [] (by simp)) ⟨leA, leA, trivial⟩ ?_)
      (repeat ((repeat1' (first | simp -implicitDefEqProofs -dsimp only [go_sem, Nat.reduceSub, Nat.reduceAdd, Nat.reduceMul, Nat.reduceLT, Nat.reduceLeDiff, Nat.reduceEqDiff, Nat.reduceDiv, Nat.reduceMod, Int.reduceToNat, Int.reduceLE, Int.reduceLT, Int.reduceBEq, Int.reduceBNe, Int.reduceNeg, Int.reduceAdd, Int.reduceSub, Int.reduceMul, reduceCtorEq] | simp -implicitDefEqProofs -dsimp (disch := omega) only [wrap_i64])); repeat (with_reducible refine sideA ?_)))
      refine callS.rel [] (drawQuietRun_ok hB) (by decide) ⟨leO, trivial⟩ rfl rfl (fun r hout hΦ => ?_)
      obtain ⟨L3, size, hL3, hsz, rfl, rfl⟩ := hΦ
      refine ⟨trivial, ?_⟩
      (repeat ((repeat1' (first | simp -implicitDefEqProofs -dsimp only [go_sem, Nat.reduceSub, Nat.reduceAdd, Nat.reduceMul, Nat.reduceLT, Nat.reduceLeDiff, Nat.reduceEqDiff, Nat.reduceDiv, Nat.reduceMod, Int.reduceToNat, Int.reduceLE, Int.reduceLT, Int.reduceBEq, Int.reduceBNe, Int.reduceNeg, Int.reduceAdd, Int.reduceSub, Int.reduceMul, reduceCtorEq] | simp -implicitDefEqProofs -dsimp (disch := omega) only [wrap_i64])); repeat (with_reducible refine sideA ?_)))
      obtain ⟨fr, to, told, hq, hqt⟩ := quietR_cases L3 size
      have hi3 := iQuietRun_ok L3 size (by have := hL3.2; omega)
      have hs3 := sQuietRun_ok L3 size (by have := hL3.2; omega)
      rw [hq] at hi3 hs3
      (first | refine callT.at (hi3) ⟨leA, leA, trivial⟩ ?_ | refine callS.at (hi3) ⟨leA, leA, trivial⟩ ?_)
      (repeat ((repeat1' (first | simp -implicitDefEqProofs -dsimp only [go_sem, Nat.reduceSub, Nat.reduceAdd, Nat.reduceMul, Nat.reduceLT, Nat.reduceLeDiff, Nat.reduceEqDiff, Nat.reduceDiv, Nat.reduceMod, Int.reduceToNat, Int.reduceLE, Int.reduceLT, Int.reduceBEq, Int.reduceBNe, Int.reduceNeg, Int.reduceAdd, Int.reduceSub, Int.reduceMul, reduceCtorEq] | simp -implicitDefEqProofs -dsimp (disch := omega) only [wrap_i64])); repeat (with_reducible refine sideA ?_)))
      (first | refine callT.at (hs3) ⟨leA, leA, trivial⟩ ?_ | refine callS.at (hs3) ⟨leA, leA, trivial⟩ ?_)
      (repeat ((repeat1' (first | simp -implicitDefEqProofs -dsimp only [go_sem, Nat.reduceSub, Nat.reduceAdd, Nat.reduceMul, Nat.reduceLT, Nat.reduceLeDiff, Nat.reduceEqDiff, Nat.reduceDiv, Nat.reduceMod, Int.reduceToNat, Int.reduceLE, Int.reduceLT, Int.reduceBEq, Int.reduceBNe, Int.reduceNeg, Int.reduceAdd, Int.reduceSub, Int.reduceMul, reduceCtorEq] | simp -implicitDefEqProofs -dsimp (disch := omega) only [wrap_i64])); repeat (with_reducible refine sideA ?_)))
      refine LoopT.intro (fun i : Nat => i ≤ L3.length ∧ (told = false → i = 0)) (fun i => ⟨[ByteS.sl L, .undef, .undef, .undef, .undef, .undef, .undef, .undef, .undef, .undef, .undef, .undef, .undef, .undef, .undef, .undef, .undef, .undef, .undef, QuakeRow.sl L3, .int .i64 size, .int .i64 fr, .int .i64 to, .bool told, .undef, .undef, .undef, .int .i64 (qs (qT size (L3.take i))).1, .int .i64 i, .undef, .undef, .undef, .undef, .undef, .undef, .undef, .undef, .undef, .undef, .undef, .undef, .undef, .undef, .undef, .undef, .undef, .undef, .undef, .undef, .undef, .undef, .undef, .undef, .undef, .undef, .undef, .undef, .undef, .undef, .undef, .undef, .undef, .undef, .undef, .undef, .undef, .undef, .undef, .undef, .undef, .undef, .undef, .undef, .undef, .undef, .undef, .undef, .undef, .undef, .undef, .undef, .undef, .undef, .undef, .undef, .undef, .undef, .undef, .undef, .undef, .undef, .undef, .undef, .undef, .undef, .undef, .undef, .undef, .undef, .undef, .undef, .undef, .undef, .undef, .undef, .undef, .undef, .undef, .undef, .undef, .undef, .undef, .undef, .undef, .undef, .undef, .undef, .undef, .undef, .undef, .undef, .undef, .undef, .undef, .undef, .undef, .undef, .undef, .undef, .undef, .undef, .undef, .undef, .undef, .undef, .undef, .undef, .undef, .undef, .undef, .undef, .undef, .undef, .undef, .undef, .undef, .undef, .undef, .undef, .undef, .undef, .undef, .undef, .undef, .undef, .undef, .undef, .undef, .undef, .undef, .undef, .undef, .undef, .undef, .undef, .undef, .undef, .undef, .undef, .undef, .undef, .undef, .undef, .undef, .undef, .undef, .undef, .undef, .undef, .undef, .undef, .undef, .undef, .undef, .undef, .undef, .undef, .undef, .undef, .undef, .undef, .undef, .undef, .undef, .undef, .undef, .undef, .undef, .undef, .undef, .undef, .undef, .undef, .undef, .undef, .undef, .undef, .undef, .undef, .undef, .undef, .undef, .undef, .undef, .undef, .undef, .undef, .undef, .undef, .undef, .undef, .undef, .undef, .undef, .undef, .undef, .undef, .undef, .undef, .undef, .undef, .undef, .undef, .undef, .undef, .undef, .undef], [], 0⟩) (fun i => L3.length - i) 0 ⟨Nat.zero_le _, fun _ => rfl⟩ ?_ (fun i hi => ?_)
      · refine Weak.cut (0) (by simp) (by simp) ?_ ?_
        · simp [LeC, LeV, ren, cutF, qT, qs]
        · rfl
      obtain ⟨hi, hi0⟩ := hi
      by_cases hil : i < L3.length
      · have hd : decide ((i : Int) < (L3.length : Int)) = true := decide_eq_true (by omega)
        cases told with
        | false =>
          (repeat ((repeat1' (first | simp -implicitDefEqProofs -dsimp only [go_sem, Nat.reduceSub, Nat.reduceAdd, Nat.reduceMul, Nat.reduceLT, Nat.reduceLeDiff, Nat.reduceEqDiff, Nat.reduceDiv, Nat.reduceMod, Int.reduceToNat, Int.reduceLE, Int.reduceLT, Int.reduceBEq, Int.reduceBNe, Int.reduceNeg, Int.reduceAdd, Int.reduceSub, Int.reduceMul, reduceCtorEq, hd] | simp -implicitDefEqProofs -dsimp (disch := omega) only [wrap_i64])); repeat (with_reducible refine sideA ?_)))
          refine callS.rel [] (drawQuakesNear_ok hB) (by decide) ⟨leO, trivial⟩ rfl rfl (fun r hout hΦ => ?_)
          obtain ⟨L4, x4, y4, f4, hL4, hx4, hy4, hf4, rfl, rfl⟩ := hΦ
          refine ⟨trivial, ?_⟩
          (repeat ((repeat1' (first | simp -implicitDefEqProofs -dsimp only [go_sem, Nat.reduceSub, Nat.reduceAdd, Nat.reduceMul, Nat.reduceLT, Nat.reduceLeDiff, Nat.reduceEqDiff, Nat.reduceDiv, Nat.reduceMod, Int.reduceToNat, Int.reduceLE, Int.reduceLT, Int.reduceBEq, Int.reduceBNe, Int.reduceNeg, Int.reduceAdd, Int.reduceSub, Int.reduceMul, reduceCtorEq] | simp -implicitDefEqProofs -dsimp (disch := omega) only [wrap_i64])); repeat (with_reducible refine sideA ?_)))
          have hi4 := (iQuakesNear_ok L4 x4 y4 f4 (by have := hL4.2; omega)).weak (frzN (cs := IntS.cs) (nearR L4 x4 y4 f4))
          have hs4 := (sQuakesNear_ok L4 x4 y4 f4 (by have := hL4.2; omega)).weak (frzO (cs := IntS.cs) (nearR L4 x4 y4 f4))
          have hln : ((nearR L4 x4 y4 f4).getD []).length ≤ 1048576 := by
            unfold nearR
            split
            · simp only [Option.getD_some, List.length_map]
              have := List.length_filter_le (nearB x4 y4 f4) L4
              have := hL4.2
              omega
            · simp
          simp only [frzV] at hi4 hs4
          generalize (nearR L4 x4 y4 f4).getD [] = N4 at hi4 hs4 hln
          generalize (nearR L4 x4 y4 f4).isSome = b4 at hi4 hs4
          (first | refine callT.at (hi4) ⟨leA, leA, leA, leA, trivial⟩ ?_ | refine callS.at (hi4) ⟨leA, leA, leA, leA, trivial⟩ ?_)
          (repeat ((repeat1' (first | simp -implicitDefEqProofs -dsimp only [go_sem, Nat.reduceSub, Nat.reduceAdd, Nat.reduceMul, Nat.reduceLT, Nat.reduceLeDiff, Nat.reduceEqDiff, Nat.reduceDiv, Nat.reduceMod, Int.reduceToNat, Int.reduceLE, Int.reduceLT, Int.reduceBEq, Int.reduceBNe, Int.reduceNeg, Int.reduceAdd, Int.reduceSub, Int.reduceMul, reduceCtorEq] | simp -implicitDefEqProofs -dsimp (disch := omega) only [wrap_i64])); repeat (with_reducible refine sideA ?_)))
          (first | refine callT.at (hs4) ⟨leA, leA, leA, leA, trivial⟩ ?_ | refine callS.at (hs4) ⟨leA, leA, leA, leA, trivial⟩ ?_)
          (repeat ((repeat1' (first | simp -implicitDefEqProofs -dsimp only [go_sem, Nat.reduceSub, Nat.reduceAdd, Nat.reduceMul, Nat.reduceLT, Nat.reduceLeDiff, Nat.reduceEqDiff, Nat.reduceDiv, Nat.reduceMod, Int.reduceToNat, Int.reduceLE, Int.reduceLT, Int.reduceBEq, Int.reduceBNe, Int.reduceNeg, Int.reduceAdd, Int.reduceSub, Int.reduceMul, reduceCtorEq] | simp -implicitDefEqProofs -dsimp (disch := omega) only [wrap_i64])); repeat (with_reducible refine sideA ?_)))
          (first | refine callT.at (rInts_ok N4 hln) ⟨leA, leA, trivial⟩ ?_ | refine callS.at (rInts_ok N4 hln) ⟨leA, leA, trivial⟩ ?_)
          (repeat ((repeat1' (first | simp -implicitDefEqProofs -dsimp only [go_sem, Nat.reduceSub, Nat.reduceAdd, Nat.reduceMul, Nat.reduceLT, Nat.reduceLeDiff, Nat.reduceEqDiff, Nat.reduceDiv, Nat.reduceMod, Int.reduceToNat, Int.reduceLE, Int.reduceLT, Int.reduceBEq, Int.reduceBNe, Int.reduceNeg, Int.reduceAdd, Int.reduceSub, Int.reduceMul, reduceCtorEq] | simp -implicitDefEqProofs -dsimp (disch := omega) only [wrap_i64])); repeat (with_reducible refine sideA ?_)))
          exact WeakR.drop' (by simp) (by rfl)
        | true =>
          obtain ⟨hbl, hf, ht⟩ := hqt rfl
          obtain ⟨hv, _⟩ := bulB_all hbl
          have hr := rows_at QuakeRow.csl hil
          have hw1 : IntKind.i64.wrap ((i : Int) + 1) = ((i + 1 : Nat) : Int) := by rw [wrap_i64 (by omega) (by omega)]; omega
          have hsucc := qT_succ (size := size) hil
          have hgo := quiet_facts (size := size) hil
          have hrng := qs_rng (qT_rng (size := size) hv i)
          have hrngF := qs_rng (T := qT size L3) (by have := qT_rng (size := size) hv L3.length; rwa [List.take_length] at this)
          have htk := (qrB_iff.1 (hv _ (List.getElem_mem hil))).2.1
          have hsn := qs_snoc1 (qT size (L3.take i)) L3[i].Tick
          have hw2 : IntKind.i64.wrap (L3[i].Tick - (qs (qT size (L3.take i))).1) = L3[i].Tick - (qs (qT size (L3.take i))).1 := wrap_i64 (by omega) (by omega)
          have hw3 : IntKind.i64.wrap (to - fr) = to - fr := by rw [hf, ht]; exact wrap_i64 (by omega) (by omega)
          (repeat ((repeat1' (first | simp -implicitDefEqProofs -dsimp only [go_sem, Nat.reduceSub, Nat.reduceAdd, Nat.reduceMul, Nat.reduceLT, Nat.reduceLeDiff, Nat.reduceEqDiff, Nat.reduceDiv, Nat.reduceMod, Int.reduceToNat, Int.reduceLE, Int.reduceLT, Int.reduceBEq, Int.reduceBNe, Int.reduceNeg, Int.reduceAdd, Int.reduceSub, Int.reduceMul, reduceCtorEq, hd, hr, QuakeRow.cs] | simp -implicitDefEqProofs -dsimp (disch := omega) only [wrap_i64])); repeat (with_reducible refine sideA ?_)))
          refine condT.split (fun g1 => ?_) (fun g1 => ?_)
          · have hst : strongB size L3[i] = false := by simp at g1; simp [strongB]; omega
            (repeat ((repeat1' (first | simp -implicitDefEqProofs -dsimp only [go_sem, Nat.reduceSub, Nat.reduceAdd, Nat.reduceMul, Nat.reduceLT, Nat.reduceLeDiff, Nat.reduceEqDiff, Nat.reduceDiv, Nat.reduceMod, Int.reduceToNat, Int.reduceLE, Int.reduceLT, Int.reduceBEq, Int.reduceBNe, Int.reduceNeg, Int.reduceAdd, Int.reduceSub, Int.reduceMul, reduceCtorEq, g1, hw1] | simp -implicitDefEqProofs -dsimp (disch := omega) only [wrap_i64])); repeat (with_reducible refine sideA ?_)))
            rw [hst] at hsucc
            simp only [Bool.false_eq_true, if_false, List.append_nil] at hsucc
            refine ⟨i + 1, ⟨hil, fun h => by cases h⟩, ?_, by omega⟩
            refine Weak.cut (0) (by simp) (by simp) ?_ ?_
            · rw [hsucc]
              simp [LeC, LeV, ren, cutF]
            · rfl
          · have hst : strongB size L3[i] = true := by simp at g1; simp [strongB]; omega
            rw [hst] at hsucc
            simp only [if_true] at hsucc
            rw [← hsucc] at hsn
            by_cases hl0 : 0 ≤ (qs (qT size (L3.take i))).1
            · have hgo2 := hgo hst hl0
              have hg2 : decide (0 ≤ (qs (qT size (L3.take i))).1) = true := decide_eq_true hl0
              have hg3 : decide (to - fr < L3[i].Tick - (qs (qT size (L3.take i))).1) = false := decide_eq_false (by rw [hf, ht]; omega)
              (repeat ((repeat1' (first | simp -implicitDefEqProofs -dsimp only [go_sem, Nat.reduceSub, Nat.reduceAdd, Nat.reduceMul, Nat.reduceLT, Nat.reduceLeDiff, Nat.reduceEqDiff, Nat.reduceDiv, Nat.reduceMod, Int.reduceToNat, Int.reduceLE, Int.reduceLT, Int.reduceBEq, Int.reduceBNe, Int.reduceNeg, Int.reduceAdd, Int.reduceSub, Int.reduceMul, reduceCtorEq, g1, hw1, hg2, hr, QuakeRow.cs, hw2, hw3, hg3] | simp -implicitDefEqProofs -dsimp (disch := omega) only [wrap_i64])); repeat (with_reducible refine sideA ?_)))
              refine ⟨i + 1, ⟨hil, fun h => by cases h⟩, ?_, by omega⟩
              refine Weak.cut (0) (by simp) (by simp) ?_ ?_
              · rw [hsn]
                simp [LeC, LeV, ren, cutF]
              · rfl
            · have hg2 : decide (0 ≤ (qs (qT size (L3.take i))).1) = false := decide_eq_false hl0
              (repeat ((repeat1' (first | simp -implicitDefEqProofs -dsimp only [go_sem, Nat.reduceSub, Nat.reduceAdd, Nat.reduceMul, Nat.reduceLT, Nat.reduceLeDiff, Nat.reduceEqDiff, Nat.reduceDiv, Nat.reduceMod, Int.reduceToNat, Int.reduceLE, Int.reduceLT, Int.reduceBEq, Int.reduceBNe, Int.reduceNeg, Int.reduceAdd, Int.reduceSub, Int.reduceMul, reduceCtorEq, g1, hw1, hg2, hr, QuakeRow.cs] | simp -implicitDefEqProofs -dsimp (disch := omega) only [wrap_i64])); repeat (with_reducible refine sideA ?_)))
              refine ⟨i + 1, ⟨hil, fun h => by cases h⟩, ?_, by omega⟩
              refine Weak.cut (0) (by simp) (by simp) ?_ ?_
              · rw [hsn]
                simp [LeC, LeV, ren, cutF]
              · rfl
      · have hd : decide ((i : Int) < (L3.length : Int)) = false := decide_eq_false (by omega)
        (repeat ((repeat1' (first | simp -implicitDefEqProofs -dsimp only [go_sem, Nat.reduceSub, Nat.reduceAdd, Nat.reduceMul, Nat.reduceLT, Nat.reduceLeDiff, Nat.reduceEqDiff, Nat.reduceDiv, Nat.reduceMod, Int.reduceToNat, Int.reduceLE, Int.reduceLT, Int.reduceBEq, Int.reduceBNe, Int.reduceNeg, Int.reduceAdd, Int.reduceSub, Int.reduceMul, reduceCtorEq, hd] | simp -implicitDefEqProofs -dsimp (disch := omega) only [wrap_i64])); repeat (with_reducible refine sideA ?_)))
        refine callS.rel [] (drawQuakesNear_ok hB) (by decide) ⟨leO, trivial⟩ rfl rfl (fun r hout hΦ => ?_)
        obtain ⟨L4, x4, y4, f4, hL4, hx4, hy4, hf4, rfl, rfl⟩ := hΦ
        refine ⟨trivial, ?_⟩
        (repeat ((repeat1' (first | simp -implicitDefEqProofs -dsimp only [go_sem, Nat.reduceSub, Nat.reduceAdd, Nat.reduceMul, Nat.reduceLT, Nat.reduceLeDiff, Nat.reduceEqDiff, Nat.reduceDiv, Nat.reduceMod, Int.reduceToNat, Int.reduceLE, Int.reduceLT, Int.reduceBEq, Int.reduceBNe, Int.reduceNeg, Int.reduceAdd, Int.reduceSub, Int.reduceMul, reduceCtorEq] | simp -implicitDefEqProofs -dsimp (disch := omega) only [wrap_i64])); repeat (with_reducible refine sideA ?_)))
        have hi4 := (iQuakesNear_ok L4 x4 y4 f4 (by have := hL4.2; omega)).weak (frzN (cs := IntS.cs) (nearR L4 x4 y4 f4))
        have hs4 := (sQuakesNear_ok L4 x4 y4 f4 (by have := hL4.2; omega)).weak (frzO (cs := IntS.cs) (nearR L4 x4 y4 f4))
        have hln : ((nearR L4 x4 y4 f4).getD []).length ≤ 1048576 := by
          unfold nearR
          split
          · simp only [Option.getD_some, List.length_map]
            have := List.length_filter_le (nearB x4 y4 f4) L4
            have := hL4.2
            omega
          · simp
        simp only [frzV] at hi4 hs4
        generalize (nearR L4 x4 y4 f4).getD [] = N4 at hi4 hs4 hln
        generalize (nearR L4 x4 y4 f4).isSome = b4 at hi4 hs4
        (first | refine callT.at (hi4) ⟨leA, leA, leA, leA, trivial⟩ ?_ | refine callS.at (hi4) ⟨leA, leA, leA, leA, trivial⟩ ?_)
        (repeat ((repeat1' (first | simp -implicitDefEqProofs -dsimp only [go_sem, Nat.reduceSub, Nat.reduceAdd, Nat.reduceMul, Nat.reduceLT, Nat.reduceLeDiff, Nat.reduceEqDiff, Nat.reduceDiv, Nat.reduceMod, Int.reduceToNat, Int.reduceLE, Int.reduceLT, Int.reduceBEq, Int.reduceBNe, Int.reduceNeg, Int.reduceAdd, Int.reduceSub, Int.reduceMul, reduceCtorEq] | simp -implicitDefEqProofs -dsimp (disch := omega) only [wrap_i64])); repeat (with_reducible refine sideA ?_)))
        (first | refine callT.at (hs4) ⟨leA, leA, leA, leA, trivial⟩ ?_ | refine callS.at (hs4) ⟨leA, leA, leA, leA, trivial⟩ ?_)
        (repeat ((repeat1' (first | simp -implicitDefEqProofs -dsimp only [go_sem, Nat.reduceSub, Nat.reduceAdd, Nat.reduceMul, Nat.reduceLT, Nat.reduceLeDiff, Nat.reduceEqDiff, Nat.reduceDiv, Nat.reduceMod, Int.reduceToNat, Int.reduceLE, Int.reduceLT, Int.reduceBEq, Int.reduceBNe, Int.reduceNeg, Int.reduceAdd, Int.reduceSub, Int.reduceMul, reduceCtorEq] | simp -implicitDefEqProofs -dsimp (disch := omega) only [wrap_i64])); repeat (with_reducible refine sideA ?_)))
        (first | refine callT.at (rInts_ok N4 hln) ⟨leA, leA, trivial⟩ ?_ | refine callS.at (rInts_ok N4 hln) ⟨leA, leA, trivial⟩ ?_)
        (repeat ((repeat1' (first | simp -implicitDefEqProofs -dsimp only [go_sem, Nat.reduceSub, Nat.reduceAdd, Nat.reduceMul, Nat.reduceLT, Nat.reduceLeDiff, Nat.reduceEqDiff, Nat.reduceDiv, Nat.reduceMod, Int.reduceToNat, Int.reduceLE, Int.reduceLT, Int.reduceBEq, Int.reduceBNe, Int.reduceNeg, Int.reduceAdd, Int.reduceSub, Int.reduceMul, reduceCtorEq] | simp -implicitDefEqProofs -dsimp (disch := omega) only [wrap_i64])); repeat (with_reducible refine sideA ?_)))
        exact WeakR.drop' (by simp) (by rfl)
    | some D =>
      obtain ⟨d1, d2, d3⟩ := depth_facts hdr
      rw [hdr] at hi2 hs2
      simp only [Option.getD_some, Option.isSome_some] at hi2 hs2
      (first | refine callT.at (hi2) ⟨leA, leA, trivial⟩ ?_ | refine callS.at (hi2) ⟨leA, leA, trivial⟩ ?_)
      (repeat ((repeat1' (first | simp -implicitDefEqProofs -dsimp only [go_sem, Nat.reduceSub, Nat.reduceAdd, Nat.reduceMul, Nat.reduceLT, Nat.reduceLeDiff, Nat.reduceEqDiff, Nat.reduceDiv, Nat.reduceMod, Int.reduceToNat, Int.reduceLE, Int.reduceLT, Int.reduceBEq, Int.reduceBNe, Int.reduceNeg, Int.reduceAdd, Int.reduceSub, Int.reduceMul, reduceCtorEq] | simp -implicitDefEqProofs -dsimp (disch := omega) only [wrap_i64])); repeat (with_reducible refine sideA ?_)))
      (first | refine callT.at (hs2) ⟨leA, leA, trivial⟩ ?_ | refine callS.at (hs2) ⟨leA, leA, trivial⟩ ?_)
      (repeat ((repeat1' (first | simp -implicitDefEqProofs -dsimp only [go_sem, Nat.reduceSub, Nat.reduceAdd, Nat.reduceMul, Nat.reduceLT, Nat.reduceLeDiff, Nat.reduceEqDiff, Nat.reduceDiv, Nat.reduceMod, Int.reduceToNat, Int.reduceLE, Int.reduceLT, Int.reduceBEq, Int.reduceBNe, Int.reduceNeg, Int.reduceAdd, Int.reduceSub, Int.reduceMul, reduceCtorEq] | simp -implicitDefEqProofs -dsimp (disch := omega) only [wrap_i64])); repeat (with_reducible refine sideA ?_)))
      (first | refine callT.at (rInts_ok D (by omega)) ⟨leA, leA, trivial⟩ ?_ | refine callS.at (rInts_ok D (by omega)) ⟨leA, leA, trivial⟩ ?_)
      (repeat ((repeat1' (first | simp -implicitDefEqProofs -dsimp only [go_sem, Nat.reduceSub, Nat.reduceAdd, Nat.reduceMul, Nat.reduceLT, Nat.reduceLeDiff, Nat.reduceEqDiff, Nat.reduceDiv, Nat.reduceMod, Int.reduceToNat, Int.reduceLE, Int.reduceLT, Int.reduceBEq, Int.reduceBNe, Int.reduceNeg, Int.reduceAdd, Int.reduceSub, Int.reduceMul, reduceCtorEq] | simp -implicitDefEqProofs -dsimp (disch := omega) only [wrap_i64])); repeat (with_reducible refine sideA ?_)))
      (first | refine callT.at (rSum_ok D (by omega) (fun x hx => by have := d2 x hx; omega)) ⟨leA, trivial⟩ ?_ | refine callS.at (rSum_ok D (by omega) (fun x hx => by have := d2 x hx; omega)) ⟨leA, trivial⟩ ?_)
      (repeat ((repeat1' (first | simp -implicitDefEqProofs -dsimp only [go_sem, Nat.reduceSub, Nat.reduceAdd, Nat.reduceMul, Nat.reduceLT, Nat.reduceLeDiff, Nat.reduceEqDiff, Nat.reduceDiv, Nat.reduceMod, Int.reduceToNat, Int.reduceLE, Int.reduceLT, Int.reduceBEq, Int.reduceBNe, Int.reduceNeg, Int.reduceAdd, Int.reduceSub, Int.reduceMul, reduceCtorEq, d1] | simp -implicitDefEqProofs -dsimp (disch := omega) only [wrap_i64])); repeat (with_reducible refine sideA ?_)))
      refine callS.rel [] (drawQuietRun_ok hB) (by decide) ⟨leO, trivial⟩ rfl rfl (fun r hout hΦ => ?_)
      obtain ⟨L3, size, hL3, hsz, rfl, rfl⟩ := hΦ
      refine ⟨trivial, ?_⟩
      (repeat ((repeat1' (first | simp -implicitDefEqProofs -dsimp only [go_sem, Nat.reduceSub, Nat.reduceAdd, Nat.reduceMul, Nat.reduceLT, Nat.reduceLeDiff, Nat.reduceEqDiff, Nat.reduceDiv, Nat.reduceMod, Int.reduceToNat, Int.reduceLE, Int.reduceLT, Int.reduceBEq, Int.reduceBNe, Int.reduceNeg, Int.reduceAdd, Int.reduceSub, Int.reduceMul, reduceCtorEq] | simp -implicitDefEqProofs -dsimp (disch := omega) only [wrap_i64])); repeat (with_reducible refine sideA ?_)))
      obtain ⟨fr, to, told, hq, hqt⟩ := quietR_cases L3 size
      have hi3 := iQuietRun_ok L3 size (by have := hL3.2; omega)
      have hs3 := sQuietRun_ok L3 size (by have := hL3.2; omega)
      rw [hq] at hi3 hs3
      (first | refine callT.at (hi3) ⟨leA, leA, trivial⟩ ?_ | refine callS.at (hi3) ⟨leA, leA, trivial⟩ ?_)
      (repeat ((repeat1' (first | simp -implicitDefEqProofs -dsimp only [go_sem, Nat.reduceSub, Nat.reduceAdd, Nat.reduceMul, Nat.reduceLT, Nat.reduceLeDiff, Nat.reduceEqDiff, Nat.reduceDiv, Nat.reduceMod, Int.reduceToNat, Int.reduceLE, Int.reduceLT, Int.reduceBEq, Int.reduceBNe, Int.reduceNeg, Int.reduceAdd, Int.reduceSub, Int.reduceMul, reduceCtorEq] | simp -implicitDefEqProofs -dsimp (disch := omega) only [wrap_i64])); repeat (with_reducible refine sideA ?_)))
      (first | refine callT.at (hs3) ⟨leA, leA, trivial⟩ ?_ | refine callS.at (hs3) ⟨leA, leA, trivial⟩ ?_)
      (repeat ((repeat1' (first | simp -implicitDefEqProofs -dsimp only [go_sem, Nat.reduceSub, Nat.reduceAdd, Nat.reduceMul, Nat.reduceLT, Nat.reduceLeDiff, Nat.reduceEqDiff, Nat.reduceDiv, Nat.reduceMod, Int.reduceToNat, Int.reduceLE, Int.reduceLT, Int.reduceBEq, Int.reduceBNe, Int.reduceNeg, Int.reduceAdd, Int.reduceSub, Int.reduceMul, reduceCtorEq] | simp -implicitDefEqProofs -dsimp (disch := omega) only [wrap_i64])); repeat (with_reducible refine sideA ?_)))
      refine LoopT.intro (fun i : Nat => i ≤ L3.length ∧ (told = false → i = 0)) (fun i => ⟨[ByteS.sl L, .undef, .undef, .undef, .undef, .undef, .undef, .undef, .undef, .undef, .undef, .undef, .undef, .undef, .undef, .undef, .undef, .undef, .undef, QuakeRow.sl L3, .int .i64 size, .int .i64 fr, .int .i64 to, .bool told, .undef, .undef, .undef, .int .i64 (qs (qT size (L3.take i))).1, .int .i64 i, .undef, .undef, .undef, .undef, .undef, .undef, .undef, .undef, .undef, .undef, .undef, .undef, .undef, .undef, .undef, .undef, .undef, .undef, .undef, .undef, .undef, .undef, .undef, .undef, .undef, .undef, .undef, .undef, .undef, .undef, .undef, .undef, .undef, .undef, .undef, .undef, .undef, .undef, .undef, .undef, .undef, .undef, .undef, .undef, .undef, .undef, .undef, .undef, .undef, .undef, .undef, .undef, .undef, .undef, .undef, .undef, .undef, .undef, .undef, .undef, .undef, .undef, .undef, .undef, .undef, .undef, .undef, .undef, .undef, .undef, .undef, .undef, .undef, .undef, .undef, .undef, .undef, .undef, .undef, .undef, .undef, .undef, .undef, .undef, .undef, .undef, .undef, .undef, .undef, .undef, .undef, .undef, .undef, .undef, .undef, .undef, .undef, .undef, .undef, .undef, .undef, .undef, .undef, .undef, .undef, .undef, .undef, .undef, .undef, .undef, .undef, .undef, .undef, .undef, .undef, .undef, .undef, .undef, .undef, .undef, .undef, .undef, .undef, .undef, .undef, .undef, .undef, .undef, .undef, .undef, .undef, .undef, .undef, .undef, .undef, .undef, .undef, .undef, .undef, .undef, .undef, .undef, .undef, .undef, .undef, .undef, .undef, .undef, .undef, .undef, .undef, .undef, .undef, .undef, .undef, .undef, .undef, .undef, .undef, .undef, .undef, .undef, .undef, .undef, .undef, .undef, .undef, .undef, .undef, .undef, .undef, .undef, .undef, .undef, .undef, .undef, .undef, .undef, .undef, .undef, .undef, .undef, .undef, .undef, .undef, .undef, .undef, .undef, .undef, .undef, .undef, .undef, .undef, .undef, .undef, .undef, .undef, .undef, .undef, .undef, .undef, .undef, .undef, .undef, .undef, .undef, .undef, .undef], [], 0⟩) (fun i => L3.length - i) 0 ⟨Nat.zero_le _, fun _ => rfl⟩ ?_ (fun i hi => ?_)
      · refine Weak.cut (0) (by simp) (by simp) ?_ ?_
        · simp [LeC, LeV, ren, cutF, qT, qs]
        · rfl
      obtain ⟨hi, hi0⟩ := hi
      by_cases hil : i < L3.length
      · have hd : decide ((i : Int) < (L3.length : Int)) = true := decide_eq_true (by omega)
        cases told with
        | false =>
          (repeat ((repeat1' (first | simp -implicitDefEqProofs -dsimp only [go_sem, Nat.reduceSub, Nat.reduceAdd, Nat.reduceMul, Nat.reduceLT, Nat.reduceLeDiff, Nat.reduceEqDiff, Nat.reduceDiv, Nat.reduceMod, Int.reduceToNat, Int.reduceLE, Int.reduceLT, Int.reduceBEq, Int.reduceBNe, Int.reduceNeg, Int.reduceAdd, Int.reduceSub, Int.reduceMul, reduceCtorEq, hd] | simp -implicitDefEqProofs -dsimp (disch := omega) only [wrap_i64])); repeat (with_reducible refine sideA ?_)))
          refine callS.rel [] (drawQuakesNear_ok hB) (by decide) ⟨leO, trivial⟩ rfl rfl (fun r hout hΦ => ?_)
          obtain ⟨L4, x4, y4, f4, hL4, hx4, hy4, hf4, rfl, rfl⟩ := hΦ
          refine ⟨trivial, ?_⟩
          (repeat ((repeat1' (first | simp -implicitDefEqProofs -dsimp only [go_sem, Nat.reduceSub, Nat.reduceAdd, Nat.reduceMul, Nat.reduceLT, Nat.reduceLeDiff, Nat.reduceEqDiff, Nat.reduceDiv, Nat.reduceMod, Int.reduceToNat, Int.reduceLE, Int.reduceLT, Int.reduceBEq, Int.reduceBNe, Int.reduceNeg, Int.reduceAdd, Int.reduceSub, Int.reduceMul, reduceCtorEq] | simp -implicitDefEqProofs -dsimp (disch := omega) only [wrap_i64])); repeat (with_reducible refine sideA ?_)))
          have hi4 := (iQuakesNear_ok L4 x4 y4 f4 (by have := hL4.2; omega)).weak (frzN (cs := IntS.cs) (nearR L4 x4 y4 f4))
          have hs4 := (sQuakesNear_ok L4 x4 y4 f4 (by have := hL4.2; omega)).weak (frzO (cs := IntS.cs) (nearR L4 x4 y4 f4))
          have hln : ((nearR L4 x4 y4 f4).getD []).length ≤ 1048576 := by
            unfold nearR
            split
            · simp only [Option.getD_some, List.length_map]
              have := List.length_filter_le (nearB x4 y4 f4) L4
              have := hL4.2
              omega
            · simp
          simp only [frzV] at hi4 hs4
          generalize (nearR L4 x4 y4 f4).getD [] = N4 at hi4 hs4 hln
          generalize (nearR L4 x4 y4 f4).isSome = b4 at hi4 hs4
          (first | refine callT.at (hi4) ⟨leA, leA, leA, leA, trivial⟩ ?_ | refine callS.at (hi4) ⟨leA, leA, leA, leA, trivial⟩ ?_)
          (repeat ((repeat1' (first | simp -implicitDefEqProofs -dsimp only [go_sem, Nat.reduceSub, Nat.reduceAdd, Nat.reduceMul, Nat.reduceLT, Nat.reduceLeDiff, Nat.reduceEqDiff, Nat.reduceDiv, Nat.reduceMod, Int.reduceToNat, Int.reduceLE, Int.reduceLT, Int.reduceBEq, Int.reduceBNe, Int.reduceNeg, Int.reduceAdd, Int.reduceSub, Int.reduceMul, reduceCtorEq] | simp -implicitDefEqProofs -dsimp (disch := omega) only [wrap_i64])); repeat (with_reducible refine sideA ?_)))
          (first | refine callT.at (hs4) ⟨leA, leA, leA, leA, trivial⟩ ?_ | refine callS.at (hs4) ⟨leA, leA, leA, leA, trivial⟩ ?_)
          (repeat ((repeat1' (first | simp -implicitDefEqProofs -dsimp only [go_sem, Nat.reduceSub, Nat.reduceAdd, Nat.reduceMul, Nat.reduceLT, Nat.reduceLeDiff, Nat.reduceEqDiff, Nat.reduceDiv, Nat.reduceMod, Int.reduceToNat, Int.reduceLE, Int.reduceLT, Int.reduceBEq, Int.reduceBNe, Int.reduceNeg, Int.reduceAdd, Int.reduceSub, Int.reduceMul, reduceCtorEq] | simp -implicitDefEqProofs -dsimp (disch := omega) only [wrap_i64])); repeat (with_reducible refine sideA ?_)))
          (first | refine callT.at (rInts_ok N4 hln) ⟨leA, leA, trivial⟩ ?_ | refine callS.at (rInts_ok N4 hln) ⟨leA, leA, trivial⟩ ?_)
          (repeat ((repeat1' (first | simp -implicitDefEqProofs -dsimp only [go_sem, Nat.reduceSub, Nat.reduceAdd, Nat.reduceMul, Nat.reduceLT, Nat.reduceLeDiff, Nat.reduceEqDiff, Nat.reduceDiv, Nat.reduceMod, Int.reduceToNat, Int.reduceLE, Int.reduceLT, Int.reduceBEq, Int.reduceBNe, Int.reduceNeg, Int.reduceAdd, Int.reduceSub, Int.reduceMul, reduceCtorEq] | simp -implicitDefEqProofs -dsimp (disch := omega) only [wrap_i64])); repeat (with_reducible refine sideA ?_)))
          exact WeakR.drop' (by simp) (by rfl)
        | true =>
          obtain ⟨hbl, hf, ht⟩ := hqt rfl
          obtain ⟨hv, _⟩ := bulB_all hbl
          have hr := rows_at QuakeRow.csl hil
          have hw1 : IntKind.i64.wrap ((i : Int) + 1) = ((i + 1 : Nat) : Int) := by rw [wrap_i64 (by omega) (by omega)]; omega
          have hsucc := qT_succ (size := size) hil
          have hgo := quiet_facts (size := size) hil
          have hrng := qs_rng (qT_rng (size := size) hv i)
          have hrngF := qs_rng (T := qT size L3) (by have := qT_rng (size := size) hv L3.length; rwa [List.take_length] at this)
          have htk := (qrB_iff.1 (hv _ (List.getElem_mem hil))).2.1
          have hsn := qs_snoc1 (qT size (L3.take i)) L3[i].Tick
          have hw2 : IntKind.i64.wrap (L3[i].Tick - (qs (qT size (L3.take i))).1) = L3[i].Tick - (qs (qT size (L3.take i))).1 := wrap_i64 (by omega) (by omega)
          have hw3 : IntKind.i64.wrap (to - fr) = to - fr := by rw [hf, ht]; exact wrap_i64 (by omega) (by omega)
          (repeat ((repeat1' (first | simp -implicitDefEqProofs -dsimp only [go_sem, Nat.reduceSub, Nat.reduceAdd, Nat.reduceMul, Nat.reduceLT, Nat.reduceLeDiff, Nat.reduceEqDiff, Nat.reduceDiv, Nat.reduceMod, Int.reduceToNat, Int.reduceLE, Int.reduceLT, Int.reduceBEq, Int.reduceBNe, Int.reduceNeg, Int.reduceAdd, Int.reduceSub, Int.reduceMul, reduceCtorEq, hd, hr, QuakeRow.cs] | simp -implicitDefEqProofs -dsimp (disch := omega) only [wrap_i64])); repeat (with_reducible refine sideA ?_)))
          refine condT.split (fun g1 => ?_) (fun g1 => ?_)
          · have hst : strongB size L3[i] = false := by simp at g1; simp [strongB]; omega
            (repeat ((repeat1' (first | simp -implicitDefEqProofs -dsimp only [go_sem, Nat.reduceSub, Nat.reduceAdd, Nat.reduceMul, Nat.reduceLT, Nat.reduceLeDiff, Nat.reduceEqDiff, Nat.reduceDiv, Nat.reduceMod, Int.reduceToNat, Int.reduceLE, Int.reduceLT, Int.reduceBEq, Int.reduceBNe, Int.reduceNeg, Int.reduceAdd, Int.reduceSub, Int.reduceMul, reduceCtorEq, g1, hw1] | simp -implicitDefEqProofs -dsimp (disch := omega) only [wrap_i64])); repeat (with_reducible refine sideA ?_)))
            rw [hst] at hsucc
            simp only [Bool.false_eq_true, if_false, List.append_nil] at hsucc
            refine ⟨i + 1, ⟨hil, fun h => by cases h⟩, ?_, by omega⟩
            refine Weak.cut (0) (by simp) (by simp) ?_ ?_
            · rw [hsucc]
              simp [LeC, LeV, ren, cutF]
            · rfl
          · have hst : strongB size L3[i] = true := by simp at g1; simp [strongB]; omega
            rw [hst] at hsucc
            simp only [if_true] at hsucc
            rw [← hsucc] at hsn
            by_cases hl0 : 0 ≤ (qs (qT size (L3.take i))).1
            · have hgo2 := hgo hst hl0
              have hg2 : decide (0 ≤ (qs (qT size (L3.take i))).1) = true := decide_eq_true hl0
              have hg3 : decide (to - fr < L3[i].Tick - (qs (qT size (L3.take i))).1) = false := decide_eq_false (by rw [hf, ht]; omega)
              (repeat ((repeat1' (first | simp -implicitDefEqProofs -dsimp only [go_sem, Nat.reduceSub, Nat.reduceAdd, Nat.reduceMul, Nat.reduceLT, Nat.reduceLeDiff, Nat.reduceEqDiff, Nat.reduceDiv, Nat.reduceMod, Int.reduceToNat, Int.reduceLE, Int.reduceLT, Int.reduceBEq, Int.reduceBNe, Int.reduceNeg, Int.reduceAdd, Int.reduceSub, Int.reduceMul, reduceCtorEq, g1, hw1, hg2, hr, QuakeRow.cs, hw2, hw3, hg3] | simp -implicitDefEqProofs -dsimp (disch := omega) only [wrap_i64])); repeat (with_reducible refine sideA ?_)))
              refine ⟨i + 1, ⟨hil, fun h => by cases h⟩, ?_, by omega⟩
              refine Weak.cut (0) (by simp) (by simp) ?_ ?_
              · rw [hsn]
                simp [LeC, LeV, ren, cutF]
              · rfl
            · have hg2 : decide (0 ≤ (qs (qT size (L3.take i))).1) = false := decide_eq_false hl0
              (repeat ((repeat1' (first | simp -implicitDefEqProofs -dsimp only [go_sem, Nat.reduceSub, Nat.reduceAdd, Nat.reduceMul, Nat.reduceLT, Nat.reduceLeDiff, Nat.reduceEqDiff, Nat.reduceDiv, Nat.reduceMod, Int.reduceToNat, Int.reduceLE, Int.reduceLT, Int.reduceBEq, Int.reduceBNe, Int.reduceNeg, Int.reduceAdd, Int.reduceSub, Int.reduceMul, reduceCtorEq, g1, hw1, hg2, hr, QuakeRow.cs] | simp -implicitDefEqProofs -dsimp (disch := omega) only [wrap_i64])); repeat (with_reducible refine sideA ?_)))
              refine ⟨i + 1, ⟨hil, fun h => by cases h⟩, ?_, by omega⟩
              refine Weak.cut (0) (by simp) (by simp) ?_ ?_
              · rw [hsn]
                simp [LeC, LeV, ren, cutF]
              · rfl
      · have hd : decide ((i : Int) < (L3.length : Int)) = false := decide_eq_false (by omega)
        (repeat ((repeat1' (first | simp -implicitDefEqProofs -dsimp only [go_sem, Nat.reduceSub, Nat.reduceAdd, Nat.reduceMul, Nat.reduceLT, Nat.reduceLeDiff, Nat.reduceEqDiff, Nat.reduceDiv, Nat.reduceMod, Int.reduceToNat, Int.reduceLE, Int.reduceLT, Int.reduceBEq, Int.reduceBNe, Int.reduceNeg, Int.reduceAdd, Int.reduceSub, Int.reduceMul, reduceCtorEq, hd] | simp -implicitDefEqProofs -dsimp (disch := omega) only [wrap_i64])); repeat (with_reducible refine sideA ?_)))
        refine callS.rel [] (drawQuakesNear_ok hB) (by decide) ⟨leO, trivial⟩ rfl rfl (fun r hout hΦ => ?_)
        obtain ⟨L4, x4, y4, f4, hL4, hx4, hy4, hf4, rfl, rfl⟩ := hΦ
        refine ⟨trivial, ?_⟩
        (repeat ((repeat1' (first | simp -implicitDefEqProofs -dsimp only [go_sem, Nat.reduceSub, Nat.reduceAdd, Nat.reduceMul, Nat.reduceLT, Nat.reduceLeDiff, Nat.reduceEqDiff, Nat.reduceDiv, Nat.reduceMod, Int.reduceToNat, Int.reduceLE, Int.reduceLT, Int.reduceBEq, Int.reduceBNe, Int.reduceNeg, Int.reduceAdd, Int.reduceSub, Int.reduceMul, reduceCtorEq] | simp -implicitDefEqProofs -dsimp (disch := omega) only [wrap_i64])); repeat (with_reducible refine sideA ?_)))
        have hi4 := (iQuakesNear_ok L4 x4 y4 f4 (by have := hL4.2; omega)).weak (frzN (cs := IntS.cs) (nearR L4 x4 y4 f4))
        have hs4 := (sQuakesNear_ok L4 x4 y4 f4 (by have := hL4.2; omega)).weak (frzO (cs := IntS.cs) (nearR L4 x4 y4 f4))
        have hln : ((nearR L4 x4 y4 f4).getD []).length ≤ 1048576 := by
          unfold nearR
          split
          · simp only [Option.getD_some, List.length_map]
            have := List.length_filter_le (nearB x4 y4 f4) L4
            have := hL4.2
            omega
          · simp
        simp only [frzV] at hi4 hs4
        generalize (nearR L4 x4 y4 f4).getD [] = N4 at hi4 hs4 hln
        generalize (nearR L4 x4 y4 f4).isSome = b4 at hi4 hs4
        (first | refine callT.at (hi4) ⟨leA, leA, leA, leA, trivial⟩ ?_ | refine callS.at (hi4) ⟨leA, leA, leA, leA, trivial⟩ ?_)
        (repeat ((repeat1' (first | simp -implicitDefEqProofs -dsimp only [go_sem, Nat.reduceSub, Nat.reduceAdd, Nat.reduceMul, Nat.reduceLT, Nat.reduceLeDiff, Nat.reduceEqDiff, Nat.reduceDiv, Nat.reduceMod, Int.reduceToNat, Int.reduceLE, Int.reduceLT, Int.reduceBEq, Int.reduceBNe, Int.reduceNeg, Int.reduceAdd, Int.reduceSub, Int.reduceMul, reduceCtorEq] | simp -implicitDefEqProofs -dsimp (disch := omega) only [wrap_i64])); repeat (with_reducible refine sideA ?_)))
        (first | refine callT.at (hs4) ⟨leA, leA, leA, leA, trivial⟩ ?_ | refine callS.at (hs4) ⟨leA, leA, leA, leA, trivial⟩ ?_)
        (repeat ((repeat1' (first | simp -implicitDefEqProofs -dsimp only [go_sem, Nat.reduceSub, Nat.reduceAdd, Nat.reduceMul, Nat.reduceLT, Nat.reduceLeDiff, Nat.reduceEqDiff, Nat.reduceDiv, Nat.reduceMod, Int.reduceToNat, Int.reduceLE, Int.reduceLT, Int.reduceBEq, Int.reduceBNe, Int.reduceNeg, Int.reduceAdd, Int.reduceSub, Int.reduceMul, reduceCtorEq] | simp -implicitDefEqProofs -dsimp (disch := omega) only [wrap_i64])); repeat (with_reducible refine sideA ?_)))
        (first | refine callT.at (rInts_ok N4 hln) ⟨leA, leA, trivial⟩ ?_ | refine callS.at (rInts_ok N4 hln) ⟨leA, leA, trivial⟩ ?_)
        (repeat ((repeat1' (first | simp -implicitDefEqProofs -dsimp only [go_sem, Nat.reduceSub, Nat.reduceAdd, Nat.reduceMul, Nat.reduceLT, Nat.reduceLeDiff, Nat.reduceEqDiff, Nat.reduceDiv, Nat.reduceMod, Int.reduceToNat, Int.reduceLE, Int.reduceLT, Int.reduceBEq, Int.reduceBNe, Int.reduceNeg, Int.reduceAdd, Int.reduceSub, Int.reduceMul, reduceCtorEq] | simp -implicitDefEqProofs -dsimp (disch := omega) only [wrap_i64])); repeat (with_reducible refine sideA ?_)))
        exact WeakR.drop' (by simp) (by rfl)
  | some R =>
    obtain ⟨b1, b2, b3, b4, b5⟩ := both_facts hbr
    rw [hbr] at hi1 hs1
    simp only [Option.getD_some, Option.isSome_some] at hi1 hs1
    (first | refine callT.at (hi1) ⟨leA, leA, trivial⟩ ?_ | refine callS.at (hi1) ⟨leA, leA, trivial⟩ ?_)
    (repeat ((repeat1' (first | simp -implicitDefEqProofs -dsimp only [go_sem, Nat.reduceSub, Nat.reduceAdd, Nat.reduceMul, Nat.reduceLT, Nat.reduceLeDiff, Nat.reduceEqDiff, Nat.reduceDiv, Nat.reduceMod, Int.reduceToNat, Int.reduceLE, Int.reduceLT, Int.reduceBEq, Int.reduceBNe, Int.reduceNeg, Int.reduceAdd, Int.reduceSub, Int.reduceMul, reduceCtorEq] | simp -implicitDefEqProofs -dsimp (disch := omega) only [wrap_i64])); repeat (with_reducible refine sideA ?_)))
    (first | refine callT.at (hs1) ⟨leA, leA, trivial⟩ ?_ | refine callS.at (hs1) ⟨leA, leA, trivial⟩ ?_)
    (repeat ((repeat1' (first | simp -implicitDefEqProofs -dsimp only [go_sem, Nat.reduceSub, Nat.reduceAdd, Nat.reduceMul, Nat.reduceLT, Nat.reduceLeDiff, Nat.reduceEqDiff, Nat.reduceDiv, Nat.reduceMod, Int.reduceToNat, Int.reduceLE, Int.reduceLT, Int.reduceBEq, Int.reduceBNe, Int.reduceNeg, Int.reduceAdd, Int.reduceSub, Int.reduceMul, reduceCtorEq] | simp -implicitDefEqProofs -dsimp (disch := omega) only [wrap_i64])); repeat (with_reducible refine sideA ?_)))
    (first | refine callT.at (rQuakes_ok R (by omega)) ⟨leA, leA, trivial⟩ ?_ | refine callS.at (rQuakes_ok R (by omega)) ⟨leA, leA, trivial⟩ ?_)
    (repeat ((repeat1' (first | simp -implicitDefEqProofs -dsimp only [go_sem, Nat.reduceSub, Nat.reduceAdd, Nat.reduceMul, Nat.reduceLT, Nat.reduceLeDiff, Nat.reduceEqDiff, Nat.reduceDiv, Nat.reduceMod, Int.reduceToNat, Int.reduceLE, Int.reduceLT, Int.reduceBEq, Int.reduceBNe, Int.reduceNeg, Int.reduceAdd, Int.reduceSub, Int.reduceMul, reduceCtorEq] | simp -implicitDefEqProofs -dsimp (disch := omega) only [wrap_i64])); repeat (with_reducible refine sideA ?_)))
    have pbL := fun i => psum_bound (f := QuakeRow.Grade) (B := 4) (L := L1.take i) (fun x hx => b3 x (List.mem_of_mem_take hx))
    have pbR := fun i => psum_bound (f := QuakeRow.Grade) (B := 4) (L := R.take i) (fun x hx => b4 x (List.mem_of_mem_take hx))
    refine LoopT.intro (fun i : Nat => i ≤ L1.length) (fun i => ⟨[ByteS.sl L, .undef, .undef, QuakeRow.sl L1, .undef, QuakeRow.sl R, .undef, .undef, .undef, .int .i64 (psum QuakeRow.Grade (L1.take i)), .int .i64 0, .int .i64 i, .undef, .undef, .undef, .undef, .undef, .undef, .undef, .undef, .undef, .undef, .undef, .undef, .undef, .undef, .undef, .undef, .undef, .undef, .undef, .undef, .undef, .undef, .undef, .undef, .undef, .undef, .undef, .undef, .undef, .undef, .undef, .undef, .undef, .undef, .undef, .undef, .undef, .undef, .undef, .undef, .undef, .undef, .undef, .undef, .undef, .undef, .undef, .undef, .undef, .undef, .undef, .undef, .undef, .undef, .undef, .undef, .undef, .undef, .undef, .undef, .undef, .undef, .undef, .undef, .undef, .undef, .undef, .undef, .undef, .undef, .undef, .undef, .undef, .undef, .undef, .undef, .undef, .undef, .undef, .undef, .undef, .undef, .undef, .undef, .undef, .undef, .undef, .undef, .undef, .undef, .undef, .undef, .undef, .undef, .undef, .undef, .undef, .undef, .undef, .undef, .undef, .undef, .undef, .undef, .undef, .undef, .undef, .undef, .undef, .undef, .undef, .undef, .undef, .undef, .undef, .undef, .undef, .undef, .undef, .undef, .undef, .undef, .undef, .undef, .undef, .undef, .undef, .undef, .undef, .undef, .undef, .undef, .undef, .undef, .undef, .undef, .undef, .undef, .undef, .undef, .undef, .undef, .undef, .undef, .undef, .undef, .undef, .undef, .undef, .undef, .undef, .undef, .undef, .undef, .undef, .undef, .undef, .undef, .undef, .undef, .undef, .undef, .undef, .undef, .undef, .undef, .undef, .undef, .undef, .undef, .undef, .undef, .undef, .undef, .undef, .undef, .undef, .undef, .undef, .undef, .undef, .undef, .undef, .undef, .undef, .undef, .undef, .undef, .undef, .undef, .undef, .undef, .undef, .undef, .undef, .undef, .undef, .undef, .undef, .undef, .undef, .undef, .undef, .undef, .undef, .undef, .undef, .undef, .undef, .undef, .undef, .undef, .undef, .undef, .undef, .undef, .undef, .undef, .undef, .undef, .undef, .undef, .undef, .undef, .undef], [], 0⟩) (fun i => L1.length - i) 0 (Nat.zero_le _) ?_ (fun i hi => ?_)
    · refine Weak.cut (0) (by simp) (by simp) ?_ ?_
      · simp [LeC, LeV, ren, cutF, psum]
      · rfl
    simp -implicitDefEqProofs -dsimp only [go_sem, Nat.reduceSub, Nat.reduceAdd, Nat.reduceMul, Nat.reduceLT, Nat.reduceLeDiff, Nat.reduceEqDiff, Nat.reduceDiv, Nat.reduceMod, Int.reduceToNat, Int.reduceLE, Int.reduceLT, Int.reduceBEq, Int.reduceBNe, Int.reduceNeg, Int.reduceAdd, Int.reduceSub, Int.reduceMul, reduceCtorEq]
    refine condT.split (fun g1 => ?_) (fun g1 => ?_)
    · have hil : i < L1.length := by simpa using g1
      have hr := rows_at QuakeRow.csl hil
      have hb := pbL i
      have hbl : (((L1.take i).length : Nat) : Int) * 4 ≤ 48 := by simp; omega
      have hx := b3 _ (List.getElem_mem hil)
      have hw : IntKind.i64.wrap (psum QuakeRow.Grade (L1.take i) + L1[i].Grade) = psum QuakeRow.Grade (L1.take (i + 1)) := by rw [wrap_i64 (by omega) (by omega), psum_succ _ hil]
      (repeat ((repeat1' (first | simp -implicitDefEqProofs -dsimp only [go_sem, Nat.reduceSub, Nat.reduceAdd, Nat.reduceMul, Nat.reduceLT, Nat.reduceLeDiff, Nat.reduceEqDiff, Nat.reduceDiv, Nat.reduceMod, Int.reduceToNat, Int.reduceLE, Int.reduceLT, Int.reduceBEq, Int.reduceBNe, Int.reduceNeg, Int.reduceAdd, Int.reduceSub, Int.reduceMul, reduceCtorEq, g1, hr, QuakeRow.cs, hw] | simp -implicitDefEqProofs -dsimp (disch := omega) only [wrap_i64])); repeat (with_reducible refine sideA ?_)))
      refine ⟨i + 1, hil, ?_, by omega⟩
      refine Weak.cut (0) (by simp) (by simp) ?_ ?_
      · simp [LeC, LeV, ren, cutF]
      · rfl
    · (repeat ((repeat1' (first | simp -implicitDefEqProofs -dsimp only [go_sem, Nat.reduceSub, Nat.reduceAdd, Nat.reduceMul, Nat.reduceLT, Nat.reduceLeDiff, Nat.reduceEqDiff, Nat.reduceDiv, Nat.reduceMod, Int.reduceToNat, Int.reduceLE, Int.reduceLT, Int.reduceBEq, Int.reduceBNe, Int.reduceNeg, Int.reduceAdd, Int.reduceSub, Int.reduceMul, reduceCtorEq, g1] | simp -implicitDefEqProofs -dsimp (disch := omega) only [wrap_i64])); repeat (with_reducible refine sideA ?_)))
      have hil : i = L1.length := by simp at g1; omega
      subst hil
      rw [List.take_length]
      refine LoopT.intro (fun i : Nat => i ≤ R.length) (fun i => ⟨[ByteS.sl L, .undef, .undef, QuakeRow.sl L1, .undef, QuakeRow.sl R, .undef, .undef, .undef, .int .i64 (psum QuakeRow.Grade L1), .int .i64 (psum QuakeRow.Grade (R.take i)), .undef, .int .i64 i, .undef, .undef, .undef, .undef, .undef, .undef, .undef, .undef, .undef, .undef, .undef, .undef, .undef, .undef, .undef, .undef, .undef, .undef, .undef, .undef, .undef, .undef, .undef, .undef, .undef, .undef, .undef, .undef, .undef, .undef, .undef, .undef, .undef, .undef, .undef, .undef, .undef, .undef, .undef, .undef, .undef, .undef, .undef, .undef, .undef, .undef, .undef, .undef, .undef, .undef, .undef, .undef, .undef, .undef, .undef, .undef, .undef, .undef, .undef, .undef, .undef, .undef, .undef, .undef, .undef, .undef, .undef, .undef, .undef, .undef, .undef, .undef, .undef, .undef, .undef, .undef, .undef, .undef, .undef, .undef, .undef, .undef, .undef, .undef, .undef, .undef, .undef, .undef, .undef, .undef, .undef, .undef, .undef, .undef, .undef, .undef, .undef, .undef, .undef, .undef, .undef, .undef, .undef, .undef, .undef, .undef, .undef, .undef, .undef, .undef, .undef, .undef, .undef, .undef, .undef, .undef, .undef, .undef, .undef, .undef, .undef, .undef, .undef, .undef, .undef, .undef, .undef, .undef, .undef, .undef, .undef, .undef, .undef, .undef, .undef, .undef, .undef, .undef, .undef, .undef, .undef, .undef, .undef, .undef, .undef, .undef, .undef, .undef, .undef, .undef, .undef, .undef, .undef, .undef, .undef, .undef, .undef, .undef, .undef, .undef, .undef, .undef, .undef, .undef, .undef, .undef, .undef, .undef, .undef, .undef, .undef, .undef, .undef, .undef, .undef, .undef, .undef, .undef, .undef, .undef, .undef, .undef, .undef, .undef, .undef, .undef, .undef, .undef, .undef, .undef, .undef, .undef, .undef, .undef, .undef, .undef, .undef, .undef, .undef, .undef, .undef, .undef, .undef, .undef, .undef, .undef, .undef, .undef, .undef, .undef, .undef, .undef, .undef, .undef, .undef, .undef, .undef, .undef, .undef, .undef, .undef, .undef, .undef, .undef], [], 0⟩) (fun i => R.length - i) 0 (Nat.zero_le _) ?_ (fun i hi => ?_)
      · refine Weak.cut (0) (by simp) (by simp) ?_ ?_
        · simp [LeC, LeV, ren, cutF, psum]
        · rfl
      simp -implicitDefEqProofs -dsimp only [go_sem, Nat.reduceSub, Nat.reduceAdd, Nat.reduceMul, Nat.reduceLT, Nat.reduceLeDiff, Nat.reduceEqDiff, Nat.reduceDiv, Nat.reduceMod, Int.reduceToNat, Int.reduceLE, Int.reduceLT, Int.reduceBEq, Int.reduceBNe, Int.reduceNeg, Int.reduceAdd, Int.reduceSub, Int.reduceMul, reduceCtorEq]
      refine condT.split (fun g2 => ?_) (fun g2 => ?_)
      · have hil : i < R.length := by simpa using g2
        have hr := rows_at QuakeRow.csl hil
        have hb := pbR i
        have hbl : (((R.take i).length : Nat) : Int) * 4 ≤ 48 := by simp; omega
        have hx := b4 _ (List.getElem_mem hil)
        have hw : IntKind.i64.wrap (psum QuakeRow.Grade (R.take i) + R[i].Grade) = psum QuakeRow.Grade (R.take (i + 1)) := by rw [wrap_i64 (by omega) (by omega), psum_succ _ hil]
        (repeat ((repeat1' (first | simp -implicitDefEqProofs -dsimp only [go_sem, Nat.reduceSub, Nat.reduceAdd, Nat.reduceMul, Nat.reduceLT, Nat.reduceLeDiff, Nat.reduceEqDiff, Nat.reduceDiv, Nat.reduceMod, Int.reduceToNat, Int.reduceLE, Int.reduceLT, Int.reduceBEq, Int.reduceBNe, Int.reduceNeg, Int.reduceAdd, Int.reduceSub, Int.reduceMul, reduceCtorEq, g2, hr, QuakeRow.cs, hw] | simp -implicitDefEqProofs -dsimp (disch := omega) only [wrap_i64])); repeat (with_reducible refine sideA ?_)))
        refine ⟨i + 1, hil, ?_, by omega⟩
        refine Weak.cut (0) (by simp) (by simp) ?_ ?_
        · simp [LeC, LeV, ren, cutF]
        · rfl
      · have hil : i = R.length := by simp at g2; omega
        subst hil
        rw [List.take_length]
        have hg3 : decide (psum QuakeRow.Grade L1 < psum QuakeRow.Grade R) = false := decide_eq_false (by omega)
        (repeat ((repeat1' (first | simp -implicitDefEqProofs -dsimp only [go_sem, Nat.reduceSub, Nat.reduceAdd, Nat.reduceMul, Nat.reduceLT, Nat.reduceLeDiff, Nat.reduceEqDiff, Nat.reduceDiv, Nat.reduceMod, Int.reduceToNat, Int.reduceLE, Int.reduceLT, Int.reduceBEq, Int.reduceBNe, Int.reduceNeg, Int.reduceAdd, Int.reduceSub, Int.reduceMul, reduceCtorEq, g2, b1, hg3] | simp -implicitDefEqProofs -dsimp (disch := omega) only [wrap_i64])); repeat (with_reducible refine sideA ?_)))
        refine callS.rel [] (drawDepthCounts_ok hB) (by decide) ⟨leO, trivial⟩ rfl rfl (fun r hout hΦ => ?_)
        obtain ⟨L2, K2, hL2, hK2, hk2, rfl, rfl⟩ := hΦ
        refine ⟨trivial, ?_⟩
        (repeat ((repeat1' (first | simp -implicitDefEqProofs -dsimp only [go_sem, Nat.reduceSub, Nat.reduceAdd, Nat.reduceMul, Nat.reduceLT, Nat.reduceLeDiff, Nat.reduceEqDiff, Nat.reduceDiv, Nat.reduceMod, Int.reduceToNat, Int.reduceLE, Int.reduceLT, Int.reduceBEq, Int.reduceBNe, Int.reduceNeg, Int.reduceAdd, Int.reduceSub, Int.reduceMul, reduceCtorEq] | simp -implicitDefEqProofs -dsimp (disch := omega) only [wrap_i64])); repeat (with_reducible refine sideA ?_)))
        have hi2 := (iDepthCounts_ok L2 K2 (by have := hL2.2; omega) (by omega)).weak (frzN (cs := IntS.cs) (depthR L2 K2))
        have hs2 := (sDepthCounts_ok L2 K2 (by have := hL2.2; omega) (by omega)).weak (frzO (cs := IntS.cs) (depthR L2 K2))
        simp only [frzV] at hi2 hs2
        cases hdr : depthR L2 K2 with
        | none =>
          rw [hdr] at hi2 hs2
          simp only [Option.getD_none, Option.isSome_none] at hi2 hs2
          (first | refine callT.at (hi2) ⟨leA, leA, trivial⟩ ?_ | refine callS.at (hi2) ⟨leA, leA, trivial⟩ ?_)
          (repeat ((repeat1' (first | simp -implicitDefEqProofs -dsimp only [go_sem, Nat.reduceSub, Nat.reduceAdd, Nat.reduceMul, Nat.reduceLT, Nat.reduceLeDiff, Nat.reduceEqDiff, Nat.reduceDiv, Nat.reduceMod, Int.reduceToNat, Int.reduceLE, Int.reduceLT, Int.reduceBEq, Int.reduceBNe, Int.reduceNeg, Int.reduceAdd, Int.reduceSub, Int.reduceMul, reduceCtorEq] | simp -implicitDefEqProofs -dsimp (disch := omega) only [wrap_i64])); repeat (with_reducible refine sideA ?_)))
          (first | refine callT.at (hs2) ⟨leA, leA, trivial⟩ ?_ | refine callS.at (hs2) ⟨leA, leA, trivial⟩ ?_)
          (repeat ((repeat1' (first | simp -implicitDefEqProofs -dsimp only [go_sem, Nat.reduceSub, Nat.reduceAdd, Nat.reduceMul, Nat.reduceLT, Nat.reduceLeDiff, Nat.reduceEqDiff, Nat.reduceDiv, Nat.reduceMod, Int.reduceToNat, Int.reduceLE, Int.reduceLT, Int.reduceBEq, Int.reduceBNe, Int.reduceNeg, Int.reduceAdd, Int.reduceSub, Int.reduceMul, reduceCtorEq] | simp -implicitDefEqProofs -dsimp (disch := omega) only [wrap_i64])); repeat (with_reducible refine sideA ?_)))
          (first | refine callT.at (rInts_ok [] (by simp)) ⟨leA, leA, trivial⟩ ?_ | refine callS.at (rInts_ok [] (by simp)) ⟨leA, leA, trivial⟩ ?_)
          (repeat ((repeat1' (first | simp -implicitDefEqProofs -dsimp only [go_sem, Nat.reduceSub, Nat.reduceAdd, Nat.reduceMul, Nat.reduceLT, Nat.reduceLeDiff, Nat.reduceEqDiff, Nat.reduceDiv, Nat.reduceMod, Int.reduceToNat, Int.reduceLE, Int.reduceLT, Int.reduceBEq, Int.reduceBNe, Int.reduceNeg, Int.reduceAdd, Int.reduceSub, Int.reduceMul, reduceCtorEq] | simp -implicitDefEqProofs -dsimp (disch := omega) only [wrap_i64])); repeat (with_reducible refine sideA ?_)))
          refine callS.rel [] (drawQuietRun_ok hB) (by decide) ⟨leO, trivial⟩ rfl rfl (fun r hout hΦ => ?_)
          obtain ⟨L3, size, hL3, hsz, rfl, rfl⟩ := hΦ
          refine ⟨trivial, ?_⟩
          (repeat ((repeat1' (first | simp -implicitDefEqProofs -dsimp only [go_sem, Nat.reduceSub, Nat.reduceAdd, Nat.reduceMul, Nat.reduceLT, Nat.reduceLeDiff, Nat.reduceEqDiff, Nat.reduceDiv, Nat.reduceMod, Int.reduceToNat, Int.reduceLE, Int.reduceLT, Int.reduceBEq, Int.reduceBNe, Int.reduceNeg, Int.reduceAdd, Int.reduceSub, Int.reduceMul, reduceCtorEq] | simp -implicitDefEqProofs -dsimp (disch := omega) only [wrap_i64])); repeat (with_reducible refine sideA ?_)))
          obtain ⟨fr, to, told, hq, hqt⟩ := quietR_cases L3 size
          have hi3 := iQuietRun_ok L3 size (by have := hL3.2; omega)
          have hs3 := sQuietRun_ok L3 size (by have := hL3.2; omega)
          rw [hq] at hi3 hs3
          (first | refine callT.at (hi3) ⟨leA, leA, trivial⟩ ?_ | refine callS.at (hi3) ⟨leA, leA, trivial⟩ ?_)
          (repeat ((repeat1' (first | simp -implicitDefEqProofs -dsimp only [go_sem, Nat.reduceSub, Nat.reduceAdd, Nat.reduceMul, Nat.reduceLT, Nat.reduceLeDiff, Nat.reduceEqDiff, Nat.reduceDiv, Nat.reduceMod, Int.reduceToNat, Int.reduceLE, Int.reduceLT, Int.reduceBEq, Int.reduceBNe, Int.reduceNeg, Int.reduceAdd, Int.reduceSub, Int.reduceMul, reduceCtorEq] | simp -implicitDefEqProofs -dsimp (disch := omega) only [wrap_i64])); repeat (with_reducible refine sideA ?_)))
          (first | refine callT.at (hs3) ⟨leA, leA, trivial⟩ ?_ | refine callS.at (hs3) ⟨leA, leA, trivial⟩ ?_)
          (repeat ((repeat1' (first | simp -implicitDefEqProofs -dsimp only [go_sem, Nat.reduceSub, Nat.reduceAdd, Nat.reduceMul, Nat.reduceLT, Nat.reduceLeDiff, Nat.reduceEqDiff, Nat.reduceDiv, Nat.reduceMod, Int.reduceToNat, Int.reduceLE, Int.reduceLT, Int.reduceBEq, Int.reduceBNe, Int.reduceNeg, Int.reduceAdd, Int.reduceSub, Int.reduceMul, reduceCtorEq] | simp -implicitDefEqProofs -dsimp (disch := omega) only [wrap_i64])); repeat (with_reducible refine sideA ?_)))
          refine LoopT.intro (fun i : Nat => i ≤ L3.length ∧ (told = false → i = 0)) (fun i => ⟨[ByteS.sl L, .undef, .undef, .undef, .undef, .undef, .undef, .undef, .undef, .undef, .undef, .undef, .undef, .undef, .undef, .undef, .undef, .undef, .undef, QuakeRow.sl L3, .int .i64 size, .int .i64 fr, .int .i64 to, .bool told, .undef, .undef, .undef, .int .i64 (qs (qT size (L3.take i))).1, .int .i64 i, .undef, .undef, .undef, .undef, .undef, .undef, .undef, .undef, .undef, .undef, .undef, .undef, .undef, .undef, .undef, .undef, .undef, .undef, .undef, .undef, .undef, .undef, .undef, .undef, .undef, .undef, .undef, .undef, .undef, .undef, .undef, .undef, .undef, .undef, .undef, .undef, .undef, .undef, .undef, .undef, .undef, .undef, .undef, .undef, .undef, .undef, .undef, .undef, .undef, .undef, .undef, .undef, .undef, .undef, .undef, .undef, .undef, .undef, .undef, .undef, .undef, .undef, .undef, .undef, .undef, .undef, .undef, .undef, .undef, .undef, .undef, .undef, .undef, .undef, .undef, .undef, .undef, .undef, .undef, .undef, .undef, .undef, .undef, .undef, .undef, .undef, .undef, .undef, .undef, .undef, .undef, .undef, .undef, .undef, .undef, .undef, .undef, .undef, .undef, .undef, .undef, .undef, .undef, .undef, .undef, .undef, .undef, .undef, .undef, .undef, .undef, .undef, .undef, .undef, .undef, .undef, .undef, .undef, .undef, .undef, .undef, .undef, .undef, .undef, .undef, .undef, .undef, .undef, .undef, .undef, .undef, .undef, .undef, .undef, .undef, .undef, .undef, .undef, .undef, .undef, .undef, .undef, .undef, .undef, .undef, .undef, .undef, .undef, .undef, .undef, .undef, .undef, .undef, .undef, .undef, .undef, .undef, .undef, .undef, .undef, .undef, .undef, .undef, .undef, .undef, .undef, .undef, .undef, .undef, .undef, .undef, .undef, .undef, .undef, .undef, .undef, .undef, .undef, .undef, .undef, .undef, .undef, .undef, .undef, .undef, .undef, .undef, .undef, .undef, .undef, .undef, .undef, .undef, .undef, .undef, .undef, .undef, .undef, .undef, .undef, .undef, .undef, .undef, .undef, .undef, .undef, .undef, .undef], [], 0⟩) (fun i => L3.length - i) 0 ⟨Nat.zero_le _, fun _ => rfl⟩ ?_ (fun i hi => ?_)
          · refine Weak.cut (0) (by simp) (by simp) ?_ ?_
            · simp [LeC, LeV, ren, cutF, qT, qs]
            · rfl
          obtain ⟨hi, hi0⟩ := hi
          by_cases hil : i < L3.length
          · have hd : decide ((i : Int) < (L3.length : Int)) = true := decide_eq_true (by omega)
            cases told with
            | false =>
              (repeat ((repeat1' (first | simp -implicitDefEqProofs -dsimp only [go_sem, Nat.reduceSub, Nat.reduceAdd, Nat.reduceMul, Nat.reduceLT, Nat.reduceLeDiff, Nat.reduceEqDiff, Nat.reduceDiv, Nat.reduceMod, Int.reduceToNat, Int.reduceLE, Int.reduceLT, Int.reduceBEq, Int.reduceBNe, Int.reduceNeg, Int.reduceAdd, Int.reduceSub, Int.reduceMul, reduceCtorEq, hd] | simp -implicitDefEqProofs -dsimp (disch := omega) only [wrap_i64])); repeat (with_reducible refine sideA ?_)))
              refine callS.rel [] (drawQuakesNear_ok hB) (by decide) ⟨leO, trivial⟩ rfl rfl (fun r hout hΦ => ?_)
              obtain ⟨L4, x4, y4, f4, hL4, hx4, hy4, hf4, rfl, rfl⟩ := hΦ
              refine ⟨trivial, ?_⟩
              (repeat ((repeat1' (first | simp -implicitDefEqProofs -dsimp only [go_sem, Nat.reduceSub, Nat.reduceAdd, Nat.reduceMul, Nat.reduceLT, Nat.reduceLeDiff, Nat.reduceEqDiff, Nat.reduceDiv, Nat.reduceMod, Int.reduceToNat, Int.reduceLE, Int.reduceLT, Int.reduceBEq, Int.reduceBNe, Int.reduceNeg, Int.reduceAdd, Int.reduceSub, Int.reduceMul, reduceCtorEq] | simp -implicitDefEqProofs -dsimp (disch := omega) only [wrap_i64])); repeat (with_reducible refine sideA ?_)))
              have hi4 := (iQuakesNear_ok L4 x4 y4 f4 (by have := hL4.2; omega)).weak (frzN (cs := IntS.cs) (nearR L4 x4 y4 f4))
              have hs4 := (sQuakesNear_ok L4 x4 y4 f4 (by have := hL4.2; omega)).weak (frzO (cs := IntS.cs) (nearR L4 x4 y4 f4))
              have hln : ((nearR L4 x4 y4 f4).getD []).length ≤ 1048576 := by
                unfold nearR
                split
                · simp only [Option.getD_some, List.length_map]
                  have := List.length_filter_le (nearB x4 y4 f4) L4
                  have := hL4.2
                  omega
                · simp
              simp only [frzV] at hi4 hs4
              generalize (nearR L4 x4 y4 f4).getD [] = N4 at hi4 hs4 hln
              generalize (nearR L4 x4 y4 f4).isSome = b4 at hi4 hs4
              (first | refine callT.at (hi4) ⟨leA, leA, leA, leA, trivial⟩ ?_ | refine callS.at (hi4) ⟨leA, leA, leA, leA, trivial⟩ ?_)
              (repeat ((repeat1' (first | simp -implicitDefEqProofs -dsimp only [go_sem, Nat.reduceSub, Nat.reduceAdd, Nat.reduceMul, Nat.reduceLT, Nat.reduceLeDiff, Nat.reduceEqDiff, Nat.reduceDiv, Nat.reduceMod, Int.reduceToNat, Int.reduceLE, Int.reduceLT, Int.reduceBEq, Int.reduceBNe, Int.reduceNeg, Int.reduceAdd, Int.reduceSub, Int.reduceMul, reduceCtorEq] | simp -implicitDefEqProofs -dsimp (disch := omega) only [wrap_i64])); repeat (with_reducible refine sideA ?_)))
              (first | refine callT.at (hs4) ⟨leA, leA, leA, leA, trivial⟩ ?_ | refine callS.at (hs4) ⟨leA, leA, leA, leA, trivial⟩ ?_)
              (repeat ((repeat1' (first | simp -implicitDefEqProofs -dsimp only [go_sem, Nat.reduceSub, Nat.reduceAdd, Nat.reduceMul, Nat.reduceLT, Nat.reduceLeDiff, Nat.reduceEqDiff, Nat.reduceDiv, Nat.reduceMod, Int.reduceToNat, Int.reduceLE, Int.reduceLT, Int.reduceBEq, Int.reduceBNe, Int.reduceNeg, Int.reduceAdd, Int.reduceSub, Int.reduceMul, reduceCtorEq] | simp -implicitDefEqProofs -dsimp (disch := omega) only [wrap_i64])); repeat (with_reducible refine sideA ?_)))
              (first | refine callT.at (rInts_ok N4 hln) ⟨leA, leA, trivial⟩ ?_ | refine callS.at (rInts_ok N4 hln) ⟨leA, leA, trivial⟩ ?_)
              (repeat ((repeat1' (first | simp -implicitDefEqProofs -dsimp only [go_sem, Nat.reduceSub, Nat.reduceAdd, Nat.reduceMul, Nat.reduceLT, Nat.reduceLeDiff, Nat.reduceEqDiff, Nat.reduceDiv, Nat.reduceMod, Int.reduceToNat, Int.reduceLE, Int.reduceLT, Int.reduceBEq, Int.reduceBNe, Int.reduceNeg, Int.reduceAdd, Int.reduceSub, Int.reduceMul, reduceCtorEq] | simp -implicitDefEqProofs -dsimp (disch := omega) only [wrap_i64])); repeat (with_reducible refine sideA ?_)))
              exact WeakR.drop' (by simp) (by rfl)
            | true =>
              obtain ⟨hbl, hf, ht⟩ := hqt rfl
              obtain ⟨hv, _⟩ := bulB_all hbl
              have hr := rows_at QuakeRow.csl hil
              have hw1 : IntKind.i64.wrap ((i : Int) + 1) = ((i + 1 : Nat) : Int) := by rw [wrap_i64 (by omega) (by omega)]; omega
              have hsucc := qT_succ (size := size) hil
              have hgo := quiet_facts (size := size) hil
              have hrng := qs_rng (qT_rng (size := size) hv i)
              have hrngF := qs_rng (T := qT size L3) (by have := qT_rng (size := size) hv L3.length; rwa [List.take_length] at this)
              have htk := (qrB_iff.1 (hv _ (List.getElem_mem hil))).2.1
              have hsn := qs_snoc1 (qT size (L3.take i)) L3[i].Tick
              have hw2 : IntKind.i64.wrap (L3[i].Tick - (qs (qT size (L3.take i))).1) = L3[i].Tick - (qs (qT size (L3.take i))).1 := wrap_i64 (by omega) (by omega)
              have hw3 : IntKind.i64.wrap (to - fr) = to - fr := by rw [hf, ht]; exact wrap_i64 (by omega) (by omega)
              (repeat ((repeat1' (first | simp -implicitDefEqProofs -dsimp only [go_sem, Nat.reduceSub, Nat.reduceAdd, Nat.reduceMul, Nat.reduceLT, Nat.reduceLeDiff, Nat.reduceEqDiff, Nat.reduceDiv, Nat.reduceMod, Int.reduceToNat, Int.reduceLE, Int.reduceLT, Int.reduceBEq, Int.reduceBNe, Int.reduceNeg, Int.reduceAdd, Int.reduceSub, Int.reduceMul, reduceCtorEq, hd, hr, QuakeRow.cs] | simp -implicitDefEqProofs -dsimp (disch := omega) only [wrap_i64])); repeat (with_reducible refine sideA ?_)))
              refine condT.split (fun g1 => ?_) (fun g1 => ?_)
              · have hst : strongB size L3[i] = false := by simp at g1; simp [strongB]; omega
                (repeat ((repeat1' (first | simp -implicitDefEqProofs -dsimp only [go_sem, Nat.reduceSub, Nat.reduceAdd, Nat.reduceMul, Nat.reduceLT, Nat.reduceLeDiff, Nat.reduceEqDiff, Nat.reduceDiv, Nat.reduceMod, Int.reduceToNat, Int.reduceLE, Int.reduceLT, Int.reduceBEq, Int.reduceBNe, Int.reduceNeg, Int.reduceAdd, Int.reduceSub, Int.reduceMul, reduceCtorEq, g1, hw1] | simp -implicitDefEqProofs -dsimp (disch := omega) only [wrap_i64])); repeat (with_reducible refine sideA ?_)))
                rw [hst] at hsucc
                simp only [Bool.false_eq_true, if_false, List.append_nil] at hsucc
                refine ⟨i + 1, ⟨hil, fun h => by cases h⟩, ?_, by omega⟩
                refine Weak.cut (0) (by simp) (by simp) ?_ ?_
                · rw [hsucc]
                  simp [LeC, LeV, ren, cutF]
                · rfl
              · have hst : strongB size L3[i] = true := by simp at g1; simp [strongB]; omega
                rw [hst] at hsucc
                simp only [if_true] at hsucc
                rw [← hsucc] at hsn
                by_cases hl0 : 0 ≤ (qs (qT size (L3.take i))).1
                · have hgo2 := hgo hst hl0
                  have hg2 : decide (0 ≤ (qs (qT size (L3.take i))).1) = true := decide_eq_true hl0
                  have hg3 : decide (to - fr < L3[i].Tick - (qs (qT size (L3.take i))).1) = false := decide_eq_false (by rw [hf, ht]; omega)
                  (repeat ((repeat1' (first | simp -implicitDefEqProofs -dsimp only [go_sem, Nat.reduceSub, Nat.reduceAdd, Nat.reduceMul, Nat.reduceLT, Nat.reduceLeDiff, Nat.reduceEqDiff, Nat.reduceDiv, Nat.reduceMod, Int.reduceToNat, Int.reduceLE, Int.reduceLT, Int.reduceBEq, Int.reduceBNe, Int.reduceNeg, Int.reduceAdd, Int.reduceSub, Int.reduceMul, reduceCtorEq, g1, hw1, hg2, hr, QuakeRow.cs, hw2, hw3, hg3] | simp -implicitDefEqProofs -dsimp (disch := omega) only [wrap_i64])); repeat (with_reducible refine sideA ?_)))
                  refine ⟨i + 1, ⟨hil, fun h => by cases h⟩, ?_, by omega⟩
                  refine Weak.cut (0) (by simp) (by simp) ?_ ?_
                  · rw [hsn]
                    simp [LeC, LeV, ren, cutF]
                  · rfl
                · have hg2 : decide (0 ≤ (qs (qT size (L3.take i))).1) = false := decide_eq_false hl0
                  (repeat ((repeat1' (first | simp -implicitDefEqProofs -dsimp only [go_sem, Nat.reduceSub, Nat.reduceAdd, Nat.reduceMul, Nat.reduceLT, Nat.reduceLeDiff, Nat.reduceEqDiff, Nat.reduceDiv, Nat.reduceMod, Int.reduceToNat, Int.reduceLE, Int.reduceLT, Int.reduceBEq, Int.reduceBNe, Int.reduceNeg, Int.reduceAdd, Int.reduceSub, Int.reduceMul, reduceCtorEq, g1, hw1, hg2, hr, QuakeRow.cs] | simp -implicitDefEqProofs -dsimp (disch := omega) only [wrap_i64])); repeat (with_reducible refine sideA ?_)))
                  refine ⟨i + 1, ⟨hil, fun h => by cases h⟩, ?_, by omega⟩
                  refine Weak.cut (0) (by simp) (by simp) ?_ ?_
                  · rw [hsn]
                    simp [LeC, LeV, ren, cutF]
                  · rfl
          · have hd : decide ((i : Int) < (L3.length : Int)) = false := decide_eq_false (by omega)
            (repeat ((repeat1' (first | simp -implicitDefEqProofs -dsimp only [go_sem, Nat.reduceSub, Nat.reduceAdd, Nat.reduceMul, Nat.reduceLT, Nat.reduceLeDiff, Nat.reduceEqDiff, Nat.reduceDiv, Nat.reduceMod, Int.reduceToNat, Int.reduceLE, Int.reduceLT, Int.reduceBEq, Int.reduceBNe, Int.reduceNeg, Int.reduceAdd, Int.reduceSub, Int.reduceMul, reduceCtorEq, hd] | simp -implicitDefEqProofs -dsimp (disch := omega) only [wrap_i64])); repeat (with_reducible refine sideA ?_)))
            refine callS.rel [] (drawQuakesNear_ok hB) (by decide) ⟨leO, trivial⟩ rfl rfl (fun r hout hΦ => ?_)
            obtain ⟨L4, x4, y4, f4, hL4, hx4, hy4, hf4, rfl, rfl⟩ := hΦ
            refine ⟨trivial, ?_⟩
            (repeat ((repeat1' (first | simp -implicitDefEqProofs -dsimp only [go_sem, Nat.reduceSub, Nat.reduceAdd, Nat.reduceMul, Nat.reduceLT, Nat.reduceLeDiff, Nat.reduceEqDiff, Nat.reduceDiv, Nat.reduceMod, Int.reduceToNat, Int.reduceLE, Int.reduceLT, Int.reduceBEq, Int.reduceBNe, Int.reduceNeg, Int.reduceAdd, Int.reduceSub, Int.reduceMul, reduceCtorEq] | simp -implicitDefEqProofs -dsimp (disch := omega) only [wrap_i64])); repeat (with_reducible refine sideA ?_)))
            have hi4 := (iQuakesNear_ok L4 x4 y4 f4 (by have := hL4.2; omega)).weak (frzN (cs := IntS.cs) (nearR L4 x4 y4 f4))
            have hs4 := (sQuakesNear_ok L4 x4 y4 f4 (by have := hL4.2; omega)).weak (frzO (cs := IntS.cs) (nearR L4 x4 y4 f4))
            have hln : ((nearR L4 x4 y4 f4).getD []).length ≤ 1048576 := by
              unfold nearR
              split
              · simp only [Option.getD_some, List.length_map]
                have := List.length_filter_le (nearB x4 y4 f4) L4
                have := hL4.2
                omega
              · simp
            simp only [frzV] at hi4 hs4
            generalize (nearR L4 x4 y4 f4).getD [] = N4 at hi4 hs4 hln
            generalize (nearR L4 x4 y4 f4).isSome = b4 at hi4 hs4
            (first | refine callT.at (hi4) ⟨leA, leA, leA, leA, trivial⟩ ?_ | refine callS.at (hi4) ⟨leA, leA, leA, leA, trivial⟩ ?_)
            (repeat ((repeat1' (first | simp -implicitDefEqProofs -dsimp only [go_sem, Nat.reduceSub, Nat.reduceAdd, Nat.reduceMul, Nat.reduceLT, Nat.reduceLeDiff, Nat.reduceEqDiff, Nat.reduceDiv, Nat.reduceMod, Int.reduceToNat, Int.reduceLE, Int.reduceLT, Int.reduceBEq, Int.reduceBNe, Int.reduceNeg, Int.reduceAdd, Int.reduceSub, Int.reduceMul, reduceCtorEq] | simp -implicitDefEqProofs -dsimp (disch := omega) only [wrap_i64])); repeat (with_reducible refine sideA ?_)))
            (first | refine callT.at (hs4) ⟨leA, leA, leA, leA, trivial⟩ ?_ | refine callS.at (hs4) ⟨leA, leA, leA, leA, trivial⟩ ?_)
            (repeat ((repeat1' (first | simp -implicitDefEqProofs -dsimp only [go_sem, Nat.reduceSub, Nat.reduceAdd, Nat.reduceMul, Nat.reduceLT, Nat.reduceLeDiff, Nat.reduceEqDiff, Nat.reduceDiv, Nat.reduceMod, Int.reduceToNat, Int.reduceLE, Int.reduceLT, Int.reduceBEq, Int.reduceBNe, Int.reduceNeg, Int.reduceAdd, Int.reduceSub, Int.reduceMul, reduceCtorEq] | simp -implicitDefEqProofs -dsimp (disch := omega) only [wrap_i64])); repeat (with_reducible refine sideA ?_)))
            (first | refine callT.at (rInts_ok N4 hln) ⟨leA, leA, trivial⟩ ?_ | refine callS.at (rInts_ok N4 hln) ⟨leA, leA, trivial⟩ ?_)
            (repeat ((repeat1' (first | simp -implicitDefEqProofs -dsimp only [go_sem, Nat.reduceSub, Nat.reduceAdd, Nat.reduceMul, Nat.reduceLT, Nat.reduceLeDiff, Nat.reduceEqDiff, Nat.reduceDiv, Nat.reduceMod, Int.reduceToNat, Int.reduceLE, Int.reduceLT, Int.reduceBEq, Int.reduceBNe, Int.reduceNeg, Int.reduceAdd, Int.reduceSub, Int.reduceMul, reduceCtorEq] | simp -implicitDefEqProofs -dsimp (disch := omega) only [wrap_i64])); repeat (with_reducible refine sideA ?_)))
            exact WeakR.drop' (by simp) (by rfl)
        | some D =>
          obtain ⟨d1, d2, d3⟩ := depth_facts hdr
          rw [hdr] at hi2 hs2
          simp only [Option.getD_some, Option.isSome_some] at hi2 hs2
          (first | refine callT.at (hi2) ⟨leA, leA, trivial⟩ ?_ | refine callS.at (hi2) ⟨leA, leA, trivial⟩ ?_)
          (repeat ((repeat1' (first | simp -implicitDefEqProofs -dsimp only [go_sem, Nat.reduceSub, Nat.reduceAdd, Nat.reduceMul, Nat.reduceLT, Nat.reduceLeDiff, Nat.reduceEqDiff, Nat.reduceDiv, Nat.reduceMod, Int.reduceToNat, Int.reduceLE, Int.reduceLT, Int.reduceBEq, Int.reduceBNe, Int.reduceNeg, Int.reduceAdd, Int.reduceSub, Int.reduceMul, reduceCtorEq] | simp -implicitDefEqProofs -dsimp (disch := omega) only [wrap_i64])); repeat (with_reducible refine sideA ?_)))
          (first | refine callT.at (hs2) ⟨leA, leA, trivial⟩ ?_ | refine callS.at (hs2) ⟨leA, leA, trivial⟩ ?_)
          (repeat ((repeat1' (first | simp -implicitDefEqProofs -dsimp only [go_sem, Nat.reduceSub, Nat.reduceAdd, Nat.reduceMul, Nat.reduceLT, Nat.reduceLeDiff, Nat.reduceEqDiff, Nat.reduceDiv, Nat.reduceMod, Int.reduceToNat, Int.reduceLE, Int.reduceLT, Int.reduceBEq, Int.reduceBNe, Int.reduceNeg, Int.reduceAdd, Int.reduceSub, Int.reduceMul, reduceCtorEq] | simp -implicitDefEqProofs -dsimp (disch := omega) only [wrap_i64])); repeat (with_reducible refine sideA ?_)))
          (first | refine callT.at (rInts_ok D (by omega)) ⟨leA, leA, trivial⟩ ?_ | refine callS.at (rInts_ok D (by omega)) ⟨leA, leA, trivial⟩ ?_)
          (repeat ((repeat1' (first | simp -implicitDefEqProofs -dsimp only [go_sem, Nat.reduceSub, Nat.reduceAdd, Nat.reduceMul, Nat.reduceLT, Nat.reduceLeDiff, Nat.reduceEqDiff, Nat.reduceDiv, Nat.reduceMod, Int.reduceToNat, Int.reduceLE, Int.reduceLT, Int.reduceBEq, Int.reduceBNe, Int.reduceNeg, Int.reduceAdd, Int.reduceSub, Int.reduceMul, reduceCtorEq] | simp -implicitDefEqProofs -dsimp (disch := omega) only [wrap_i64])); repeat (with_reducible refine sideA ?_)))
          (first | refine callT.at (rSum_ok D (by omega) (fun x hx => by have := d2 x hx; omega)) ⟨leA, trivial⟩ ?_ | refine callS.at (rSum_ok D (by omega) (fun x hx => by have := d2 x hx; omega)) ⟨leA, trivial⟩ ?_)
          (repeat ((repeat1' (first | simp -implicitDefEqProofs -dsimp only [go_sem, Nat.reduceSub, Nat.reduceAdd, Nat.reduceMul, Nat.reduceLT, Nat.reduceLeDiff, Nat.reduceEqDiff, Nat.reduceDiv, Nat.reduceMod, Int.reduceToNat, Int.reduceLE, Int.reduceLT, Int.reduceBEq, Int.reduceBNe, Int.reduceNeg, Int.reduceAdd, Int.reduceSub, Int.reduceMul, reduceCtorEq, d1] | simp -implicitDefEqProofs -dsimp (disch := omega) only [wrap_i64])); repeat (with_reducible refine sideA ?_)))
          refine callS.rel [] (drawQuietRun_ok hB) (by decide) ⟨leO, trivial⟩ rfl rfl (fun r hout hΦ => ?_)
          obtain ⟨L3, size, hL3, hsz, rfl, rfl⟩ := hΦ
          refine ⟨trivial, ?_⟩
          (repeat ((repeat1' (first | simp -implicitDefEqProofs -dsimp only [go_sem, Nat.reduceSub, Nat.reduceAdd, Nat.reduceMul, Nat.reduceLT, Nat.reduceLeDiff, Nat.reduceEqDiff, Nat.reduceDiv, Nat.reduceMod, Int.reduceToNat, Int.reduceLE, Int.reduceLT, Int.reduceBEq, Int.reduceBNe, Int.reduceNeg, Int.reduceAdd, Int.reduceSub, Int.reduceMul, reduceCtorEq] | simp -implicitDefEqProofs -dsimp (disch := omega) only [wrap_i64])); repeat (with_reducible refine sideA ?_)))
          obtain ⟨fr, to, told, hq, hqt⟩ := quietR_cases L3 size
          have hi3 := iQuietRun_ok L3 size (by have := hL3.2; omega)
          have hs3 := sQuietRun_ok L3 size (by have := hL3.2; omega)
          rw [hq] at hi3 hs3
          (first | refine callT.at (hi3) ⟨leA, leA, trivial⟩ ?_ | refine callS.at (hi3) ⟨leA, leA, trivial⟩ ?_)
          (repeat ((repeat1' (first | simp -implicitDefEqProofs -dsimp only [go_sem, Nat.reduceSub, Nat.reduceAdd, Nat.reduceMul, Nat.reduceLT, Nat.reduceLeDiff, Nat.reduceEqDiff, Nat.reduceDiv, Nat.reduceMod, Int.reduceToNat, Int.reduceLE, Int.reduceLT, Int.reduceBEq, Int.reduceBNe, Int.reduceNeg, Int.reduceAdd, Int.reduceSub, Int.reduceMul, reduceCtorEq] | simp -implicitDefEqProofs -dsimp (disch := omega) only [wrap_i64])); repeat (with_reducible refine sideA ?_)))
          (first | refine callT.at (hs3) ⟨leA, leA, trivial⟩ ?_ | refine callS.at (hs3) ⟨leA, leA, trivial⟩ ?_)
          (repeat ((repeat1' (first | simp -implicitDefEqProofs -dsimp only [go_sem, Nat.reduceSub, Nat.reduceAdd, Nat.reduceMul, Nat.reduceLT, Nat.reduceLeDiff, Nat.reduceEqDiff, Nat.reduceDiv, Nat.reduceMod, Int.reduceToNat, Int.reduceLE, Int.reduceLT, Int.reduceBEq, Int.reduceBNe, Int.reduceNeg, Int.reduceAdd, Int.reduceSub, Int.reduceMul, reduceCtorEq] | simp -implicitDefEqProofs -dsimp (disch := omega) only [wrap_i64])); repeat (with_reducible refine sideA ?_)))
          refine LoopT.intro (fun i : Nat => i ≤ L3.length ∧ (told = false → i = 0)) (fun i => ⟨[ByteS.sl L, .undef, .undef, .undef, .undef, .undef, .undef, .undef, .undef, .undef, .undef, .undef, .undef, .undef, .undef, .undef, .undef, .undef, .undef, QuakeRow.sl L3, .int .i64 size, .int .i64 fr, .int .i64 to, .bool told, .undef, .undef, .undef, .int .i64 (qs (qT size (L3.take i))).1, .int .i64 i, .undef, .undef, .undef, .undef, .undef, .undef, .undef, .undef, .undef, .undef, .undef, .undef, .undef, .undef, .undef, .undef, .undef, .undef, .undef, .undef, .undef, .undef, .undef, .undef, .undef, .undef, .undef, .undef, .undef, .undef, .undef, .undef, .undef, .undef, .undef, .undef, .undef, .undef, .undef, .undef, .undef, .undef, .undef, .undef, .undef, .undef, .undef, .undef, .undef, .undef, .undef, .undef, .undef, .undef, .undef, .undef, .undef, .undef, .undef, .undef, .undef, .undef, .undef, .undef, .undef, .undef, .undef, .undef, .undef, .undef, .undef, .undef, .undef, .undef, .undef, .undef, .undef, .undef, .undef, .undef, .undef, .undef, .undef, .undef, .undef, .undef, .undef, .undef, .undef, .undef, .undef, .undef, .undef, .undef, .undef, .undef, .undef, .undef, .undef, .undef, .undef, .undef, .undef, .undef, .undef, .undef, .undef, .undef, .undef, .undef, .undef, .undef, .undef, .undef, .undef, .undef, .undef, .undef, .undef, .undef, .undef, .undef, .undef, .undef, .undef, .undef, .undef, .undef, .undef, .undef, .undef, .undef, .undef, .undef, .undef, .undef, .undef, .undef, .undef, .undef, .undef, .undef, .undef, .undef, .undef, .undef, .undef, .undef, .undef, .undef, .undef, .undef, .undef, .undef, .undef, .undef, .undef, .undef, .undef, .undef, .undef, .undef, .undef, .undef, .undef, .undef, .undef, .undef, .undef, .undef, .undef, .undef, .undef, .undef, .undef, .undef, .undef, .undef, .undef, .undef, .undef, .undef, .undef, .undef, .undef, .undef, .undef, .undef, .undef, .undef, .undef, .undef, .undef, .undef, .undef, .undef, .undef, .undef, .undef, .undef, .undef, .undef, .undef, .undef, .undef, .undef, .undef, .undef], [], 0⟩) (fun i => L3.length - i) 0 ⟨Nat.zero_le _, fun _ => rfl⟩ ?_ (fun i hi => ?_)
          · refine Weak.cut (0) (by simp) (by simp) ?_ ?_
            · simp [LeC, LeV, ren, cutF, qT, qs]
            · rfl
          obtain ⟨hi, hi0⟩ := hi
          by_cases hil : i < L3.length
          · have hd : decide ((i : Int) < (L3.length : Int)) = true := decide_eq_true (by omega)
            cases told with
            | false =>
              (repeat ((repeat1' (first | simp -implicitDefEqProofs -dsimp only [go_sem, Nat.reduceSub, Nat.reduceAdd, Nat.reduceMul, Nat.reduceLT, Nat.reduceLeDiff, Nat.reduceEqDiff, Nat.reduceDiv, Nat.reduceMod, Int.reduceToNat, Int.reduceLE, Int.reduceLT, Int.reduceBEq, Int.reduceBNe, Int.reduceNeg, Int.reduceAdd, Int.reduceSub, Int.reduceMul, reduceCtorEq, hd] | simp -implicitDefEqProofs -dsimp (disch := omega) only [wrap_i64])); repeat (with_reducible refine sideA ?_)))
              refine callS.rel [] (drawQuakesNear_ok hB) (by decide) ⟨leO, trivial⟩ rfl rfl (fun r hout hΦ => ?_)
              obtain ⟨L4, x4, y4, f4, hL4, hx4, hy4, hf4, rfl, rfl⟩ := hΦ
              refine ⟨trivial, ?_⟩
              (repeat ((repeat1' (first | simp -implicitDefEqProofs -dsimp only [go_sem, Nat.reduceSub, Nat.reduceAdd, Nat.reduceMul, Nat.reduceLT, Nat.reduceLeDiff, Nat.reduceEqDiff, Nat.reduceDiv, Nat.reduceMod, Int.reduceToNat, Int.reduceLE, Int.reduceLT, Int.reduceBEq, Int.reduceBNe, Int.reduceNeg, Int.reduceAdd, Int.reduceSub, Int.reduceMul, reduceCtorEq] | simp -implicitDefEqProofs -dsimp (disch := omega) only [wrap_i64])); repeat (with_reducible refine sideA ?_)))
              have hi4 := (iQuakesNear_ok L4 x4 y4 f4 (by have := hL4.2; omega)).weak (frzN (cs := IntS.cs) (nearR L4 x4 y4 f4))
              have hs4 := (sQuakesNear_ok L4 x4 y4 f4 (by have := hL4.2; omega)).weak (frzO (cs := IntS.cs) (nearR L4 x4 y4 f4))
              have hln : ((nearR L4 x4 y4 f4).getD []).length ≤ 1048576 := by
                unfold nearR
                split
                · simp only [Option.getD_some, List.length_map]
                  have := List.length_filter_le (nearB x4 y4 f4) L4
                  have := hL4.2
                  omega
                · simp
              simp only [frzV] at hi4 hs4
              generalize (nearR L4 x4 y4 f4).getD [] = N4 at hi4 hs4 hln
              generalize (nearR L4 x4 y4 f4).isSome = b4 at hi4 hs4
              (first | refine callT.at (hi4) ⟨leA, leA, leA, leA, trivial⟩ ?_ | refine callS.at (hi4) ⟨leA, leA, leA, leA, trivial⟩ ?_)
              (repeat ((repeat1' (first | simp -implicitDefEqProofs -dsimp only [go_sem, Nat.reduceSub, Nat.reduceAdd, Nat.reduceMul, Nat.reduceLT, Nat.reduceLeDiff, Nat.reduceEqDiff, Nat.reduceDiv, Nat.reduceMod, Int.reduceToNat, Int.reduceLE, Int.reduceLT, Int.reduceBEq, Int.reduceBNe, Int.reduceNeg, Int.reduceAdd, Int.reduceSub, Int.reduceMul, reduceCtorEq] | simp -implicitDefEqProofs -dsimp (disch := omega) only [wrap_i64])); repeat (with_reducible refine sideA ?_)))
              (first | refine callT.at (hs4) ⟨leA, leA, leA, leA, trivial⟩ ?_ | refine callS.at (hs4) ⟨leA, leA, leA, leA, trivial⟩ ?_)
              (repeat ((repeat1' (first | simp -implicitDefEqProofs -dsimp only [go_sem, Nat.reduceSub, Nat.reduceAdd, Nat.reduceMul, Nat.reduceLT, Nat.reduceLeDiff, Nat.reduceEqDiff, Nat.reduceDiv, Nat.reduceMod, Int.reduceToNat, Int.reduceLE, Int.reduceLT, Int.reduceBEq, Int.reduceBNe, Int.reduceNeg, Int.reduceAdd, Int.reduceSub, Int.reduceMul, reduceCtorEq] | simp -implicitDefEqProofs -dsimp (disch := omega) only [wrap_i64])); repeat (with_reducible refine sideA ?_)))
              (first | refine callT.at (rInts_ok N4 hln) ⟨leA, leA, trivial⟩ ?_ | refine callS.at (rInts_ok N4 hln) ⟨leA, leA, trivial⟩ ?_)
              (repeat ((repeat1' (first | simp -implicitDefEqProofs -dsimp only [go_sem, Nat.reduceSub, Nat.reduceAdd, Nat.reduceMul, Nat.reduceLT, Nat.reduceLeDiff, Nat.reduceEqDiff, Nat.reduceDiv, Nat.reduceMod, Int.reduceToNat, Int.reduceLE, Int.reduceLT, Int.reduceBEq, Int.reduceBNe, Int.reduceNeg, Int.reduceAdd, Int.reduceSub, Int.reduceMul, reduceCtorEq] | simp -implicitDefEqProofs -dsimp (disch := omega) only [wrap_i64])); repeat (with_reducible refine sideA ?_)))
              exact WeakR.drop' (by simp) (by rfl)
            | true =>
              obtain ⟨hbl, hf, ht⟩ := hqt rfl
              obtain ⟨hv, _⟩ := bulB_all hbl
              have hr := rows_at QuakeRow.csl hil
              have hw1 : IntKind.i64.wrap ((i : Int) + 1) = ((i + 1 : Nat) : Int) := by rw [wrap_i64 (by omega) (by omega)]; omega
              have hsucc := qT_succ (size := size) hil
              have hgo := quiet_facts (size := size) hil
              have hrng := qs_rng (qT_rng (size := size) hv i)
              have hrngF := qs_rng (T := qT size L3) (by have := qT_rng (size := size) hv L3.length; rwa [List.take_length] at this)
              have htk := (qrB_iff.1 (hv _ (List.getElem_mem hil))).2.1
              have hsn := qs_snoc1 (qT size (L3.take i)) L3[i].Tick
              have hw2 : IntKind.i64.wrap (L3[i].Tick - (qs (qT size (L3.take i))).1) = L3[i].Tick - (qs (qT size (L3.take i))).1 := wrap_i64 (by omega) (by omega)
              have hw3 : IntKind.i64.wrap (to - fr) = to - fr := by rw [hf, ht]; exact wrap_i64 (by omega) (by omega)
              (repeat ((repeat1' (first | simp -implicitDefEqProofs -dsimp only [go_sem, Nat.reduceSub, Nat.reduceAdd, Nat.reduceMul, Nat.reduceLT, Nat.reduceLeDiff, Nat.reduceEqDiff, Nat.reduceDiv, Nat.reduceMod, Int.reduceToNat, Int.reduceLE, Int.reduceLT, Int.reduceBEq, Int.reduceBNe, Int.reduceNeg, Int.reduceAdd, Int.reduceSub, Int.reduceMul, reduceCtorEq, hd, hr, QuakeRow.cs] | simp -implicitDefEqProofs -dsimp (disch := omega) only [wrap_i64])); repeat (with_reducible refine sideA ?_)))
              refine condT.split (fun g1 => ?_) (fun g1 => ?_)
              · have hst : strongB size L3[i] = false := by simp at g1; simp [strongB]; omega
                (repeat ((repeat1' (first | simp -implicitDefEqProofs -dsimp only [go_sem, Nat.reduceSub, Nat.reduceAdd, Nat.reduceMul, Nat.reduceLT, Nat.reduceLeDiff, Nat.reduceEqDiff, Nat.reduceDiv, Nat.reduceMod, Int.reduceToNat, Int.reduceLE, Int.reduceLT, Int.reduceBEq, Int.reduceBNe, Int.reduceNeg, Int.reduceAdd, Int.reduceSub, Int.reduceMul, reduceCtorEq, g1, hw1] | simp -implicitDefEqProofs -dsimp (disch := omega) only [wrap_i64])); repeat (with_reducible refine sideA ?_)))
                rw [hst] at hsucc
                simp only [Bool.false_eq_true, if_false, List.append_nil] at hsucc
                refine ⟨i + 1, ⟨hil, fun h => by cases h⟩, ?_, by omega⟩
                refine Weak.cut (0) (by simp) (by simp) ?_ ?_
                · rw [hsucc]
                  simp [LeC, LeV, ren, cutF]
                · rfl
              · have hst : strongB size L3[i] = true := by simp at g1; simp [strongB]; omega
                rw [hst] at hsucc
                simp only [if_true] at hsucc
                rw [← hsucc] at hsn
                by_cases hl0 : 0 ≤ (qs (qT size (L3.take i))).1
                · have hgo2 := hgo hst hl0
                  have hg2 : decide (0 ≤ (qs (qT size (L3.take i))).1) = true := decide_eq_true hl0
                  have hg3 : decide (to - fr < L3[i].Tick - (qs (qT size (L3.take i))).1) = false := decide_eq_false (by rw [hf, ht]; omega)
                  (repeat ((repeat1' (first | simp -implicitDefEqProofs -dsimp only [go_sem, Nat.reduceSub, Nat.reduceAdd, Nat.reduceMul, Nat.reduceLT, Nat.reduceLeDiff, Nat.reduceEqDiff, Nat.reduceDiv, Nat.reduceMod, Int.reduceToNat, Int.reduceLE, Int.reduceLT, Int.reduceBEq, Int.reduceBNe, Int.reduceNeg, Int.reduceAdd, Int.reduceSub, Int.reduceMul, reduceCtorEq, g1, hw1, hg2, hr, QuakeRow.cs, hw2, hw3, hg3] | simp -implicitDefEqProofs -dsimp (disch := omega) only [wrap_i64])); repeat (with_reducible refine sideA ?_)))
                  refine ⟨i + 1, ⟨hil, fun h => by cases h⟩, ?_, by omega⟩
                  refine Weak.cut (0) (by simp) (by simp) ?_ ?_
                  · rw [hsn]
                    simp [LeC, LeV, ren, cutF]
                  · rfl
                · have hg2 : decide (0 ≤ (qs (qT size (L3.take i))).1) = false := decide_eq_false hl0
                  (repeat ((repeat1' (first | simp -implicitDefEqProofs -dsimp only [go_sem, Nat.reduceSub, Nat.reduceAdd, Nat.reduceMul, Nat.reduceLT, Nat.reduceLeDiff, Nat.reduceEqDiff, Nat.reduceDiv, Nat.reduceMod, Int.reduceToNat, Int.reduceLE, Int.reduceLT, Int.reduceBEq, Int.reduceBNe, Int.reduceNeg, Int.reduceAdd, Int.reduceSub, Int.reduceMul, reduceCtorEq, g1, hw1, hg2, hr, QuakeRow.cs] | simp -implicitDefEqProofs -dsimp (disch := omega) only [wrap_i64])); repeat (with_reducible refine sideA ?_)))
                  refine ⟨i + 1, ⟨hil, fun h => by cases h⟩, ?_, by omega⟩
                  refine Weak.cut (0) (by simp) (by simp) ?_ ?_
                  · rw [hsn]
                    simp [LeC, LeV, ren, cutF]
                  · rfl
          · have hd : decide ((i : Int) < (L3.length : Int)) = false := decide_eq_false (by omega)
            (repeat ((repeat1' (first | simp -implicitDefEqProofs -dsimp only [go_sem, Nat.reduceSub, Nat.reduceAdd, Nat.reduceMul, Nat.reduceLT, Nat.reduceLeDiff, Nat.reduceEqDiff, Nat.reduceDiv, Nat.reduceMod, Int.reduceToNat, Int.reduceLE, Int.reduceLT, Int.reduceBEq, Int.reduceBNe, Int.reduceNeg, Int.reduceAdd, Int.reduceSub, Int.reduceMul, reduceCtorEq, hd] | simp -implicitDefEqProofs -dsimp (disch := omega) only [wrap_i64])); repeat (with_reducible refine sideA ?_)))
            refine callS.rel [] (drawQuakesNear_ok hB) (by decide) ⟨leO, trivial⟩ rfl rfl (fun r hout hΦ => ?_)
            obtain ⟨L4, x4, y4, f4, hL4, hx4, hy4, hf4, rfl, rfl⟩ := hΦ
            refine ⟨trivial, ?_⟩
            (repeat ((repeat1' (first | simp -implicitDefEqProofs -dsimp only [go_sem, Nat.reduceSub, Nat.reduceAdd, Nat.reduceMul, Nat.reduceLT, Nat.reduceLeDiff, Nat.reduceEqDiff, Nat.reduceDiv, Nat.reduceMod, Int.reduceToNat, Int.reduceLE, Int.reduceLT, Int.reduceBEq, Int.reduceBNe, Int.reduceNeg, Int.reduceAdd, Int.reduceSub, Int.reduceMul, reduceCtorEq] | simp -implicitDefEqProofs -dsimp (disch := omega) only [wrap_i64])); repeat (with_reducible refine sideA ?_)))
            have hi4 := (iQuakesNear_ok L4 x4 y4 f4 (by have := hL4.2; omega)).weak (frzN (cs := IntS.cs) (nearR L4 x4 y4 f4))
            have hs4 := (sQuakesNear_ok L4 x4 y4 f4 (by have := hL4.2; omega)).weak (frzO (cs := IntS.cs) (nearR L4 x4 y4 f4))
            have hln : ((nearR L4 x4 y4 f4).getD []).length ≤ 1048576 := by
              unfold nearR
              split
              · simp only [Option.getD_some, List.length_map]
                have := List.length_filter_le (nearB x4 y4 f4) L4
                have := hL4.2
                omega
              · simp
            simp only [frzV] at hi4 hs4
            generalize (nearR L4 x4 y4 f4).getD [] = N4 at hi4 hs4 hln
            generalize (nearR L4 x4 y4 f4).isSome = b4 at hi4 hs4
            (first | refine callT.at (hi4) ⟨leA, leA, leA, leA, trivial⟩ ?_ | refine callS.at (hi4) ⟨leA, leA, leA, leA, trivial⟩ ?_)
            (repeat ((repeat1' (first | simp -implicitDefEqProofs -dsimp only [go_sem, Nat.reduceSub, Nat.reduceAdd, Nat.reduceMul, Nat.reduceLT, Nat.reduceLeDiff, Nat.reduceEqDiff, Nat.reduceDiv, Nat.reduceMod, Int.reduceToNat, Int.reduceLE, Int.reduceLT, Int.reduceBEq, Int.reduceBNe, Int.reduceNeg, Int.reduceAdd, Int.reduceSub, Int.reduceMul, reduceCtorEq] | simp -implicitDefEqProofs -dsimp (disch := omega) only [wrap_i64])); repeat (with_reducible refine sideA ?_)))
            (first | refine callT.at (hs4) ⟨leA, leA, leA, leA, trivial⟩ ?_ | refine callS.at (hs4) ⟨leA, leA, leA, leA, trivial⟩ ?_)
            (repeat ((repeat1' (first | simp -implicitDefEqProofs -dsimp only [go_sem, Nat.reduceSub, Nat.reduceAdd, Nat.reduceMul, Nat.reduceLT, Nat.reduceLeDiff, Nat.reduceEqDiff, Nat.reduceDiv, Nat.reduceMod, Int.reduceToNat, Int.reduceLE, Int.reduceLT, Int.reduceBEq, Int.reduceBNe, Int.reduceNeg, Int.reduceAdd, Int.reduceSub, Int.reduceMul, reduceCtorEq] | simp -implicitDefEqProofs -dsimp (disch := omega) only [wrap_i64])); repeat (with_reducible refine sideA ?_)))
            (first | refine callT.at (rInts_ok N4 hln) ⟨leA, leA, trivial⟩ ?_ | refine callS.at (rInts_ok N4 hln) ⟨leA, leA, trivial⟩ ?_)
            (repeat ((repeat1' (first | simp -implicitDefEqProofs -dsimp only [go_sem, Nat.reduceSub, Nat.reduceAdd, Nat.reduceMul, Nat.reduceLT, Nat.reduceLeDiff, Nat.reduceEqDiff, Nat.reduceDiv, Nat.reduceMod, Int.reduceToNat, Int.reduceLE, Int.reduceLT, Int.reduceBEq, Int.reduceBNe, Int.reduceNeg, Int.reduceAdd, Int.reduceSub, Int.reduceMul, reduceCtorEq] | simp -implicitDefEqProofs -dsimp (disch := omega) only [wrap_i64])); repeat (with_reducible refine sideA ?_)))
            exact WeakR.drop' (by simp) (by rfl)
end Go.Proofs
end
section
set_option linter.unusedSimpArgs false
set_option linter.unusedVariables false
open Go.ChangeShapes Go.WideShapes
namespace Go.Lv

/-- The shapes of values of the plain types. -/
def ShC (P : Program) : Nat → TypeId → List V → Prop
  | 0, _, _ => False
  | n + 1, t, xs =>
    match P.underlying t with
    | some .bool => ∃ b, xs = [.bool b]
    | some (.int k) => ∃ z, xs = [.int k z] ∧ (Lit.int k z).wf = true
    | some .string => ∃ s : ByteArray, xs = [.str s] ∧ s.size ≤ maxLen
    | some (.slice e) => ∃ l cs, xs = [.sl l (P.cellsOf e) cs] ∧ l ≤ maxLen ∧ cs.length = l * P.cellsOf e ∧ ∀ i, i < l → ShC P n e ((cs.drop (i * P.cellsOf e)).take (P.cellsOf e))
    | some (.struct fs) => xs.length = P.cellsOf t ∧ ∀ f ∈ fs.toList, ShC P n f.type ((xs.drop f.offset).take (P.cellsOf f.type))
    | _ => False

/-- The fields of a struct lie one behind the other and fill it. -/
def tiled (P : Program) : List Field → Nat → Nat → Bool
  | [], off, n => off == n
  | f :: fs, off, n => f.offset == off && tiled P fs (off + P.cellsOf f.type) n

/-- A type that is built of bools, integers, strings, slices and structs. -/
def plainT (P : Program) : Nat → TypeId → Bool
  | 0, _ => false
  | n + 1, t =>
    match P.underlying t with
    | some .bool => true
    | some (.int _) => true
    | some .string => true
    | some (.slice e) => decide (0 < P.cellsOf e) && plainT P n e
    | some (.struct fs) => tiled P fs.toList 0 (P.cellsOf t) && fs.toList.all fun f => plainT P n f.type
    | _ => false

section
variable {P : Program} {w : World} {m : Nat → Nat}

/-- Cells that read as pure values. -/
def Rds (w : World) (m : Nat → Nat) (cs : List Value) (xs : List V) : Prop :=
  cs.length = xs.length ∧ ∀ i (hi : i < xs.length), RV w m [] (fun _ => False) false (cs.getD i Go.undef) xs[i]

theorem Rds.append {a b : List Value} {x y : List V} (h : Rds w m a x) (k : Rds w m b y) : Rds w m (a ++ b) (x ++ y) := by
  refine ⟨by simp [h.1, k.1], fun i hi => ?_⟩
  by_cases hlt : i < x.length
  · rw [List.getElem_append_left hlt]
    have := h.2 i hlt
    rw [List.getD_eq_getElem?_getD, List.getElem?_append_left (by rw [h.1]; exact hlt), ← List.getD_eq_getElem?_getD]
    exact this
  · rw [List.getElem_append_right (by omega)]
    have := k.2 (i - x.length) (by simp at hi; omega)
    rw [List.getD_eq_getElem?_getD, List.getElem?_append_right (by rw [h.1]; omega), ← List.getD_eq_getElem?_getD, h.1]
    exact this

theorem Rds.one {v : Value} {x : V} (h : RV w m [] (fun _ => False) false v x) : Rds w m [v] [x] :=
  ⟨rfl, fun i hi => by have : i = 0 := by simp at hi; omega
                       subst this; exact h⟩

theorem Rds.nil : Rds w m [] [] := ⟨rfl, fun i hi => by simp at hi⟩

/-- The fields of a struct, one behind the other. -/
theorem fields_sh {n : Nat} {cs : List Value} : ∀ (fs : List Field) (off : Nat), tiled P fs off cs.length = true → off ≤ cs.length →
    (∀ f ∈ fs, ∃ xs, Rds w m ((cs.drop f.offset).take (P.cellsOf f.type)) xs ∧ ShC P n f.type xs) →
    ∃ ys, Rds w m (cs.drop off) ys ∧ ∀ f ∈ fs, off ≤ f.offset ∧ ShC P n f.type ((ys.drop (f.offset - off)).take (P.cellsOf f.type))
  | [], off, ht, _, _ => by
    simp [tiled] at ht
    subst ht
    refine ⟨[], ?_, fun f hf => by simp at hf⟩
    rw [List.drop_of_length_le (Nat.le_refl _)]
    exact Rds.nil
  | f :: fs, off, ht, hle, h => by
    simp only [tiled, Bool.and_eq_true, beq_iff_eq] at ht
    obtain ⟨rfl, ht⟩ := ht
    have hlen : ∀ (fs : List Field) (o : Nat), tiled P fs o cs.length = true → o ≤ cs.length := by
      intro fs
      induction fs with
      | nil => intro o ht; simp [tiled] at ht; omega
      | cons g fs ih =>
        intro o ht
        simp only [tiled, Bool.and_eq_true, beq_iff_eq] at ht
        have := ih _ ht.2; omega
    have hk := hlen fs _ ht
    obtain ⟨x, hx1, hx2⟩ := h f (by simp)
    obtain ⟨ys, hy1, hy2⟩ := fields_sh fs _ ht hk (fun g hg => h g (by simp [hg]))
    have hxl : x.length = P.cellsOf f.type := by rw [← hx1.1]; simp; omega
    refine ⟨x ++ ys, ?_, fun g hg => ?_⟩
    · have : cs.drop f.offset = (cs.drop f.offset).take (P.cellsOf f.type) ++ cs.drop (f.offset + P.cellsOf f.type) := by
        rw [← List.drop_drop, List.take_append_drop]
      rw [this]
      exact hx1.append hy1
    · rcases List.mem_cons.1 hg with rfl | hg
      · refine ⟨Nat.le_refl _, ?_⟩
        rw [Nat.sub_self, List.drop_zero, List.take_append_of_le_length (by omega), List.take_of_length_le (by omega)]
        exact hx2
      · obtain ⟨h1, h2⟩ := hy2 g hg
        refine ⟨by omega, ?_⟩
        have : (x ++ ys).drop (g.offset - f.offset) = ys.drop (g.offset - (f.offset + P.cellsOf f.type)) := by
          rw [List.drop_append, List.drop_of_length_le (by omega), List.nil_append]
          congr 1
          omega
        rw [this]
        exact h2

/-- The elements of a slice, one behind the other. -/
theorem elems_sh {n e : Nat} {b off len : Nat} (h : ∀ i, i < len → ∃ cs xs, cs.length = P.cellsOf e ∧ (∀ j, j < P.cellsOf e → w.cell? ⟨b, off + (i * P.cellsOf e + j), none⟩ = cs[j]?) ∧ Rds w m cs xs ∧ ShC P n e xs) :
    ∀ k, k ≤ len → ∃ xs : List V, xs.length = k * P.cellsOf e ∧ (∀ j (hj : j < xs.length), ∃ v, w.cell? ⟨b, off + j, none⟩ = some v ∧ RV w m [] (fun _ => False) false v xs[j]) ∧
      ∀ i, i < k → ShC P n e ((xs.drop (i * P.cellsOf e)).take (P.cellsOf e))
  | 0, _ => ⟨[], by simp, fun j hj => by simp at hj, fun i hi => by omega⟩
  | k + 1, hk => by
    obtain ⟨xs, h1, h2, h3⟩ := elems_sh h k (by omega)
    obtain ⟨cs, ys, g1, g2, g3, g4⟩ := h k (by omega)
    have hyl : ys.length = P.cellsOf e := by rw [← g3.1, g1]
    refine ⟨xs ++ ys, by simp [h1, hyl, Nat.add_mul], fun j hj => ?_, fun i hi => ?_⟩
    · by_cases hlt : j < xs.length
      · rw [List.getElem_append_left hlt]
        exact h2 j hlt
      · rw [List.getElem_append_right (by omega)]
        have hj' : j - xs.length < ys.length := by simp at hj; omega
        have hr := g3.2 _ hj'
        have hc := g2 (j - xs.length) (by omega)
        have e1 : off + (k * P.cellsOf e + (j - xs.length)) = off + j := by omega
        rw [e1] at hc
        have hcl : j - xs.length < cs.length := by omega
        rw [List.getElem?_eq_getElem hcl] at hc
        refine ⟨_, hc, ?_⟩
        simpa [List.getD_eq_getElem?_getD, hcl] using hr
    · by_cases e2 : i = k
      · subst e2
        rw [← h1, List.drop_left, List.take_of_length_le (by omega)]
        exact g4
      · have hm : i * P.cellsOf e + P.cellsOf e ≤ xs.length := mul_room (n := k) (by omega) h1
        rw [List.drop_append_of_le_length (by omega), List.take_append_of_le_length (by simp; omega)]
        exact h3 i (by omega)

theorem trod_sh {H : Type} {enc : TypeId × Value → H} {spare : Nat → Bool} {held : Bool} : ∀ (n : Nat) (fuel : Nat) (t : TypeId) (cs : List Value) (x : DataW H × List MemPlace),
    DataW.trod enc P w 0 spare held fuel t cs = some x → plainT P n t = true → ∃ xs, Rds w m cs xs ∧ ShC P n t xs
  | 0, fuel, t, cs, x, _, hp => by simp [plainT] at hp
  | n + 1, fuel, t, cs, x, hx, hp => by
    unfold plainT at hp
    split at hp
    · rename_i hu
      obtain ⟨b, rfl, _⟩ := DataW.trod_bool hu hx
      exact ⟨[.bool b], Rds.one (.bool b), by unfold ShC; rw [hu]; exact ⟨b, rfl⟩⟩
    · rename_i k hu
      obtain ⟨z, rfl, _, hw⟩ := DataW.trod_int hu hx
      exact ⟨[.int k z], Rds.one (.int k z), by unfold ShC; rw [hu]; exact ⟨z, rfl, hw⟩⟩
    · rename_i hu
      obtain ⟨s, rfl, _, hs⟩ := DataW.trod_string hu hx
      exact ⟨[.str s], Rds.one (.str s), by unfold ShC; rw [hu]; exact ⟨s, rfl, hs⟩⟩
    · rename_i e hu
      simp only [Bool.and_eq_true, decide_eq_true_eq] at hp
      obtain ⟨hpos, hp⟩ := hp
      rcases Deep.open_slice hu hx with ⟨rfl, _⟩ | ⟨a, len, cap, mm, f, D, Pl, rfl, _, hle, hcap, hmm, _, hel⟩
      · refine ⟨[.sl 0 (P.cellsOf e) []], Rds.one (.slz _ _ _), ?_⟩
        unfold ShC; rw [hu]
        exact ⟨0, [], rfl, Nat.zero_le _, by simp, fun i hi => by omega⟩
      · by_cases h0 : len = 0
        · subst h0
          refine ⟨[.sl 0 (P.cellsOf e) []], Rds.one (.slz _ _ _), ?_⟩
          unfold ShC; rw [hu]
          exact ⟨0, [], rfl, Nat.zero_le _, by simp, fun i hi => by omega⟩
        · have hml : len ≤ mm := by rw [hmm]; split <;> omega
          obtain ⟨b, off, spot⟩ := a
          have hspot : spot = none := by
            obtain ⟨cs', hc, _⟩ := hel 0 (by omega)
            obtain ⟨_, hcl, hat⟩ := World.cells?_some hc
            have h1 := hat 0 hpos
            rw [List.getElem?_eq_getElem (by omega)] at h1
            simpa [Addr.add] using World.cell?_spot h1
          subst hspot
          have hall : ∀ i, i < len → ∃ cs xs, cs.length = P.cellsOf e ∧ (∀ j, j < P.cellsOf e → w.cell? ⟨b, off + (i * P.cellsOf e + j), none⟩ = cs[j]?) ∧ Rds w m cs xs ∧ ShC P n e xs := by
            intro i hi
            obtain ⟨cs', hc, ht⟩ := hel i (by omega)
            obtain ⟨_, hcl, hat⟩ := World.cells?_some hc
            obtain ⟨xs, h1, h2⟩ := trod_sh n _ e cs' _ ht hp
            refine ⟨cs', xs, hcl, fun j hj => ?_, h1, h2⟩
            have := hat j hj
            rw [Addr.add_lit, Addr.add_lit] at this
            rw [← this, Nat.add_assoc]
          obtain ⟨xs, h1, h2, h3⟩ := elems_sh hall len (Nat.le_refl _)
          refine ⟨[.sl len (P.cellsOf e) xs], Rds.one (.sl b off len cap (P.cellsOf e) xs (fun j => (w.cell? ⟨b, off + j, none⟩).getD Go.undef) h1 (fun _ h => h) hle (fun j hj => ?_) (fun j hj => ?_)), ?_⟩
          · obtain ⟨v, hv, _⟩ := h2 j hj
            simp [hv]
          · obtain ⟨v, hv, hr⟩ := h2 j hj
            simpa [hv] using hr
          · unfold ShC; rw [hu]
            exact ⟨len, xs, rfl, by omega, h1, h3⟩
    · rename_i fs hu
      simp only [Bool.and_eq_true, List.all_eq_true] at hp
      obtain ⟨xs, f, _, _, hl, hxl, hf⟩ := DataW.trod_struct hu hx
      have hfs : ∀ g ∈ fs.toList, ∃ ys, Rds w m ((cs.drop g.offset).take (P.cellsOf g.type)) ys ∧ ShC P n g.type ys := by
        intro g hg
        obtain ⟨i, hi, rfl⟩ := List.getElem_of_mem hg
        have hi' : i < fs.size := by simpa using hi
        have h1 := hf i fs[i] (Array.getElem?_eq_getElem hi')
        rw [List.getElem?_eq_getElem (by omega)] at h1
        exact trod_sh n _ _ _ _ (by simpa using h1) (hp.2 _ hg)
      obtain ⟨ys, h1, h2⟩ := fields_sh fs.toList 0 (by rw [hl]; exact hp.1) (Nat.zero_le _) hfs
      rw [List.drop_zero] at h1
      refine ⟨ys, h1, ?_⟩
      unfold ShC; rw [hu]
      exact ⟨by rw [← h1.1, hl], fun g hg => by simpa using (h2 g hg).2⟩
    · cases hp

end
section
variable {P : Program} {W : World}

theorem Rds.get {m : Nat → Nat} {a : List Value} {x : List V} (h : Rds W m a x) : a.length = x.length := h.1

/-- A value of one cell. -/
theorem arg_one {H : Type} {enc : TypeId × Value → H} {spare : Nat → Bool} {held : Bool} {n : Nat} {t : TypeId} {v : Value} {d : DataW H} {p : List MemPlace} (m : Nat → Nat)
    (hv : v.cells = #[v]) (h : DataW.Trod enc P W 0 spare held t v d p) (hp : plainT P n t = true) : ∃ x, RV W m [] (fun _ => False) true v x ∧ ShC P n t [x] := by
  obtain ⟨fuel, hf⟩ := h
  rw [hv] at hf
  obtain ⟨xs, h1, h2⟩ := trod_sh (m := m) n fuel t _ _ hf hp
  match xs, h1 with
  | [x], h1 => exact ⟨x, by have := h1.2 0 (by simp); exact this.weak, h2⟩
  | [], h1 => simp [Rds] at h1
  | _ :: _ :: _, h1 => simp [Rds] at h1

/-- A law's walk out of its contract. -/
theorem law_walk {f : FuncId} {xs : List V} {vs : Array Value} (m : Nat → Nat) (hc : Ctr P f xs [] (.bool true) []) (hgl : GL W (fun _ => False)) (hsz : vs.size = xs.length)
    (hr : ∀ i (hi : i < xs.length), RV W m [] (fun _ => False) true (vs.getD i Go.undef) xs[i]) :
    Calls P f vs W fun e w' => e = .returned (.bool true) ∧ RowKit.Below W.heap.size W w' := by
  refine (hc.2 W vs m (fun _ => False) ⟨fun i j ci cj h => by simp at h, fun id cs h => by simp at h, fun id cs h => by simp at h⟩ (fun b h => h.elim) hgl hsz hr).mono ?_
  rintro e w' ⟨v, m', rfl, hE, _, hv, _⟩
  refine ⟨by cases hv; rfl, hE.os, hE.tape, hE.output, hE.size, fun k hk => hE.block k hk (fun ⟨id, cs, h, _⟩ => by simp at h)⟩

end
end Go.Lv
end
section
set_option linter.unusedSimpArgs false
set_option linter.unusedVariables false
namespace Go.Lv

theorem shC_u8 {P : Program} {t : TypeId} {n : Nat} {xs : List V} (hs : P.underlying t = some (.int .u8)) (h : ShC P (n + 1) t xs) : ∃ z, xs = [.int .u8 z] ∧ 0 ≤ z ∧ z ≤ 255 := by
  simp only [ShC, hs] at h
  obtain ⟨z, h1, h2⟩ := h
  refine ⟨z, h1, ?_⟩
  simp [Lit.wf, IntKind.min, IntKind.max, IntKind.signed, IntKind.bits] at h2
  exact h2

theorem shC_list {P : Program} {t e : TypeId} {n : Nat} {xs : List V} (hs : P.underlying t = some (.slice e)) {α : Type} {cs : α → List V} {w : Nat} (hw : P.cellsOf e = w) {ok : α → Prop}
    (he : ∀ ys, ShC P n e ys → ∃ a, ys = cs a ∧ ok a) (h : ShC P (n + 1) t xs) : ∃ L : List α, xs = [.sl L.length w (rows cs L)] ∧ lstR ok L := by
  simp only [ShC, hs, hw] at h
  obtain ⟨l, ys, rfl, hl, hlen, hel⟩ := h
  suffices ∀ (l : Nat) (ys : List V), ys.length = l * w → (∀ i, i < l → ShC P n e ((ys.drop (i * w)).take w)) → ∃ L : List α, L.length = l ∧ rows cs L = ys ∧ ∀ x ∈ L, ok x by
    obtain ⟨L, h1, h2, h3⟩ := this l ys hlen hel
    exact ⟨L, by rw [h1, h2], by rw [h1]; exact hl, h3⟩
  intro l
  induction l with
  | zero => intro ys h1 _; exact ⟨[], rfl, by simp at h1; simp [rows, h1], fun x hx => by simp at hx⟩
  | succ l ih =>
    intro ys h1 h2
    obtain ⟨a, ha, hoa⟩ := he _ (h2 0 (by omega))
    rw [Nat.zero_mul, List.drop_zero] at ha
    obtain ⟨L, h3, h4, h5⟩ := ih (ys.drop w) (by rw [List.length_drop, h1, Nat.succ_mul]; omega) (fun i hi => by
      have := h2 (i + 1) (by omega)
      rw [List.drop_drop]
      rwa [Nat.succ_mul, Nat.add_comm] at this)
    refine ⟨a :: L, by simp [h3], ?_, ?_⟩
    · rw [rows_cons, h4, ← ha, List.take_append_drop]
    · intro x hx
      rcases List.mem_cons.1 hx with rfl | hx
      · exact hoa
      · exact h5 x hx

end Go.Lv
end
