/-
  Short lists of Int, sorted in place. Conditions: none.
-/
import Derived.Test.YtekhnmibkkinaaaTIntS
import Derived.Test.YtekhnmibkkinaaaSort
import Derived.Test.YtekhnmibkkinaaaRev
set_option linter.unusedSimpArgs false
set_option linter.unusedVariables false
set_option maxRecDepth 100000
set_option maxHeartbeats 1000000
namespace Go.Proofs
open Go.Lv
def ltI (x y : Int) : Bool := decide (x < y)
theorem isNaNI_ok (a : Int) : Ctr Try.prog 209 [.int .i64 a] [] (.bool false) [] := by
  refine Ctr.intro Try.mixed Try.func209 rfl Try.okF209 ?_
  simp -implicitDefEqProofs -dsimp only [go_sem, Nat.reduceSub, Nat.reduceAdd, Nat.reduceMul, Nat.reduceLT, Nat.reduceLeDiff, Nat.reduceEqDiff, Nat.reduceDiv, Nat.reduceMod, Int.reduceToNat, Int.reduceLE, Int.reduceLT, Int.reduceBEq, Int.reduceBNe, Int.reduceNeg, Int.reduceAdd, Int.reduceSub, Int.reduceMul, reduceCtorEq, Try.ntmps209, Try.results209]
  exact WeakR.drop' (by simp) (by rfl)
theorem lessInt_ok (a b : Int) : Ctr Try.prog 260 [.int .i64 a, .int .i64 b] [] (.bool (decide (a < b))) [] := by
  refine Ctr.intro Try.mixed Try.func260 rfl Try.okF260 ?_
  simp -implicitDefEqProofs -dsimp only [go_sem, Nat.reduceSub, Nat.reduceAdd, Nat.reduceMul, Nat.reduceLT, Nat.reduceLeDiff, Nat.reduceEqDiff, Nat.reduceDiv, Nat.reduceMod, Int.reduceToNat, Int.reduceLE, Int.reduceLT, Int.reduceBEq, Int.reduceBNe, Int.reduceNeg, Int.reduceAdd, Int.reduceSub, Int.reduceMul, reduceCtorEq, Try.ntmps260, Try.results260]
  repeat (with_reducible refine sideA ?_)
  (first | refine callT.at (isNaNI_ok a) ⟨leA, trivial⟩ ?_ | refine callS.at (isNaNI_ok a) ⟨leA, trivial⟩ ?_)
  (repeat ((repeat1' (first | simp -implicitDefEqProofs -dsimp only [go_sem, Nat.reduceSub, Nat.reduceAdd, Nat.reduceMul, Nat.reduceLT, Nat.reduceLeDiff, Nat.reduceEqDiff, Nat.reduceDiv, Nat.reduceMod, Int.reduceToNat, Int.reduceLE, Int.reduceLT, Int.reduceBEq, Int.reduceBNe, Int.reduceNeg, Int.reduceAdd, Int.reduceSub, Int.reduceMul, reduceCtorEq] | simp -implicitDefEqProofs -dsimp (disch := omega) only [wrap_i64])); repeat (with_reducible refine sideA ?_)))
  exact WeakR.drop' rfl (by rfl)
theorem insertionInt_ok (L : List Int) (hl : L.length ≤ 19) :
    Ctr Try.prog 254 [.osl 0 0 L.length 1, .int .i64 0, .int .i64 L.length] [some (rows IntS.cs L)] (.tup []) [some (rows IntS.cs (insSort ltI L))] := by
  rw [show ltI = fun x y : Int => decide (x < y) from rfl]
  generalize hlt : (fun x y : Int => decide (x < y)) = lt
  have ltv : ∀ x y, lt x y = decide (x < y) := fun x y => by rw [← hlt]
  refine Ctr.intro Try.mixed Try.func254 rfl Try.okF254 ?_
  simp -implicitDefEqProofs -dsimp only [go_sem, Nat.reduceSub, Nat.reduceAdd, Nat.reduceMul, Nat.reduceLT, Nat.reduceLeDiff, Nat.reduceEqDiff, Nat.reduceDiv, Nat.reduceMod, Int.reduceToNat, Int.reduceLE, Int.reduceLT, Int.reduceBEq, Int.reduceBNe, Int.reduceNeg, Int.reduceAdd, Int.reduceSub, Int.reduceMul, reduceCtorEq, Try.ntmps254, Try.results254]
  refine LoopT.intro (fun i : Nat => 1 ≤ i ∧ (i ≤ 1 ∨ i ≤ L.length)) (fun i => ⟨[.osl 0 0 L.length 1, .int .i64 0, .int .i64 L.length, .undef, .undef, .undef, .int .i64 i, .undef, .undef, .undef, .undef, .undef, .undef, .undef, .undef, .undef, .undef, .undef, .undef, .undef, .undef, .undef, .undef, .undef, .undef, .undef, .undef, .undef, .undef, .undef, .undef, .undef, .undef, .undef, .undef, .undef, .undef, .undef, .undef, .undef, .undef, .undef, .undef, .undef, .undef, .undef, .undef, .undef, .undef], [some (rows IntS.cs (srtS lt L i))], 1⟩) (fun i => L.length - i) 1 ⟨Nat.le_refl _, .inl (Nat.le_refl _)⟩ ?_ (fun i hi => ?_)
  · refine Weak.cut (1) (by simp) (by simp) ?_ ?_
    · (simp [LeC, LeV, ren, cutF]; rfl)
    · rw [srtS_one]; simp [cutH, cutB, map_ren_rows]
  simp -implicitDefEqProofs -dsimp only [go_sem, Nat.reduceSub, Nat.reduceAdd, Nat.reduceMul, Nat.reduceLT, Nat.reduceLeDiff, Nat.reduceEqDiff, Nat.reduceDiv, Nat.reduceMod, Int.reduceToNat, Int.reduceLE, Int.reduceLT, Int.reduceBEq, Int.reduceBNe, Int.reduceNeg, Int.reduceAdd, Int.reduceSub, Int.reduceMul, reduceCtorEq]
  refine condT.split (fun h1 => ?_) (fun h1 => ?_)
  · simp -implicitDefEqProofs -dsimp only [go_sem, Nat.reduceSub, Nat.reduceAdd, Nat.reduceMul, Nat.reduceLT, Nat.reduceLeDiff, Nat.reduceEqDiff, Nat.reduceDiv, Nat.reduceMod, Int.reduceToNat, Int.reduceLE, Int.reduceLT, Int.reduceBEq, Int.reduceBNe, Int.reduceNeg, Int.reduceAdd, Int.reduceSub, Int.reduceMul, reduceCtorEq, h1]
    have hi' : i < L.length := by simpa using h1
    have hS : (insSort lt (L.take i)).length = i := by rw [insSort_len]; simp; omega
    rw [srtS_mid hi']
    refine LoopT.intro (fun j : Nat => j ≤ i ∧ posK lt (insSort lt (L.take i)) L[i] i = posK lt (insSort lt (L.take i)) L[i] j) (fun j => ⟨[.osl 0 0 L.length 1, .int .i64 0, .int .i64 L.length, .undef, .undef, .undef, .int .i64 i, .int .i64 j, .undef, .undef, .undef, .undef, .undef, .undef, .undef, .undef, .undef, .undef, .undef, .undef, .undef, .undef, .undef, .undef, .undef, .undef, .undef, .undef, .undef, .undef, .undef, .undef, .undef, .undef, .undef, .undef, .undef, .undef, .undef, .undef, .undef, .undef, .undef, .undef, .undef, .undef, .undef, .undef, .undef], [some (rows IntS.cs (midS (insSort lt (L.take i)) (L.drop (i + 1)) L[i] j))], 1⟩) (fun j => j) i ⟨Nat.le_refl _, rfl⟩ ?_ (fun j hj => ?_)
    · refine Weak.cut (1) (by simp) (by simp) ?_ ?_
      · simp [LeC, LeV, ren, cutF]
      · simp [cutH, cutB, map_ren_rows]
    have hml : ∀ j, (midS (insSort lt (L.take i)) (L.drop (i + 1)) L[i] j).length = L.length := fun j => by rw [midS_len, hS, List.length_drop]; omega
    simp -implicitDefEqProofs -dsimp only [go_sem, Nat.reduceSub, Nat.reduceAdd, Nat.reduceMul, Nat.reduceLT, Nat.reduceLeDiff, Nat.reduceEqDiff, Nat.reduceDiv, Nat.reduceMod, Int.reduceToNat, Int.reduceLE, Int.reduceLT, Int.reduceBEq, Int.reduceBNe, Int.reduceNeg, Int.reduceAdd, Int.reduceSub, Int.reduceMul, reduceCtorEq]
    refine ⟨by kernel_rfl, ?_⟩
    cases j with
    | zero =>
      have hz : ((0 : Nat) : Int) = 0 := rfl
      (repeat ((repeat1' (first | simp -implicitDefEqProofs -dsimp only [go_sem, Nat.reduceSub, Nat.reduceAdd, Nat.reduceMul, Nat.reduceLT, Nat.reduceLeDiff, Nat.reduceEqDiff, Nat.reduceDiv, Nat.reduceMod, Int.reduceToNat, Int.reduceLE, Int.reduceLT, Int.reduceBEq, Int.reduceBNe, Int.reduceNeg, Int.reduceAdd, Int.reduceSub, Int.reduceMul, reduceCtorEq, hz] | simp -implicitDefEqProofs -dsimp (disch := omega) only [wrap_i64])); repeat (with_reducible refine sideA ?_)))
      refine ⟨i + 1, ⟨by omega, .inr hi'⟩, ?_, by omega⟩
      refine Weak.cut (1) (by simp) (by simp) ?_ ?_
      · simp [LeC, LeV, ren, cutF]
      · rw [srtS_next (j := 0) hi' hj.2]
        simp [cutH, cutB, map_ren_rows]
    | succ j =>
      have hjS : j < (insSort lt (L.take i)).length := by rw [hS]; omega
      have hg : decide ((0 : Int) < ((j + 1 : Nat) : Int)) = true := decide_eq_true (by omega)
      have hw1 : IntKind.i64.wrap (((j + 1 : Nat) : Int) - 1) = (j : Int) := by rw [wrap_i64 (by omega) (by omega)]; omega
      have hk1 : j + 1 < (midS (insSort lt (L.take i)) (L.drop (i + 1)) L[i] (j + 1)).length := by rw [hml]; omega
      have hk0 : j < (midS (insSort lt (L.take i)) (L.drop (i + 1)) L[i] (j + 1)).length := by rw [hml]; omega
      have g1 := midS_get (S := insSort lt (L.take i)) (R := L.drop (i + 1)) (x := L[i]) (j := j + 1) (by omega) hk1
      have g0 := midS_get_below (R := L.drop (i + 1)) (x := L[i]) hjS hk0
      have hr1 := rows_at IntS.csl hk1
      have hr0 := rows_at IntS.csl hk0
      have hlr := rows_len (w := 1) IntS.csl (midS (insSort lt (L.take i)) (L.drop (i + 1)) L[i] (j + 1))
      rw [g1] at hr1
      rw [g0] at hr0
      rw [hml] at hlr
      (repeat ((repeat1' (first | simp -implicitDefEqProofs -dsimp only [go_sem, Nat.reduceSub, Nat.reduceAdd, Nat.reduceMul, Nat.reduceLT, Nat.reduceLeDiff, Nat.reduceEqDiff, Nat.reduceDiv, Nat.reduceMod, Int.reduceToNat, Int.reduceLE, Int.reduceLT, Int.reduceBEq, Int.reduceBNe, Int.reduceNeg, Int.reduceAdd, Int.reduceSub, Int.reduceMul, reduceCtorEq, hg, hw1, hr1, hr0, hlr, IntS.cs] | simp -implicitDefEqProofs -dsimp (disch := omega) only [wrap_i64])); repeat (with_reducible refine sideA ?_)))
      (first | refine callT.at (lessInt_ok L[i] (insSort lt (L.take i))[j]) ⟨leA, leA, trivial⟩ ?_ | refine callS.at (lessInt_ok L[i] (insSort lt (L.take i))[j]) ⟨leA, leA, trivial⟩ ?_)
      simp -implicitDefEqProofs -dsimp only [go_sem, Nat.reduceSub, Nat.reduceAdd, Nat.reduceMul, Nat.reduceLT, Nat.reduceLeDiff, Nat.reduceEqDiff, Nat.reduceDiv, Nat.reduceMod, Int.reduceToNat, Int.reduceLE, Int.reduceLT, Int.reduceBEq, Int.reduceBNe, Int.reduceNeg, Int.reduceAdd, Int.reduceSub, Int.reduceMul, reduceCtorEq]
      have hlx := ltv L[i] (insSort lt (L.take i))[j]
      rw [← hlx]
      refine condT.split (fun h2 => ?_) (fun h2 => ?_)
      · have s1 := splice_row IntS.csl hk1 (insSort lt (L.take i))[j]
        have s2 := splice_row (L := (midS (insSort lt (L.take i)) (L.drop (i + 1)) L[i] (j + 1)).set (j + 1) (insSort lt (L.take i))[j]) IntS.csl (by rw [List.length_set]; exact hk0) L[i]
        rw [midS_swap hjS] at s2
        simp only [IntS.cs] at s1 s2
        (repeat ((repeat1' (first | simp -implicitDefEqProofs -dsimp only [go_sem, Nat.reduceSub, Nat.reduceAdd, Nat.reduceMul, Nat.reduceLT, Nat.reduceLeDiff, Nat.reduceEqDiff, Nat.reduceDiv, Nat.reduceMod, Int.reduceToNat, Int.reduceLE, Int.reduceLT, Int.reduceBEq, Int.reduceBNe, Int.reduceNeg, Int.reduceAdd, Int.reduceSub, Int.reduceMul, reduceCtorEq, h2, hw1, hr1, hr0, hlr, IntS.cs] | simp -implicitDefEqProofs -dsimp (disch := omega) only [wrap_i64])); repeat (with_reducible refine sideA ?_)))
        have hl2 : (rows IntS.cs ((midS (insSort lt (L.take i)) (L.drop (i + 1)) L[i] (j + 1)).set (j + 1) (insSort lt (L.take i))[j])).length = L.length * 1 := by rw [rows_len (w := 1) IntS.csl, List.length_set, hml]
        rw [s1, s2]
        refine ⟨by rw [hl2]; omega, j, ⟨by omega, hj.2.trans (posK_down hjS h2)⟩, ?_, by omega⟩
        refine Weak.cut (1) (by simp) (by simp) ?_ ?_
        · simp [LeC, LeV, ren, cutF]
        · simp [cutH, cutB, map_ren_rows]
      · simp -implicitDefEqProofs -dsimp only [go_sem, Nat.reduceSub, Nat.reduceAdd, Nat.reduceMul, Nat.reduceLT, Nat.reduceLeDiff, Nat.reduceEqDiff, Nat.reduceDiv, Nat.reduceMod, Int.reduceToNat, Int.reduceLE, Int.reduceLT, Int.reduceBEq, Int.reduceBNe, Int.reduceNeg, Int.reduceAdd, Int.reduceSub, Int.reduceMul, reduceCtorEq, h2]
        have hp := posK_stay hjS h2
        refine ⟨i + 1, ⟨by omega, .inr hi'⟩, ?_, by omega⟩
        refine Weak.cut (1) (by simp) (by simp) ?_ ?_
        · rw [wrap_i64 (by omega) (by omega)]; simp [LeC, LeV, ren, cutF]
        · rw [srtS_next hi' (hj.2.trans hp)]
          simp [cutH, cutB, map_ren_rows]
  · simp -implicitDefEqProofs -dsimp only [go_sem, Nat.reduceSub, Nat.reduceAdd, Nat.reduceMul, Nat.reduceLT, Nat.reduceLeDiff, Nat.reduceEqDiff, Nat.reduceDiv, Nat.reduceMod, Int.reduceToNat, Int.reduceLE, Int.reduceLT, Int.reduceBEq, Int.reduceBNe, Int.reduceNeg, Int.reduceAdd, Int.reduceSub, Int.reduceMul, reduceCtorEq, h1]
    have h1' : L.length ≤ i := by simp at h1; omega
    rw [srtS_end lt L h1']
    exact WeakR.refl _ _ _
theorem len64_ok (n : Nat) (hn : n ≤ 12) : Ctr Try.prog 264 [.int .u64 n] [] (.int .i64 (if n = 0 then 0 else if n = 1 then 1 else if n ≤ 3 then 2 else if n ≤ 7 then 3 else 4)) [] := by
  have c1 : decide ((4294967296 : Int) ≤ (n : Int)) = false := by simp; omega
  have c2 : decide ((65536 : Int) ≤ (n : Int)) = false := by simp; omega
  have c3 : decide ((256 : Int) ≤ (n : Int)) = false := by simp; omega
  refine Ctr.intro Try.mixed Try.func264 rfl Try.okF264 ?_
  simp -implicitDefEqProofs -dsimp only [go_sem, Nat.reduceSub, Nat.reduceAdd, Nat.reduceMul, Nat.reduceLT, Nat.reduceLeDiff, Nat.reduceEqDiff, Nat.reduceDiv, Nat.reduceMod, Int.reduceToNat, Int.reduceLE, Int.reduceLT, Int.reduceBEq, Int.reduceBNe, Int.reduceNeg, Int.reduceAdd, Int.reduceSub, Int.reduceMul, reduceCtorEq, Try.ntmps264, Try.results264]
  (repeat ((repeat1' (first | simp -implicitDefEqProofs -dsimp only [go_sem, Nat.reduceSub, Nat.reduceAdd, Nat.reduceMul, Nat.reduceLT, Nat.reduceLeDiff, Nat.reduceEqDiff, Nat.reduceDiv, Nat.reduceMod, Int.reduceToNat, Int.reduceLE, Int.reduceLT, Int.reduceBEq, Int.reduceBNe, Int.reduceNeg, Int.reduceAdd, Int.reduceSub, Int.reduceMul, reduceCtorEq, c1, c2, c3] | simp -implicitDefEqProofs -dsimp (disch := omega) only [wrap_i64])); repeat (with_reducible refine sideA ?_)))
  have hc : n = 0 ∨ n = 1 ∨ n = 2 ∨ n = 3 ∨ n = 4 ∨ n = 5 ∨ n = 6 ∨ n = 7 ∨ n = 8 ∨ n = 9 ∨ n = 10 ∨ n = 11 ∨ n = 12 := by omega
  rcases hc with rfl | rfl | rfl | rfl | rfl | rfl | rfl | rfl | rfl | rfl | rfl | rfl | rfl <;> exact ⟨by decide, WeakR.drop' (by first | rfl | kernel_rfl) (by rfl)⟩
theorem len_ok (n : Nat) (hn : n ≤ 12) : Ctr Try.prog 226 [.int .u64 n] [] (.int .i64 (if n = 0 then 0 else if n = 1 then 1 else if n ≤ 3 then 2 else if n ≤ 7 then 3 else 4)) [] := by
  refine Ctr.intro Try.mixed Try.func226 rfl Try.okF226 ?_
  simp -implicitDefEqProofs -dsimp only [go_sem, Nat.reduceSub, Nat.reduceAdd, Nat.reduceMul, Nat.reduceLT, Nat.reduceLeDiff, Nat.reduceEqDiff, Nat.reduceDiv, Nat.reduceMod, Int.reduceToNat, Int.reduceLE, Int.reduceLT, Int.reduceBEq, Int.reduceBNe, Int.reduceNeg, Int.reduceAdd, Int.reduceSub, Int.reduceMul, reduceCtorEq, Try.ntmps226, Try.results226]
  (repeat ((repeat1' (first | simp -implicitDefEqProofs -dsimp only [go_sem, Nat.reduceSub, Nat.reduceAdd, Nat.reduceMul, Nat.reduceLT, Nat.reduceLeDiff, Nat.reduceEqDiff, Nat.reduceDiv, Nat.reduceMod, Int.reduceToNat, Int.reduceLE, Int.reduceLT, Int.reduceBEq, Int.reduceBNe, Int.reduceNeg, Int.reduceAdd, Int.reduceSub, Int.reduceMul, reduceCtorEq] | simp -implicitDefEqProofs -dsimp (disch := omega) only [wrap_i64])); repeat (with_reducible refine sideA ?_)))
  (first | refine callT.at (len64_ok n hn) ⟨leA, trivial⟩ ?_ | refine callS.at (len64_ok n hn) ⟨leA, trivial⟩ ?_)
  (repeat ((repeat1' (first | simp -implicitDefEqProofs -dsimp only [go_sem, Nat.reduceSub, Nat.reduceAdd, Nat.reduceMul, Nat.reduceLT, Nat.reduceLeDiff, Nat.reduceEqDiff, Nat.reduceDiv, Nat.reduceMod, Int.reduceToNat, Int.reduceLE, Int.reduceLT, Int.reduceBEq, Int.reduceBNe, Int.reduceNeg, Int.reduceAdd, Int.reduceSub, Int.reduceMul, reduceCtorEq] | simp -implicitDefEqProofs -dsimp (disch := omega) only [wrap_i64])); repeat (with_reducible refine sideA ?_)))
  exact WeakR.drop' rfl (by rfl)
theorem pdqInt_ok (L : List Int) (z : Int) (hl : L.length ≤ 12) : Ctr Try.prog 225 [.osl 0 0 L.length 1, .int .i64 0, .int .i64 L.length, .int .i64 z] [some (rows IntS.cs L)] (.tup []) [some (rows IntS.cs (insSort ltI L))] := by
  have c1 : decide ((L.length : Int) ≤ 12) = true := by simp; omega
  refine Ctr.intro Try.mixed Try.func225 rfl Try.okF225 ?_
  simp -implicitDefEqProofs -dsimp only [go_sem, Nat.reduceSub, Nat.reduceAdd, Nat.reduceMul, Nat.reduceLT, Nat.reduceLeDiff, Nat.reduceEqDiff, Nat.reduceDiv, Nat.reduceMod, Int.reduceToNat, Int.reduceLE, Int.reduceLT, Int.reduceBEq, Int.reduceBNe, Int.reduceNeg, Int.reduceAdd, Int.reduceSub, Int.reduceMul, reduceCtorEq, Try.ntmps225, Try.results225]
  (repeat ((repeat1' (first | simp -implicitDefEqProofs -dsimp only [go_sem, Nat.reduceSub, Nat.reduceAdd, Nat.reduceMul, Nat.reduceLT, Nat.reduceLeDiff, Nat.reduceEqDiff, Nat.reduceDiv, Nat.reduceMod, Int.reduceToNat, Int.reduceLE, Int.reduceLT, Int.reduceBEq, Int.reduceBNe, Int.reduceNeg, Int.reduceAdd, Int.reduceSub, Int.reduceMul, reduceCtorEq] | simp -implicitDefEqProofs -dsimp (disch := omega) only [wrap_i64])); repeat (with_reducible refine sideA ?_)))
  refine LoopT.intro (fun _ : Unit => True) (fun _ => ⟨[.osl 0 0 L.length 1, .int .i64 0, .int .i64 L.length, .int .i64 z, .undef, .undef, .undef, .undef, .bool true, .bool true, .undef, .undef, .undef, .undef, .undef, .undef, .undef, .undef, .undef, .undef, .undef, .undef, .undef, .undef, .undef, .undef, .undef, .undef, .undef, .undef, .undef, .undef, .undef, .undef, .undef, .undef, .undef, .undef, .undef, .undef, .undef, .undef, .undef, .undef, .undef, .undef, .undef, .undef, .undef, .undef, .undef, .undef, .undef, .undef, .undef, .undef, .undef, .undef, .undef, .undef, .undef, .undef, .undef, .undef, .undef, .undef, .undef, .undef, .undef, .undef, .undef, .undef, .undef, .undef, .undef, .undef, .undef, .undef, .undef, .undef, .undef, .undef, .undef, .undef, .undef, .undef, .undef, .undef, .undef, .undef, .undef, .undef, .undef, .undef, .undef, .undef, .undef, .undef, .undef, .undef, .undef, .undef, .undef, .undef, .undef, .undef, .undef, .undef, .undef, .undef, .undef, .undef, .undef, .undef, .undef, .undef, .undef, .undef, .undef, .undef, .undef, .undef, .undef, .undef, .undef, .undef, .undef, .undef, .undef, .undef, .undef, .undef, .undef, .undef], [some (rows IntS.cs L)], 1⟩) (fun _ => 0) () trivial ?_ (fun _ _ => ?_)
  · refine Weak.cut (1) (by simp) (by simp) ?_ ?_
    · simp [LeC, LeV, ren, cutF]
    · simp [cutH, cutB, map_ren_rows]
  (repeat ((repeat1' (first | simp -implicitDefEqProofs -dsimp only [go_sem, Nat.reduceSub, Nat.reduceAdd, Nat.reduceMul, Nat.reduceLT, Nat.reduceLeDiff, Nat.reduceEqDiff, Nat.reduceDiv, Nat.reduceMod, Int.reduceToNat, Int.reduceLE, Int.reduceLT, Int.reduceBEq, Int.reduceBNe, Int.reduceNeg, Int.reduceAdd, Int.reduceSub, Int.reduceMul, reduceCtorEq, c1, Int.sub_zero] | simp -implicitDefEqProofs -dsimp (disch := omega) only [wrap_i64])); repeat (with_reducible refine sideA ?_)))
  refine callS.lend [0] false ( insertionInt_ok L (by omega)) (by decide) ⟨leO, leO, leO, trivial⟩ lendA ( grown_one (by simp [rows_length, insSort_len])) (.inl rfl) ?_
  (repeat ((repeat1' (first | simp -implicitDefEqProofs -dsimp only [go_sem, Nat.reduceSub, Nat.reduceAdd, Nat.reduceMul, Nat.reduceLT, Nat.reduceLeDiff, Nat.reduceEqDiff, Nat.reduceDiv, Nat.reduceMod, Int.reduceToNat, Int.reduceLE, Int.reduceLT, Int.reduceBEq, Int.reduceBNe, Int.reduceNeg, Int.reduceAdd, Int.reduceSub, Int.reduceMul, reduceCtorEq] | simp -implicitDefEqProofs -dsimp (disch := omega) only [wrap_i64])); repeat (with_reducible refine sideA ?_)))
  exact WeakR.refl _ _ _
theorem sortInt_ok (L : List Int) (hl : L.length ≤ 12) : Ctr Try.prog 149 [.osl 0 0 L.length 1] [some (rows IntS.cs L)] (.tup []) [some (rows IntS.cs (insSort ltI L))] := by
  have hw : IntKind.u64.wrap (L.length : Int) = (L.length : Int) := by simp [IntKind.wrap, IntKind.bits, IntKind.signed]; omega
  refine Ctr.intro Try.mixed Try.func149 rfl Try.okF149 ?_
  simp -implicitDefEqProofs -dsimp only [go_sem, Nat.reduceSub, Nat.reduceAdd, Nat.reduceMul, Nat.reduceLT, Nat.reduceLeDiff, Nat.reduceEqDiff, Nat.reduceDiv, Nat.reduceMod, Int.reduceToNat, Int.reduceLE, Int.reduceLT, Int.reduceBEq, Int.reduceBNe, Int.reduceNeg, Int.reduceAdd, Int.reduceSub, Int.reduceMul, reduceCtorEq, Try.ntmps149, Try.results149]
  (repeat ((repeat1' (first | simp -implicitDefEqProofs -dsimp only [go_sem, Nat.reduceSub, Nat.reduceAdd, Nat.reduceMul, Nat.reduceLT, Nat.reduceLeDiff, Nat.reduceEqDiff, Nat.reduceDiv, Nat.reduceMod, Int.reduceToNat, Int.reduceLE, Int.reduceLT, Int.reduceBEq, Int.reduceBNe, Int.reduceNeg, Int.reduceAdd, Int.reduceSub, Int.reduceMul, reduceCtorEq, hw] | simp -implicitDefEqProofs -dsimp (disch := omega) only [wrap_i64])); repeat (with_reducible refine sideA ?_)))
  (first | refine callT.at (len_ok L.length hl) ⟨leA, trivial⟩ ?_ | refine callS.at (len_ok L.length hl) ⟨leA, trivial⟩ ?_)
  (repeat ((repeat1' (first | simp -implicitDefEqProofs -dsimp only [go_sem, Nat.reduceSub, Nat.reduceAdd, Nat.reduceMul, Nat.reduceLT, Nat.reduceLeDiff, Nat.reduceEqDiff, Nat.reduceDiv, Nat.reduceMod, Int.reduceToNat, Int.reduceLE, Int.reduceLT, Int.reduceBEq, Int.reduceBNe, Int.reduceNeg, Int.reduceAdd, Int.reduceSub, Int.reduceMul, reduceCtorEq] | simp -implicitDefEqProofs -dsimp (disch := omega) only [wrap_i64])); repeat (with_reducible refine sideA ?_)))
  refine callS.lend [0] false ( pdqInt_ok L _ hl) (by decide) ⟨leO, leO, leO, leO, trivial⟩ lendA ( grown_one (by simp [rows_length, insSort_len])) (.inl rfl) ?_
  (repeat ((repeat1' (first | simp -implicitDefEqProofs -dsimp only [go_sem, Nat.reduceSub, Nat.reduceAdd, Nat.reduceMul, Nat.reduceLT, Nat.reduceLeDiff, Nat.reduceEqDiff, Nat.reduceDiv, Nat.reduceMod, Int.reduceToNat, Int.reduceLE, Int.reduceLT, Int.reduceBEq, Int.reduceBNe, Int.reduceNeg, Int.reduceAdd, Int.reduceSub, Int.reduceMul, reduceCtorEq] | simp -implicitDefEqProofs -dsimp (disch := omega) only [wrap_i64])); repeat (with_reducible refine sideA ?_)))
  exact WeakR.refl _ _ _
end Go.Proofs
