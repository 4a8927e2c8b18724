/-
  A part of the proof: texts put together by a program of the prover. Conditions: none.
-/
import Derived.Test.YtfnlgojocgdmcaaZQuakesLaw4
set_option linter.unusedSimpArgs false
set_option linter.unusedVariables false
section
set_option linter.unusedSimpArgs false
set_option linter.unusedVariables false
set_option maxRecDepth 100000
set_option maxHeartbeats 2000000
namespace Go.Proofs
open Go.Lv
def sameQ (a b : QuakeRow) : Bool := inB' (a.Tick - b.Tick) (-300) 300 && decide ((a.X - b.X) * (a.X - b.X) + (a.Y - b.Y) * (a.Y - b.Y) ≤ 400)
def betB (r q : QuakeRow) : Bool := sameQ r q && decide (q.Grade < r.Grade)
def bestOne (B : List QuakeRow) (r : QuakeRow) : QuakeRow := if idxI (betB r) B < 0 then r else B.getD (idxI (betB r) B).toNat r
theorem bestOne_found {B : List QuakeRow} {r : QuakeRow} {k : Nat} (h : k < B.length) (h0 : (B.take k).any (betB r) = false) (h1 : betB r B[k] = true) : bestOne B r = B[k] := by
  rw [bestOne, idxI_found h h0 h1, if_neg (by omega)]; simp [List.getD, h]
theorem bestOne_none {B : List QuakeRow} {r : QuakeRow} (h : B.any (betB r) = false) : bestOne B r = r := by
  rw [bestOne, idxI_none h, if_pos (by omega)]
theorem idxI_cases {α : Type} (p : α → Bool) (L : List α) : idxI p L = -1 ∨ ∃ k, ∃ _ : k < L.length, idxI p L = (k : Int) := by
  unfold idxI
  cases h : L.findIdx? p with
  | none => exact .inl rfl
  | some i =>
    rw [List.findIdx?_eq_some_iff_getElem] at h
    obtain ⟨hi, _⟩ := h
    exact .inr ⟨i, hi, rfl⟩
def ltT (x y : QuakeRow) : Bool := decide (x.Tick < y.Tick)
def srtQ (B L : List QuakeRow) (i : Nat) : List QuakeRow := insSort ltT ((L.map (bestOne B)).take i)
theorem srtQ_len {B L : List QuakeRow} {i : Nat} (h : i ≤ L.length) : (srtQ B L i).length = i := by simp [srtQ, insSort_len]; omega
theorem srtQ_succ {B L : List QuakeRow} {i : Nat} (h : i < L.length) : srtQ B L (i + 1) = ins ltT (srtQ B L i) (bestOne B L[i]) := by
  have h' : i < (L.map (bestOne B)).length := by simpa using h
  rw [srtQ, insSort_take h']; simp [srtQ]
theorem srtQ_all (B L : List QuakeRow) : srtQ B L L.length = insSort ltT (L.map (bestOne B)) := by
  have : L.length = (L.map (bestOne B)).length := by simp
  rw [srtQ, this, List.take_length]
/-- The better rows of both lists: what both return. -/
def bothR (L B : List QuakeRow) : Option (List QuakeRow) := if bulB L = true ∧ bulB B = true ∧ bulB (insSort ltT (L.map (bestOne B))) = true then some (insSort ltT (L.map (bestOne B))) else none
theorem bothR_no {L B : List QuakeRow} (h : bulB L = false ∨ bulB B = false ∨ bulB (insSort ltT (L.map (bestOne B))) = false) : bothR L B = none := by
  rw [bothR, if_neg]
  rintro ⟨h1, h2, h3⟩
  simp [h1, h2, h3] at h
theorem l24Same_ok (a b : QuakeRow) (ha : qrB a = true) (hb : qrB b = true) : Ctr Try.prog 107 [a.v, b.v] [] (.bool (sameQ a b)) [] := by
  have h1 := qrB_iff.1 ha
  have h2 := qrB_iff.1 hb
  refine Ctr.intro Try.mixed Try.func107 rfl Try.okF107 ?_
  simp -implicitDefEqProofs -dsimp only [go_sem, Nat.reduceSub, Nat.reduceAdd, Nat.reduceMul, Nat.reduceLT, Nat.reduceLeDiff, Nat.reduceEqDiff, Nat.reduceDiv, Nat.reduceMod, Int.reduceToNat, Int.reduceLE, Int.reduceLT, Int.reduceBEq, Int.reduceBNe, Int.reduceNeg, Int.reduceAdd, Int.reduceSub, Int.reduceMul, reduceCtorEq, Try.ntmps107, Try.results107]
  (repeat ((repeat1' (first | simp -implicitDefEqProofs -dsimp only [go_sem, Nat.reduceSub, Nat.reduceAdd, Nat.reduceMul, Nat.reduceLT, Nat.reduceLeDiff, Nat.reduceEqDiff, Nat.reduceDiv, Nat.reduceMod, Int.reduceToNat, Int.reduceLE, Int.reduceLT, Int.reduceBEq, Int.reduceBNe, Int.reduceNeg, Int.reduceAdd, Int.reduceSub, Int.reduceMul, reduceCtorEq, QuakeRow.v] | simp -implicitDefEqProofs -dsimp (disch := omega) only [wrap_i64])); repeat (with_reducible refine sideA ?_)))
  (first | refine callT.at (l1In_ok _ _ _) ⟨leA, leA, leA, trivial⟩ ?_ | refine callS.at (l1In_ok _ _ _) ⟨leA, leA, leA, trivial⟩ ?_)
  (repeat ((repeat1' (first | simp -implicitDefEqProofs -dsimp only [go_sem, Nat.reduceSub, Nat.reduceAdd, Nat.reduceMul, Nat.reduceLT, Nat.reduceLeDiff, Nat.reduceEqDiff, Nat.reduceDiv, Nat.reduceMod, Int.reduceToNat, Int.reduceLE, Int.reduceLT, Int.reduceBEq, Int.reduceBNe, Int.reduceNeg, Int.reduceAdd, Int.reduceSub, Int.reduceMul, reduceCtorEq, QuakeRow.v] | simp -implicitDefEqProofs -dsimp (disch := omega) only [wrap_i64])); repeat (with_reducible refine sideA ?_)))
  refine guardT.split (fun h3 => ?_) (fun h3 => ?_) <;> (repeat ((repeat1' (first | simp -implicitDefEqProofs -dsimp only [go_sem, Nat.reduceSub, Nat.reduceAdd, Nat.reduceMul, Nat.reduceLT, Nat.reduceLeDiff, Nat.reduceEqDiff, Nat.reduceDiv, Nat.reduceMod, Int.reduceToNat, Int.reduceLE, Int.reduceLT, Int.reduceBEq, Int.reduceBNe, Int.reduceNeg, Int.reduceAdd, Int.reduceSub, Int.reduceMul, reduceCtorEq, h3] | simp -implicitDefEqProofs -dsimp (disch := omega) only [wrap_i64])); repeat (with_reducible refine sideA ?_)))
  · (first | refine callT.at (l24Square_ok a b.X b.Y (by omega) (by omega)) ⟨leA, leA, leA, trivial⟩ ?_ | refine callS.at (l24Square_ok a b.X b.Y (by omega) (by omega)) ⟨leA, leA, leA, trivial⟩ ?_)
    (repeat ((repeat1' (first | simp -implicitDefEqProofs -dsimp only [go_sem, Nat.reduceSub, Nat.reduceAdd, Nat.reduceMul, Nat.reduceLT, Nat.reduceLeDiff, Nat.reduceEqDiff, Nat.reduceDiv, Nat.reduceMod, Int.reduceToNat, Int.reduceLE, Int.reduceLT, Int.reduceBEq, Int.reduceBNe, Int.reduceNeg, Int.reduceAdd, Int.reduceSub, Int.reduceMul, reduceCtorEq] | simp -implicitDefEqProofs -dsimp (disch := omega) only [wrap_i64])); repeat (with_reducible refine sideA ?_)))
    exact WeakR.drop' (by simp [sameQ, h3]) rfl
  · exact WeakR.drop' (by simp [sameQ, h3]) rfl
theorem sameEvent_ok (a b : QuakeRow) (ha : qrB a = true) (hb : qrB b = true) : Ctr Try.prog 103 [a.v, b.v] [] (.bool (sameQ a b)) [] := by
  have h1 := qrB_iff.1 ha
  have h2 := qrB_iff.1 hb
  have he : decide (((a.Tick - b.Tick).natAbs : Int) ≤ 300) = inB' (a.Tick - b.Tick) (-300) 300 := by simp only [inB', ← Bool.decide_and]; exact decide_eq_decide.2 (by omega)
  refine Ctr.intro Try.mixed Try.func103 rfl Try.okF103 ?_
  simp -implicitDefEqProofs -dsimp only [go_sem, Nat.reduceSub, Nat.reduceAdd, Nat.reduceMul, Nat.reduceLT, Nat.reduceLeDiff, Nat.reduceEqDiff, Nat.reduceDiv, Nat.reduceMod, Int.reduceToNat, Int.reduceLE, Int.reduceLT, Int.reduceBEq, Int.reduceBNe, Int.reduceNeg, Int.reduceAdd, Int.reduceSub, Int.reduceMul, reduceCtorEq, Try.ntmps103, Try.results103]
  (repeat ((repeat1' (first | simp -implicitDefEqProofs -dsimp only [go_sem, Nat.reduceSub, Nat.reduceAdd, Nat.reduceMul, Nat.reduceLT, Nat.reduceLeDiff, Nat.reduceEqDiff, Nat.reduceDiv, Nat.reduceMod, Int.reduceToNat, Int.reduceLE, Int.reduceLT, Int.reduceBEq, Int.reduceBNe, Int.reduceNeg, Int.reduceAdd, Int.reduceSub, Int.reduceMul, reduceCtorEq, QuakeRow.v] | simp -implicitDefEqProofs -dsimp (disch := omega) only [wrap_i64])); repeat (with_reducible refine sideA ?_)))
  (first | refine callT.at (abs_ok (a.Tick - b.Tick) (by omega) (by omega)) ⟨leA, trivial⟩ ?_ | refine callS.at (abs_ok (a.Tick - b.Tick) (by omega) (by omega)) ⟨leA, trivial⟩ ?_)
  (repeat ((repeat1' (first | simp -implicitDefEqProofs -dsimp only [go_sem, Nat.reduceSub, Nat.reduceAdd, Nat.reduceMul, Nat.reduceLT, Nat.reduceLeDiff, Nat.reduceEqDiff, Nat.reduceDiv, Nat.reduceMod, Int.reduceToNat, Int.reduceLE, Int.reduceLT, Int.reduceBEq, Int.reduceBNe, Int.reduceNeg, Int.reduceAdd, Int.reduceSub, Int.reduceMul, reduceCtorEq, he] | simp -implicitDefEqProofs -dsimp (disch := omega) only [wrap_i64])); repeat (with_reducible refine sideA ?_)))
  refine guardT.split (fun h3 => ?_) (fun h3 => ?_) <;> (repeat ((repeat1' (first | simp -implicitDefEqProofs -dsimp only [go_sem, Nat.reduceSub, Nat.reduceAdd, Nat.reduceMul, Nat.reduceLT, Nat.reduceLeDiff, Nat.reduceEqDiff, Nat.reduceDiv, Nat.reduceMod, Int.reduceToNat, Int.reduceLE, Int.reduceLT, Int.reduceBEq, Int.reduceBNe, Int.reduceNeg, Int.reduceAdd, Int.reduceSub, Int.reduceMul, reduceCtorEq, h3] | simp -implicitDefEqProofs -dsimp (disch := omega) only [wrap_i64])); repeat (with_reducible refine sideA ?_)))
  · (first | refine callT.at (square_ok (a.X - b.X) (a.Y - b.Y) (by omega) (by omega)) ⟨leA, leA, trivial⟩ ?_ | refine callS.at (square_ok (a.X - b.X) (a.Y - b.Y) (by omega) (by omega)) ⟨leA, leA, trivial⟩ ?_)
    (repeat ((repeat1' (first | simp -implicitDefEqProofs -dsimp only [go_sem, Nat.reduceSub, Nat.reduceAdd, Nat.reduceMul, Nat.reduceLT, Nat.reduceLeDiff, Nat.reduceEqDiff, Nat.reduceDiv, Nat.reduceMod, Int.reduceToNat, Int.reduceLE, Int.reduceLT, Int.reduceBEq, Int.reduceBNe, Int.reduceNeg, Int.reduceAdd, Int.reduceSub, Int.reduceMul, reduceCtorEq] | simp -implicitDefEqProofs -dsimp (disch := omega) only [wrap_i64])); repeat (with_reducible refine sideA ?_)))
    exact WeakR.drop' (by simp [sameQ, h3]) rfl
  · exact WeakR.drop' (by simp [sameQ, h3]) rfl
theorem better_ok (r q : QuakeRow) (hr : qrB r = true) (hq : qrB q = true) : Ctr Try.prog 102 [q.v, .pt r.cs] [] (.bool (betB r q)) [] := by
  refine Ctr.intro Try.mixed Try.func102 rfl Try.okF102 ?_
  simp -implicitDefEqProofs -dsimp only [go_sem, Nat.reduceSub, Nat.reduceAdd, Nat.reduceMul, Nat.reduceLT, Nat.reduceLeDiff, Nat.reduceEqDiff, Nat.reduceDiv, Nat.reduceMod, Int.reduceToNat, Int.reduceLE, Int.reduceLT, Int.reduceBEq, Int.reduceBNe, Int.reduceNeg, Int.reduceAdd, Int.reduceSub, Int.reduceMul, reduceCtorEq, Try.ntmps102, Try.results102]
  (repeat ((repeat1' (first | simp -implicitDefEqProofs -dsimp only [go_sem, Nat.reduceSub, Nat.reduceAdd, Nat.reduceMul, Nat.reduceLT, Nat.reduceLeDiff, Nat.reduceEqDiff, Nat.reduceDiv, Nat.reduceMod, Int.reduceToNat, Int.reduceLE, Int.reduceLT, Int.reduceBEq, Int.reduceBNe, Int.reduceNeg, Int.reduceAdd, Int.reduceSub, Int.reduceMul, reduceCtorEq, QuakeRow.v, QuakeRow.cs] | simp -implicitDefEqProofs -dsimp (disch := omega) only [wrap_i64])); repeat (with_reducible refine sideA ?_)))
  (first | refine callT.at (sameEvent_ok r q hr hq) ⟨leA, leA, trivial⟩ ?_ | refine callS.at (sameEvent_ok r q hr hq) ⟨leA, leA, trivial⟩ ?_)
  (repeat ((repeat1' (first | simp -implicitDefEqProofs -dsimp only [go_sem, Nat.reduceSub, Nat.reduceAdd, Nat.reduceMul, Nat.reduceLT, Nat.reduceLeDiff, Nat.reduceEqDiff, Nat.reduceDiv, Nat.reduceMod, Int.reduceToNat, Int.reduceLE, Int.reduceLT, Int.reduceBEq, Int.reduceBNe, Int.reduceNeg, Int.reduceAdd, Int.reduceSub, Int.reduceMul, reduceCtorEq] | simp -implicitDefEqProofs -dsimp (disch := omega) only [wrap_i64])); repeat (with_reducible refine sideA ?_)))
  refine guardT.split (fun h3 => ?_) (fun h3 => ?_) <;> (repeat ((repeat1' (first | simp -implicitDefEqProofs -dsimp only [go_sem, Nat.reduceSub, Nat.reduceAdd, Nat.reduceMul, Nat.reduceLT, Nat.reduceLeDiff, Nat.reduceEqDiff, Nat.reduceDiv, Nat.reduceMod, Int.reduceToNat, Int.reduceLE, Int.reduceLT, Int.reduceBEq, Int.reduceBNe, Int.reduceNeg, Int.reduceAdd, Int.reduceSub, Int.reduceMul, reduceCtorEq, h3] | simp -implicitDefEqProofs -dsimp (disch := omega) only [wrap_i64])); repeat (with_reducible refine sideA ?_)))
  · exact WeakR.drop' (by simp [betB, h3]) rfl
  · exact WeakR.drop' (by simp [betB, h3]) rfl
theorem cmpTick_ok (a b : QuakeRow) : Ctr Try.prog 105 [a.v, b.v] [] (.int .i64 (cmpI a.Tick b.Tick)) [] := by
  refine Ctr.intro Try.mixed Try.func105 rfl Try.okF105 ?_
  simp -implicitDefEqProofs -dsimp only [go_sem, Nat.reduceSub, Nat.reduceAdd, Nat.reduceMul, Nat.reduceLT, Nat.reduceLeDiff, Nat.reduceEqDiff, Nat.reduceDiv, Nat.reduceMod, Int.reduceToNat, Int.reduceLE, Int.reduceLT, Int.reduceBEq, Int.reduceBNe, Int.reduceNeg, Int.reduceAdd, Int.reduceSub, Int.reduceMul, reduceCtorEq, Try.ntmps105, Try.results105]
  (repeat ((repeat1' (first | simp -implicitDefEqProofs -dsimp only [go_sem, Nat.reduceSub, Nat.reduceAdd, Nat.reduceMul, Nat.reduceLT, Nat.reduceLeDiff, Nat.reduceEqDiff, Nat.reduceDiv, Nat.reduceMod, Int.reduceToNat, Int.reduceLE, Int.reduceLT, Int.reduceBEq, Int.reduceBNe, Int.reduceNeg, Int.reduceAdd, Int.reduceSub, Int.reduceMul, reduceCtorEq, QuakeRow.v] | simp -implicitDefEqProofs -dsimp (disch := omega) only [wrap_i64])); repeat (with_reducible refine sideA ?_)))
  (first | refine callT.at (compareInt_ok a.Tick b.Tick) ⟨leA, leA, trivial⟩ ?_ | refine callS.at (compareInt_ok a.Tick b.Tick) ⟨leA, leA, trivial⟩ ?_)
  (repeat ((repeat1' (first | simp -implicitDefEqProofs -dsimp only [go_sem, Nat.reduceSub, Nat.reduceAdd, Nat.reduceMul, Nat.reduceLT, Nat.reduceLeDiff, Nat.reduceEqDiff, Nat.reduceDiv, Nat.reduceMod, Int.reduceToNat, Int.reduceLE, Int.reduceLT, Int.reduceBEq, Int.reduceBNe, Int.reduceNeg, Int.reduceAdd, Int.reduceSub, Int.reduceMul, reduceCtorEq] | simp -implicitDefEqProofs -dsimp (disch := omega) only [wrap_i64])); repeat (with_reducible refine sideA ?_)))
  exact WeakR.drop' rfl rfl
theorem copyOfQuakeRow_ok (L : List QuakeRow) (hl : L.length ≤ 1048576) : Ctr Try.prog 100 [QuakeRow.sl L] [] (.osl 0 0 L.length 7) [some (rows QuakeRow.cs L)] := by
  refine Ctr.intro Try.mixed Try.func100 rfl Try.okF100 ?_
  simp -implicitDefEqProofs -dsimp only [go_sem, Nat.reduceSub, Nat.reduceAdd, Nat.reduceMul, Nat.reduceLT, Nat.reduceLeDiff, Nat.reduceEqDiff, Nat.reduceDiv, Nat.reduceMod, Int.reduceToNat, Int.reduceLE, Int.reduceLT, Int.reduceBEq, Int.reduceBNe, Int.reduceNeg, Int.reduceAdd, Int.reduceSub, Int.reduceMul, reduceCtorEq, Try.ntmps100, Try.results100]
  repeat (with_reducible refine sideA ?_)
  exact WeakR.refl _ _ _
theorem sBestOfBoth_ok (L B : List QuakeRow) (hl : L.length ≤ 1048576) (hb : B.length ≤ 1048576) : Ctr Try.prog 33 [QuakeRow.sl L, QuakeRow.sl B] [] (optO 7 (bothR L B)) (optOh QuakeRow.cs (bothR L B)) := by
  refine Ctr.intro Try.mixed Try.func33 rfl Try.okF33 ?_
  simp -implicitDefEqProofs -dsimp only [go_sem, Nat.reduceSub, Nat.reduceAdd, Nat.reduceMul, Nat.reduceLT, Nat.reduceLeDiff, Nat.reduceEqDiff, Nat.reduceDiv, Nat.reduceMod, Int.reduceToNat, Int.reduceLE, Int.reduceLT, Int.reduceBEq, Int.reduceBNe, Int.reduceNeg, Int.reduceAdd, Int.reduceSub, Int.reduceMul, reduceCtorEq, Try.ntmps33, Try.results33]
  (first | refine callT.at (l24Good_ok L (by omega)) ⟨leA, trivial⟩ ?_ | refine callS.at (l24Good_ok L (by omega)) ⟨leA, trivial⟩ ?_)
  simp -implicitDefEqProofs -dsimp only [go_sem, Nat.reduceSub, Nat.reduceAdd, Nat.reduceMul, Nat.reduceLT, Nat.reduceLeDiff, Nat.reduceEqDiff, Nat.reduceDiv, Nat.reduceMod, Int.reduceToNat, Int.reduceLE, Int.reduceLT, Int.reduceBEq, Int.reduceBNe, Int.reduceNeg, Int.reduceAdd, Int.reduceSub, Int.reduceMul, reduceCtorEq]
  refine guardT.splitF (fun h1 => ?_) (fun h1 => ?_) <;> simp -implicitDefEqProofs -dsimp only [go_sem, Nat.reduceSub, Nat.reduceAdd, Nat.reduceMul, Nat.reduceLT, Nat.reduceLeDiff, Nat.reduceEqDiff, Nat.reduceDiv, Nat.reduceMod, Int.reduceToNat, Int.reduceLE, Int.reduceLT, Int.reduceBEq, Int.reduceBNe, Int.reduceNeg, Int.reduceAdd, Int.reduceSub, Int.reduceMul, reduceCtorEq, h1]
  rotate_left
  · rw [bothR_no (.inl (by simpa using h1))]
    exact WeakR.refl _ _ _
  (first | refine callT.at (l24Good_ok B (by omega)) ⟨leA, trivial⟩ ?_ | refine callS.at (l24Good_ok B (by omega)) ⟨leA, trivial⟩ ?_)
  simp -implicitDefEqProofs -dsimp only [go_sem, Nat.reduceSub, Nat.reduceAdd, Nat.reduceMul, Nat.reduceLT, Nat.reduceLeDiff, Nat.reduceEqDiff, Nat.reduceDiv, Nat.reduceMod, Int.reduceToNat, Int.reduceLE, Int.reduceLT, Int.reduceBEq, Int.reduceBNe, Int.reduceNeg, Int.reduceAdd, Int.reduceSub, Int.reduceMul, reduceCtorEq]
  refine condT.split (fun h2 => ?_) (fun h2 => ?_) <;> simp -implicitDefEqProofs -dsimp only [go_sem, Nat.reduceSub, Nat.reduceAdd, Nat.reduceMul, Nat.reduceLT, Nat.reduceLeDiff, Nat.reduceEqDiff, Nat.reduceDiv, Nat.reduceMod, Int.reduceToNat, Int.reduceLE, Int.reduceLT, Int.reduceBEq, Int.reduceBNe, Int.reduceNeg, Int.reduceAdd, Int.reduceSub, Int.reduceMul, reduceCtorEq, h2]
  · rw [bothR_no (.inr (.inl (by simpa using h2)))]
    exact WeakR.refl _ _ _
  have h1' : bulB L = true := by simpa using h1
  have h2' : bulB B = true := by simpa using h2
  obtain ⟨hv, hlen⟩ := bulB_all h1'
  obtain ⟨hvb, hlenb⟩ := bulB_all h2'
  refine LoopT.intro (fun i : Nat => i ≤ L.length) (fun i => ⟨[QuakeRow.sl L, QuakeRow.sl B, .undef, .undef, .undef, .undef, .osl 0 0 i 7, .int .i64 i, .undef, .undef, .undef, .undef, .undef, .undef, .undef, .undef, .undef, .undef, .undef, .undef, .undef, .undef, .undef, .undef, .undef, .undef, .undef, .undef, .undef, .undef, .undef, .undef, .undef, .undef, .undef, .undef, .undef, .undef, .undef, .undef, .undef, .undef, .undef, .undef, .undef, .undef, .undef, .undef, .undef, .undef, .undef, .undef, .undef, .undef, .undef, .undef, .undef, .undef, .undef, .undef, .undef, .undef, .undef, .undef, .undef, .undef, .undef, .undef, .undef, .undef, .undef, .undef, .undef, .undef, .undef, .undef, .undef, .undef, .undef, .undef, .undef, .undef, .undef, .undef, .undef, .undef, .undef, .undef, .undef, .undef, .undef, .undef, .undef, .undef, .undef, .undef, .undef], [some (rows QuakeRow.cs (srtQ B L i))], 0⟩) (fun i => L.length - i) 0 (Nat.zero_le _) ?_ (fun i hi => ?_)
  · refine Weak.cut (1) (by simp) (by simp) ?_ ?_
    · simp [LeC, LeV, ren, cutF]
    · simp [cutH, cutB, srtQ, insSort, rows]
  simp -implicitDefEqProofs -dsimp only [go_sem, Nat.reduceSub, Nat.reduceAdd, Nat.reduceMul, Nat.reduceLT, Nat.reduceLeDiff, Nat.reduceEqDiff, Nat.reduceDiv, Nat.reduceMod, Int.reduceToNat, Int.reduceLE, Int.reduceLT, Int.reduceBEq, Int.reduceBNe, Int.reduceNeg, Int.reduceAdd, Int.reduceSub, Int.reduceMul, reduceCtorEq]
  refine condT.split (fun h3 => ?_) (fun h3 => ?_)
  · have hi' : i < L.length := by simpa using h3
    have hS := srtQ_len (B := B) (L := L) hi
    have hr0 := rows_at QuakeRow.csl hi'
    have hvi := hv _ (List.getElem_mem hi')
    have fin : ∀ j : Nat, j ≤ i → posK ltT (srtQ B L i) (bestOne B L[i]) i = j → rows QuakeRow.cs ((srtQ B L i).take j) ++ (bestOne B L[i]).cs ++ rows QuakeRow.cs ((srtQ B L i).drop j) = rows QuakeRow.cs (srtQ B L (i + 1)) := by
      intro j hj hp
      rw [srtQ_succ hi', ins, hS, hp, putAt, rowsOf_append, rows_cons, List.append_assoc]
    (repeat ((repeat1' (first | simp -implicitDefEqProofs -dsimp only [go_sem, Nat.reduceSub, Nat.reduceAdd, Nat.reduceMul, Nat.reduceLT, Nat.reduceLeDiff, Nat.reduceEqDiff, Nat.reduceDiv, Nat.reduceMod, Int.reduceToNat, Int.reduceLE, Int.reduceLT, Int.reduceBEq, Int.reduceBNe, Int.reduceNeg, Int.reduceAdd, Int.reduceSub, Int.reduceMul, reduceCtorEq, h3, hr0, QuakeRow.cs] | simp -implicitDefEqProofs -dsimp (disch := omega) only [wrap_i64])); repeat (with_reducible refine sideA ?_)))
    refine LoopT.intro (fun k : Nat => k ≤ B.length ∧ (B.take k).any (betB L[i]) = false) (fun k => ⟨[QuakeRow.sl L, QuakeRow.sl B, .undef, .undef, .undef, .undef, .osl 0 0 i 7, .int .i64 i, .ptr 1 0, .int .i64 k, .undef, .undef, .undef, .undef, .undef, .undef, .undef, .undef, .undef, .undef, .undef, .undef, .undef, .undef, .undef, .undef, .undef, .undef, .undef, .undef, .undef, .undef, .undef, .undef, .undef, .undef, .undef, .undef, .undef, .undef, .undef, .undef, .undef, .undef, .undef, .undef, .undef, .undef, .undef, .undef, .undef, .undef, .undef, .undef, .undef, .undef, .undef, .undef, .undef, .undef, .undef, .undef, .undef, .undef, .undef, .undef, .undef, .undef, .undef, .undef, .undef, .undef, .undef, .undef, .undef, .undef, .undef, .undef, .undef, .undef, .undef, .undef, .undef, .undef, .undef, .undef, .undef, .undef, .undef, .undef, .undef, .undef, .undef, .undef, .undef, .undef, .undef], [some (rows QuakeRow.cs (srtQ B L i)), some L[i].cs], 0⟩) (fun k => B.length - k) 0 ⟨Nat.zero_le _, rfl⟩ ?_ (fun k hk => ?_)
    · refine Weak.cut (2) (by simp) (by simp) ?_ ?_
      · simp [LeC, LeV, ren, cutF]
      · simp [cutH, cutB, map_ren_rows, ren, QuakeRow.cs]
    simp -implicitDefEqProofs -dsimp only [go_sem, Nat.reduceSub, Nat.reduceAdd, Nat.reduceMul, Nat.reduceLT, Nat.reduceLeDiff, Nat.reduceEqDiff, Nat.reduceDiv, Nat.reduceMod, Int.reduceToNat, Int.reduceLE, Int.reduceLT, Int.reduceBEq, Int.reduceBNe, Int.reduceNeg, Int.reduceAdd, Int.reduceSub, Int.reduceMul, reduceCtorEq]
    refine condT.split (fun h4 => ?_) (fun h4 => ?_)
    · have hk' : k < B.length := by simpa using h4
      have hrk := rows_at QuakeRow.csl hk'
      have hvk := hvb _ (List.getElem_mem hk')
      (repeat ((repeat1' (first | simp -implicitDefEqProofs -dsimp only [go_sem, Nat.reduceSub, Nat.reduceAdd, Nat.reduceMul, Nat.reduceLT, Nat.reduceLeDiff, Nat.reduceEqDiff, Nat.reduceDiv, Nat.reduceMod, Int.reduceToNat, Int.reduceLE, Int.reduceLT, Int.reduceBEq, Int.reduceBNe, Int.reduceNeg, Int.reduceAdd, Int.reduceSub, Int.reduceMul, reduceCtorEq, h4, hr0, hrk, QuakeRow.cs] | simp -implicitDefEqProofs -dsimp (disch := omega) only [wrap_i64])); repeat (with_reducible refine sideA ?_)))
      (first | refine callT.at (l24Same_ok L[i] B[k] hvi hvk) ⟨leA, leA, trivial⟩ ?_ | refine callS.at (l24Same_ok L[i] B[k] hvi hvk) ⟨leA, leA, trivial⟩ ?_)
      (repeat ((repeat1' (first | simp -implicitDefEqProofs -dsimp only [go_sem, Nat.reduceSub, Nat.reduceAdd, Nat.reduceMul, Nat.reduceLT, Nat.reduceLeDiff, Nat.reduceEqDiff, Nat.reduceDiv, Nat.reduceMod, Int.reduceToNat, Int.reduceLE, Int.reduceLT, Int.reduceBEq, Int.reduceBNe, Int.reduceNeg, Int.reduceAdd, Int.reduceSub, Int.reduceMul, reduceCtorEq, hr0, hrk, QuakeRow.cs] | simp -implicitDefEqProofs -dsimp (disch := omega) only [wrap_i64])); repeat (with_reducible refine sideA ?_)))
      have go : betB L[i] B[k] = false → (B.take (k + 1)).any (betB L[i]) = false := fun h => by rw [List.take_succ_eq_append_getElem hk']; simp only [List.any_append, hk.2, List.any_cons, h, List.any_nil, Bool.or_self]
      refine guardT.split (fun h5 => ?_) (fun h5 => ?_) <;> (repeat ((repeat1' (first | simp -implicitDefEqProofs -dsimp only [go_sem, Nat.reduceSub, Nat.reduceAdd, Nat.reduceMul, Nat.reduceLT, Nat.reduceLeDiff, Nat.reduceEqDiff, Nat.reduceDiv, Nat.reduceMod, Int.reduceToNat, Int.reduceLE, Int.reduceLT, Int.reduceBEq, Int.reduceBNe, Int.reduceNeg, Int.reduceAdd, Int.reduceSub, Int.reduceMul, reduceCtorEq, h5, hr0, hrk, QuakeRow.cs] | simp -implicitDefEqProofs -dsimp (disch := omega) only [wrap_i64])); repeat (with_reducible refine sideA ?_)))
      · refine condT.split (fun h6 => ?_) (fun h6 => ?_)
        · have hq := bestOne_found hk' hk.2 (by simp [betB, h5, h6])
          (repeat ((repeat1' (first | simp -implicitDefEqProofs -dsimp only [go_sem, Nat.reduceSub, Nat.reduceAdd, Nat.reduceMul, Nat.reduceLT, Nat.reduceLeDiff, Nat.reduceEqDiff, Nat.reduceDiv, Nat.reduceMod, Int.reduceToNat, Int.reduceLE, Int.reduceLT, Int.reduceBEq, Int.reduceBNe, Int.reduceNeg, Int.reduceAdd, Int.reduceSub, Int.reduceMul, reduceCtorEq, h6, hrk, QuakeRow.cs] | simp -implicitDefEqProofs -dsimp (disch := omega) only [wrap_i64])); repeat (with_reducible refine sideA ?_)))
          refine LoopT.intro (fun j : Nat => j ≤ i ∧ posK ltT (srtQ B L i) (bestOne B L[i]) i = posK ltT (srtQ B L i) (bestOne B L[i]) j) (fun j => ⟨[QuakeRow.sl L, QuakeRow.sl B, .undef, .undef, .undef, .undef, .osl 0 0 i 7, .int .i64 i, .ptr 1 0, .undef, .int .i64 j, .undef, .undef, .undef, .undef, .undef, .undef, .undef, .undef, .undef, .undef, .undef, .undef, .undef, .undef, .undef, .undef, .undef, .undef, .undef, .undef, .undef, .undef, .undef, .undef, .undef, .undef, .undef, .undef, .undef, .undef, .undef, .undef, .undef, .undef, .undef, .undef, .undef, .undef, .undef, .undef, .undef, .undef, .undef, .undef, .undef, .undef, .undef, .undef, .undef, .undef, .undef, .undef, .undef, .undef, .undef, .undef, .undef, .undef, .undef, .undef, .undef, .undef, .undef, .undef, .undef, .undef, .undef, .undef, .undef, .undef, .undef, .undef, .undef, .undef, .undef, .undef, .undef, .undef, .undef, .undef, .undef, .undef, .undef, .undef, .undef, .undef], [some (rows QuakeRow.cs (srtQ B L i)), some ((bestOne B L[i]).cs)], 0⟩) (fun j => j) i ⟨Nat.le_refl _, rfl⟩ ?_ (fun j hj => ?_)
          · refine Weak.cut (2) (by simp) (by simp) ?_ ?_
            · simp [LeC, LeV, ren, cutF]
            · simp [cutH, cutB, map_ren_rows, hq, ren, QuakeRow.cs]
          simp -implicitDefEqProofs -dsimp only [go_sem, Nat.reduceSub, Nat.reduceAdd, Nat.reduceMul, Nat.reduceLT, Nat.reduceLeDiff, Nat.reduceEqDiff, Nat.reduceDiv, Nat.reduceMod, Int.reduceToNat, Int.reduceLE, Int.reduceLT, Int.reduceBEq, Int.reduceBNe, Int.reduceNeg, Int.reduceAdd, Int.reduceSub, Int.reduceMul, reduceCtorEq]
          refine ⟨by kernel_rfl, ?_⟩
          cases j with
          | zero =>
            have hz : ((0 : Nat) : Int) = 0 := rfl
            (repeat ((repeat1' (first | simp -implicitDefEqProofs -dsimp only [go_sem, Nat.reduceSub, Nat.reduceAdd, Nat.reduceMul, Nat.reduceLT, Nat.reduceLeDiff, Nat.reduceEqDiff, Nat.reduceDiv, Nat.reduceMod, Int.reduceToNat, Int.reduceLE, Int.reduceLT, Int.reduceBEq, Int.reduceBNe, Int.reduceNeg, Int.reduceAdd, Int.reduceSub, Int.reduceMul, reduceCtorEq, hz] | simp -implicitDefEqProofs -dsimp (disch := omega) only [wrap_i64])); repeat (with_reducible refine sideA ?_)))
            refine chT.intro [false, true, true, true, false, true, true, false, true, true, true, false, false] [true, true, true, true, true, true, true, true, true, true, true, true, false] [some ⟨none, 80, 58, []⟩, none, none, none, some ⟨some 0, 84, 58, [83]⟩, none, none, some ⟨some 4, 87, 58, [83, 86]⟩, none, none, none, some ⟨some 7, 91, 58, [83, 86, 90]⟩, none] [⟨11, 91, 58, [83, 86, 90]⟩] (by kernel_rfl) (by rfl) ?_
            have hf := fin 0 (by omega) hj.2
            have htk := rows_take QuakeRow.csl (srtQ B L i) i
            rw [List.take_of_length_le (Nat.le_of_eq hS)] at htk
            simp only [List.take_zero, rows_nil, List.nil_append, List.drop_zero, List.cons_append, QuakeRow.cs] at hf
            (repeat ((repeat1' (first | simp -implicitDefEqProofs -dsimp only [go_sem, Nat.reduceSub, Nat.reduceAdd, Nat.reduceMul, Nat.reduceLT, Nat.reduceLeDiff, Nat.reduceEqDiff, Nat.reduceDiv, Nat.reduceMod, Int.reduceToNat, Int.reduceLE, Int.reduceLT, Int.reduceBEq, Int.reduceBNe, Int.reduceNeg, Int.reduceAdd, Int.reduceSub, Int.reduceMul, reduceCtorEq, QuakeRow.cs, Nat.sub_zero, htk] | simp -implicitDefEqProofs -dsimp (disch := omega) only [wrap_i64])); repeat (with_reducible refine sideA ?_)))
            refine ⟨⟨by omega, by omega, rows_noOwn _ _⟩, i + 1, hi', ?_, by omega⟩
            refine Weak.pick [3] (by decide) (fun j hj => by omega) ?_ ?_
            · simp [LeG, LeC, LeV, ren, pickF, posOf]; omega
            · simp only [pickH, List.map_cons, List.map_nil, pickB, List.getElem?_cons_zero, List.getElem?_cons_succ, hf, map_ren_rows]
          | succ j =>
            have hjS : j < (srtQ B L i).length := by omega
            have hg : decide ((0 : Int) < ((j + 1 : Nat) : Int)) = true := decide_eq_true (by omega)
            have hw1 : IntKind.i64.wrap (((j + 1 : Nat) : Int) - 1) = (j : Int) := by rw [wrap_i64 (by omega) (by omega)]; omega
            have hrj := rows_at QuakeRow.csl hjS
            have hrj1 := rows_drop_at (cs := QuakeRow.cs) QuakeRow.csl hjS 1
            simp only [QuakeRow.cs, List.cons_append, List.drop_succ_cons, List.drop_zero] at hrj1
            have hlr := rows_len (w := 7) QuakeRow.csl (srtQ B L i)
            (repeat ((repeat1' (first | simp -implicitDefEqProofs -dsimp only [go_sem, Nat.reduceSub, Nat.reduceAdd, Nat.reduceMul, Nat.reduceLT, Nat.reduceLeDiff, Nat.reduceEqDiff, Nat.reduceDiv, Nat.reduceMod, Int.reduceToNat, Int.reduceLE, Int.reduceLT, Int.reduceBEq, Int.reduceBNe, Int.reduceNeg, Int.reduceAdd, Int.reduceSub, Int.reduceMul, reduceCtorEq, hg, hw1, hrj1, hlr, hS, QuakeRow.cs] | simp -implicitDefEqProofs -dsimp (disch := omega) only [wrap_i64])); repeat (with_reducible refine sideA ?_)))
            refine condT.split (fun h3 => ?_) (fun h3 => ?_)
            · (repeat ((repeat1' (first | simp -implicitDefEqProofs -dsimp only [go_sem, Nat.reduceSub, Nat.reduceAdd, Nat.reduceMul, Nat.reduceLT, Nat.reduceLeDiff, Nat.reduceEqDiff, Nat.reduceDiv, Nat.reduceMod, Int.reduceToNat, Int.reduceLE, Int.reduceLT, Int.reduceBEq, Int.reduceBNe, Int.reduceNeg, Int.reduceAdd, Int.reduceSub, Int.reduceMul, reduceCtorEq, h3, hw1] | simp -implicitDefEqProofs -dsimp (disch := omega) only [wrap_i64])); repeat (with_reducible refine sideA ?_)))
              refine ⟨j, ⟨by omega, hj.2.trans (posK_down hjS h3)⟩, ?_, by omega⟩
              refine Weak.cut (2) (by simp) (by simp) ?_ ?_
              · simp [LeC, LeV, ren, cutF]
              · simp [cutH, cutB, map_ren_rows, ren, QuakeRow.cs]
            · (repeat ((repeat1' (first | simp -implicitDefEqProofs -dsimp only [go_sem, Nat.reduceSub, Nat.reduceAdd, Nat.reduceMul, Nat.reduceLT, Nat.reduceLeDiff, Nat.reduceEqDiff, Nat.reduceDiv, Nat.reduceMod, Int.reduceToNat, Int.reduceLE, Int.reduceLT, Int.reduceBEq, Int.reduceBNe, Int.reduceNeg, Int.reduceAdd, Int.reduceSub, Int.reduceMul, reduceCtorEq, h3] | simp -implicitDefEqProofs -dsimp (disch := omega) only [wrap_i64])); repeat (with_reducible refine sideA ?_)))
              have hp := hj.2.trans (posK_stay hjS h3)
              have hf := fin (j + 1) hj.1 hp
              simp only [QuakeRow.cs] at hf
              refine chT.intro [false, true, true, true, false, true, true, false, true, true, true, false, false] [true, true, true, true, true, true, true, true, true, true, true, true, false] [some ⟨none, 80, 58, []⟩, none, none, none, some ⟨some 0, 84, 58, [83]⟩, none, none, some ⟨some 4, 87, 58, [83, 86]⟩, none, none, none, some ⟨some 7, 91, 58, [83, 86, 90]⟩, none] [⟨11, 91, 58, [83, 86, 90]⟩] (by kernel_rfl) (by rfl) ?_
              have ht := rows_take QuakeRow.csl (srtQ B L i) (j + 1)
              have hd := rows_drop QuakeRow.csl (srtQ B L i) (j + 1)
              have htk := rows_take QuakeRow.csl ((srtQ B L i).drop (j + 1)) (i - (j + 1))
              rw [List.take_of_length_le (l := (srtQ B L i).drop (j + 1)) (by rw [List.length_drop, hS]; exact Nat.le_refl _)] at htk
              by_cases hji : j + 1 < i
              · have hif : (((j + 1 : Nat) : Int) = 0 ∨ ((j + 1 : Nat) : Int) < (i : Int)) = True := eq_true (by omega)
                (repeat ((repeat1' (first | simp -implicitDefEqProofs -dsimp only [go_sem, Nat.reduceSub, Nat.reduceAdd, Nat.reduceMul, Nat.reduceLT, Nat.reduceLeDiff, Nat.reduceEqDiff, Nat.reduceDiv, Nat.reduceMod, Int.reduceToNat, Int.reduceLE, Int.reduceLT, Int.reduceBEq, Int.reduceBNe, Int.reduceNeg, Int.reduceAdd, Int.reduceSub, Int.reduceMul, reduceCtorEq, QuakeRow.cs, ht, hd, htk, Nat.sub_zero, hif, if_true] | simp -implicitDefEqProofs -dsimp (disch := omega) only [wrap_i64])); repeat (with_reducible refine sideA ?_)))
                refine ⟨⟨by omega, by omega, by rw [hf]; exact rows_noOwn _ _⟩, i + 1, hi', ?_, by omega⟩
                refine Weak.pick [3] (by decide) (fun j hj => by omega) ?_ ?_
                · simp [LeG, LeC, LeV, ren, pickF, posOf]; omega
                · simp only [pickH, List.map_cons, List.map_nil, pickB, List.getElem?_cons_zero, List.getElem?_cons_succ, hf, map_ren_rows]
              · have hif : (((j + 1 : Nat) : Int) = 0 ∨ ((j + 1 : Nat) : Int) < (i : Int)) = False := eq_false (by omega)
                have hdz : (srtQ B L i).drop (j + 1) = [] := List.drop_of_length_le (by omega)
                rw [hdz, rows_nil, List.append_nil] at hf
                (repeat ((repeat1' (first | simp -implicitDefEqProofs -dsimp only [go_sem, Nat.reduceSub, Nat.reduceAdd, Nat.reduceMul, Nat.reduceLT, Nat.reduceLeDiff, Nat.reduceEqDiff, Nat.reduceDiv, Nat.reduceMod, Int.reduceToNat, Int.reduceLE, Int.reduceLT, Int.reduceBEq, Int.reduceBNe, Int.reduceNeg, Int.reduceAdd, Int.reduceSub, Int.reduceMul, reduceCtorEq, QuakeRow.cs, ht, Nat.sub_zero, hif, if_false] | simp -implicitDefEqProofs -dsimp (disch := omega) only [wrap_i64])); repeat (with_reducible refine sideA ?_)))
                refine ⟨⟨by omega, by omega, by rw [hf]; exact rows_noOwn _ _⟩, i + 1, hi', ?_, by omega⟩
                refine Weak.pick [3] (by decide) (fun j hj => by omega) ?_ ?_
                · simp [LeG, LeC, LeV, ren, pickF, posOf]; omega
                · simp only [pickH, List.map_cons, List.map_nil, pickB, List.getElem?_cons_zero, List.getElem?_cons_succ, hf, map_ren_rows, List.append_nil]
        · (repeat ((repeat1' (first | simp -implicitDefEqProofs -dsimp only [go_sem, Nat.reduceSub, Nat.reduceAdd, Nat.reduceMul, Nat.reduceLT, Nat.reduceLeDiff, Nat.reduceEqDiff, Nat.reduceDiv, Nat.reduceMod, Int.reduceToNat, Int.reduceLE, Int.reduceLT, Int.reduceBEq, Int.reduceBNe, Int.reduceNeg, Int.reduceAdd, Int.reduceSub, Int.reduceMul, reduceCtorEq, h6] | simp -implicitDefEqProofs -dsimp (disch := omega) only [wrap_i64])); repeat (with_reducible refine sideA ?_)))
          refine ⟨k + 1, ⟨hk', go (by simp [betB, h6])⟩, ?_, by omega⟩
          refine Weak.cut (2) (by simp) (by simp) ?_ ?_
          · simp [LeC, LeV, ren, cutF]
          · simp [cutH, cutB, map_ren_rows, ren, QuakeRow.cs]
      · refine ⟨k + 1, ⟨hk', go (by simp [betB, h5])⟩, ?_, by omega⟩
        refine Weak.cut (2) (by simp) (by simp) ?_ ?_
        · simp [LeC, LeV, ren, cutF]
        · simp [cutH, cutB, map_ren_rows, ren, QuakeRow.cs]
    · have hk' : k = B.length := by simp at h4; omega
      subst hk'
      have hk2 := hk.2
      rw [List.take_length] at hk2
      have hq := bestOne_none hk2
      (repeat ((repeat1' (first | simp -implicitDefEqProofs -dsimp only [go_sem, Nat.reduceSub, Nat.reduceAdd, Nat.reduceMul, Nat.reduceLT, Nat.reduceLeDiff, Nat.reduceEqDiff, Nat.reduceDiv, Nat.reduceMod, Int.reduceToNat, Int.reduceLE, Int.reduceLT, Int.reduceBEq, Int.reduceBNe, Int.reduceNeg, Int.reduceAdd, Int.reduceSub, Int.reduceMul, reduceCtorEq, h4] | simp -implicitDefEqProofs -dsimp (disch := omega) only [wrap_i64])); repeat (with_reducible refine sideA ?_)))
      refine LoopT.intro (fun j : Nat => j ≤ i ∧ posK ltT (srtQ B L i) (bestOne B L[i]) i = posK ltT (srtQ B L i) (bestOne B L[i]) j) (fun j => ⟨[QuakeRow.sl L, QuakeRow.sl B, .undef, .undef, .undef, .undef, .osl 0 0 i 7, .int .i64 i, .ptr 1 0, .undef, .int .i64 j, .undef, .undef, .undef, .undef, .undef, .undef, .undef, .undef, .undef, .undef, .undef, .undef, .undef, .undef, .undef, .undef, .undef, .undef, .undef, .undef, .undef, .undef, .undef, .undef, .undef, .undef, .undef, .undef, .undef, .undef, .undef, .undef, .undef, .undef, .undef, .undef, .undef, .undef, .undef, .undef, .undef, .undef, .undef, .undef, .undef, .undef, .undef, .undef, .undef, .undef, .undef, .undef, .undef, .undef, .undef, .undef, .undef, .undef, .undef, .undef, .undef, .undef, .undef, .undef, .undef, .undef, .undef, .undef, .undef, .undef, .undef, .undef, .undef, .undef, .undef, .undef, .undef, .undef, .undef, .undef, .undef, .undef, .undef, .undef, .undef, .undef], [some (rows QuakeRow.cs (srtQ B L i)), some ((bestOne B L[i]).cs)], 0⟩) (fun j => j) i ⟨Nat.le_refl _, rfl⟩ ?_ (fun j hj => ?_)
      · refine Weak.cut (2) (by simp) (by simp) ?_ ?_
        · simp [LeC, LeV, ren, cutF]
        · simp [cutH, cutB, map_ren_rows, hq, ren, QuakeRow.cs]
      simp -implicitDefEqProofs -dsimp only [go_sem, Nat.reduceSub, Nat.reduceAdd, Nat.reduceMul, Nat.reduceLT, Nat.reduceLeDiff, Nat.reduceEqDiff, Nat.reduceDiv, Nat.reduceMod, Int.reduceToNat, Int.reduceLE, Int.reduceLT, Int.reduceBEq, Int.reduceBNe, Int.reduceNeg, Int.reduceAdd, Int.reduceSub, Int.reduceMul, reduceCtorEq]
      refine ⟨by kernel_rfl, ?_⟩
      cases j with
      | zero =>
        have hz : ((0 : Nat) : Int) = 0 := rfl
        (repeat ((repeat1' (first | simp -implicitDefEqProofs -dsimp only [go_sem, Nat.reduceSub, Nat.reduceAdd, Nat.reduceMul, Nat.reduceLT, Nat.reduceLeDiff, Nat.reduceEqDiff, Nat.reduceDiv, Nat.reduceMod, Int.reduceToNat, Int.reduceLE, Int.reduceLT, Int.reduceBEq, Int.reduceBNe, Int.reduceNeg, Int.reduceAdd, Int.reduceSub, Int.reduceMul, reduceCtorEq, hz] | simp -implicitDefEqProofs -dsimp (disch := omega) only [wrap_i64])); repeat (with_reducible refine sideA ?_)))
        refine chT.intro [false, true, true, true, false, true, true, false, true, true, true, false, false] [true, true, true, true, true, true, true, true, true, true, true, true, false] [some ⟨none, 80, 58, []⟩, none, none, none, some ⟨some 0, 84, 58, [83]⟩, none, none, some ⟨some 4, 87, 58, [83, 86]⟩, none, none, none, some ⟨some 7, 91, 58, [83, 86, 90]⟩, none] [⟨11, 91, 58, [83, 86, 90]⟩] (by kernel_rfl) (by rfl) ?_
        have hf := fin 0 (by omega) hj.2
        have htk := rows_take QuakeRow.csl (srtQ B L i) i
        rw [List.take_of_length_le (Nat.le_of_eq hS)] at htk
        simp only [List.take_zero, rows_nil, List.nil_append, List.drop_zero, List.cons_append, QuakeRow.cs] at hf
        (repeat ((repeat1' (first | simp -implicitDefEqProofs -dsimp only [go_sem, Nat.reduceSub, Nat.reduceAdd, Nat.reduceMul, Nat.reduceLT, Nat.reduceLeDiff, Nat.reduceEqDiff, Nat.reduceDiv, Nat.reduceMod, Int.reduceToNat, Int.reduceLE, Int.reduceLT, Int.reduceBEq, Int.reduceBNe, Int.reduceNeg, Int.reduceAdd, Int.reduceSub, Int.reduceMul, reduceCtorEq, QuakeRow.cs, Nat.sub_zero, htk] | simp -implicitDefEqProofs -dsimp (disch := omega) only [wrap_i64])); repeat (with_reducible refine sideA ?_)))
        refine ⟨⟨by omega, by omega, rows_noOwn _ _⟩, i + 1, hi', ?_, by omega⟩
        refine Weak.pick [3] (by decide) (fun j hj => by omega) ?_ ?_
        · simp [LeG, LeC, LeV, ren, pickF, posOf]; omega
        · simp only [pickH, List.map_cons, List.map_nil, pickB, List.getElem?_cons_zero, List.getElem?_cons_succ, hf, map_ren_rows]
      | succ j =>
        have hjS : j < (srtQ B L i).length := by omega
        have hg : decide ((0 : Int) < ((j + 1 : Nat) : Int)) = true := decide_eq_true (by omega)
        have hw1 : IntKind.i64.wrap (((j + 1 : Nat) : Int) - 1) = (j : Int) := by rw [wrap_i64 (by omega) (by omega)]; omega
        have hrj := rows_at QuakeRow.csl hjS
        have hrj1 := rows_drop_at (cs := QuakeRow.cs) QuakeRow.csl hjS 1
        simp only [QuakeRow.cs, List.cons_append, List.drop_succ_cons, List.drop_zero] at hrj1
        have hlr := rows_len (w := 7) QuakeRow.csl (srtQ B L i)
        (repeat ((repeat1' (first | simp -implicitDefEqProofs -dsimp only [go_sem, Nat.reduceSub, Nat.reduceAdd, Nat.reduceMul, Nat.reduceLT, Nat.reduceLeDiff, Nat.reduceEqDiff, Nat.reduceDiv, Nat.reduceMod, Int.reduceToNat, Int.reduceLE, Int.reduceLT, Int.reduceBEq, Int.reduceBNe, Int.reduceNeg, Int.reduceAdd, Int.reduceSub, Int.reduceMul, reduceCtorEq, hg, hw1, hrj1, hlr, hS, QuakeRow.cs] | simp -implicitDefEqProofs -dsimp (disch := omega) only [wrap_i64])); repeat (with_reducible refine sideA ?_)))
        refine condT.split (fun h3 => ?_) (fun h3 => ?_)
        · (repeat ((repeat1' (first | simp -implicitDefEqProofs -dsimp only [go_sem, Nat.reduceSub, Nat.reduceAdd, Nat.reduceMul, Nat.reduceLT, Nat.reduceLeDiff, Nat.reduceEqDiff, Nat.reduceDiv, Nat.reduceMod, Int.reduceToNat, Int.reduceLE, Int.reduceLT, Int.reduceBEq, Int.reduceBNe, Int.reduceNeg, Int.reduceAdd, Int.reduceSub, Int.reduceMul, reduceCtorEq, h3, hw1] | simp -implicitDefEqProofs -dsimp (disch := omega) only [wrap_i64])); repeat (with_reducible refine sideA ?_)))
          refine ⟨j, ⟨by omega, hj.2.trans (posK_down hjS h3)⟩, ?_, by omega⟩
          refine Weak.cut (2) (by simp) (by simp) ?_ ?_
          · simp [LeC, LeV, ren, cutF]
          · simp [cutH, cutB, map_ren_rows, ren, QuakeRow.cs]
        · (repeat ((repeat1' (first | simp -implicitDefEqProofs -dsimp only [go_sem, Nat.reduceSub, Nat.reduceAdd, Nat.reduceMul, Nat.reduceLT, Nat.reduceLeDiff, Nat.reduceEqDiff, Nat.reduceDiv, Nat.reduceMod, Int.reduceToNat, Int.reduceLE, Int.reduceLT, Int.reduceBEq, Int.reduceBNe, Int.reduceNeg, Int.reduceAdd, Int.reduceSub, Int.reduceMul, reduceCtorEq, h3] | simp -implicitDefEqProofs -dsimp (disch := omega) only [wrap_i64])); repeat (with_reducible refine sideA ?_)))
          have hp := hj.2.trans (posK_stay hjS h3)
          have hf := fin (j + 1) hj.1 hp
          simp only [QuakeRow.cs] at hf
          refine chT.intro [false, true, true, true, false, true, true, false, true, true, true, false, false] [true, true, true, true, true, true, true, true, true, true, true, true, false] [some ⟨none, 80, 58, []⟩, none, none, none, some ⟨some 0, 84, 58, [83]⟩, none, none, some ⟨some 4, 87, 58, [83, 86]⟩, none, none, none, some ⟨some 7, 91, 58, [83, 86, 90]⟩, none] [⟨11, 91, 58, [83, 86, 90]⟩] (by kernel_rfl) (by rfl) ?_
          have ht := rows_take QuakeRow.csl (srtQ B L i) (j + 1)
          have hd := rows_drop QuakeRow.csl (srtQ B L i) (j + 1)
          have htk := rows_take QuakeRow.csl ((srtQ B L i).drop (j + 1)) (i - (j + 1))
          rw [List.take_of_length_le (l := (srtQ B L i).drop (j + 1)) (by rw [List.length_drop, hS]; exact Nat.le_refl _)] at htk
          by_cases hji : j + 1 < i
          · have hif : (((j + 1 : Nat) : Int) = 0 ∨ ((j + 1 : Nat) : Int) < (i : Int)) = True := eq_true (by omega)
            (repeat ((repeat1' (first | simp -implicitDefEqProofs -dsimp only [go_sem, Nat.reduceSub, Nat.reduceAdd, Nat.reduceMul, Nat.reduceLT, Nat.reduceLeDiff, Nat.reduceEqDiff, Nat.reduceDiv, Nat.reduceMod, Int.reduceToNat, Int.reduceLE, Int.reduceLT, Int.reduceBEq, Int.reduceBNe, Int.reduceNeg, Int.reduceAdd, Int.reduceSub, Int.reduceMul, reduceCtorEq, QuakeRow.cs, ht, hd, htk, Nat.sub_zero, hif, if_true] | simp -implicitDefEqProofs -dsimp (disch := omega) only [wrap_i64])); repeat (with_reducible refine sideA ?_)))
            refine ⟨⟨by omega, by omega, by rw [hf]; exact rows_noOwn _ _⟩, i + 1, hi', ?_, by omega⟩
            refine Weak.pick [3] (by decide) (fun j hj => by omega) ?_ ?_
            · simp [LeG, LeC, LeV, ren, pickF, posOf]; omega
            · simp only [pickH, List.map_cons, List.map_nil, pickB, List.getElem?_cons_zero, List.getElem?_cons_succ, hf, map_ren_rows]
          · have hif : (((j + 1 : Nat) : Int) = 0 ∨ ((j + 1 : Nat) : Int) < (i : Int)) = False := eq_false (by omega)
            have hdz : (srtQ B L i).drop (j + 1) = [] := List.drop_of_length_le (by omega)
            rw [hdz, rows_nil, List.append_nil] at hf
            (repeat ((repeat1' (first | simp -implicitDefEqProofs -dsimp only [go_sem, Nat.reduceSub, Nat.reduceAdd, Nat.reduceMul, Nat.reduceLT, Nat.reduceLeDiff, Nat.reduceEqDiff, Nat.reduceDiv, Nat.reduceMod, Int.reduceToNat, Int.reduceLE, Int.reduceLT, Int.reduceBEq, Int.reduceBNe, Int.reduceNeg, Int.reduceAdd, Int.reduceSub, Int.reduceMul, reduceCtorEq, QuakeRow.cs, ht, Nat.sub_zero, hif, if_false] | simp -implicitDefEqProofs -dsimp (disch := omega) only [wrap_i64])); repeat (with_reducible refine sideA ?_)))
            refine ⟨⟨by omega, by omega, by rw [hf]; exact rows_noOwn _ _⟩, i + 1, hi', ?_, by omega⟩
            refine Weak.pick [3] (by decide) (fun j hj => by omega) ?_ ?_
            · simp [LeG, LeC, LeV, ren, pickF, posOf]; omega
            · simp only [pickH, List.map_cons, List.map_nil, pickB, List.getElem?_cons_zero, List.getElem?_cons_succ, hf, map_ren_rows, List.append_nil]
  · simp -implicitDefEqProofs -dsimp only [go_sem, Nat.reduceSub, Nat.reduceAdd, Nat.reduceMul, Nat.reduceLT, Nat.reduceLeDiff, Nat.reduceEqDiff, Nat.reduceDiv, Nat.reduceMod, Int.reduceToNat, Int.reduceLE, Int.reduceLT, Int.reduceBEq, Int.reduceBNe, Int.reduceNeg, Int.reduceAdd, Int.reduceSub, Int.reduceMul, reduceCtorEq, h3]
    have hi' : i = L.length := by simp at h3; omega
    subst hi'
    have hSl := srtQ_len (B := B) (L := L) (Nat.le_refl _)
    have hov : V.osl 0 0 L.length 7 = V.osl 0 0 (srtQ B L L.length).length 7 := by rw [hSl]
    rw [hov]
    (first | refine callT.at (l24Good_ok (srtQ B L L.length) (by omega)) ⟨leA, trivial⟩ ?_ | refine callS.at (l24Good_ok (srtQ B L L.length) (by omega)) ⟨leA, trivial⟩ ?_)
    (repeat ((repeat1' (first | simp -implicitDefEqProofs -dsimp only [go_sem, Nat.reduceSub, Nat.reduceAdd, Nat.reduceMul, Nat.reduceLT, Nat.reduceLeDiff, Nat.reduceEqDiff, Nat.reduceDiv, Nat.reduceMod, Int.reduceToNat, Int.reduceLE, Int.reduceLT, Int.reduceBEq, Int.reduceBNe, Int.reduceNeg, Int.reduceAdd, Int.reduceSub, Int.reduceMul, reduceCtorEq] | simp -implicitDefEqProofs -dsimp (disch := omega) only [wrap_i64])); repeat (with_reducible refine sideA ?_)))
    rw [hSl, srtQ_all]
    refine condT.split (fun h4 => ?_) (fun h4 => ?_) <;> (repeat ((repeat1' (first | simp -implicitDefEqProofs -dsimp only [go_sem, Nat.reduceSub, Nat.reduceAdd, Nat.reduceMul, Nat.reduceLT, Nat.reduceLeDiff, Nat.reduceEqDiff, Nat.reduceDiv, Nat.reduceMod, Int.reduceToNat, Int.reduceLE, Int.reduceLT, Int.reduceBEq, Int.reduceBNe, Int.reduceNeg, Int.reduceAdd, Int.reduceSub, Int.reduceMul, reduceCtorEq, h4] | simp -implicitDefEqProofs -dsimp (disch := omega) only [wrap_i64])); repeat (with_reducible refine sideA ?_)))
    · rw [bothR_no (.inr (.inr (by simpa using h4)))]
      refine WeakR.pick [1] (by decide) (fun j hj => by omega) (.inl ?_) ?_
      · simp [ren, pickF, posOf, optO]
      · simp only [pickH, List.map_cons, List.map_nil, pickB, List.getElem?_cons_zero, List.getElem?_cons_succ, map_ren_rows]; rfl
    · rw [bothR, if_pos ⟨h1', h2', by simpa using h4⟩]
      have hSl' : (insSort ltT (L.map (bestOne B))).length = L.length := by rw [insSort_len, List.length_map]
      simp only [optO, optOh, hSl']
      exact WeakR.refl _ _ _
def outI (B L : List QuakeRow) (i : Nat) : List QuakeRow := (L.map (bestOne B)).take i ++ L.drop i
theorem outI_len {B L : List QuakeRow} {i : Nat} (h : i ≤ L.length) : (outI B L i).length = L.length := by simp [outI]; omega
theorem outI_set {B L : List QuakeRow} {i : Nat} (h : i < L.length) : (outI B L i).set i (bestOne B L[i]) = outI B L (i + 1) := by
  have e1 : ((L.map (bestOne B)).take i).length = i := by simp; omega
  have h' : i < (L.map (bestOne B)).length := by simpa using h
  rw [outI, outI, List.set_append_right _ _ (by omega), e1, Nat.sub_self, List.drop_eq_getElem_cons h, List.set_cons_zero, List.take_succ_eq_append_getElem h']
  simp
theorem outI_get {B L : List QuakeRow} {i : Nat} (h : i < L.length) (h2 : i < (outI B L i).length) : (outI B L i)[i] = L[i] := by
  have e1 : ((L.map (bestOne B)).take i).length = i := by simp; omega
  simp only [outI]
  rw [List.getElem_append_right (by omega)]
  simp [e1, List.getElem_drop]
theorem iBestOfBoth_ok (L B : List QuakeRow) (hl : L.length ≤ 1048576) (hb : B.length ≤ 1048576) : Ctr Try.prog 32 [QuakeRow.sl L, QuakeRow.sl B] [] (optN 7 (bothR L B)) (optNh QuakeRow.cs (bothR L B)) := by
  refine Ctr.intro Try.mixed Try.func32 rfl Try.okF32 ?_
  simp -implicitDefEqProofs -dsimp only [go_sem, Nat.reduceSub, Nat.reduceAdd, Nat.reduceMul, Nat.reduceLT, Nat.reduceLeDiff, Nat.reduceEqDiff, Nat.reduceDiv, Nat.reduceMod, Int.reduceToNat, Int.reduceLE, Int.reduceLT, Int.reduceBEq, Int.reduceBNe, Int.reduceNeg, Int.reduceAdd, Int.reduceSub, Int.reduceMul, reduceCtorEq, Try.ntmps32, Try.results32]
  (first | refine callT.at (iIsBulletin_ok L (by omega)) ⟨leA, trivial⟩ ?_ | refine callS.at (iIsBulletin_ok L (by omega)) ⟨leA, trivial⟩ ?_)
  simp -implicitDefEqProofs -dsimp only [go_sem, Nat.reduceSub, Nat.reduceAdd, Nat.reduceMul, Nat.reduceLT, Nat.reduceLeDiff, Nat.reduceEqDiff, Nat.reduceDiv, Nat.reduceMod, Int.reduceToNat, Int.reduceLE, Int.reduceLT, Int.reduceBEq, Int.reduceBNe, Int.reduceNeg, Int.reduceAdd, Int.reduceSub, Int.reduceMul, reduceCtorEq]
  refine guardT.splitF (fun h1 => ?_) (fun h1 => ?_) <;> simp -implicitDefEqProofs -dsimp only [go_sem, Nat.reduceSub, Nat.reduceAdd, Nat.reduceMul, Nat.reduceLT, Nat.reduceLeDiff, Nat.reduceEqDiff, Nat.reduceDiv, Nat.reduceMod, Int.reduceToNat, Int.reduceLE, Int.reduceLT, Int.reduceBEq, Int.reduceBNe, Int.reduceNeg, Int.reduceAdd, Int.reduceSub, Int.reduceMul, reduceCtorEq, h1]
  rotate_left
  · rw [bothR_no (.inl (by simpa using h1))]
    exact WeakR.refl _ _ _
  (first | refine callT.at (iIsBulletin_ok B (by omega)) ⟨leA, trivial⟩ ?_ | refine callS.at (iIsBulletin_ok B (by omega)) ⟨leA, trivial⟩ ?_)
  simp -implicitDefEqProofs -dsimp only [go_sem, Nat.reduceSub, Nat.reduceAdd, Nat.reduceMul, Nat.reduceLT, Nat.reduceLeDiff, Nat.reduceEqDiff, Nat.reduceDiv, Nat.reduceMod, Int.reduceToNat, Int.reduceLE, Int.reduceLT, Int.reduceBEq, Int.reduceBNe, Int.reduceNeg, Int.reduceAdd, Int.reduceSub, Int.reduceMul, reduceCtorEq]
  refine condT.split (fun h2 => ?_) (fun h2 => ?_) <;> simp -implicitDefEqProofs -dsimp only [go_sem, Nat.reduceSub, Nat.reduceAdd, Nat.reduceMul, Nat.reduceLT, Nat.reduceLeDiff, Nat.reduceEqDiff, Nat.reduceDiv, Nat.reduceMod, Int.reduceToNat, Int.reduceLE, Int.reduceLT, Int.reduceBEq, Int.reduceBNe, Int.reduceNeg, Int.reduceAdd, Int.reduceSub, Int.reduceMul, reduceCtorEq, h2]
  · rw [bothR_no (.inr (.inl (by simpa using h2)))]
    exact WeakR.refl _ _ _
  have h1' : bulB L = true := by simpa using h1
  have h2' : bulB B = true := by simpa using h2
  obtain ⟨hv, hlen⟩ := bulB_all h1'
  obtain ⟨hvb, hlenb⟩ := bulB_all h2'
  (first | refine callT.at (copyOfQuakeRow_ok L hl) ⟨leA, trivial⟩ ?_ | refine callS.at (copyOfQuakeRow_ok L hl) ⟨leA, trivial⟩ ?_)
  (repeat ((repeat1' (first | simp -implicitDefEqProofs -dsimp only [go_sem, Nat.reduceSub, Nat.reduceAdd, Nat.reduceMul, Nat.reduceLT, Nat.reduceLeDiff, Nat.reduceEqDiff, Nat.reduceDiv, Nat.reduceMod, Int.reduceToNat, Int.reduceLE, Int.reduceLT, Int.reduceBEq, Int.reduceBNe, Int.reduceNeg, Int.reduceAdd, Int.reduceSub, Int.reduceMul, reduceCtorEq] | simp -implicitDefEqProofs -dsimp (disch := omega) only [wrap_i64])); repeat (with_reducible refine sideA ?_)))
  refine LoopT.intro (fun i : Nat => i ≤ L.length) (fun i => ⟨[.undef, QuakeRow.sl B, .undef, .undef, .undef, .undef, .osl 0 0 L.length 7, .undef, .undef, .undef, .undef, .undef, .undef, .undef, .undef, .undef, .undef, .undef, .undef, .undef, QuakeRow.sl L, .int .i64 L.length, .int .i64 i, .undef, .undef, .undef, .undef, .undef, .undef, .undef, .undef, .undef, .undef, .undef, .undef, .undef, .undef, .undef, .undef, .undef, .undef, .undef, .undef, .undef, .undef, .undef], [some (rows QuakeRow.cs (outI B L i))], 0⟩) (fun i => L.length - i) 0 (Nat.zero_le _) ?_ (fun i hi => ?_)
  · refine Weak.cut (1) (by simp) (by simp) ?_ ?_
    · simp [LeC, LeV, ren, cutF]
    · simp [cutH, cutB, outI, map_ren_rows]
  simp -implicitDefEqProofs -dsimp only [go_sem, Nat.reduceSub, Nat.reduceAdd, Nat.reduceMul, Nat.reduceLT, Nat.reduceLeDiff, Nat.reduceEqDiff, Nat.reduceDiv, Nat.reduceMod, Int.reduceToNat, Int.reduceLE, Int.reduceLT, Int.reduceBEq, Int.reduceBNe, Int.reduceNeg, Int.reduceAdd, Int.reduceSub, Int.reduceMul, reduceCtorEq]
  refine condT.split (fun h3 => ?_) (fun h3 => ?_)
  · have hi' : i < L.length := by simpa using h3
    have hS := outI_len (B := B) (L := L) hi
    have hr0 := rows_at QuakeRow.csl hi'
    have hvi := hv _ (List.getElem_mem hi')
    (repeat ((repeat1' (first | simp -implicitDefEqProofs -dsimp only [go_sem, Nat.reduceSub, Nat.reduceAdd, Nat.reduceMul, Nat.reduceLT, Nat.reduceLeDiff, Nat.reduceEqDiff, Nat.reduceDiv, Nat.reduceMod, Int.reduceToNat, Int.reduceLE, Int.reduceLT, Int.reduceBEq, Int.reduceBNe, Int.reduceNeg, Int.reduceAdd, Int.reduceSub, Int.reduceMul, reduceCtorEq, h3, hr0, QuakeRow.cs] | simp -implicitDefEqProofs -dsimp (disch := omega) only [wrap_i64])); repeat (with_reducible refine sideA ?_)))
    (first | refine callT.at (indexFuncQuakeRow_ok B (betB L[i]) _ [.pt L[i].cs] (fun d => by cases d <;> rfl) (fun x hx => better_ok L[i] x hvi (hvb x hx)) (by omega)) ⟨leA, leA, trivial⟩ ?_ | refine callS.at (indexFuncQuakeRow_ok B (betB L[i]) _ [.pt L[i].cs] (fun d => by cases d <;> rfl) (fun x hx => better_ok L[i] x hvi (hvb x hx)) (by omega)) ⟨leA, leA, trivial⟩ ?_)
    rcases idxI_cases (betB L[i]) B with hk | ⟨k, hk, hkx⟩
    · have hq : bestOne B L[i] = L[i] := by rw [bestOne, hk, if_pos (by omega)]
      have hs := outI_set (B := B) hi'
      rw [hq, ← outI_get (B := B) hi' (by omega), List.set_getElem_self] at hs
      (repeat ((repeat1' (first | simp -implicitDefEqProofs -dsimp only [go_sem, Nat.reduceSub, Nat.reduceAdd, Nat.reduceMul, Nat.reduceLT, Nat.reduceLeDiff, Nat.reduceEqDiff, Nat.reduceDiv, Nat.reduceMod, Int.reduceToNat, Int.reduceLE, Int.reduceLT, Int.reduceBEq, Int.reduceBNe, Int.reduceNeg, Int.reduceAdd, Int.reduceSub, Int.reduceMul, reduceCtorEq, hk] | simp -implicitDefEqProofs -dsimp (disch := omega) only [wrap_i64])); repeat (with_reducible refine sideA ?_)))
      refine ⟨i + 1, hi', ?_, by omega⟩
      refine Weak.cut (1) (by simp) (by simp) ?_ ?_
      · simp [LeC, LeV, ren, cutF]
      · simp [cutH, cutB, map_ren_rows, hs]
    · have hq : bestOne B L[i] = B[k] := by rw [bestOne, hkx, if_neg (by omega)]; simp [List.getD, hk]
      have hs := outI_set (B := B) hi'
      have hrk := rows_at QuakeRow.csl hk
      have hd : decide ((0 : Int) ≤ (k : Int)) = true := decide_eq_true (by omega)
      have s1 := splice_row (cs := QuakeRow.cs) QuakeRow.csl (L := outI B L i) (i := i) (by omega) B[k]
      rw [← hq, hs, hq] at s1
      have hlr := rows_len (w := 7) QuakeRow.csl (outI B L i)
      rw [hS] at hlr
      simp only [QuakeRow.cs] at s1
      (repeat ((repeat1' (first | simp -implicitDefEqProofs -dsimp only [go_sem, Nat.reduceSub, Nat.reduceAdd, Nat.reduceMul, Nat.reduceLT, Nat.reduceLeDiff, Nat.reduceEqDiff, Nat.reduceDiv, Nat.reduceMod, Int.reduceToNat, Int.reduceLE, Int.reduceLT, Int.reduceBEq, Int.reduceBNe, Int.reduceNeg, Int.reduceAdd, Int.reduceSub, Int.reduceMul, reduceCtorEq, hkx, hd, hrk, s1, hlr, QuakeRow.cs] | simp -implicitDefEqProofs -dsimp (disch := omega) only [wrap_i64])); repeat (with_reducible refine sideA ?_)))
      refine ⟨i + 1, hi', ?_, by omega⟩
      refine Weak.cut (1) (by simp) (by simp) ?_ ?_
      · simp [LeC, LeV, ren, cutF]
      · simp [cutH, cutB, map_ren_rows, hs]
  · simp -implicitDefEqProofs -dsimp only [go_sem, Nat.reduceSub, Nat.reduceAdd, Nat.reduceMul, Nat.reduceLT, Nat.reduceLeDiff, Nat.reduceEqDiff, Nat.reduceDiv, Nat.reduceMod, Int.reduceToNat, Int.reduceLE, Int.reduceLT, Int.reduceBEq, Int.reduceBNe, Int.reduceNeg, Int.reduceAdd, Int.reduceSub, Int.reduceMul, reduceCtorEq, h3]
    have hi' : i = L.length := by simp at h3; omega
    subst hi'
    have hm : (L.map (bestOne B)).length = L.length := by simp
    have ho : outI B L L.length = L.map (bestOne B) := by rw [outI, ← hm, List.take_length, List.drop_of_length_le (by omega), List.append_nil]
    have hc : (fun x y : QuakeRow => decide (cmpI x.Tick y.Tick < 0)) = ltT := by funext x y; exact cmpI_neg _ _
    have hs := sortStableQuakeRow_ok (L.map (bestOne B)) (fun x y => cmpI x.Tick y.Tick) _ cmpTick_ok (by omega)
    rw [hc, hm] at hs
    rw [ho]
    (repeat ((repeat1' (first | simp -implicitDefEqProofs -dsimp only [go_sem, Nat.reduceSub, Nat.reduceAdd, Nat.reduceMul, Nat.reduceLT, Nat.reduceLeDiff, Nat.reduceEqDiff, Nat.reduceDiv, Nat.reduceMod, Int.reduceToNat, Int.reduceLE, Int.reduceLT, Int.reduceBEq, Int.reduceBNe, Int.reduceNeg, Int.reduceAdd, Int.reduceSub, Int.reduceMul, reduceCtorEq] | simp -implicitDefEqProofs -dsimp (disch := omega) only [wrap_i64])); repeat (with_reducible refine sideA ?_)))
    refine callS.lend [0] false ( hs) (by decide) ⟨leO, leO, trivial⟩ lendA ( grown_one (by simp [rows_length, insSort_len])) (.inl rfl) ?_
    have hSl : (insSort ltT (L.map (bestOne B))).length = L.length := by rw [insSort_len, List.length_map]
    have hov : V.osl 0 0 L.length 7 = V.osl 0 0 (insSort ltT (L.map (bestOne B))).length 7 := by rw [hSl]
    rw [hov]
    (repeat ((repeat1' (first | simp -implicitDefEqProofs -dsimp only [go_sem, Nat.reduceSub, Nat.reduceAdd, Nat.reduceMul, Nat.reduceLT, Nat.reduceLeDiff, Nat.reduceEqDiff, Nat.reduceDiv, Nat.reduceMod, Int.reduceToNat, Int.reduceLE, Int.reduceLT, Int.reduceBEq, Int.reduceBNe, Int.reduceNeg, Int.reduceAdd, Int.reduceSub, Int.reduceMul, reduceCtorEq] | simp -implicitDefEqProofs -dsimp (disch := omega) only [wrap_i64])); repeat (with_reducible refine sideA ?_)))
    (first | refine callT.at (iIsBulletin_ok (insSort ltT (L.map (bestOne B))) (by omega)) ⟨leA, trivial⟩ ?_ | refine callS.at (iIsBulletin_ok (insSort ltT (L.map (bestOne B))) (by omega)) ⟨leA, trivial⟩ ?_)
    (repeat ((repeat1' (first | simp -implicitDefEqProofs -dsimp only [go_sem, Nat.reduceSub, Nat.reduceAdd, Nat.reduceMul, Nat.reduceLT, Nat.reduceLeDiff, Nat.reduceEqDiff, Nat.reduceDiv, Nat.reduceMod, Int.reduceToNat, Int.reduceLE, Int.reduceLT, Int.reduceBEq, Int.reduceBNe, Int.reduceNeg, Int.reduceAdd, Int.reduceSub, Int.reduceMul, reduceCtorEq] | simp -implicitDefEqProofs -dsimp (disch := omega) only [wrap_i64])); repeat (with_reducible refine sideA ?_)))
    refine condT.split (fun h4 => ?_) (fun h4 => ?_) <;> (repeat ((repeat1' (first | simp -implicitDefEqProofs -dsimp only [go_sem, Nat.reduceSub, Nat.reduceAdd, Nat.reduceMul, Nat.reduceLT, Nat.reduceLeDiff, Nat.reduceEqDiff, Nat.reduceDiv, Nat.reduceMod, Int.reduceToNat, Int.reduceLE, Int.reduceLT, Int.reduceBEq, Int.reduceBNe, Int.reduceNeg, Int.reduceAdd, Int.reduceSub, Int.reduceMul, reduceCtorEq, h4] | simp -implicitDefEqProofs -dsimp (disch := omega) only [wrap_i64])); repeat (with_reducible refine sideA ?_)))
    · rw [bothR_no (.inr (.inr (by simpa using h4)))]
      exact WeakR.drop' rfl rfl
    · rw [bothR, if_pos ⟨h1', h2', by simpa using h4⟩]
      exact WeakR.refl _ _ _
end Go.Proofs
end
section
set_option linter.unusedSimpArgs false
set_option linter.unusedVariables false
set_option maxRecDepth 100000
namespace Go.Proofs
open Go.Lv
def limsB (K : List Int) : Bool := decide (1 ≤ K.length) && listedB (fun n => inB' n 1 700) (fun n => n) 6 K
/-- In which layer a depth lies: the number of limits ahead that it reaches. -/
def layer (K : List Int) (d : Int) : Nat := (K.takeWhile (fun l => decide (l ≤ d))).length
theorem layer_le (K : List Int) (d : Int) : layer K d ≤ K.length := by
  unfold layer; exact List.takeWhile_prefix (p := fun l => decide (l ≤ d)) |>.length_le
theorem layer_ge {K : List Int} {d : Int} : ∀ {k : Nat}, (∀ j (hj : j < K.length), j < k → K[j] ≤ d) → k ≤ K.length → k ≤ layer K d := by
  unfold layer
  induction K with
  | nil => intro k _ h; simpa using h
  | cons l K ih =>
    intro k h1 h2
    cases k with
    | zero => omega
    | succ k =>
      have h0 : l ≤ d := h1 0 (by simp) (by omega)
      rw [List.takeWhile_cons_of_pos (by simpa using h0), List.length_cons]
      have := ih (k := k) (fun j hj hjk => by have := h1 (j + 1) (by simpa using hj) (by omega); rwa [List.getElem_cons_succ] at this) (by simpa using h2)
      omega
theorem layer_eq {K : List Int} {d : Int} {k : Nat} (h1 : ∀ j (hj : j < K.length), j < k → K[j] ≤ d) (hk : k ≤ K.length) (h2 : ∀ hk : k < K.length, d < K[k]) : layer K d = k := by
  have ge := layer_ge h1 hk
  rcases Nat.lt_or_ge k (layer K d) with h | h
  · have hkl : k < K.length := Nat.lt_of_lt_of_le h (layer_le K d)
    have := h2 hkl
    have hall : K[k] ≤ d := by
      have hm : K[k] ∈ K.takeWhile (fun l => decide (l ≤ d)) := by
        have e : (K.takeWhile (fun l => decide (l ≤ d)))[k]'h = K[k] := (List.takeWhile_prefix (p := fun l => decide (l ≤ d))).getElem h
        rw [← e]
        exact List.getElem_mem _
      have := List.all_eq_true.1 (List.all_takeWhile (p := fun l => decide (l ≤ d)) (l := K)) _ hm
      simpa using this
    omega
  · omega
/-- The counts. -/
def bump (C : List Int) (k : Nat) : List Int := C.set k (C.getD k 0 + 1)
def depthTo (K : List Int) (L : List QuakeRow) : List Int := L.foldl (fun C r => bump C (layer K r.Deep)) (List.replicate (K.length + 1) 0)
theorem depthTo_succ (K : List Int) {L : List QuakeRow} {i : Nat} (hi : i < L.length) : depthTo K (L.take (i + 1)) = bump (depthTo K (L.take i)) (layer K L[i].Deep) := by
  rw [List.take_succ_eq_append_getElem hi, depthTo, List.foldl_append]; rfl
theorem bump_len (C : List Int) (k : Nat) : (bump C k).length = C.length := by simp [bump]
theorem depthTo_len (K : List Int) {L : List QuakeRow} : ∀ i, i ≤ L.length → (depthTo K (L.take i)).length = K.length + 1
  | 0, _ => by simp [depthTo]
  | i + 1, hi => by rw [depthTo_succ K (by omega : i < L.length), bump_len, depthTo_len K i (by omega)]
theorem depthTo_bd (K : List Int) {L : List QuakeRow} : ∀ i, i ≤ L.length → ∀ x ∈ depthTo K (L.take i), 0 ≤ x ∧ x ≤ i
  | 0, _ => by intro x hx; simp [depthTo] at hx; omega
  | i + 1, hi => by
    intro x hx
    rw [depthTo_succ K (by omega : i < L.length), bump] at hx
    have ih := depthTo_bd K (L := L) i (by omega)
    rcases List.mem_or_eq_of_mem_set hx with h | h
    · have := ih x h; omega
    · subst h
      rw [List.getD_eq_getElem?_getD]
      cases h : (depthTo K (L.take i))[layer K (L[i]'(by omega)).Deep]? with
      | none => simp; omega
      | some y => have := ih y (List.mem_of_getElem? h); simp; omega
def depthR (L : List QuakeRow) (K : List Int) : Option (List Int) := if bulB L = true ∧ limsB K = true then some (depthTo K L) else none
theorem limsB_ok {K : List Int} (h : limsB K = true) : 1 ≤ K.length ∧ K.length ≤ 6 ∧ (∀ x ∈ K, 1 ≤ x ∧ x ≤ 700) := by
  simp only [limsB, Bool.and_eq_true, decide_eq_true_eq] at h
  obtain ⟨h1, h2⟩ := listedB_all h.2
  exact ⟨h.1, h2, fun x hx => inB'_iff.1 (h1 x hx)⟩
theorem zrow_ints (n : Nat) : zrow n [V.int .i64 0] = rows IntS.cs (List.replicate n 0) := by
  induction n with
  | zero => rfl
  | succ n ih =>
    have : zrow (n + 1) [V.int .i64 0] = zrow n [V.int .i64 0] ++ [V.int .i64 0] := by simp [zrow, List.range_succ, Nat.mod_one]
    rw [this, ih, List.replicate_succ', rowsOf_append]; rfl
theorem limitOf_ok (n : Int) : Ctr Try.prog 108 [IntS.v n] [] (.bool (inB' n 1 700)) [] := by
  refine Ctr.intro Try.mixed Try.func108 rfl Try.okF108 ?_
  simp -implicitDefEqProofs -dsimp only [go_sem, Nat.reduceSub, Nat.reduceAdd, Nat.reduceMul, Nat.reduceLT, Nat.reduceLeDiff, Nat.reduceEqDiff, Nat.reduceDiv, Nat.reduceMod, Int.reduceToNat, Int.reduceLE, Int.reduceLT, Int.reduceBEq, Int.reduceBNe, Int.reduceNeg, Int.reduceAdd, Int.reduceSub, Int.reduceMul, reduceCtorEq, Try.ntmps108, Try.results108]
  (first | refine callT.at (in_ok n 1 700) ⟨leA, leA, leA, trivial⟩ ?_ | refine callS.at (in_ok n 1 700) ⟨leA, leA, leA, trivial⟩ ?_)
  simp -implicitDefEqProofs -dsimp only [go_sem, Nat.reduceSub, Nat.reduceAdd, Nat.reduceMul, Nat.reduceLT, Nat.reduceLeDiff, Nat.reduceEqDiff, Nat.reduceDiv, Nat.reduceMod, Int.reduceToNat, Int.reduceLE, Int.reduceLT, Int.reduceBEq, Int.reduceBNe, Int.reduceNeg, Int.reduceAdd, Int.reduceSub, Int.reduceMul, reduceCtorEq]
  exact WeakR.drop' rfl (by rfl)
theorem sameOf_ok (n : Int) : Ctr Try.prog 110 [IntS.v n] [] (.int .i64 n) [] := by
  refine Ctr.intro Try.mixed Try.func110 rfl Try.okF110 ?_
  simp -implicitDefEqProofs -dsimp only [go_sem, Nat.reduceSub, Nat.reduceAdd, Nat.reduceMul, Nat.reduceLT, Nat.reduceLeDiff, Nat.reduceEqDiff, Nat.reduceDiv, Nat.reduceMod, Int.reduceToNat, Int.reduceLE, Int.reduceLT, Int.reduceBEq, Int.reduceBNe, Int.reduceNeg, Int.reduceAdd, Int.reduceSub, Int.reduceMul, reduceCtorEq, Try.ntmps110, Try.results110]
  exact WeakR.drop' rfl (by rfl)
theorem iDepthCounts_ok (L : List QuakeRow) (K : List Int) (hl : L.length ≤ 281474976710656) (hk : K.length ≤ 281474976710656) : Ctr Try.prog 36 [QuakeRow.sl L, IntS.sl K] [] (optN 1 (depthR L K)) (optNh IntS.cs (depthR L K)) := by
  refine Ctr.intro Try.mixed Try.func36 rfl Try.okF36 ?_
  simp -implicitDefEqProofs -dsimp only [go_sem, Nat.reduceSub, Nat.reduceAdd, Nat.reduceMul, Nat.reduceLT, Nat.reduceLeDiff, Nat.reduceEqDiff, Nat.reduceDiv, Nat.reduceMod, Int.reduceToNat, Int.reduceLE, Int.reduceLT, Int.reduceBEq, Int.reduceBNe, Int.reduceNeg, Int.reduceAdd, Int.reduceSub, Int.reduceMul, reduceCtorEq, Try.ntmps36, Try.results36]
  by_cases h : bulB L = true ∧ limsB K = true
  rotate_left
  · have e : depthR L K = none := if_neg h
    rw [e]
    simp only [limsB, Bool.and_eq_true, decide_eq_true_eq] at h
    repeat' (first | exact WeakR.refl _ _ _ | (refine WeakR.drop' ?_ (by rfl); first | rfl | (simp [*]; done)) | ((first | refine callT.at (iIsBulletin_ok L hl) ⟨leA, trivial⟩ ?_ | refine callS.at (iIsBulletin_ok L hl) ⟨leA, trivial⟩ ?_); simp -implicitDefEqProofs -dsimp only [go_sem, Nat.reduceSub, Nat.reduceAdd, Nat.reduceMul, Nat.reduceLT, Nat.reduceLeDiff, Nat.reduceEqDiff, Nat.reduceDiv, Nat.reduceMod, Int.reduceToNat, Int.reduceLE, Int.reduceLT, Int.reduceBEq, Int.reduceBNe, Int.reduceNeg, Int.reduceAdd, Int.reduceSub, Int.reduceMul, reduceCtorEq, *]) | ((first | refine callT.at (areListedInt_ok K (fun n => inB' n 1 700) (fun n => n) 6 _ _ [] [] (fun _ => rfl) (fun _ => rfl) limitOf_ok sameOf_ok 6 rfl hk) ⟨leA, leA, leA, leA, trivial⟩ ?_ | refine callS.at (areListedInt_ok K (fun n => inB' n 1 700) (fun n => n) 6 _ _ [] [] (fun _ => rfl) (fun _ => rfl) limitOf_ok sameOf_ok 6 rfl hk) ⟨leA, leA, leA, leA, trivial⟩ ?_); simp -implicitDefEqProofs -dsimp only [go_sem, Nat.reduceSub, Nat.reduceAdd, Nat.reduceMul, Nat.reduceLT, Nat.reduceLeDiff, Nat.reduceEqDiff, Nat.reduceDiv, Nat.reduceMod, Int.reduceToNat, Int.reduceLE, Int.reduceLT, Int.reduceBEq, Int.reduceBNe, Int.reduceNeg, Int.reduceAdd, Int.reduceSub, Int.reduceMul, reduceCtorEq, *]) | (refine guardT.splitT (fun _ => ?_) (fun _ => ?_) <;> simp -implicitDefEqProofs -dsimp only [go_sem, Nat.reduceSub, Nat.reduceAdd, Nat.reduceMul, Nat.reduceLT, Nat.reduceLeDiff, Nat.reduceEqDiff, Nat.reduceDiv, Nat.reduceMod, Int.reduceToNat, Int.reduceLE, Int.reduceLT, Int.reduceBEq, Int.reduceBNe, Int.reduceNeg, Int.reduceAdd, Int.reduceSub, Int.reduceMul, reduceCtorEq, *]) | (refine guardT.splitF (fun _ => ?_) (fun _ => ?_) <;> simp -implicitDefEqProofs -dsimp only [go_sem, Nat.reduceSub, Nat.reduceAdd, Nat.reduceMul, Nat.reduceLT, Nat.reduceLeDiff, Nat.reduceEqDiff, Nat.reduceDiv, Nat.reduceMod, Int.reduceToNat, Int.reduceLE, Int.reduceLT, Int.reduceBEq, Int.reduceBNe, Int.reduceNeg, Int.reduceAdd, Int.reduceSub, Int.reduceMul, reduceCtorEq, *]) | (refine condT.split (fun _ => ?_) (fun _ => ?_) <;> simp -implicitDefEqProofs -dsimp only [go_sem, Nat.reduceSub, Nat.reduceAdd, Nat.reduceMul, Nat.reduceLT, Nat.reduceLeDiff, Nat.reduceEqDiff, Nat.reduceDiv, Nat.reduceMod, Int.reduceToNat, Int.reduceLE, Int.reduceLT, Int.reduceBEq, Int.reduceBNe, Int.reduceNeg, Int.reduceAdd, Int.reduceSub, Int.reduceMul, reduceCtorEq, *]) | (exfalso; simp_all; done))
  · have e : depthR L K = some (depthTo K L) := if_pos h
    rw [e]
    obtain ⟨h1, h2⟩ := h
    obtain ⟨hv, hlen⟩ := bulB_all h1
    obtain ⟨k1, k2, k3⟩ := limsB_ok h2
    have k4 : listedB (fun n => inB' n 1 700) (fun n => n) 6 K = true := by simp only [limsB, Bool.and_eq_true] at h2; exact h2.2
    have k5 : ((K.length : Int) == 0) = false := by simp; intro h; simp [h] at k1
    repeat (first | ((first | refine callT.at (iIsBulletin_ok L hl) ⟨leA, trivial⟩ ?_ | refine callS.at (iIsBulletin_ok L hl) ⟨leA, trivial⟩ ?_); simp -implicitDefEqProofs -dsimp only [go_sem, Nat.reduceSub, Nat.reduceAdd, Nat.reduceMul, Nat.reduceLT, Nat.reduceLeDiff, Nat.reduceEqDiff, Nat.reduceDiv, Nat.reduceMod, Int.reduceToNat, Int.reduceLE, Int.reduceLT, Int.reduceBEq, Int.reduceBNe, Int.reduceNeg, Int.reduceAdd, Int.reduceSub, Int.reduceMul, reduceCtorEq, h1, k4, k5]) | ((first | refine callT.at (areListedInt_ok K (fun n => inB' n 1 700) (fun n => n) 6 _ _ [] [] (fun _ => rfl) (fun _ => rfl) limitOf_ok sameOf_ok 6 rfl hk) ⟨leA, leA, leA, leA, trivial⟩ ?_ | refine callS.at (areListedInt_ok K (fun n => inB' n 1 700) (fun n => n) 6 _ _ [] [] (fun _ => rfl) (fun _ => rfl) limitOf_ok sameOf_ok 6 rfl hk) ⟨leA, leA, leA, leA, trivial⟩ ?_); simp -implicitDefEqProofs -dsimp only [go_sem, Nat.reduceSub, Nat.reduceAdd, Nat.reduceMul, Nat.reduceLT, Nat.reduceLeDiff, Nat.reduceEqDiff, Nat.reduceDiv, Nat.reduceMod, Int.reduceToNat, Int.reduceLE, Int.reduceLT, Int.reduceBEq, Int.reduceBNe, Int.reduceNeg, Int.reduceAdd, Int.reduceSub, Int.reduceMul, reduceCtorEq, h1, k4, k5]) | (with_reducible refine And.intro (by first | omega | (show drawOk _ = true; kernel_rfl)) ?_; try (repeat1' (first | simp -implicitDefEqProofs -dsimp only [go_sem, Nat.reduceSub, Nat.reduceAdd, Nat.reduceMul, Nat.reduceLT, Nat.reduceLeDiff, Nat.reduceEqDiff, Nat.reduceDiv, Nat.reduceMod, Int.reduceToNat, Int.reduceLE, Int.reduceLT, Int.reduceBEq, Int.reduceBNe, Int.reduceNeg, Int.reduceAdd, Int.reduceSub, Int.reduceMul, reduceCtorEq, h1, k4, k5] | simp -implicitDefEqProofs -dsimp (disch := omega) only [wrap_i64]))))
    (repeat ((repeat1' (first | simp -implicitDefEqProofs -dsimp only [go_sem, Nat.reduceSub, Nat.reduceAdd, Nat.reduceMul, Nat.reduceLT, Nat.reduceLeDiff, Nat.reduceEqDiff, Nat.reduceDiv, Nat.reduceMod, Int.reduceToNat, Int.reduceLE, Int.reduceLT, Int.reduceBEq, Int.reduceBNe, Int.reduceNeg, Int.reduceAdd, Int.reduceSub, Int.reduceMul, reduceCtorEq, zrow_ints, Nat.mul_one] | simp -implicitDefEqProofs -dsimp (disch := omega) only [wrap_i64])); repeat (with_reducible refine sideA ?_)))
    refine LoopT.intro (fun i : Nat => i ≤ L.length) (fun i => ⟨[.undef, IntS.sl K, .undef, .undef, .undef, .undef, .undef, .osl 0 0 (K.length + 1) 1, .undef, .undef, .undef, .undef, .undef, .undef, .undef, .undef, .undef, .undef, .undef, .undef, .undef, .undef, .undef, .undef, .undef, .undef, .undef, .undef, .undef, QuakeRow.sl L, .int .i64 L.length, .int .i64 i, .undef, .undef, .undef, .undef, .undef, .undef, .undef, .undef, .undef, .undef, .undef, .undef, .undef, .undef, .undef, .undef, .undef, .undef, .undef, .undef, .undef, .undef, .undef, .undef, .undef, .undef], [some (rows IntS.cs (depthTo K (L.take i)))], 0⟩) (fun i => L.length - i) 0 (Nat.zero_le _) ?_ (fun i hi => ?_)
    · refine Weak.cut (1) (by simp) (by simp) ?_ ?_
      · simp [LeC, LeV, ren, cutF]
      · simp [cutH, cutB, map_ren_rows, depthTo]
    simp -implicitDefEqProofs -dsimp only [go_sem, Nat.reduceSub, Nat.reduceAdd, Nat.reduceMul, Nat.reduceLT, Nat.reduceLeDiff, Nat.reduceEqDiff, Nat.reduceDiv, Nat.reduceMod, Int.reduceToNat, Int.reduceLE, Int.reduceLT, Int.reduceBEq, Int.reduceBNe, Int.reduceNeg, Int.reduceAdd, Int.reduceSub, Int.reduceMul, reduceCtorEq]
    refine condT.split (fun h1 => ?_) (fun h1 => ?_)
    · simp -implicitDefEqProofs -dsimp only [go_sem, Nat.reduceSub, Nat.reduceAdd, Nat.reduceMul, Nat.reduceLT, Nat.reduceLeDiff, Nat.reduceEqDiff, Nat.reduceDiv, Nat.reduceMod, Int.reduceToNat, Int.reduceLE, Int.reduceLT, Int.reduceBEq, Int.reduceBNe, Int.reduceNeg, Int.reduceAdd, Int.reduceSub, Int.reduceMul, reduceCtorEq, h1]
      have hi' : i < L.length := by simpa using h1
      have h5 := QuakeRow.csl L[i]
      have hr := rows_at QuakeRow.csl hi'
      (repeat ((repeat1' (first | simp -implicitDefEqProofs -dsimp only [go_sem, Nat.reduceSub, Nat.reduceAdd, Nat.reduceMul, Nat.reduceLT, Nat.reduceLeDiff, Nat.reduceEqDiff, Nat.reduceDiv, Nat.reduceMod, Int.reduceToNat, Int.reduceLE, Int.reduceLT, Int.reduceBEq, Int.reduceBNe, Int.reduceNeg, Int.reduceAdd, Int.reduceSub, Int.reduceMul, reduceCtorEq, hr, QuakeRow.cs] | simp -implicitDefEqProofs -dsimp (disch := omega) only [wrap_i64])); repeat (with_reducible refine sideA ?_)))
      refine LoopT.intro (fun k : Nat => k ≤ K.length ∧ ∀ j (hj : j < K.length), j < k → K[j] ≤ L[i].Deep) (fun k => ⟨[.undef, IntS.sl K, .undef, .undef, .undef, .undef, .undef, .osl 0 0 (K.length + 1) 1, .undef, .ptr 1 0, .int .i64 k, .undef, .undef, .undef, .undef, .undef, .undef, .undef, .undef, .undef, .undef, .undef, .undef, .undef, .undef, .undef, .undef, .undef, .undef, QuakeRow.sl L, .int .i64 L.length, .int .i64 i, .undef, .undef, .undef, .undef, .undef, .undef, .undef, .undef, .undef, .undef, .undef, .undef, .undef, .undef, .undef, .undef, .undef, .undef, .undef, .undef, .undef, .undef, .undef, .undef, .undef, .undef], [some (rows IntS.cs (depthTo K (L.take i))), some L[i].cs], 0⟩) (fun k => K.length - k) 0 ⟨Nat.zero_le _, fun j _ hj => by omega⟩ ?_ (fun k hk => ?_)
      · refine Weak.cut (2) (by simp) (by simp) ?_ ?_
        · simp [LeC, LeV, ren, cutF]
        · simp [cutH, cutB, map_ren_rows, QuakeRow.cs, ren]
      simp -implicitDefEqProofs -dsimp only [go_sem, Nat.reduceSub, Nat.reduceAdd, Nat.reduceMul, Nat.reduceLT, Nat.reduceLeDiff, Nat.reduceEqDiff, Nat.reduceDiv, Nat.reduceMod, Int.reduceToNat, Int.reduceLE, Int.reduceLT, Int.reduceBEq, Int.reduceBNe, Int.reduceNeg, Int.reduceAdd, Int.reduceSub, Int.reduceMul, reduceCtorEq, QuakeRow.cs]
      refine ⟨by kernel_rfl, ?_⟩
      refine guardT.splitT (fun h2 => ?_) (fun h2 => ?_) <;> simp -implicitDefEqProofs -dsimp only [go_sem, Nat.reduceSub, Nat.reduceAdd, Nat.reduceMul, Nat.reduceLT, Nat.reduceLeDiff, Nat.reduceEqDiff, Nat.reduceDiv, Nat.reduceMod, Int.reduceToNat, Int.reduceLE, Int.reduceLT, Int.reduceBEq, Int.reduceBNe, Int.reduceNeg, Int.reduceAdd, Int.reduceSub, Int.reduceMul, reduceCtorEq, h2]
      · have hk' : k < K.length := by simpa using h2
        have hrk := rows_at IntS.csl hk'
        (repeat ((repeat1' (first | simp -implicitDefEqProofs -dsimp only [go_sem, Nat.reduceSub, Nat.reduceAdd, Nat.reduceMul, Nat.reduceLT, Nat.reduceLeDiff, Nat.reduceEqDiff, Nat.reduceDiv, Nat.reduceMod, Int.reduceToNat, Int.reduceLE, Int.reduceLT, Int.reduceBEq, Int.reduceBNe, Int.reduceNeg, Int.reduceAdd, Int.reduceSub, Int.reduceMul, reduceCtorEq, hrk, IntS.cs, QuakeRow.cs] | simp -implicitDefEqProofs -dsimp (disch := omega) only [wrap_i64])); repeat (with_reducible refine sideA ?_)))
        refine condT.split (fun h3 => ?_) (fun h3 => ?_) <;> simp -implicitDefEqProofs -dsimp only [go_sem, Nat.reduceSub, Nat.reduceAdd, Nat.reduceMul, Nat.reduceLT, Nat.reduceLeDiff, Nat.reduceEqDiff, Nat.reduceDiv, Nat.reduceMod, Int.reduceToNat, Int.reduceLE, Int.reduceLT, Int.reduceBEq, Int.reduceBNe, Int.reduceNeg, Int.reduceAdd, Int.reduceSub, Int.reduceMul, reduceCtorEq, h3]
        · (repeat ((repeat1' (first | simp -implicitDefEqProofs -dsimp only [go_sem, Nat.reduceSub, Nat.reduceAdd, Nat.reduceMul, Nat.reduceLT, Nat.reduceLeDiff, Nat.reduceEqDiff, Nat.reduceDiv, Nat.reduceMod, Int.reduceToNat, Int.reduceLE, Int.reduceLT, Int.reduceBEq, Int.reduceBNe, Int.reduceNeg, Int.reduceAdd, Int.reduceSub, Int.reduceMul, reduceCtorEq] | simp -implicitDefEqProofs -dsimp (disch := omega) only [wrap_i64])); repeat (with_reducible refine sideA ?_)))
          refine ⟨k + 1, ⟨hk', fun j hj hjk => ?_⟩, ?_, by omega⟩
          · rcases Nat.lt_or_ge j k with h | h
            · exact hk.2 j hj h
            · have : j = k := by omega
              subst this; simpa using h3
          refine Weak.cut (2) (by simp) (by simp) ?_ ?_
          · simp [LeC, LeV, ren, cutF]
          · simp [cutH, cutB, map_ren_rows, QuakeRow.cs, ren]
        · have hlay : layer K L[i].Deep = k := layer_eq hk.2 hk.1 (fun _ => by simpa using h3)
          have hkc : k < (depthTo K (L.take i)).length := by rw [depthTo_len K i hi]; omega
          have hrc := rows_at IntS.csl hkc
          have hbd := depthTo_bd K i hi _ (List.getElem_mem hkc)
          have hsp := splice_row IntS.csl hkc ((depthTo K (L.take i))[k] + 1)
          have hlc : (rows IntS.cs (depthTo K (L.take i))).length = K.length + 1 := by rw [rows_length, depthTo_len K i hi, Nat.mul_one]
          (repeat ((repeat1' (first | simp -implicitDefEqProofs -dsimp only [go_sem, Nat.reduceSub, Nat.reduceAdd, Nat.reduceMul, Nat.reduceLT, Nat.reduceLeDiff, Nat.reduceEqDiff, Nat.reduceDiv, Nat.reduceMod, Int.reduceToNat, Int.reduceLE, Int.reduceLT, Int.reduceBEq, Int.reduceBNe, Int.reduceNeg, Int.reduceAdd, Int.reduceSub, Int.reduceMul, reduceCtorEq, hrc, IntS.cs, QuakeRow.cs, hlc] | simp -implicitDefEqProofs -dsimp (disch := omega) only [wrap_i64])); repeat (with_reducible refine sideA ?_)))
          have e2 : depthTo K (L.take (i + 1)) = (depthTo K (L.take i)).set k ((depthTo K (L.take i))[k] + 1) := by
            rw [depthTo_succ K hi', hlay, bump, List.getD_eq_getElem?_getD, List.getElem?_eq_getElem hkc]; rfl
          simp only [IntS.cs] at hsp
          refine ⟨i + 1, hi', ?_, by omega⟩
          refine Weak.cut (1) (by simp) (by simp) ?_ ?_
          · simp [LeC, LeV, ren, cutF]
          · rw [hsp, e2]
            simp [cutH, cutB, map_ren_rows]
      · have hlay : layer K L[i].Deep = k := layer_eq hk.2 hk.1 (fun h => absurd h (by simpa using h2))
        have hkc : k < (depthTo K (L.take i)).length := by rw [depthTo_len K i hi]; omega
        have hrc := rows_at IntS.csl hkc
        have hbd := depthTo_bd K i hi _ (List.getElem_mem hkc)
        have hsp := splice_row IntS.csl hkc ((depthTo K (L.take i))[k] + 1)
        have hlc : (rows IntS.cs (depthTo K (L.take i))).length = K.length + 1 := by rw [rows_length, depthTo_len K i hi, Nat.mul_one]
        (repeat ((repeat1' (first | simp -implicitDefEqProofs -dsimp only [go_sem, Nat.reduceSub, Nat.reduceAdd, Nat.reduceMul, Nat.reduceLT, Nat.reduceLeDiff, Nat.reduceEqDiff, Nat.reduceDiv, Nat.reduceMod, Int.reduceToNat, Int.reduceLE, Int.reduceLT, Int.reduceBEq, Int.reduceBNe, Int.reduceNeg, Int.reduceAdd, Int.reduceSub, Int.reduceMul, reduceCtorEq, hrc, IntS.cs, QuakeRow.cs, hlc] | simp -implicitDefEqProofs -dsimp (disch := omega) only [wrap_i64])); repeat (with_reducible refine sideA ?_)))
        have e2 : depthTo K (L.take (i + 1)) = (depthTo K (L.take i)).set k ((depthTo K (L.take i))[k] + 1) := by
          rw [depthTo_succ K hi', hlay, bump, List.getD_eq_getElem?_getD, List.getElem?_eq_getElem hkc]; rfl
        simp only [IntS.cs] at hsp
        refine ⟨i + 1, hi', ?_, by omega⟩
        refine Weak.cut (1) (by simp) (by simp) ?_ ?_
        · simp [LeC, LeV, ren, cutF]
        · rw [hsp, e2]
          simp [cutH, cutB, map_ren_rows]
    · simp -implicitDefEqProofs -dsimp only [go_sem, Nat.reduceSub, Nat.reduceAdd, Nat.reduceMul, Nat.reduceLT, Nat.reduceLeDiff, Nat.reduceEqDiff, Nat.reduceDiv, Nat.reduceMod, Int.reduceToNat, Int.reduceLE, Int.reduceLT, Int.reduceBEq, Int.reduceBNe, Int.reduceNeg, Int.reduceAdd, Int.reduceSub, Int.reduceMul, reduceCtorEq, h1]
      have hi' : i = L.length := by simp at h1; omega
      subst hi'
      rw [List.take_length]
      have hc := depthTo_len K (L := L) L.length (Nat.le_refl _)
      rw [List.take_length] at hc
      simp only [optN, optNh, hc]
      exact WeakR.refl _ _ _
def risB (lo up : Int) (K : List Int) : Bool := (List.range K.length).all (listedQ (fun n => inB' n lo up) (fun n => n) K)
theorem l1Rising_ok (K : List Int) (lo up : Int) (hk : K.length ≤ 281474976710656) : Ctr Try.prog 111 [IntS.sl K, .int .i64 lo, .int .i64 up] [] (.bool (risB lo up K)) [] := by
  refine Ctr.intro Try.mixed Try.func111 rfl Try.okF111 ?_
  simp -implicitDefEqProofs -dsimp only [go_sem, Nat.reduceSub, Nat.reduceAdd, Nat.reduceMul, Nat.reduceLT, Nat.reduceLeDiff, Nat.reduceEqDiff, Nat.reduceDiv, Nat.reduceMod, Int.reduceToNat, Int.reduceLE, Int.reduceLT, Int.reduceBEq, Int.reduceBNe, Int.reduceNeg, Int.reduceAdd, Int.reduceSub, Int.reduceMul, reduceCtorEq, Try.ntmps111, Try.results111]
  refine LoopT.intro (fun i : Nat => i ≤ (K).length ∧ (List.range i).all (listedQ (fun n => inB' n lo up) (fun n => n) (K)) = true) (fun i => ⟨[IntS.sl K, .int .i64 lo, .int .i64 up, .undef, .undef, .undef, .undef, .int .i64 i, .undef, .undef, .undef, .undef, .undef, .undef, .undef, .undef, .undef, .undef, .undef, .undef, .undef, .undef, .undef, .undef, .undef, .undef, .undef, .undef, .undef, .undef, .undef, .undef, .undef, .undef, .undef, .undef, .undef, .undef], [], 0⟩) (fun i => (K).length - i) 0 ⟨Nat.zero_le _, rfl⟩ ?_ (fun i hi => ?_)
  · refine Weak.cut (0) (by simp) (by simp) ?_ ?_
    · simp [LeC, LeV, ren, cutF]
    · first | rfl | simp [cutH, cutB, ren, map_ren_rows]
  simp -implicitDefEqProofs -dsimp only [go_sem, Nat.reduceSub, Nat.reduceAdd, Nat.reduceMul, Nat.reduceLT, Nat.reduceLeDiff, Nat.reduceEqDiff, Nat.reduceDiv, Nat.reduceMod, Int.reduceToNat, Int.reduceLE, Int.reduceLT, Int.reduceBEq, Int.reduceBNe, Int.reduceNeg, Int.reduceAdd, Int.reduceSub, Int.reduceMul, reduceCtorEq]
  refine condT.split (fun h1 => ?_) (fun h1 => ?_)
  rotate_left
  · simp -implicitDefEqProofs -dsimp only [go_sem, Nat.reduceSub, Nat.reduceAdd, Nat.reduceMul, Nat.reduceLT, Nat.reduceLeDiff, Nat.reduceEqDiff, Nat.reduceDiv, Nat.reduceMod, Int.reduceToNat, Int.reduceLE, Int.reduceLT, Int.reduceBEq, Int.reduceBNe, Int.reduceNeg, Int.reduceAdd, Int.reduceSub, Int.reduceMul, reduceCtorEq, h1]
    have hi' : i = (K).length := by simp at h1; omega
    subst hi'
    exact WeakR.drop' (by rw [risB, hi.2]) (by rfl)
  · simp -implicitDefEqProofs -dsimp only [go_sem, Nat.reduceSub, Nat.reduceAdd, Nat.reduceMul, Nat.reduceLT, Nat.reduceLeDiff, Nat.reduceEqDiff, Nat.reduceDiv, Nat.reduceMod, Int.reduceToNat, Int.reduceLE, Int.reduceLT, Int.reduceBEq, Int.reduceBNe, Int.reduceNeg, Int.reduceAdd, Int.reduceSub, Int.reduceMul, reduceCtorEq, h1]
    have hi' : i < (K).length := by simpa using h1
    have h5 := IntS.csl (K)[i]
    have hr := rows_at IntS.csl hi'
    have hbad : listedQ (fun n => inB' n lo up) (fun n => n) (K) i = false → _ := fun hq => (show V.bool false = V.bool (risB lo up K) by rw [risB, range_all_false hi' hq])
    cases i with
    | zero =>
      have hz : ((0 : Nat) : Int) = 0 := rfl
      have hr0 := hr
      rw [Nat.zero_mul, List.drop_zero] at hr0
      (repeat ((repeat1' (first | simp -implicitDefEqProofs -dsimp only [go_sem, Nat.reduceSub, Nat.reduceAdd, Nat.reduceMul, Nat.reduceLT, Nat.reduceLeDiff, Nat.reduceEqDiff, Nat.reduceDiv, Nat.reduceMod, Int.reduceToNat, Int.reduceLE, Int.reduceLT, Int.reduceBEq, Int.reduceBNe, Int.reduceNeg, Int.reduceAdd, Int.reduceSub, Int.reduceMul, reduceCtorEq, hr, hr0, hz, IntS.cs] | simp -implicitDefEqProofs -dsimp (disch := omega) only [wrap_i64])); repeat (with_reducible refine sideA ?_)))
      repeat' (first | (refine WeakR.drop' (hbad ?_) (by rfl); (rw [listedQ_zero hi']; (try simp only [Bool.not_eq_false', Bool.not_eq_true', decide_eq_false_iff_not, decide_eq_true_eq] at *); simp [*]; try omega; done)) | ((first | refine callT.at (l1In_ok _ _ _) ⟨leA, leA, leA, trivial⟩ ?_ | refine callS.at (l1In_ok _ _ _) ⟨leA, leA, leA, trivial⟩ ?_); simp -implicitDefEqProofs -dsimp only [go_sem, Nat.reduceSub, Nat.reduceAdd, Nat.reduceMul, Nat.reduceLT, Nat.reduceLeDiff, Nat.reduceEqDiff, Nat.reduceDiv, Nat.reduceMod, Int.reduceToNat, Int.reduceLE, Int.reduceLT, Int.reduceBEq, Int.reduceBNe, Int.reduceNeg, Int.reduceAdd, Int.reduceSub, Int.reduceMul, reduceCtorEq, *]) | (refine guardT.splitT (fun _ => ?_) (fun _ => ?_) <;> simp -implicitDefEqProofs -dsimp only [go_sem, Nat.reduceSub, Nat.reduceAdd, Nat.reduceMul, Nat.reduceLT, Nat.reduceLeDiff, Nat.reduceEqDiff, Nat.reduceDiv, Nat.reduceMod, Int.reduceToNat, Int.reduceLE, Int.reduceLT, Int.reduceBEq, Int.reduceBNe, Int.reduceNeg, Int.reduceAdd, Int.reduceSub, Int.reduceMul, reduceCtorEq, *]) | (refine guardT.splitF (fun _ => ?_) (fun _ => ?_) <;> simp -implicitDefEqProofs -dsimp only [go_sem, Nat.reduceSub, Nat.reduceAdd, Nat.reduceMul, Nat.reduceLT, Nat.reduceLeDiff, Nat.reduceEqDiff, Nat.reduceDiv, Nat.reduceMod, Int.reduceToNat, Int.reduceLE, Int.reduceLT, Int.reduceBEq, Int.reduceBNe, Int.reduceNeg, Int.reduceAdd, Int.reduceSub, Int.reduceMul, reduceCtorEq, *]) | (refine condT.split (fun _ => ?_) (fun _ => ?_) <;> simp -implicitDefEqProofs -dsimp only [go_sem, Nat.reduceSub, Nat.reduceAdd, Nat.reduceMul, Nat.reduceLT, Nat.reduceLeDiff, Nat.reduceEqDiff, Nat.reduceDiv, Nat.reduceMod, Int.reduceToNat, Int.reduceLE, Int.reduceLT, Int.reduceBEq, Int.reduceBNe, Int.reduceNeg, Int.reduceAdd, Int.reduceSub, Int.reduceMul, reduceCtorEq, *]) | (with_reducible refine And.intro (by first | omega | (show drawOk _ = true; kernel_rfl)) ?_; (repeat ((repeat1' (first | simp -implicitDefEqProofs -dsimp only [go_sem, Nat.reduceSub, Nat.reduceAdd, Nat.reduceMul, Nat.reduceLT, Nat.reduceLeDiff, Nat.reduceEqDiff, Nat.reduceDiv, Nat.reduceMod, Int.reduceToNat, Int.reduceLE, Int.reduceLT, Int.reduceBEq, Int.reduceBNe, Int.reduceNeg, Int.reduceAdd, Int.reduceSub, Int.reduceMul, reduceCtorEq, *, IntS.cs] | simp -implicitDefEqProofs -dsimp (disch := omega) only [wrap_i64])); repeat (with_reducible refine sideA ?_)))) | (refine ⟨0 + 1, ⟨hi', range_all_succ hi.2 (by rw [listedQ_zero hi']; (try simp only [Bool.not_eq_false', Bool.not_eq_true', decide_eq_false_iff_not, decide_eq_true_eq] at *); simp [*]; try omega)⟩, ?_, by omega⟩; refine Weak.cut (0) (by simp) (by simp) ?_ ?_; (· (try (repeat1' (first | simp -implicitDefEqProofs -dsimp only [go_sem, Nat.reduceSub, Nat.reduceAdd, Nat.reduceMul, Nat.reduceLT, Nat.reduceLeDiff, Nat.reduceEqDiff, Nat.reduceDiv, Nat.reduceMod, Int.reduceToNat, Int.reduceLE, Int.reduceLT, Int.reduceBEq, Int.reduceBNe, Int.reduceNeg, Int.reduceAdd, Int.reduceSub, Int.reduceMul, reduceCtorEq] | simp -implicitDefEqProofs -dsimp (disch := omega) only [wrap_i64])); simp [LeC, LeV, ren, cutF]; try omega)); (· (first | rfl | simp [cutH, cutB, ren, map_ren_rows]))))
    | succ j =>
      have hj : j < (K).length := by omega
      have hw1 : IntKind.i64.wrap (((j + 1 : Nat) : Int) - 1) = (j : Int) := by rw [wrap_i64 (by omega) (by omega)]; omega
      have hg : decide ((0 : Int) < ((j + 1 : Nat) : Int)) = true := decide_eq_true (by omega)
      have hr2 := rows_at IntS.csl hj
      (repeat ((repeat1' (first | simp -implicitDefEqProofs -dsimp only [go_sem, Nat.reduceSub, Nat.reduceAdd, Nat.reduceMul, Nat.reduceLT, Nat.reduceLeDiff, Nat.reduceEqDiff, Nat.reduceDiv, Nat.reduceMod, Int.reduceToNat, Int.reduceLE, Int.reduceLT, Int.reduceBEq, Int.reduceBNe, Int.reduceNeg, Int.reduceAdd, Int.reduceSub, Int.reduceMul, reduceCtorEq, hr, hg, hw1, hr2, IntS.cs] | simp -implicitDefEqProofs -dsimp (disch := omega) only [wrap_i64])); repeat (with_reducible refine sideA ?_)))
      repeat' (first | (refine WeakR.drop' (hbad ?_) (by rfl); (rw [listedQ_succ hi']; (try simp only [Bool.not_eq_false', Bool.not_eq_true', decide_eq_false_iff_not, decide_eq_true_eq] at *); simp [*]; try omega; done)) | ((first | refine callT.at (l1In_ok _ _ _) ⟨leA, leA, leA, trivial⟩ ?_ | refine callS.at (l1In_ok _ _ _) ⟨leA, leA, leA, trivial⟩ ?_); simp -implicitDefEqProofs -dsimp only [go_sem, Nat.reduceSub, Nat.reduceAdd, Nat.reduceMul, Nat.reduceLT, Nat.reduceLeDiff, Nat.reduceEqDiff, Nat.reduceDiv, Nat.reduceMod, Int.reduceToNat, Int.reduceLE, Int.reduceLT, Int.reduceBEq, Int.reduceBNe, Int.reduceNeg, Int.reduceAdd, Int.reduceSub, Int.reduceMul, reduceCtorEq, *]) | (refine guardT.splitT (fun _ => ?_) (fun _ => ?_) <;> simp -implicitDefEqProofs -dsimp only [go_sem, Nat.reduceSub, Nat.reduceAdd, Nat.reduceMul, Nat.reduceLT, Nat.reduceLeDiff, Nat.reduceEqDiff, Nat.reduceDiv, Nat.reduceMod, Int.reduceToNat, Int.reduceLE, Int.reduceLT, Int.reduceBEq, Int.reduceBNe, Int.reduceNeg, Int.reduceAdd, Int.reduceSub, Int.reduceMul, reduceCtorEq, *]) | (refine guardT.splitF (fun _ => ?_) (fun _ => ?_) <;> simp -implicitDefEqProofs -dsimp only [go_sem, Nat.reduceSub, Nat.reduceAdd, Nat.reduceMul, Nat.reduceLT, Nat.reduceLeDiff, Nat.reduceEqDiff, Nat.reduceDiv, Nat.reduceMod, Int.reduceToNat, Int.reduceLE, Int.reduceLT, Int.reduceBEq, Int.reduceBNe, Int.reduceNeg, Int.reduceAdd, Int.reduceSub, Int.reduceMul, reduceCtorEq, *]) | (refine condT.split (fun _ => ?_) (fun _ => ?_) <;> simp -implicitDefEqProofs -dsimp only [go_sem, Nat.reduceSub, Nat.reduceAdd, Nat.reduceMul, Nat.reduceLT, Nat.reduceLeDiff, Nat.reduceEqDiff, Nat.reduceDiv, Nat.reduceMod, Int.reduceToNat, Int.reduceLE, Int.reduceLT, Int.reduceBEq, Int.reduceBNe, Int.reduceNeg, Int.reduceAdd, Int.reduceSub, Int.reduceMul, reduceCtorEq, *]) | (with_reducible refine And.intro (by first | omega | (show drawOk _ = true; kernel_rfl)) ?_; (repeat ((repeat1' (first | simp -implicitDefEqProofs -dsimp only [go_sem, Nat.reduceSub, Nat.reduceAdd, Nat.reduceMul, Nat.reduceLT, Nat.reduceLeDiff, Nat.reduceEqDiff, Nat.reduceDiv, Nat.reduceMod, Int.reduceToNat, Int.reduceLE, Int.reduceLT, Int.reduceBEq, Int.reduceBNe, Int.reduceNeg, Int.reduceAdd, Int.reduceSub, Int.reduceMul, reduceCtorEq, *, IntS.cs] | simp -implicitDefEqProofs -dsimp (disch := omega) only [wrap_i64])); repeat (with_reducible refine sideA ?_)))) | (refine ⟨j + 1 + 1, ⟨hi', range_all_succ hi.2 (by rw [listedQ_succ hi']; (try simp only [Bool.not_eq_false', Bool.not_eq_true', decide_eq_false_iff_not, decide_eq_true_eq] at *); simp [*]; try omega)⟩, ?_, by omega⟩; refine Weak.cut (0) (by simp) (by simp) ?_ ?_; (· (try (repeat1' (first | simp -implicitDefEqProofs -dsimp only [go_sem, Nat.reduceSub, Nat.reduceAdd, Nat.reduceMul, Nat.reduceLT, Nat.reduceLeDiff, Nat.reduceEqDiff, Nat.reduceDiv, Nat.reduceMod, Int.reduceToNat, Int.reduceLE, Int.reduceLT, Int.reduceBEq, Int.reduceBNe, Int.reduceNeg, Int.reduceAdd, Int.reduceSub, Int.reduceMul, reduceCtorEq] | simp -implicitDefEqProofs -dsimp (disch := omega) only [wrap_i64])); simp [LeC, LeV, ren, cutF]; try omega)); (· (first | rfl | simp [cutH, cutB, ren, map_ren_rows]))))
theorem sDepthCounts_ok (L : List QuakeRow) (K : List Int) (hl : L.length ≤ 281474976710656) (hk : K.length ≤ 281474976710656) : Ctr Try.prog 37 [QuakeRow.sl L, IntS.sl K] [] (optO 1 (depthR L K)) (optOh IntS.cs (depthR L K)) := by
  refine Ctr.intro Try.mixed Try.func37 rfl Try.okF37 ?_
  simp -implicitDefEqProofs -dsimp only [go_sem, Nat.reduceSub, Nat.reduceAdd, Nat.reduceMul, Nat.reduceLT, Nat.reduceLeDiff, Nat.reduceEqDiff, Nat.reduceDiv, Nat.reduceMod, Int.reduceToNat, Int.reduceLE, Int.reduceLT, Int.reduceBEq, Int.reduceBNe, Int.reduceNeg, Int.reduceAdd, Int.reduceSub, Int.reduceMul, reduceCtorEq, Try.ntmps37, Try.results37]
  by_cases h : bulB L = true ∧ limsB K = true
  rotate_left
  · have e : depthR L K = none := if_neg h
    rw [e]
    have h' : ¬ (bulB L = true ∧ inB' (K.length : Int) 1 6 = true ∧ risB 1 700 K = true) := by
      rintro ⟨a, b, c⟩
      refine h ⟨a, ?_⟩
      have := inB'_iff.1 b
      simp only [limsB, listedB, show (List.range K.length).all (listedQ (fun n => inB' n 1 700) (fun n => n) K) = true from c, Bool.true_and, Bool.and_eq_true, decide_eq_true_eq]
      omega
    clear h
    repeat' (first | exact WeakR.refl _ _ _ | (refine WeakR.drop' ?_ (by rfl); first | rfl | (simp [*]; done)) | ((first | refine callT.at (l24Good_ok L hl) ⟨leA, trivial⟩ ?_ | refine callS.at (l24Good_ok L hl) ⟨leA, trivial⟩ ?_); simp -implicitDefEqProofs -dsimp only [go_sem, Nat.reduceSub, Nat.reduceAdd, Nat.reduceMul, Nat.reduceLT, Nat.reduceLeDiff, Nat.reduceEqDiff, Nat.reduceDiv, Nat.reduceMod, Int.reduceToNat, Int.reduceLE, Int.reduceLT, Int.reduceBEq, Int.reduceBNe, Int.reduceNeg, Int.reduceAdd, Int.reduceSub, Int.reduceMul, reduceCtorEq, *]) | ((first | refine callT.at (l1In_ok _ _ _) ⟨leA, leA, leA, trivial⟩ ?_ | refine callS.at (l1In_ok _ _ _) ⟨leA, leA, leA, trivial⟩ ?_); simp -implicitDefEqProofs -dsimp only [go_sem, Nat.reduceSub, Nat.reduceAdd, Nat.reduceMul, Nat.reduceLT, Nat.reduceLeDiff, Nat.reduceEqDiff, Nat.reduceDiv, Nat.reduceMod, Int.reduceToNat, Int.reduceLE, Int.reduceLT, Int.reduceBEq, Int.reduceBNe, Int.reduceNeg, Int.reduceAdd, Int.reduceSub, Int.reduceMul, reduceCtorEq, *]) | ((first | refine callT.at (l1Rising_ok K 1 700 hk) ⟨leA, leA, leA, trivial⟩ ?_ | refine callS.at (l1Rising_ok K 1 700 hk) ⟨leA, leA, leA, trivial⟩ ?_); simp -implicitDefEqProofs -dsimp only [go_sem, Nat.reduceSub, Nat.reduceAdd, Nat.reduceMul, Nat.reduceLT, Nat.reduceLeDiff, Nat.reduceEqDiff, Nat.reduceDiv, Nat.reduceMod, Int.reduceToNat, Int.reduceLE, Int.reduceLT, Int.reduceBEq, Int.reduceBNe, Int.reduceNeg, Int.reduceAdd, Int.reduceSub, Int.reduceMul, reduceCtorEq, *]) | (refine guardT.splitT (fun _ => ?_) (fun _ => ?_) <;> simp -implicitDefEqProofs -dsimp only [go_sem, Nat.reduceSub, Nat.reduceAdd, Nat.reduceMul, Nat.reduceLT, Nat.reduceLeDiff, Nat.reduceEqDiff, Nat.reduceDiv, Nat.reduceMod, Int.reduceToNat, Int.reduceLE, Int.reduceLT, Int.reduceBEq, Int.reduceBNe, Int.reduceNeg, Int.reduceAdd, Int.reduceSub, Int.reduceMul, reduceCtorEq, *]) | (refine guardT.splitF (fun _ => ?_) (fun _ => ?_) <;> simp -implicitDefEqProofs -dsimp only [go_sem, Nat.reduceSub, Nat.reduceAdd, Nat.reduceMul, Nat.reduceLT, Nat.reduceLeDiff, Nat.reduceEqDiff, Nat.reduceDiv, Nat.reduceMod, Int.reduceToNat, Int.reduceLE, Int.reduceLT, Int.reduceBEq, Int.reduceBNe, Int.reduceNeg, Int.reduceAdd, Int.reduceSub, Int.reduceMul, reduceCtorEq, *]) | (refine condT.split (fun _ => ?_) (fun _ => ?_) <;> simp -implicitDefEqProofs -dsimp only [go_sem, Nat.reduceSub, Nat.reduceAdd, Nat.reduceMul, Nat.reduceLT, Nat.reduceLeDiff, Nat.reduceEqDiff, Nat.reduceDiv, Nat.reduceMod, Int.reduceToNat, Int.reduceLE, Int.reduceLT, Int.reduceBEq, Int.reduceBNe, Int.reduceNeg, Int.reduceAdd, Int.reduceSub, Int.reduceMul, reduceCtorEq, *]) | (exfalso; simp_all; done))
  · have e : depthR L K = some (depthTo K L) := if_pos h
    rw [e]
    obtain ⟨h1, h2⟩ := h
    obtain ⟨hv, hlen⟩ := bulB_all h1
    obtain ⟨k1, k2, k3⟩ := limsB_ok h2
    have k4 : risB 1 700 K = true := by simp only [limsB, listedB, Bool.and_eq_true] at h2; exact h2.2.1
    have k5 : inB' (K.length : Int) 1 6 = true := inB'_iff.2 (by omega)
    repeat (first | ((first | refine callT.at (l24Good_ok L hl) ⟨leA, trivial⟩ ?_ | refine callS.at (l24Good_ok L hl) ⟨leA, trivial⟩ ?_); simp -implicitDefEqProofs -dsimp only [go_sem, Nat.reduceSub, Nat.reduceAdd, Nat.reduceMul, Nat.reduceLT, Nat.reduceLeDiff, Nat.reduceEqDiff, Nat.reduceDiv, Nat.reduceMod, Int.reduceToNat, Int.reduceLE, Int.reduceLT, Int.reduceBEq, Int.reduceBNe, Int.reduceNeg, Int.reduceAdd, Int.reduceSub, Int.reduceMul, reduceCtorEq, h1, k4, k5]) | ((first | refine callT.at (l1In_ok _ _ _) ⟨leA, leA, leA, trivial⟩ ?_ | refine callS.at (l1In_ok _ _ _) ⟨leA, leA, leA, trivial⟩ ?_); simp -implicitDefEqProofs -dsimp only [go_sem, Nat.reduceSub, Nat.reduceAdd, Nat.reduceMul, Nat.reduceLT, Nat.reduceLeDiff, Nat.reduceEqDiff, Nat.reduceDiv, Nat.reduceMod, Int.reduceToNat, Int.reduceLE, Int.reduceLT, Int.reduceBEq, Int.reduceBNe, Int.reduceNeg, Int.reduceAdd, Int.reduceSub, Int.reduceMul, reduceCtorEq, h1, k4, k5]) | ((first | refine callT.at (l1Rising_ok K 1 700 hk) ⟨leA, leA, leA, trivial⟩ ?_ | refine callS.at (l1Rising_ok K 1 700 hk) ⟨leA, leA, leA, trivial⟩ ?_); simp -implicitDefEqProofs -dsimp only [go_sem, Nat.reduceSub, Nat.reduceAdd, Nat.reduceMul, Nat.reduceLT, Nat.reduceLeDiff, Nat.reduceEqDiff, Nat.reduceDiv, Nat.reduceMod, Int.reduceToNat, Int.reduceLE, Int.reduceLT, Int.reduceBEq, Int.reduceBNe, Int.reduceNeg, Int.reduceAdd, Int.reduceSub, Int.reduceMul, reduceCtorEq, h1, k4, k5]) | (with_reducible refine And.intro (by first | omega | (show drawOk _ = true; kernel_rfl)) ?_; try (repeat1' (first | simp -implicitDefEqProofs -dsimp only [go_sem, Nat.reduceSub, Nat.reduceAdd, Nat.reduceMul, Nat.reduceLT, Nat.reduceLeDiff, Nat.reduceEqDiff, Nat.reduceDiv, Nat.reduceMod, Int.reduceToNat, Int.reduceLE, Int.reduceLT, Int.reduceBEq, Int.reduceBNe, Int.reduceNeg, Int.reduceAdd, Int.reduceSub, Int.reduceMul, reduceCtorEq, h1, k4, k5] | simp -implicitDefEqProofs -dsimp (disch := omega) only [wrap_i64]))))
    (repeat ((repeat1' (first | simp -implicitDefEqProofs -dsimp only [go_sem, Nat.reduceSub, Nat.reduceAdd, Nat.reduceMul, Nat.reduceLT, Nat.reduceLeDiff, Nat.reduceEqDiff, Nat.reduceDiv, Nat.reduceMod, Int.reduceToNat, Int.reduceLE, Int.reduceLT, Int.reduceBEq, Int.reduceBNe, Int.reduceNeg, Int.reduceAdd, Int.reduceSub, Int.reduceMul, reduceCtorEq, zrow_ints, Nat.mul_one] | simp -implicitDefEqProofs -dsimp (disch := omega) only [wrap_i64])); repeat (with_reducible refine sideA ?_)))
    refine LoopT.intro (fun i : Nat => i ≤ L.length) (fun i => ⟨[QuakeRow.sl L, IntS.sl K, .undef, .undef, .undef, .undef, .osl 0 0 (K.length + 1) 1, .int .i64 i, .undef, .undef, .undef, .undef, .undef, .undef, .undef, .undef, .undef, .undef, .undef, .undef, .undef, .undef, .undef, .undef, .undef, .undef, .undef, .undef, .undef, .undef, .undef, .undef, .undef, .undef, .undef, .undef, .undef, .undef, .undef, .undef, .undef, .undef, .undef, .undef, .undef, .undef, .undef, .undef, .undef, .undef, .undef, .undef, .undef, .undef, .undef, .undef, .undef, .undef, .undef, .undef, .undef], [some (rows IntS.cs (depthTo K (L.take i)))], 0⟩) (fun i => L.length - i) 0 (Nat.zero_le _) ?_ (fun i hi => ?_)
    · refine Weak.cut (1) (by simp) (by simp) ?_ ?_
      · simp [LeC, LeV, ren, cutF]
      · simp [cutH, cutB, map_ren_rows, depthTo]
    simp -implicitDefEqProofs -dsimp only [go_sem, Nat.reduceSub, Nat.reduceAdd, Nat.reduceMul, Nat.reduceLT, Nat.reduceLeDiff, Nat.reduceEqDiff, Nat.reduceDiv, Nat.reduceMod, Int.reduceToNat, Int.reduceLE, Int.reduceLT, Int.reduceBEq, Int.reduceBNe, Int.reduceNeg, Int.reduceAdd, Int.reduceSub, Int.reduceMul, reduceCtorEq]
    refine condT.split (fun h1 => ?_) (fun h1 => ?_)
    · simp -implicitDefEqProofs -dsimp only [go_sem, Nat.reduceSub, Nat.reduceAdd, Nat.reduceMul, Nat.reduceLT, Nat.reduceLeDiff, Nat.reduceEqDiff, Nat.reduceDiv, Nat.reduceMod, Int.reduceToNat, Int.reduceLE, Int.reduceLT, Int.reduceBEq, Int.reduceBNe, Int.reduceNeg, Int.reduceAdd, Int.reduceSub, Int.reduceMul, reduceCtorEq, h1]
      have hi' : i < L.length := by simpa using h1
      have h5 := QuakeRow.csl L[i]
      have hr := rows_at QuakeRow.csl hi'
      refine LoopT.intro (fun k : Nat => k ≤ K.length ∧ ∀ j (hj : j < K.length), j < k → K[j] ≤ L[i].Deep) (fun k => ⟨[QuakeRow.sl L, IntS.sl K, .undef, .undef, .undef, .undef, .osl 0 0 (K.length + 1) 1, .int .i64 i, .int .i64 k, .undef, .undef, .undef, .undef, .undef, .undef, .undef, .undef, .undef, .undef, .undef, .undef, .undef, .undef, .undef, .undef, .undef, .undef, .undef, .undef, .undef, .undef, .undef, .undef, .undef, .undef, .undef, .undef, .undef, .undef, .undef, .undef, .undef, .undef, .undef, .undef, .undef, .undef, .undef, .undef, .undef, .undef, .undef, .undef, .undef, .undef, .undef, .undef, .undef, .undef, .undef, .undef], [some (rows IntS.cs (depthTo K (L.take i)))], 0⟩) (fun k => K.length - k) 0 ⟨Nat.zero_le _, fun j _ hj => by omega⟩ ?_ (fun k hk => ?_)
      · refine Weak.cut (1) (by simp) (by simp) ?_ ?_
        · simp [LeC, LeV, ren, cutF]
        · simp [cutH, cutB, map_ren_rows]
      simp -implicitDefEqProofs -dsimp only [go_sem, Nat.reduceSub, Nat.reduceAdd, Nat.reduceMul, Nat.reduceLT, Nat.reduceLeDiff, Nat.reduceEqDiff, Nat.reduceDiv, Nat.reduceMod, Int.reduceToNat, Int.reduceLE, Int.reduceLT, Int.reduceBEq, Int.reduceBNe, Int.reduceNeg, Int.reduceAdd, Int.reduceSub, Int.reduceMul, reduceCtorEq, QuakeRow.cs]
      refine ⟨by kernel_rfl, ?_⟩
      refine guardT.splitT (fun h2 => ?_) (fun h2 => ?_) <;> simp -implicitDefEqProofs -dsimp only [go_sem, Nat.reduceSub, Nat.reduceAdd, Nat.reduceMul, Nat.reduceLT, Nat.reduceLeDiff, Nat.reduceEqDiff, Nat.reduceDiv, Nat.reduceMod, Int.reduceToNat, Int.reduceLE, Int.reduceLT, Int.reduceBEq, Int.reduceBNe, Int.reduceNeg, Int.reduceAdd, Int.reduceSub, Int.reduceMul, reduceCtorEq, h2]
      · have hk' : k < K.length := by simpa using h2
        have hrk := rows_at IntS.csl hk'
        (repeat ((repeat1' (first | simp -implicitDefEqProofs -dsimp only [go_sem, Nat.reduceSub, Nat.reduceAdd, Nat.reduceMul, Nat.reduceLT, Nat.reduceLeDiff, Nat.reduceEqDiff, Nat.reduceDiv, Nat.reduceMod, Int.reduceToNat, Int.reduceLE, Int.reduceLT, Int.reduceBEq, Int.reduceBNe, Int.reduceNeg, Int.reduceAdd, Int.reduceSub, Int.reduceMul, reduceCtorEq, hr, hrk, IntS.cs, QuakeRow.cs] | simp -implicitDefEqProofs -dsimp (disch := omega) only [wrap_i64])); repeat (with_reducible refine sideA ?_)))
        refine condT.split (fun h3 => ?_) (fun h3 => ?_) <;> simp -implicitDefEqProofs -dsimp only [go_sem, Nat.reduceSub, Nat.reduceAdd, Nat.reduceMul, Nat.reduceLT, Nat.reduceLeDiff, Nat.reduceEqDiff, Nat.reduceDiv, Nat.reduceMod, Int.reduceToNat, Int.reduceLE, Int.reduceLT, Int.reduceBEq, Int.reduceBNe, Int.reduceNeg, Int.reduceAdd, Int.reduceSub, Int.reduceMul, reduceCtorEq, h3]
        · (repeat ((repeat1' (first | simp -implicitDefEqProofs -dsimp only [go_sem, Nat.reduceSub, Nat.reduceAdd, Nat.reduceMul, Nat.reduceLT, Nat.reduceLeDiff, Nat.reduceEqDiff, Nat.reduceDiv, Nat.reduceMod, Int.reduceToNat, Int.reduceLE, Int.reduceLT, Int.reduceBEq, Int.reduceBNe, Int.reduceNeg, Int.reduceAdd, Int.reduceSub, Int.reduceMul, reduceCtorEq] | simp -implicitDefEqProofs -dsimp (disch := omega) only [wrap_i64])); repeat (with_reducible refine sideA ?_)))
          refine ⟨k + 1, ⟨hk', fun j hj hjk => ?_⟩, ?_, by omega⟩
          · rcases Nat.lt_or_ge j k with h | h
            · exact hk.2 j hj h
            · have : j = k := by omega
              subst this; simpa using h3
          refine Weak.cut (1) (by simp) (by simp) ?_ ?_
          · simp [LeC, LeV, ren, cutF]
          · simp [cutH, cutB, map_ren_rows]
        · have hlay : layer K L[i].Deep = k := layer_eq hk.2 hk.1 (fun _ => by simpa using h3)
          have hkc : k < (depthTo K (L.take i)).length := by rw [depthTo_len K i hi]; omega
          have hrc := rows_at IntS.csl hkc
          have hbd := depthTo_bd K i hi _ (List.getElem_mem hkc)
          have hsp := splice_row IntS.csl hkc ((depthTo K (L.take i))[k] + 1)
          have hlc : (rows IntS.cs (depthTo K (L.take i))).length = K.length + 1 := by rw [rows_length, depthTo_len K i hi, Nat.mul_one]
          (repeat ((repeat1' (first | simp -implicitDefEqProofs -dsimp only [go_sem, Nat.reduceSub, Nat.reduceAdd, Nat.reduceMul, Nat.reduceLT, Nat.reduceLeDiff, Nat.reduceEqDiff, Nat.reduceDiv, Nat.reduceMod, Int.reduceToNat, Int.reduceLE, Int.reduceLT, Int.reduceBEq, Int.reduceBNe, Int.reduceNeg, Int.reduceAdd, Int.reduceSub, Int.reduceMul, reduceCtorEq, hrc, IntS.cs, QuakeRow.cs, hlc] | simp -implicitDefEqProofs -dsimp (disch := omega) only [wrap_i64])); repeat (with_reducible refine sideA ?_)))
          have e2 : depthTo K (L.take (i + 1)) = (depthTo K (L.take i)).set k ((depthTo K (L.take i))[k] + 1) := by
            rw [depthTo_succ K hi', hlay, bump, List.getD_eq_getElem?_getD, List.getElem?_eq_getElem hkc]; rfl
          simp only [IntS.cs] at hsp
          refine ⟨i + 1, hi', ?_, by omega⟩
          refine Weak.cut (1) (by simp) (by simp) ?_ ?_
          · simp [LeC, LeV, ren, cutF]
          · rw [hsp, e2]
            simp [cutH, cutB, map_ren_rows]
      · have hlay : layer K L[i].Deep = k := layer_eq hk.2 hk.1 (fun h => absurd h (by simpa using h2))
        have hkc : k < (depthTo K (L.take i)).length := by rw [depthTo_len K i hi]; omega
        have hrc := rows_at IntS.csl hkc
        have hbd := depthTo_bd K i hi _ (List.getElem_mem hkc)
        have hsp := splice_row IntS.csl hkc ((depthTo K (L.take i))[k] + 1)
        have hlc : (rows IntS.cs (depthTo K (L.take i))).length = K.length + 1 := by rw [rows_length, depthTo_len K i hi, Nat.mul_one]
        (repeat ((repeat1' (first | simp -implicitDefEqProofs -dsimp only [go_sem, Nat.reduceSub, Nat.reduceAdd, Nat.reduceMul, Nat.reduceLT, Nat.reduceLeDiff, Nat.reduceEqDiff, Nat.reduceDiv, Nat.reduceMod, Int.reduceToNat, Int.reduceLE, Int.reduceLT, Int.reduceBEq, Int.reduceBNe, Int.reduceNeg, Int.reduceAdd, Int.reduceSub, Int.reduceMul, reduceCtorEq, hrc, IntS.cs, QuakeRow.cs, hlc] | simp -implicitDefEqProofs -dsimp (disch := omega) only [wrap_i64])); repeat (with_reducible refine sideA ?_)))
        have e2 : depthTo K (L.take (i + 1)) = (depthTo K (L.take i)).set k ((depthTo K (L.take i))[k] + 1) := by
          rw [depthTo_succ K hi', hlay, bump, List.getD_eq_getElem?_getD, List.getElem?_eq_getElem hkc]; rfl
        simp only [IntS.cs] at hsp
        refine ⟨i + 1, hi', ?_, by omega⟩
        refine Weak.cut (1) (by simp) (by simp) ?_ ?_
        · simp [LeC, LeV, ren, cutF]
        · rw [hsp, e2]
          simp [cutH, cutB, map_ren_rows]
    · simp -implicitDefEqProofs -dsimp only [go_sem, Nat.reduceSub, Nat.reduceAdd, Nat.reduceMul, Nat.reduceLT, Nat.reduceLeDiff, Nat.reduceEqDiff, Nat.reduceDiv, Nat.reduceMod, Int.reduceToNat, Int.reduceLE, Int.reduceLT, Int.reduceBEq, Int.reduceBNe, Int.reduceNeg, Int.reduceAdd, Int.reduceSub, Int.reduceMul, reduceCtorEq, h1]
      have hi' : i = L.length := by simp at h1; omega
      subst hi'
      rw [List.take_length]
      have hc := depthTo_len K (L := L) L.length (Nat.le_refl _)
      rw [List.take_length] at hc
      simp only [optO, optOh, hc]
      exact WeakR.refl _ _ _
end Go.Proofs
end
section
set_option linter.unusedSimpArgs false
set_option linter.unusedVariables false
set_option maxRecDepth 100000
namespace Go.Proofs
open Go.Lv
def strongB (size : Int) (r : QuakeRow) : Bool := decide (size ≤ r.Size)
/-- The last tick, and the ends of the longest run so far. -/
def qstep (s : Int × Int × Int) (t : Int) : Int × Int × Int := if 0 ≤ s.1 ∧ s.2.2 - s.2.1 < t - s.1 then (t, s.1, t) else (t, s.2.1, s.2.2)
def qs (T : List Int) : Int × Int × Int := T.foldl qstep (-1, 0, 0)
def qT (size : Int) (L : List QuakeRow) : List Int := (L.filter (strongB size)).map QuakeRow.Tick
def quietR (L : List QuakeRow) (size : Int) : List V :=
  if bulB L = true ∧ inB' size (-100) 1000 = true then [.int .i64 (qs (qT size L)).2.1, .int .i64 (qs (qT size L)).2.2, .bool (decide ((qs (qT size L)).2.1 < (qs (qT size L)).2.2))]
  else [.int .i64 0, .int .i64 0, .bool false]
theorem qs_snoc (T : List Int) (t : Int) : qs (T ++ [t]) = qstep (qs T) t := by simp [qs]
theorem qs_snoc1 (T : List Int) (t : Int) : (qs (T ++ [t])).1 = t := by rw [qs_snoc, qstep]; split <;> rfl
theorem qs_rng {T : List Int} (h : ∀ t ∈ T, 0 ≤ t ∧ t ≤ 1000000) : (-1 ≤ (qs T).1 ∧ (qs T).1 ≤ 1000000) ∧ (0 ≤ (qs T).2.1 ∧ (qs T).2.1 ≤ 1000000) ∧ (0 ≤ (qs T).2.2 ∧ (qs T).2.2 ≤ 1000000) := by
  suffices ∀ (T : List Int) (s : Int × Int × Int), (∀ t ∈ T, 0 ≤ t ∧ t ≤ 1000000) → ((-1 ≤ s.1 ∧ s.1 ≤ 1000000) ∧ (0 ≤ s.2.1 ∧ s.2.1 ≤ 1000000) ∧ (0 ≤ s.2.2 ∧ s.2.2 ≤ 1000000)) →
      ((-1 ≤ (T.foldl qstep s).1 ∧ (T.foldl qstep s).1 ≤ 1000000) ∧ (0 ≤ (T.foldl qstep s).2.1 ∧ (T.foldl qstep s).2.1 ≤ 1000000) ∧ (0 ≤ (T.foldl qstep s).2.2 ∧ (T.foldl qstep s).2.2 ≤ 1000000)) from this T _ h (by decide)
  intro T
  induction T with
  | nil => intro s _ h; exact h
  | cons t T ih =>
    intro s h1 h2
    refine ih _ (fun x hx => h1 x (by simp [hx])) ?_
    have := h1 t (by simp)
    unfold qstep
    split <;> (dsimp only; omega)
theorem qT_succ {size : Int} {L : List QuakeRow} {i : Nat} (hi : i < L.length) : qT size (L.take (i + 1)) = qT size (L.take i) ++ if strongB size L[i] then [L[i].Tick] else [] := by
  rw [qT, List.take_succ_eq_append_getElem hi, List.filter_append, List.map_append]
  congr 1
  cases h : strongB size L[i] <;> simp [h]
theorem qT_rng {size : Int} {L : List QuakeRow} (hv : ∀ x ∈ L, qrB x = true) (i : Nat) : ∀ t ∈ qT size (L.take i), 0 ≤ t ∧ t ≤ 1000000 := by
  intro t ht
  obtain ⟨x, hx, rfl⟩ := List.mem_map.1 ht
  have := qrB_iff.1 (hv x (List.mem_of_mem_take (List.mem_filter.1 hx).1))
  exact this.2.1
theorem sQuietRun_ok (L : List QuakeRow) (size : Int) (hl : L.length ≤ 1048576) : Ctr Try.prog 42 [QuakeRow.sl L, .int .i64 size] [] (.tup (quietR L size)) [] := by
  refine Ctr.intro Try.mixed Try.func42 rfl Try.okF42 ?_
  simp -implicitDefEqProofs -dsimp only [go_sem, Nat.reduceSub, Nat.reduceAdd, Nat.reduceMul, Nat.reduceLT, Nat.reduceLeDiff, Nat.reduceEqDiff, Nat.reduceDiv, Nat.reduceMod, Int.reduceToNat, Int.reduceLE, Int.reduceLT, Int.reduceBEq, Int.reduceBNe, Int.reduceNeg, Int.reduceAdd, Int.reduceSub, Int.reduceMul, reduceCtorEq, Try.ntmps42, Try.results42]
  have bad : (bulB L = false ∨ inB' size (-100) 1000 = false) → V.tup [.int .i64 0, .int .i64 0, .bool false] = .tup (quietR L size) := by
    intro h
    rw [quietR, if_neg]
    rintro ⟨h1, h2⟩
    simp [h1, h2] at h
  (first | refine callT.at (l24Good_ok L (by omega)) ⟨leA, trivial⟩ ?_ | refine callS.at (l24Good_ok L (by omega)) ⟨leA, trivial⟩ ?_)
  simp -implicitDefEqProofs -dsimp only [go_sem, Nat.reduceSub, Nat.reduceAdd, Nat.reduceMul, Nat.reduceLT, Nat.reduceLeDiff, Nat.reduceEqDiff, Nat.reduceDiv, Nat.reduceMod, Int.reduceToNat, Int.reduceLE, Int.reduceLT, Int.reduceBEq, Int.reduceBNe, Int.reduceNeg, Int.reduceAdd, Int.reduceSub, Int.reduceMul, reduceCtorEq]
  refine guardT.splitF (fun h1 => ?_) (fun h1 => ?_) <;> simp -implicitDefEqProofs -dsimp only [go_sem, Nat.reduceSub, Nat.reduceAdd, Nat.reduceMul, Nat.reduceLT, Nat.reduceLeDiff, Nat.reduceEqDiff, Nat.reduceDiv, Nat.reduceMod, Int.reduceToNat, Int.reduceLE, Int.reduceLT, Int.reduceBEq, Int.reduceBNe, Int.reduceNeg, Int.reduceAdd, Int.reduceSub, Int.reduceMul, reduceCtorEq, h1]
  rotate_left
  · exact WeakR.drop' (bad (.inl (by simpa using h1))) (by rfl)
  (first | refine callT.at (l24Size_ok size) ⟨leA, trivial⟩ ?_ | refine callS.at (l24Size_ok size) ⟨leA, trivial⟩ ?_)
  simp -implicitDefEqProofs -dsimp only [go_sem, Nat.reduceSub, Nat.reduceAdd, Nat.reduceMul, Nat.reduceLT, Nat.reduceLeDiff, Nat.reduceEqDiff, Nat.reduceDiv, Nat.reduceMod, Int.reduceToNat, Int.reduceLE, Int.reduceLT, Int.reduceBEq, Int.reduceBNe, Int.reduceNeg, Int.reduceAdd, Int.reduceSub, Int.reduceMul, reduceCtorEq]
  refine condT.split (fun h2 => ?_) (fun h2 => ?_) <;> simp -implicitDefEqProofs -dsimp only [go_sem, Nat.reduceSub, Nat.reduceAdd, Nat.reduceMul, Nat.reduceLT, Nat.reduceLeDiff, Nat.reduceEqDiff, Nat.reduceDiv, Nat.reduceMod, Int.reduceToNat, Int.reduceLE, Int.reduceLT, Int.reduceBEq, Int.reduceBNe, Int.reduceNeg, Int.reduceAdd, Int.reduceSub, Int.reduceMul, reduceCtorEq, h2]
  · exact WeakR.drop' (bad (.inr (by simpa using h2))) (by rfl)
  have h1' : bulB L = true := by simpa using h1
  have h2' : inB' size (-100) 1000 = true := by simpa using h2
  obtain ⟨hv, hlen⟩ := bulB_all h1'
  refine LoopT.intro (fun i : Nat => i ≤ L.length) (fun i => ⟨[QuakeRow.sl L, .int .i64 size, .undef, .undef, .undef, .undef, .undef, .int .i64 (qs (qT size (L.take i))).1, .int .i64 (qs (qT size (L.take i))).2.1, .int .i64 (qs (qT size (L.take i))).2.2, .int .i64 i, .undef, .undef, .undef, .undef, .undef, .undef, .undef, .undef, .undef, .undef, .undef, .undef, .undef, .undef, .undef, .undef, .undef, .undef, .undef, .undef, .undef, .undef, .undef, .undef, .undef, .undef, .undef, .undef, .undef, .undef, .undef, .undef, .undef, .undef, .undef, .undef, .undef, .undef, .undef, .undef, .undef, .undef, .undef, .undef, .undef, .undef, .undef, .undef, .undef, .undef, .undef, .undef], [], 0⟩) (fun i => L.length - i) 0 (Nat.zero_le _) ?_ (fun i hi => ?_)
  · refine Weak.cut (0) (by simp) (by simp) ?_ ?_
    · simp [LeC, LeV, ren, cutF, qT, qs]
    · rfl
  simp -implicitDefEqProofs -dsimp only [go_sem, Nat.reduceSub, Nat.reduceAdd, Nat.reduceMul, Nat.reduceLT, Nat.reduceLeDiff, Nat.reduceEqDiff, Nat.reduceDiv, Nat.reduceMod, Int.reduceToNat, Int.reduceLE, Int.reduceLT, Int.reduceBEq, Int.reduceBNe, Int.reduceNeg, Int.reduceAdd, Int.reduceSub, Int.reduceMul, reduceCtorEq]
  refine condT.split (fun h3 => ?_) (fun h3 => ?_)
  · simp -implicitDefEqProofs -dsimp only [go_sem, Nat.reduceSub, Nat.reduceAdd, Nat.reduceMul, Nat.reduceLT, Nat.reduceLeDiff, Nat.reduceEqDiff, Nat.reduceDiv, Nat.reduceMod, Int.reduceToNat, Int.reduceLE, Int.reduceLT, Int.reduceBEq, Int.reduceBNe, Int.reduceNeg, Int.reduceAdd, Int.reduceSub, Int.reduceMul, reduceCtorEq, h3]
    have hi' : i < L.length := by simpa using h3
    have hr := rows_at QuakeRow.csl hi'
    have hvi := qrB_iff.1 (hv _ (List.getElem_mem hi'))
    have hq := qs_rng (qT_rng (size := size) hv i)
    (repeat ((repeat1' (first | simp -implicitDefEqProofs -dsimp only [go_sem, Nat.reduceSub, Nat.reduceAdd, Nat.reduceMul, Nat.reduceLT, Nat.reduceLeDiff, Nat.reduceEqDiff, Nat.reduceDiv, Nat.reduceMod, Int.reduceToNat, Int.reduceLE, Int.reduceLT, Int.reduceBEq, Int.reduceBNe, Int.reduceNeg, Int.reduceAdd, Int.reduceSub, Int.reduceMul, reduceCtorEq, hr, QuakeRow.cs] | simp -implicitDefEqProofs -dsimp (disch := omega) only [wrap_i64])); repeat (with_reducible refine sideA ?_)))
    refine condT.split (fun h6 => ?_) (fun h6 => ?_) <;> (repeat ((repeat1' (first | simp -implicitDefEqProofs -dsimp only [go_sem, Nat.reduceSub, Nat.reduceAdd, Nat.reduceMul, Nat.reduceLT, Nat.reduceLeDiff, Nat.reduceEqDiff, Nat.reduceDiv, Nat.reduceMod, Int.reduceToNat, Int.reduceLE, Int.reduceLT, Int.reduceBEq, Int.reduceBNe, Int.reduceNeg, Int.reduceAdd, Int.reduceSub, Int.reduceMul, reduceCtorEq, h6] | simp -implicitDefEqProofs -dsimp (disch := omega) only [wrap_i64])); repeat (with_reducible refine sideA ?_)))
    · have hb : strongB size L[i] = false := by simp at h6; simp [strongB]; omega
      refine ⟨i + 1, hi', ?_, by omega⟩
      refine Weak.cut (0) (by simp) (by simp) ?_ ?_
      · rw [qT_succ hi', hb]
        simp [LeC, LeV, ren, cutF]
      · rfl
    · have hb : strongB size L[i] = true := by simp at h6; simp [strongB]; omega
      have hs : qs (qT size (L.take (i + 1))) = qstep (qs (qT size (L.take i))) L[i].Tick := by rw [qT_succ hi', hb, if_pos rfl, qs_snoc]
      have no : ¬ (0 ≤ (qs (qT size (L.take i))).1 ∧ (qs (qT size (L.take i))).2.2 - (qs (qT size (L.take i))).2.1 < L[i].Tick - (qs (qT size (L.take i))).1) → qs (qT size (L.take (i + 1))) = (L[i].Tick, (qs (qT size (L.take i))).2.1, (qs (qT size (L.take i))).2.2) := by
        intro h; rw [hs, qstep, if_neg h]
      refine guardT.splitT (fun h7 => ?_) (fun h7 => ?_) <;> (repeat ((repeat1' (first | simp -implicitDefEqProofs -dsimp only [go_sem, Nat.reduceSub, Nat.reduceAdd, Nat.reduceMul, Nat.reduceLT, Nat.reduceLeDiff, Nat.reduceEqDiff, Nat.reduceDiv, Nat.reduceMod, Int.reduceToNat, Int.reduceLE, Int.reduceLT, Int.reduceBEq, Int.reduceBNe, Int.reduceNeg, Int.reduceAdd, Int.reduceSub, Int.reduceMul, reduceCtorEq, h7, hr, QuakeRow.cs] | simp -implicitDefEqProofs -dsimp (disch := omega) only [wrap_i64])); repeat (with_reducible refine sideA ?_)))
      · refine condT.split (fun h8 => ?_) (fun h8 => ?_) <;> (repeat ((repeat1' (first | simp -implicitDefEqProofs -dsimp only [go_sem, Nat.reduceSub, Nat.reduceAdd, Nat.reduceMul, Nat.reduceLT, Nat.reduceLeDiff, Nat.reduceEqDiff, Nat.reduceDiv, Nat.reduceMod, Int.reduceToNat, Int.reduceLE, Int.reduceLT, Int.reduceBEq, Int.reduceBNe, Int.reduceNeg, Int.reduceAdd, Int.reduceSub, Int.reduceMul, reduceCtorEq, h8, hr, QuakeRow.cs] | simp -implicitDefEqProofs -dsimp (disch := omega) only [wrap_i64])); repeat (with_reducible refine sideA ?_)))
        · have e : qs (qT size (L.take (i + 1))) = (L[i].Tick, (qs (qT size (L.take i))).1, L[i].Tick) := by
            rw [hs, qstep, if_pos (by simp at h7 h8; omega)]
          refine ⟨i + 1, hi', ?_, by omega⟩
          refine Weak.cut (0) (by simp) (by simp) ?_ ?_
          · rw [e]
            simp [LeC, LeV, ren, cutF]
          · rfl
        · have e := no (by simp at h7 h8; omega)
          refine ⟨i + 1, hi', ?_, by omega⟩
          refine Weak.cut (0) (by simp) (by simp) ?_ ?_
          · rw [e]
            simp [LeC, LeV, ren, cutF]
          · rfl
      · have e := no (by simp at h7; omega)
        refine ⟨i + 1, hi', ?_, by omega⟩
        refine Weak.cut (0) (by simp) (by simp) ?_ ?_
        · rw [e]
          simp [LeC, LeV, ren, cutF]
        · rfl
  · simp -implicitDefEqProofs -dsimp only [go_sem, Nat.reduceSub, Nat.reduceAdd, Nat.reduceMul, Nat.reduceLT, Nat.reduceLeDiff, Nat.reduceEqDiff, Nat.reduceDiv, Nat.reduceMod, Int.reduceToNat, Int.reduceLE, Int.reduceLT, Int.reduceBEq, Int.reduceBNe, Int.reduceNeg, Int.reduceAdd, Int.reduceSub, Int.reduceMul, reduceCtorEq, h3]
    have hi' : i = L.length := by simp at h3; omega
    subst hi'
    rw [List.take_length]
    refine WeakR.drop' ?_ (by rfl)
    rw [quietR, if_pos ⟨h1', h2'⟩]
theorem strong_ok (r : QuakeRow) (size : Int) : Ctr Try.prog 113 [r.v, .pt [.int .i64 size]] [] (.bool (strongB size r)) [] := by
  refine Ctr.intro Try.mixed Try.func113 rfl Try.okF113 ?_
  simp -implicitDefEqProofs -dsimp only [go_sem, Nat.reduceSub, Nat.reduceAdd, Nat.reduceMul, Nat.reduceLT, Nat.reduceLeDiff, Nat.reduceEqDiff, Nat.reduceDiv, Nat.reduceMod, Int.reduceToNat, Int.reduceLE, Int.reduceLT, Int.reduceBEq, Int.reduceBNe, Int.reduceNeg, Int.reduceAdd, Int.reduceSub, Int.reduceMul, reduceCtorEq, Try.ntmps113, Try.results113]
  simp -implicitDefEqProofs -dsimp only [go_sem, Nat.reduceSub, Nat.reduceAdd, Nat.reduceMul, Nat.reduceLT, Nat.reduceLeDiff, Nat.reduceEqDiff, Nat.reduceDiv, Nat.reduceMod, Int.reduceToNat, Int.reduceLE, Int.reduceLT, Int.reduceBEq, Int.reduceBNe, Int.reduceNeg, Int.reduceAdd, Int.reduceSub, Int.reduceMul, reduceCtorEq, QuakeRow.v]
  exact WeakR.drop' rfl (by rfl)
theorem qs_pos {T : List Int} (h0 : ∀ t ∈ T, 0 ≤ t) (hT : T.Pairwise (· < ·)) : ∀ n, 2 ≤ n → n ≤ T.length → (qs (T.take n)).2.1 < (qs (T.take n)).2.2 := by
  have key : ∀ n, 1 ≤ n → (hn : n < T.length) → (qs (T.take n)).1 = T[n - 1] := by
    intro n h1 hn
    obtain ⟨m, rfl⟩ : ∃ m, n = m + 1 := ⟨n - 1, by omega⟩
    rw [List.take_succ_eq_append_getElem (by omega), qs_snoc1]
    simp
  have hlt := List.pairwise_iff_getElem.1 hT
  intro n h2 hn
  induction n with
  | zero => omega
  | succ n ih =>
    have hn' : n < T.length := by omega
    rw [List.take_succ_eq_append_getElem hn', qs_snoc, qstep]
    split
    · dsimp only
      rw [key n (by omega) hn']
      exact hlt (n - 1) n (by omega) hn' (by omega)
    · rename_i h
      dsimp only
      rcases Nat.lt_or_ge n 2 with h3 | h3
      · have : n = 1 := by omega
        subst this
        exfalso; apply h
        have h4 := key 1 (by omega) hn'
        have h5 := hlt 0 1 (by omega) hn' (by omega)
        have h6 := h0 T[0] (List.getElem_mem _)
        have h7 : T.take 1 = [T[0]] := by rw [List.take_succ_eq_append_getElem (by omega)]; simp
        rw [h4]
        simp only [h7, qs, List.foldl, qstep]
        simp
        omega
      · exact ih h3 (by omega)
theorem iQuietRun_ok (L : List QuakeRow) (size : Int) (hl : L.length ≤ 1048576) : Ctr Try.prog 41 [QuakeRow.sl L, .int .i64 size] [] (.tup (quietR L size)) [] := by
  refine Ctr.intro Try.mixed Try.func41 rfl Try.okF41 ?_
  simp -implicitDefEqProofs -dsimp only [go_sem, Nat.reduceSub, Nat.reduceAdd, Nat.reduceMul, Nat.reduceLT, Nat.reduceLeDiff, Nat.reduceEqDiff, Nat.reduceDiv, Nat.reduceMod, Int.reduceToNat, Int.reduceLE, Int.reduceLT, Int.reduceBEq, Int.reduceBNe, Int.reduceNeg, Int.reduceAdd, Int.reduceSub, Int.reduceMul, reduceCtorEq, Try.ntmps41, Try.results41]
  have bad : (bulB L = false ∨ inB' size (-100) 1000 = false) → V.tup [.int .i64 0, .int .i64 0, .bool false] = .tup (quietR L size) := by
    intro h
    rw [quietR, if_neg]
    rintro ⟨h1, h2⟩
    simp [h1, h2] at h
  (first | refine callT.at (filterQuakeRow_ok L (strongB size) _ [.pt [.int .i64 size]] (fun d => by cases d <;> rfl) (fun x => strong_ok x size) (by omega)) ⟨leA, leA, trivial⟩ ?_ | refine callS.at (filterQuakeRow_ok L (strongB size) _ [.pt [.int .i64 size]] (fun d => by cases d <;> rfl) (fun x => strong_ok x size) (by omega)) ⟨leA, leA, trivial⟩ ?_)
  simp -implicitDefEqProofs -dsimp only [go_sem, Nat.reduceSub, Nat.reduceAdd, Nat.reduceMul, Nat.reduceLT, Nat.reduceLeDiff, Nat.reduceEqDiff, Nat.reduceDiv, Nat.reduceMod, Int.reduceToNat, Int.reduceLE, Int.reduceLT, Int.reduceBEq, Int.reduceBNe, Int.reduceNeg, Int.reduceAdd, Int.reduceSub, Int.reduceMul, reduceCtorEq]
  (first | refine callT.at (iIsBulletin_ok L (by omega)) ⟨leA, trivial⟩ ?_ | refine callS.at (iIsBulletin_ok L (by omega)) ⟨leA, trivial⟩ ?_)
  simp -implicitDefEqProofs -dsimp only [go_sem, Nat.reduceSub, Nat.reduceAdd, Nat.reduceMul, Nat.reduceLT, Nat.reduceLeDiff, Nat.reduceEqDiff, Nat.reduceDiv, Nat.reduceMod, Int.reduceToNat, Int.reduceLE, Int.reduceLT, Int.reduceBEq, Int.reduceBNe, Int.reduceNeg, Int.reduceAdd, Int.reduceSub, Int.reduceMul, reduceCtorEq]
  refine guardT.splitF (fun h1 => ?_) (fun h1 => ?_) <;> simp -implicitDefEqProofs -dsimp only [go_sem, Nat.reduceSub, Nat.reduceAdd, Nat.reduceMul, Nat.reduceLT, Nat.reduceLeDiff, Nat.reduceEqDiff, Nat.reduceDiv, Nat.reduceMod, Int.reduceToNat, Int.reduceLE, Int.reduceLT, Int.reduceBEq, Int.reduceBNe, Int.reduceNeg, Int.reduceAdd, Int.reduceSub, Int.reduceMul, reduceCtorEq, h1]
  rotate_left
  · exact WeakR.drop' (bad (.inl (by simpa using h1))) (by rfl)
  (first | refine callT.at (isRowSize_ok size) ⟨leA, trivial⟩ ?_ | refine callS.at (isRowSize_ok size) ⟨leA, trivial⟩ ?_)
  simp -implicitDefEqProofs -dsimp only [go_sem, Nat.reduceSub, Nat.reduceAdd, Nat.reduceMul, Nat.reduceLT, Nat.reduceLeDiff, Nat.reduceEqDiff, Nat.reduceDiv, Nat.reduceMod, Int.reduceToNat, Int.reduceLE, Int.reduceLT, Int.reduceBEq, Int.reduceBNe, Int.reduceNeg, Int.reduceAdd, Int.reduceSub, Int.reduceMul, reduceCtorEq]
  refine guardT.splitF (fun h2 => ?_) (fun h2 => ?_) <;> simp -implicitDefEqProofs -dsimp only [go_sem, Nat.reduceSub, Nat.reduceAdd, Nat.reduceMul, Nat.reduceLT, Nat.reduceLeDiff, Nat.reduceEqDiff, Nat.reduceDiv, Nat.reduceMod, Int.reduceToNat, Int.reduceLE, Int.reduceLT, Int.reduceBEq, Int.reduceBNe, Int.reduceNeg, Int.reduceAdd, Int.reduceSub, Int.reduceMul, reduceCtorEq, h2]
  rotate_left
  · exact WeakR.drop' (bad (.inr (by simpa using h2))) (by rfl)
  have h1' : bulB L = true := by simpa using h1
  have h2' : inB' size (-100) 1000 = true := by simpa using h2
  obtain ⟨hv, hlen⟩ := bulB_all h1'
  have hTr : ∀ t ∈ qT size L, 0 ≤ t ∧ t ≤ 1000000 := by
    have := qT_rng (size := size) hv L.length
    rwa [List.take_length] at this
  have hTp : (qT size L).Pairwise (· < ·) := by
    simp only [bulB, Bool.and_eq_true] at h1'
    have := listedB_lt h1'.1
    rw [qT]
    rw [List.pairwise_map] at this ⊢
    exact this.sublist List.filter_sublist
  generalize hS : L.filter (strongB size) = S at *
  have hTS : qT size L = S.map QuakeRow.Tick := by rw [qT, hS]
  have hsl : S.length ≤ 12 := by rw [← hS]; exact Nat.le_trans (List.length_filter_le _ _) hlen
  have hST : ∀ i, (hi : i < S.length) → 0 ≤ (S[i]).Tick ∧ (S[i]).Tick ≤ 1000000 := fun i hi => hTr _ (by rw [hTS]; exact List.mem_map_of_mem (List.getElem_mem _))
  refine condT.split (fun h3 => ?_) (fun h3 => ?_) <;> simp -implicitDefEqProofs -dsimp only [go_sem, Nat.reduceSub, Nat.reduceAdd, Nat.reduceMul, Nat.reduceLT, Nat.reduceLeDiff, Nat.reduceEqDiff, Nat.reduceDiv, Nat.reduceMod, Int.reduceToNat, Int.reduceLE, Int.reduceLT, Int.reduceBEq, Int.reduceBNe, Int.reduceNeg, Int.reduceAdd, Int.reduceSub, Int.reduceMul, reduceCtorEq, h3]
  · refine WeakR.drop' ?_ (by rfl)
    rw [quietR, if_pos ⟨h1', h2'⟩, hTS]
    match S, h3 with
    | [], _ => simp [qs]
    | [a], _ => simp [qs, qstep]
    | a :: b :: S, h3 => simp at h3; omega
  · have hn2 : 2 ≤ S.length := by simp at h3; omega
    have r0 := rows_drop_at (cs := QuakeRow.cs) QuakeRow.csl (show 0 < S.length by omega)
    have r1 := rows_drop_at (cs := QuakeRow.cs) QuakeRow.csl (show 1 < S.length by omega)
    have r0' : ∀ j, (rows QuakeRow.cs S).drop j = (QuakeRow.cs S[0] ++ rows QuakeRow.cs (S.drop 1)).drop j := fun j => by have := r0 j; rwa [Nat.zero_mul, Nat.zero_add] at this
    have r1' : (rows QuakeRow.cs S).drop 8 = (QuakeRow.cs S[1] ++ rows QuakeRow.cs (S.drop 2)).drop 1 := r1 1
    have r0'' : (rows QuakeRow.cs S).drop 1 = (QuakeRow.cs S[0] ++ rows QuakeRow.cs (S.drop 1)).drop 1 := r0' 1
    (repeat ((repeat1' (first | simp -implicitDefEqProofs -dsimp only [go_sem, Nat.reduceSub, Nat.reduceAdd, Nat.reduceMul, Nat.reduceLT, Nat.reduceLeDiff, Nat.reduceEqDiff, Nat.reduceDiv, Nat.reduceMod, Int.reduceToNat, Int.reduceLE, Int.reduceLT, Int.reduceBEq, Int.reduceBNe, Int.reduceNeg, Int.reduceAdd, Int.reduceSub, Int.reduceMul, reduceCtorEq, r0'', r1', QuakeRow.cs] | simp -implicitDefEqProofs -dsimp (disch := omega) only [wrap_i64])); repeat (with_reducible refine sideA ?_)))
    have hlenT : (S.map QuakeRow.Tick).length = S.length := by simp
    have hTp' : (S.map QuakeRow.Tick).Pairwise (· < ·) := by rw [← hTS]; exact hTp
    have hT0 : ∀ t ∈ S.map QuakeRow.Tick, 0 ≤ t := fun t ht => (hTr t (by rw [hTS]; exact ht)).1
    have hlt := List.pairwise_iff_getElem.1 hTp'
    have h01 : (S[0]).Tick < (S[1]).Tick := by
      have := hlt 0 1 (by simp; omega) (by simp; omega) (by omega)
      rw [List.getElem_map, List.getElem_map] at this
      exact this
    have hst2 : qs ((S.map QuakeRow.Tick).take 2) = ((S[1]).Tick, (S[0]).Tick, (S[1]).Tick) := by
      have e : (S.map QuakeRow.Tick).take 2 = [(S[0]).Tick, (S[1]).Tick] := by
        rw [List.take_succ_eq_append_getElem (by simp; omega), List.take_succ_eq_append_getElem (by simp; omega)]
        simp
      have := hST 0 (by omega)
      simp only [e, qs, List.foldl, qstep]
      simp
      omega
    have hlast : ∀ n, 1 ≤ n → (hn : n ≤ S.length) → (qs ((S.map QuakeRow.Tick).take n)).1 = (S[n - 1]'(by omega)).Tick := by
      intro n h1 hn
      obtain ⟨m, rfl⟩ : ∃ m, n = m + 1 := ⟨n - 1, by omega⟩
      rw [List.take_succ_eq_append_getElem (by simp; omega), qs_snoc1]
      simp
    have hrg : ∀ n, (0 ≤ (qs ((S.map QuakeRow.Tick).take n)).2.1 ∧ (qs ((S.map QuakeRow.Tick).take n)).2.1 ≤ 1000000) ∧ (0 ≤ (qs ((S.map QuakeRow.Tick).take n)).2.2 ∧ (qs ((S.map QuakeRow.Tick).take n)).2.2 ≤ 1000000) := fun n =>
      (qs_rng (fun t ht => hTr t (by rw [hTS]; exact List.mem_of_mem_take ht))).2
    refine LoopT.intro (fun n : Nat => n + 1 ≤ S.length) (fun n => ⟨[.undef, .undef, .undef, .undef, .undef, .undef, .undef, .osl 1 0 S.length 7, .int .i64 (qs ((S.map QuakeRow.Tick).take (max (n + 1) 2))).2.1, .int .i64 (qs ((S.map QuakeRow.Tick).take (max (n + 1) 2))).2.2, .int .i64 ((n : Int) + 1), .undef, .undef, .undef, .undef, .undef, .undef, .undef, .undef, .undef, .undef, .undef, .undef, .undef, .undef, .undef, .undef, .undef, .undef, .undef, .undef, .undef, .undef, .undef, .undef, .undef, .undef, .undef, .undef, .undef, .undef, .undef, .undef, .undef, .undef, .undef, .undef, .undef, .undef, .undef, .undef, .undef, .undef, .undef, .undef, .undef, .undef, .undef, .undef, .undef, .undef, .undef, .undef, .undef, .undef], [some [.int .i64 size], some (rows QuakeRow.cs S)], 0⟩) (fun n => S.length - n) 0 (by omega) ?_ (fun n hi => ?_)
    · refine Weak.cut (2) (by simp) (by simp) ?_ ?_
      · rw [show max (0 + 1) 2 = 2 from rfl, hst2]
        simp [LeC, LeV, ren, cutF]
      · simp [cutH, cutB, map_ren_rows, ren]
    simp -implicitDefEqProofs -dsimp only [go_sem, Nat.reduceSub, Nat.reduceAdd, Nat.reduceMul, Nat.reduceLT, Nat.reduceLeDiff, Nat.reduceEqDiff, Nat.reduceDiv, Nat.reduceMod, Int.reduceToNat, Int.reduceLE, Int.reduceLT, Int.reduceBEq, Int.reduceBNe, Int.reduceNeg, Int.reduceAdd, Int.reduceSub, Int.reduceMul, reduceCtorEq]
    refine condT.split (fun h4 => ?_) (fun h4 => ?_)
    · simp -implicitDefEqProofs -dsimp only [go_sem, Nat.reduceSub, Nat.reduceAdd, Nat.reduceMul, Nat.reduceLT, Nat.reduceLeDiff, Nat.reduceEqDiff, Nat.reduceDiv, Nat.reduceMod, Int.reduceToNat, Int.reduceLE, Int.reduceLT, Int.reduceBEq, Int.reduceBNe, Int.reduceNeg, Int.reduceAdd, Int.reduceSub, Int.reduceMul, reduceCtorEq, h4]
      have hi' : n + 1 < S.length := by simp at h4; omega
      have hw1 : IntKind.i64.wrap ((n : Int) + 1 - 1) = (n : Int) := by rw [wrap_i64 (by omega) (by omega)]; omega
      have hc : ((n : Int) + 1).toNat = n + 1 := by omega
      have q0 := rows_drop_at (cs := QuakeRow.cs) QuakeRow.csl (show n < S.length by omega) 1
      have q1 := rows_drop_at (cs := QuakeRow.cs) QuakeRow.csl hi' 1
      have t0 := hST n (by omega)
      have t1 := hST (n + 1) hi'
      have hg := hrg (max (n + 1) 2)
      (repeat ((repeat1' (first | simp -implicitDefEqProofs -dsimp only [go_sem, Nat.reduceSub, Nat.reduceAdd, Nat.reduceMul, Nat.reduceLT, Nat.reduceLeDiff, Nat.reduceEqDiff, Nat.reduceDiv, Nat.reduceMod, Int.reduceToNat, Int.reduceLE, Int.reduceLT, Int.reduceBEq, Int.reduceBNe, Int.reduceNeg, Int.reduceAdd, Int.reduceSub, Int.reduceMul, reduceCtorEq, hw1, hc, q0, q1, QuakeRow.cs] | simp -implicitDefEqProofs -dsimp (disch := omega) only [wrap_i64])); repeat (with_reducible refine sideA ?_)))
      have step : 1 ≤ n → qs ((S.map QuakeRow.Tick).take (max (n + 1 + 1) 2)) = qstep (qs ((S.map QuakeRow.Tick).take (max (n + 1) 2))) (S[n + 1]).Tick := by
        intro hn
        rw [show max (n + 1 + 1) 2 = n + 1 + 1 by omega, show max (n + 1) 2 = n + 1 by omega, List.take_succ_eq_append_getElem (by simp; omega), qs_snoc]
        simp
      have hl1 : 1 ≤ n → (qs ((S.map QuakeRow.Tick).take (max (n + 1) 2))).1 = (S[n]).Tick := by
        intro hn
        rw [show max (n + 1) 2 = n + 1 by omega]
        exact hlast (n + 1) (by omega) (by omega)
      refine condT.split (fun h5 => ?_) (fun h5 => ?_) <;> (repeat ((repeat1' (first | simp -implicitDefEqProofs -dsimp only [go_sem, Nat.reduceSub, Nat.reduceAdd, Nat.reduceMul, Nat.reduceLT, Nat.reduceLeDiff, Nat.reduceEqDiff, Nat.reduceDiv, Nat.reduceMod, Int.reduceToNat, Int.reduceLE, Int.reduceLT, Int.reduceBEq, Int.reduceBNe, Int.reduceNeg, Int.reduceAdd, Int.reduceSub, Int.reduceMul, reduceCtorEq, h5, hw1, hc, q0, q1, QuakeRow.cs] | simp -implicitDefEqProofs -dsimp (disch := omega) only [wrap_i64])); repeat (with_reducible refine sideA ?_)))
      · have hn : 1 ≤ n := by
          rcases Nat.eq_zero_or_pos n with e | e
          · subst e
            rw [show max (0 + 1) 2 = 2 from rfl, hst2] at h5
            simp at h5
          · exact e
        have e : qs ((S.map QuakeRow.Tick).take (max (n + 1 + 1) 2)) = ((S[n + 1]).Tick, (S[n]).Tick, (S[n + 1]).Tick) := by
          rw [step hn, qstep, if_pos (by rw [hl1 hn]; simp at h5; omega), hl1 hn]
        refine ⟨n + 1, hi', ?_, by omega⟩
        refine Weak.cut (2) (by simp) (by simp) ?_ ?_
        · rw [e]
          simp [LeC, LeV, ren, cutF]
        · simp [cutH, cutB, map_ren_rows, ren]
      · have e : (qs ((S.map QuakeRow.Tick).take (max (n + 1 + 1) 2))).2 = (qs ((S.map QuakeRow.Tick).take (max (n + 1) 2))).2 := by
          rcases Nat.eq_zero_or_pos n with e | e
          · subst e; rfl
          · rw [step e, qstep, if_neg (by rw [hl1 e]; simp at h5; omega)]
        refine ⟨n + 1, hi', ?_, by omega⟩
        refine Weak.cut (2) (by simp) (by simp) ?_ ?_
        · rw [e]
          simp [LeC, LeV, ren, cutF]
        · simp [cutH, cutB, map_ren_rows, ren]
    · simp -implicitDefEqProofs -dsimp only [go_sem, Nat.reduceSub, Nat.reduceAdd, Nat.reduceMul, Nat.reduceLT, Nat.reduceLeDiff, Nat.reduceEqDiff, Nat.reduceDiv, Nat.reduceMod, Int.reduceToNat, Int.reduceLE, Int.reduceLT, Int.reduceBEq, Int.reduceBNe, Int.reduceNeg, Int.reduceAdd, Int.reduceSub, Int.reduceMul, reduceCtorEq, h4]
      have hn : n + 1 = S.length := by simp at h4; omega
      have e : (S.map QuakeRow.Tick).take (max (n + 1) 2) = S.map QuakeRow.Tick := List.take_of_length_le (by simp; omega)
      rw [e]
      refine WeakR.drop' ?_ (by rfl)
      have hpos := qs_pos hT0 hTp' S.length hn2 (by simp)
      rw [List.take_of_length_le (by simp)] at hpos
      rw [quietR, if_pos ⟨h1', h2'⟩, hTS, decide_eq_true hpos]
end Go.Proofs
end
section
set_option linter.unusedSimpArgs false
set_option linter.unusedVariables false
set_option maxRecDepth 100000
set_option maxHeartbeats 1000000
namespace Go.Proofs
open Go.Lv
theorem psum_app {α : Type} (f : α → Int) (x y : List α) : psum f (x ++ y) = psum f x + psum f y := by simp [psum]
theorem psum_cons {α : Type} (f : α → Int) (a : α) (y : List α) : psum f (a :: y) = f a + psum f y := by simp [psum]
theorem psum_put {α : Type} (f : α → Int) (S : List α) (x : α) (j : Nat) : psum f (putAt S x j) = psum f S + f x := by
  have : psum f S = psum f (S.take j) + psum f (S.drop j) := by rw [← psum_app, List.take_append_drop]
  rw [putAt, psum_app, psum_cons, this]
  omega
theorem psum_sort {α : Type} (f : α → Int) (lt : α → α → Bool) (L : List α) : psum f (insSort lt L) = psum f L := by
  suffices ∀ (L S : List α), psum f (L.foldl (ins lt) S) = psum f S + psum f L by
    have := this L []
    rw [insSort, this]
    simp [psum]
  intro L
  induction L with
  | nil => intro S; simp [psum]
  | cons a L ih => intro S; rw [List.foldl_cons, ih, ins, psum_put, psum_cons]; omega
theorem psum_le {α : Type} {f g : α → Int} : ∀ {L : List α}, (∀ x ∈ L, f x ≤ g x) → psum f L ≤ psum g L
  | [], _ => by simp [psum]
  | x :: L, h => by
    have := psum_le (L := L) (fun y hy => h y (by simp [hy]))
    have h1 := h x (by simp)
    rw [psum_cons, psum_cons]; omega
theorem bestOne_le (B : List QuakeRow) (r : QuakeRow) : (bestOne B r).Grade ≤ r.Grade := by
  cases h : B.any (betB r) with
  | false => rw [bestOne_none h]; omega
  | true =>
    rcases idxI_cases (betB r) B with e | ⟨k, hk, e⟩
    · rw [bestOne, e, if_pos (by omega)]; omega
    · have hb : bestOne B r = B[k] := by rw [bestOne, e, if_neg (by omega)]; simp [List.getD, hk]
      have hp : betB r B[k] = true := by
        unfold idxI at e
        cases g : B.findIdx? (betB r) with
        | none => rw [g] at e; simp at e
        | some i =>
          rw [g] at e
          have hi : i = k := by have e' : (i : Int) = k := by simpa using e
                                omega
          subst hi
          exact (List.findIdx?_eq_some_iff_getElem.1 g).2.1
      rw [hb]
      simp only [betB, Bool.and_eq_true, decide_eq_true_eq] at hp
      omega
theorem both_facts {L M R : List QuakeRow} (h : bothR L M = some R) : R.length = L.length ∧ psum QuakeRow.Grade R ≤ psum QuakeRow.Grade L ∧ (∀ x ∈ L, 0 ≤ x.Grade ∧ x.Grade ≤ 4) ∧ (∀ x ∈ R, 0 ≤ x.Grade ∧ x.Grade ≤ 4) ∧ L.length ≤ 12 := by
  unfold bothR at h
  split at h
  · rename_i hc
    simp only [Option.some.injEq] at h
    subst h
    obtain ⟨a1, a2⟩ := bulB_all hc.1
    obtain ⟨b1, b2⟩ := bulB_all hc.2.2
    refine ⟨by rw [insSort_len]; simp, ?_, fun x hx => ?_, fun x hx => ?_, a2⟩
    · rw [psum_sort]
      have : psum QuakeRow.Grade (L.map (bestOne M)) = psum (fun r => (bestOne M r).Grade) L := by simp [psum, Function.comp_def]
      rw [this]
      exact psum_le (fun x _ => bestOne_le M x)
    · have := (qrB_iff.1 (a1 x hx)).2.2.2.2.2; omega
    · have := (qrB_iff.1 (b1 x hx)).2.2.2.2.2; omega
  · cases h
theorem psum_set (C : List Int) (k : Nat) (hk : k < C.length) (v : Int) : psum (fun x => x) (C.set k v) = psum (fun x => x) C - C[k] + v := by
  have h1 : C = C.take k ++ C[k] :: C.drop (k + 1) := by
    rw [← List.drop_eq_getElem_cons hk, List.take_append_drop]
  have h2 : C.set k v = C.take k ++ v :: C.drop (k + 1) := by rw [List.set_eq_take_append_cons_drop, if_pos hk]
  have e1 : psum (fun x => x) C = psum (fun x => x) (C.take k) + (C[k] + psum (fun x => x) (C.drop (k + 1))) := by
    conv => lhs; rw [h1]
    rw [psum_app, psum_cons]
  rw [h2, psum_app, psum_cons, e1]
  omega
theorem depth_sum (K : List Int) (L : List QuakeRow) : ∀ i, i ≤ L.length → psum (fun x => x) (depthTo K (L.take i)) = i
  | 0, _ => by
    have : ∀ n, psum (fun x : Int => x) (List.replicate n 0) = 0 := by
      intro n
      induction n with
      | zero => simp [psum]
      | succ n ih => rw [List.replicate_succ, psum_cons, ih]; omega
    simp only [List.take_zero]
    exact this _
  | i + 1, hi => by
    have ih := depth_sum K L i (by omega)
    have hl := depthTo_len K (L := L) i (by omega)
    have hy := layer_le K (L[i]'(by omega)).Deep
    rw [depthTo_succ K (by omega : i < L.length), bump]
    have hk : layer K (L[i]'(by omega)).Deep < (depthTo K (L.take i)).length := by omega
    rw [psum_set _ _ hk, ih, List.getD_eq_getElem?_getD, List.getElem?_eq_getElem hk]
    simp
    omega
theorem depth_facts {L : List QuakeRow} {K D : List Int} (h : depthR L K = some D) : psum (fun x => x) D = L.length ∧ (∀ x ∈ D, 0 ≤ x ∧ x ≤ 12) ∧ D.length ≤ 7 := by
  unfold depthR at h
  split at h
  · rename_i hc
    simp only [Option.some.injEq] at h
    subst h
    obtain ⟨a1, a2⟩ := bulB_all hc.1
    obtain ⟨b1, b2, b3⟩ := limsB_ok hc.2
    have h1 := depth_sum K L L.length (Nat.le_refl _)
    have h2 := depthTo_bd K (L := L) L.length (Nat.le_refl _)
    have h3 := depthTo_len K (L := L) L.length (Nat.le_refl _)
    rw [List.take_length] at h1 h2 h3
    exact ⟨h1, fun x hx => by have := h2 x hx; omega, by omega⟩
  · cases h
/-- The longest run only grows, and is no shorter than the last. -/
theorem qs_grow (T : List Int) (t : Int) : (qs T).2.2 - (qs T).2.1 ≤ (qs (T ++ [t])).2.2 - (qs (T ++ [t])).2.1 ∧ (0 ≤ (qs T).1 → t - (qs T).1 ≤ (qs (T ++ [t])).2.2 - (qs (T ++ [t])).2.1) := by
  rw [qs_snoc, qstep]
  split
  · rename_i h
    exact ⟨by dsimp only; omega, fun _ => by dsimp only; omega⟩
  · rename_i h
    dsimp only
    exact ⟨by omega, fun h0 => by omega⟩
theorem qs_app : ∀ (S T : List Int), (qs T).2.2 - (qs T).2.1 ≤ (qs (T ++ S)).2.2 - (qs (T ++ S)).2.1
  | [], T => by simp
  | s :: S, T => by
    have h1 := (qs_grow T s).1
    have h2 := qs_app S (T ++ [s])
    rw [List.append_assoc] at h2
    simp only [List.cons_append, List.nil_append] at h2
    omega
theorem quiet_facts {L : List QuakeRow} {size : Int} {i : Nat} (hi : i < L.length) (hs : strongB size L[i] = true) (h0 : 0 ≤ (qs (qT size (L.take i))).1) :
    L[i].Tick - (qs (qT size (L.take i))).1 ≤ (qs (qT size L)).2.2 - (qs (qT size L)).2.1 := by
  have h1 := qT_succ (size := size) hi
  rw [hs, if_pos rfl] at h1
  have h2 := (qs_grow (qT size (L.take i)) L[i].Tick).2 h0
  rw [← h1] at h2
  have h3 : qT size L = qT size (L.take (i + 1)) ++ qT size (L.drop (i + 1)) := by
    rw [qT, qT, qT, ← List.map_append, ← List.filter_append, List.take_append_drop]
  have h4 := qs_app (qT size (L.drop (i + 1))) (qT size (L.take (i + 1)))
  rw [← h3] at h4
  omega
end Go.Proofs
end
section
set_option linter.unusedSimpArgs false
set_option linter.unusedVariables false
namespace Go.Lv
theorem Ctr.weak {P : Program} {f : FuncId} {args : List V} {r r' : V} {hout hout' : Hp} (h : Ctr P f args [] r hout) (hw : WeakR 0 r hout r' hout') : Ctr P f args [] r' hout' :=
  ⟨h.1, fun w vs m av h1 h2 h3 h4 h5 => (h.2 w vs m av h1 h2 h3 h4 h5).mono fun e w' ⟨v, m', g1, g2, g3, g4, g5⟩ => by
    obtain ⟨m2, k1, k2, k3⟩ := hw w m [] av w' m' v rfl (Nat.zero_le _) h2 g2.size g3 g4 g5
    exact ⟨v, m2, g1, g2, k1, k2, k3⟩⟩
section
variable {α : Type} {cs : α → List V} {w : Nat} [FlatP cs w]
/-- A list or none, read only. -/
def frzV (cs : α → List V) (w : Nat) (R : Option (List α)) : V := .tup [.sl (R.getD []).length w (rows cs (R.getD [])), .bool R.isSome]
theorem frzN (R : Option (List α)) : WeakR 0 (optN w R) (optNh cs R) (frzV cs w R) [] := by
  cases R with
  | none =>
    intro w0 m0 h0 av0 W m val e1 e2 hlt hle H hx hi
    refine ⟨m, H, ?_, hi⟩
    change RV W m [] _ true val (.tup [.nilsl, .bool false]) at hx
    cases hx with
    | tup a vs ha hra =>
      refine .tup _ _ ha (fun i hi => ?_)
      match i, hi with
      | 0, _ => exact (hra 0 (by simp)).leE LeE.nil
      | 1, _ => exact hra 1 (by simp)
  | some L =>
    refine WeakR.pick [] (by decide) (fun j hj => by omega) (.inl ?_) rfl
    simp [frzV, optN, optNh, ren, pickF, posOf, frzR, take_rows, map_ren_rows]
theorem frzO (R : Option (List α)) : WeakR 0 (optO w R) (optOh cs R) (frzV cs w R) [] := by
  cases R with
  | none =>
    refine WeakR.pick [] (by decide) (fun j hj => by omega) (.inl ?_) rfl
    simp [frzV, optO, optOh, ren, pickF, posOf, frzR, rows]
  | some L =>
    refine WeakR.pick [] (by decide) (fun j hj => by omega) (.inl ?_) rfl
    simp [frzV, optO, optOh, ren, pickF, posOf, frzR, take_rows, map_ren_rows]
end
end Go.Lv
end
section
set_option linter.unusedSimpArgs false
set_option linter.unusedVariables false
set_option maxRecDepth 100000
namespace Go.Proofs
open Go.Lv
/-- A byte. -/
def u8R (x : Int) : Prop := 0 ≤ x ∧ x ≤ 255
def ByteS.cs (x : Int) : List V := [.int .u8 x]
instance instFlatPByteS : FlatP ByteS.cs 1 := ⟨fun _ => rfl, fun _ d => by cases d <;> rfl, fun _ => rfl, fun _ => rfl⟩
theorem ByteS.csl (a : Int) : (ByteS.cs a).length = 1 := rfl
abbrev ByteS.ok (x : Int) : Prop := u8R x
abbrev ByteS.sl (L : List Int) : V := .sl L.length 1 (Go.Lv.rows ByteS.cs L)

end Go.Proofs
end
section
set_option linter.unusedSimpArgs false
set_option linter.unusedVariables false
set_option maxRecDepth 100000
set_option maxHeartbeats 1000000
namespace Go.Proofs
open Go.Lv
/-- A cursor: where it stands, its seed. -/
structure Cur where
  a : Int
  s : Int
def Cur.cs (B : List Int) (c : Cur) : List V := [ByteS.sl B, .int .i64 c.a, .int .u64 c.s]
def CB (B : List Int) : Prop := lstR u8R B
/-- It stands between 0 and k. -/
def Cur.le (c : Cur) (k : Int) : Prop := 0 ≤ c.a ∧ c.a ≤ k
theorem Cur.ren (B : List Int) (c : Cur) (f : Nat → R) (d : Nat) : (c.cs B).map (Go.Lv.ren f d) = c.cs B := by cases d <;> simp [Cur.cs, Go.Lv.ren]
theorem lendCur {B : List Int} {c : Cur} {h : Hp} {id : Nat} (hid : h[id]? = some (some (c.cs B))) : pickH [id] h false = [some (c.cs B)] := by
  simp only [pickH, List.map_cons, List.map_nil, pickB, hid, Cur.ren]
theorem lendCur2 {α : Type} {cs : α → List V} {w : Nat} [FlatP cs w] {L : List α} {B : List Int} {c : Cur} {h : Hp} {i j : Nat} (hi : h[i]? = some (some (c.cs B))) (hj : h[j]? = some (some (rows cs L))) : pickH [i, j] h false = [some (c.cs B), some (rows cs L)] := by
  simp only [pickH, List.map_cons, List.map_nil, pickB, hi, hj, Cur.ren, map_ren_rows]
theorem growCur (B : List Int) (c c' : Cur) : grown [some (c.cs B)] [some (c'.cs B)] := ⟨⟨rfl, rfl⟩, trivial⟩
theorem growCur2 {α : Type} {cs : α → List V} {L : List α} (B : List Int) (c c' : Cur) : grown [some (c.cs B), some (rows cs L)] [some (c'.cs B), some (rows cs L)] := ⟨⟨rfl, rfl⟩, ⟨rfl, rfl⟩, trivial⟩
theorem andI_255 (x : Int) : 0 ≤ andI .u64 x 255 ∧ andI .u64 x 255 ≤ 255 := by
  have h : ∀ y : BitVec 64, (y &&& BitVec.ofInt 64 255).toNat ≤ 255 := fun y => by
    rw [BitVec.toNat_and]
    exact Nat.le_trans Nat.and_le_right (by decide)
  have hb : (BitVec.ofInt 64 x &&& BitVec.ofInt 64 255).toNat ≤ 255 := h _
  have hw : andI .u64 x 255 = (((BitVec.ofInt 64 x &&& BitVec.ofInt 64 255).toNat : Nat) : Int) := by
    unfold andI
    show IntKind.u64.wrap (((BitVec.ofInt 64 x &&& BitVec.ofInt 64 255).toNat : Nat) : Int) = _
    generalize (BitVec.ofInt 64 x &&& BitVec.ofInt 64 255).toNat = n at hb
    simp [IntKind.wrap, IntKind.bits, IntKind.signed]
    omega
  rw [hw]
  omega
def nextB (B : List Int) (c : Cur) : Int := if c.a < B.length then B.getD c.a.toNat 0 else 0
def nextS (B : List Int) (c : Cur) : Int := IntKind.u64.wrap (IntKind.u64.wrap (IntKind.u64.wrap (c.s * 6364136223846793005) + IntKind.u64.wrap (nextB B c)) + 101717)
def nextC (B : List Int) (c : Cur) : Cur := ⟨c.a + 1, nextS B c⟩
def nextV (B : List Int) (c : Cur) : Int := if c.a < B.length then nextB B c else andI .u64 (shrI .u64 (nextS B c) 40) 255
theorem nextB_bd {B : List Int} (hB : CB B) {c : Cur} (h : 0 ≤ c.a) : 0 ≤ nextB B c ∧ nextB B c ≤ 255 := by
  unfold nextB
  split
  · have hi : c.a.toNat < B.length := by omega
    have := hB.2 _ (List.getElem_mem hi)
    simpa [List.getD, hi, u8R] using this
  · omega
theorem nextV_bd {B : List Int} (hB : CB B) {c : Cur} (h : 0 ≤ c.a) : 0 ≤ nextV B c ∧ nextV B c ≤ 255 := by
  unfold nextV
  split
  · exact nextB_bd hB h
  · exact andI_255 _
theorem next_ok {B : List Int} (hB : CB B) {c : Cur} (hc : c.le 4611686018427387904) : Ctr Try.prog 158 [.ptr 0 0] [some (c.cs B)] (.int .i64 (nextV B c)) [some ((nextC B c).cs B)] := by
  obtain ⟨a, s⟩ := c
  obtain ⟨ha, hak⟩ := hc
  dsimp only at ha hak
  have hw : IntKind.i64.wrap (a + 1) = a + 1 := wrap_i64 (by omega) (by omega)
  have hbl := hB.1
  by_cases h1 : a < B.length
  · obtain ⟨i, rfl⟩ : ∃ i : Nat, a = i := ⟨a.toNat, by omega⟩
    have hi : i < B.length := by omega
    have hr := rows_at ByteS.csl hi
    obtain ⟨b0, b1⟩ : 0 ≤ B[i] ∧ B[i] ≤ 255 := by have := hB.2 _ (List.getElem_mem hi); simpa [u8R] using this
    have hwb : IntKind.i64.wrap B[i] = B[i] := wrap_i64 (by omega) (by omega)
    have hd : decide ((i : Int) < (B.length : Int)) = true := by simp; omega
    have hd2 : decide ((i : Int) + 1 ≤ (B.length : Int)) = true := by simp; omega
    have e1 : nextB B ⟨i, s⟩ = B[i] := by simp [nextB, h1, List.getD, hi]
    have e2 : nextV B ⟨i, s⟩ = B[i] := by simp [nextV, h1, e1]
    rw [nextC, nextS, e1, e2]
    refine Ctr.intro Try.mixed Try.func158 rfl Try.okF158 ?_
    simp -implicitDefEqProofs -dsimp only [go_sem, Nat.reduceSub, Nat.reduceAdd, Nat.reduceMul, Nat.reduceLT, Nat.reduceLeDiff, Nat.reduceEqDiff, Nat.reduceDiv, Nat.reduceMod, Int.reduceToNat, Int.reduceLE, Int.reduceLT, Int.reduceBEq, Int.reduceBNe, Int.reduceNeg, Int.reduceAdd, Int.reduceSub, Int.reduceMul, reduceCtorEq, Try.ntmps158, Try.results158]
    (repeat ((repeat1' (first | simp -implicitDefEqProofs -dsimp only [go_sem, Nat.reduceSub, Nat.reduceAdd, Nat.reduceMul, Nat.reduceLT, Nat.reduceLeDiff, Nat.reduceEqDiff, Nat.reduceDiv, Nat.reduceMod, Int.reduceToNat, Int.reduceLE, Int.reduceLT, Int.reduceBEq, Int.reduceBNe, Int.reduceNeg, Int.reduceAdd, Int.reduceSub, Int.reduceMul, reduceCtorEq, Cur.cs, hw, hd, hd2, hr, ByteS.cs, hwb] | simp -implicitDefEqProofs -dsimp (disch := omega) only [wrap_i64])); repeat (with_reducible refine sideA ?_)))
    exact WeakR.refl _ _ _
  · have hd : decide (a < (B.length : Int)) = false := by simp; omega
    have hd2 : decide (a + 1 ≤ (B.length : Int)) = false := by simp; omega
    have e3 : nextV B ⟨a, s⟩ = andI .u64 (shrI .u64 (nextS B ⟨a, s⟩) 40) 255 := by simp [nextV, h1]
    have e4 : nextB B ⟨a, s⟩ = 0 := by simp [nextB, h1]
    rw [nextC, e3]
    rw [nextS, e4]
    obtain ⟨e1, e2⟩ := andI_255 (shrI .u64 (IntKind.u64.wrap (IntKind.u64.wrap (IntKind.u64.wrap (s * 6364136223846793005) + IntKind.u64.wrap 0) + 101717)) 40)
    generalize hq : andI .u64 (shrI .u64 (IntKind.u64.wrap (IntKind.u64.wrap (IntKind.u64.wrap (s * 6364136223846793005) + IntKind.u64.wrap 0) + 101717)) 40) 255 = q at e1 e2 ⊢
    have hwq : IntKind.i64.wrap q = q := wrap_i64 (by omega) (by omega)
    refine Ctr.intro Try.mixed Try.func158 rfl Try.okF158 ?_
    simp -implicitDefEqProofs -dsimp only [go_sem, Nat.reduceSub, Nat.reduceAdd, Nat.reduceMul, Nat.reduceLT, Nat.reduceLeDiff, Nat.reduceEqDiff, Nat.reduceDiv, Nat.reduceMod, Int.reduceToNat, Int.reduceLE, Int.reduceLT, Int.reduceBEq, Int.reduceBNe, Int.reduceNeg, Int.reduceAdd, Int.reduceSub, Int.reduceMul, reduceCtorEq, Try.ntmps158, Try.results158]
    (repeat ((repeat1' (first | simp -implicitDefEqProofs -dsimp only [go_sem, Nat.reduceSub, Nat.reduceAdd, Nat.reduceMul, Nat.reduceLT, Nat.reduceLeDiff, Nat.reduceEqDiff, Nat.reduceDiv, Nat.reduceMod, Int.reduceToNat, Int.reduceLE, Int.reduceLT, Int.reduceBEq, Int.reduceBNe, Int.reduceNeg, Int.reduceAdd, Int.reduceSub, Int.reduceMul, reduceCtorEq, Cur.cs, hw, hd, hd2, hq] | simp -implicitDefEqProofs -dsimp (disch := omega) only [wrap_i64])); repeat (with_reducible refine sideA ?_)))
    exact WeakR.refl _ _ _
def pickV (B : List Int) (n : Int) (c : Cur) : Int := if n ≤ 1 then 0 else if 200 < n then (nextV B c * 256 + nextV B (nextC B c)).tmod n else (nextV B c).tmod n
def pickC (B : List Int) (n : Int) (c : Cur) : Cur := if n ≤ 1 then c else if 200 < n then nextC B (nextC B c) else nextC B c
theorem pickC_le {B : List Int} {n k : Int} {c : Cur} (h : c.le k) : (pickC B n c).le (k + 2) := by
  unfold pickC nextC Cur.le at *
  split
  · omega
  · split <;> (simp only []; omega)
theorem pickV_bd {B : List Int} (hB : CB B) {n : Int} {c : Cur} (h : 0 ≤ c.a) : 0 ≤ pickV B n c ∧ (1 ≤ n → pickV B n c < n) := by
  have h1 := nextV_bd hB h
  have h2 := nextV_bd hB (c := nextC B c) (by simp [nextC]; omega)
  unfold pickV
  split
  · omega
  · split
    · exact ⟨Int.tmod_nonneg _ (by omega), fun _ => Int.tmod_lt_of_pos _ (by omega)⟩
    · exact ⟨Int.tmod_nonneg _ (by omega), fun _ => Int.tmod_lt_of_pos _ (by omega)⟩
theorem pick_ok {B : List Int} (hB : CB B) {c : Cur} (hc : c.le 4611686018427387903) (n : Int) (hn : n ≤ 1000000000) : Ctr Try.prog 90 [.ptr 0 0, .int .i64 n] [some (c.cs B)] (.int .i64 (pickV B n c)) [some ((pickC B n c).cs B)] := by
  obtain ⟨r1, r2⟩ := nextV_bd hB hc.1
  have hc1 : (nextC B c).le 4611686018427387904 := by obtain ⟨h, h'⟩ := hc; exact ⟨by simp [nextC]; omega, by simp [nextC]; omega⟩
  obtain ⟨q1, q2⟩ := nextV_bd hB hc1.1
  have p4 := next_ok hB (c := c) ⟨hc.1, by have := hc.2; omega⟩
  have q4 := next_ok hB hc1
  by_cases h1 : n ≤ 1
  · have hd : decide (n ≤ 1) = true := by simp [h1]
    rw [pickV, pickC, if_pos h1, if_pos h1]
    refine Ctr.intro Try.mixed Try.func90 rfl Try.okF90 ?_
    simp -implicitDefEqProofs -dsimp only [go_sem, Nat.reduceSub, Nat.reduceAdd, Nat.reduceMul, Nat.reduceLT, Nat.reduceLeDiff, Nat.reduceEqDiff, Nat.reduceDiv, Nat.reduceMod, Int.reduceToNat, Int.reduceLE, Int.reduceLT, Int.reduceBEq, Int.reduceBNe, Int.reduceNeg, Int.reduceAdd, Int.reduceSub, Int.reduceMul, reduceCtorEq, Try.ntmps90, Try.results90]
    (repeat ((repeat1' (first | simp -implicitDefEqProofs -dsimp only [go_sem, Nat.reduceSub, Nat.reduceAdd, Nat.reduceMul, Nat.reduceLT, Nat.reduceLeDiff, Nat.reduceEqDiff, Nat.reduceDiv, Nat.reduceMod, Int.reduceToNat, Int.reduceLE, Int.reduceLT, Int.reduceBEq, Int.reduceBNe, Int.reduceNeg, Int.reduceAdd, Int.reduceSub, Int.reduceMul, reduceCtorEq, hd] | simp -implicitDefEqProofs -dsimp (disch := omega) only [wrap_i64])); repeat (with_reducible refine sideA ?_)))
    exact WeakR.refl _ _ _
  have hd : decide (n ≤ 1) = false := by simp; omega
  by_cases h2 : 200 < n
  · have hd2 : decide (200 < n) = true := by simp [h2]
    have hw : IntKind.i64.wrap (nextV B c * 256) = nextV B c * 256 := wrap_i64 (by omega) (by omega)
    have hw2 : IntKind.i64.wrap (nextV B c * 256 + nextV B (nextC B c)) = nextV B c * 256 + nextV B (nextC B c) := wrap_i64 (by omega) (by omega)
    rw [pickV, pickC, if_neg h1, if_neg h1, if_pos h2, if_pos h2]
    refine Ctr.intro Try.mixed Try.func90 rfl Try.okF90 ?_
    simp -implicitDefEqProofs -dsimp only [go_sem, Nat.reduceSub, Nat.reduceAdd, Nat.reduceMul, Nat.reduceLT, Nat.reduceLeDiff, Nat.reduceEqDiff, Nat.reduceDiv, Nat.reduceMod, Int.reduceToNat, Int.reduceLE, Int.reduceLT, Int.reduceBEq, Int.reduceBNe, Int.reduceNeg, Int.reduceAdd, Int.reduceSub, Int.reduceMul, reduceCtorEq, Try.ntmps90, Try.results90]
    (repeat ((repeat1' (first | simp -implicitDefEqProofs -dsimp only [go_sem, Nat.reduceSub, Nat.reduceAdd, Nat.reduceMul, Nat.reduceLT, Nat.reduceLeDiff, Nat.reduceEqDiff, Nat.reduceDiv, Nat.reduceMod, Int.reduceToNat, Int.reduceLE, Int.reduceLT, Int.reduceBEq, Int.reduceBNe, Int.reduceNeg, Int.reduceAdd, Int.reduceSub, Int.reduceMul, reduceCtorEq, hd] | simp -implicitDefEqProofs -dsimp (disch := omega) only [wrap_i64])); repeat (with_reducible refine sideA ?_)))
    refine callS.lend [0] false p4 (by decide) ⟨leO, trivial⟩ (lendCur rfl) (growCur B _ _) (.inl rfl) ?_
    (repeat ((repeat1' (first | simp -implicitDefEqProofs -dsimp only [go_sem, Nat.reduceSub, Nat.reduceAdd, Nat.reduceMul, Nat.reduceLT, Nat.reduceLeDiff, Nat.reduceEqDiff, Nat.reduceDiv, Nat.reduceMod, Int.reduceToNat, Int.reduceLE, Int.reduceLT, Int.reduceBEq, Int.reduceBNe, Int.reduceNeg, Int.reduceAdd, Int.reduceSub, Int.reduceMul, reduceCtorEq, hd2, hw, Cur.ren] | simp -implicitDefEqProofs -dsimp (disch := omega) only [wrap_i64])); repeat (with_reducible refine sideA ?_)))
    refine callS.lend [0] false q4 (by decide) ⟨leO, trivial⟩ (lendCur rfl) (growCur B _ _) (.inl rfl) ?_
    (repeat ((repeat1' (first | simp -implicitDefEqProofs -dsimp only [go_sem, Nat.reduceSub, Nat.reduceAdd, Nat.reduceMul, Nat.reduceLT, Nat.reduceLeDiff, Nat.reduceEqDiff, Nat.reduceDiv, Nat.reduceMod, Int.reduceToNat, Int.reduceLE, Int.reduceLT, Int.reduceBEq, Int.reduceBNe, Int.reduceNeg, Int.reduceAdd, Int.reduceSub, Int.reduceMul, reduceCtorEq, hw2, Cur.ren] | simp -implicitDefEqProofs -dsimp (disch := omega) only [wrap_i64])); repeat (with_reducible refine sideA ?_)))
    exact WeakR.refl _ _ _
  · have hd2 : decide (200 < n) = false := by simp [h2]
    rw [pickV, pickC, if_neg h1, if_neg h1, if_neg h2, if_neg h2]
    refine Ctr.intro Try.mixed Try.func90 rfl Try.okF90 ?_
    simp -implicitDefEqProofs -dsimp only [go_sem, Nat.reduceSub, Nat.reduceAdd, Nat.reduceMul, Nat.reduceLT, Nat.reduceLeDiff, Nat.reduceEqDiff, Nat.reduceDiv, Nat.reduceMod, Int.reduceToNat, Int.reduceLE, Int.reduceLT, Int.reduceBEq, Int.reduceBNe, Int.reduceNeg, Int.reduceAdd, Int.reduceSub, Int.reduceMul, reduceCtorEq, Try.ntmps90, Try.results90]
    (repeat ((repeat1' (first | simp -implicitDefEqProofs -dsimp only [go_sem, Nat.reduceSub, Nat.reduceAdd, Nat.reduceMul, Nat.reduceLT, Nat.reduceLeDiff, Nat.reduceEqDiff, Nat.reduceDiv, Nat.reduceMod, Int.reduceToNat, Int.reduceLE, Int.reduceLT, Int.reduceBEq, Int.reduceBNe, Int.reduceNeg, Int.reduceAdd, Int.reduceSub, Int.reduceMul, reduceCtorEq, hd] | simp -implicitDefEqProofs -dsimp (disch := omega) only [wrap_i64])); repeat (with_reducible refine sideA ?_)))
    refine callS.lend [0] false p4 (by decide) ⟨leO, trivial⟩ (lendCur rfl) (growCur B _ _) (.inl rfl) ?_
    (repeat ((repeat1' (first | simp -implicitDefEqProofs -dsimp only [go_sem, Nat.reduceSub, Nat.reduceAdd, Nat.reduceMul, Nat.reduceLT, Nat.reduceLeDiff, Nat.reduceEqDiff, Nat.reduceDiv, Nat.reduceMod, Int.reduceToNat, Int.reduceLE, Int.reduceLT, Int.reduceBEq, Int.reduceBNe, Int.reduceNeg, Int.reduceAdd, Int.reduceSub, Int.reduceMul, reduceCtorEq, hd2, Cur.ren] | simp -implicitDefEqProofs -dsimp (disch := omega) only [wrap_i64])); repeat (with_reducible refine sideA ?_)))
    exact WeakR.refl _ _ _
def oneV (B : List Int) (n : Int) (c : Cur) : Bool := pickV B n c == 0
theorem one_ok {B : List Int} (hB : CB B) {c : Cur} (hc : c.le 4611686018427387903) (n : Int) (hn : n ≤ 1000000000) : Ctr Try.prog 91 [.ptr 0 0, .int .i64 n] [some (c.cs B)] (.bool (oneV B n c)) [some ((pickC B n c).cs B)] := by
  refine Ctr.intro Try.mixed Try.func91 rfl Try.okF91 ?_
  simp -implicitDefEqProofs -dsimp only [go_sem, Nat.reduceSub, Nat.reduceAdd, Nat.reduceMul, Nat.reduceLT, Nat.reduceLeDiff, Nat.reduceEqDiff, Nat.reduceDiv, Nat.reduceMod, Int.reduceToNat, Int.reduceLE, Int.reduceLT, Int.reduceBEq, Int.reduceBNe, Int.reduceNeg, Int.reduceAdd, Int.reduceSub, Int.reduceMul, reduceCtorEq, Try.ntmps91, Try.results91]
  (repeat ((repeat1' (first | simp -implicitDefEqProofs -dsimp only [go_sem, Nat.reduceSub, Nat.reduceAdd, Nat.reduceMul, Nat.reduceLT, Nat.reduceLeDiff, Nat.reduceEqDiff, Nat.reduceDiv, Nat.reduceMod, Int.reduceToNat, Int.reduceLE, Int.reduceLT, Int.reduceBEq, Int.reduceBNe, Int.reduceNeg, Int.reduceAdd, Int.reduceSub, Int.reduceMul, reduceCtorEq] | simp -implicitDefEqProofs -dsimp (disch := omega) only [wrap_i64])); repeat (with_reducible refine sideA ?_)))
  refine callS.lend [0] false (pick_ok hB hc n hn) (by decide) ⟨leO, leO, trivial⟩ (lendCur rfl) (growCur B _ _) (.inl rfl) ?_
  (repeat ((repeat1' (first | simp -implicitDefEqProofs -dsimp only [go_sem, Nat.reduceSub, Nat.reduceAdd, Nat.reduceMul, Nat.reduceLT, Nat.reduceLeDiff, Nat.reduceEqDiff, Nat.reduceDiv, Nat.reduceMod, Int.reduceToNat, Int.reduceLE, Int.reduceLT, Int.reduceBEq, Int.reduceBNe, Int.reduceNeg, Int.reduceAdd, Int.reduceSub, Int.reduceMul, reduceCtorEq, Cur.ren] | simp -implicitDefEqProofs -dsimp (disch := omega) only [wrap_i64])); repeat (with_reducible refine sideA ?_)))
  exact WeakR.refl _ _ _
def amongV (B : List Int) (K : List Int) (c : Cur) : Int := K.getD (pickV B K.length c).toNat 0
theorem amongV_mem {B : List Int} (hB : CB B) {K : List Int} (hK : 0 < K.length) {c : Cur} (h : 0 ≤ c.a) : amongV B K c ∈ K := by
  obtain ⟨h1, h2⟩ := pickV_bd hB (n := K.length) h
  have hi : (pickV B K.length c).toNat < K.length := by omega
  simp [amongV, List.getD, hi]
theorem among_ok {B : List Int} (hB : CB B) {c : Cur} (hc : c.le 4611686018427387903) (K : List Int) (hK0 : 0 < K.length) (hK : K.length ≤ 1000000000) : Ctr Try.prog 97 [.ptr 0 0, .osl 1 0 K.length 1] [some (c.cs B), some (rows IntS.cs K)] (.int .i64 (amongV B K c)) [some ((pickC B K.length c).cs B), some (rows IntS.cs K)] := by
  obtain ⟨h1, h2⟩ := pickV_bd hB (n := K.length) hc.1
  obtain ⟨i, hi'⟩ : ∃ i : Nat, pickV B K.length c = i := ⟨(pickV B K.length c).toNat, by omega⟩
  have hi : i < K.length := by omega
  have hr := rows_at IntS.csl hi
  have e : amongV B K c = K[i] := by simp [amongV, hi', List.getD, hi]
  have hp := pick_ok hB hc K.length (by omega)
  rw [hi'] at hp
  rw [e]
  refine Ctr.intro Try.mixed Try.func97 rfl Try.okF97 ?_
  simp -implicitDefEqProofs -dsimp only [go_sem, Nat.reduceSub, Nat.reduceAdd, Nat.reduceMul, Nat.reduceLT, Nat.reduceLeDiff, Nat.reduceEqDiff, Nat.reduceDiv, Nat.reduceMod, Int.reduceToNat, Int.reduceLE, Int.reduceLT, Int.reduceBEq, Int.reduceBNe, Int.reduceNeg, Int.reduceAdd, Int.reduceSub, Int.reduceMul, reduceCtorEq, Try.ntmps97, Try.results97]
  (repeat ((repeat1' (first | simp -implicitDefEqProofs -dsimp only [go_sem, Nat.reduceSub, Nat.reduceAdd, Nat.reduceMul, Nat.reduceLT, Nat.reduceLeDiff, Nat.reduceEqDiff, Nat.reduceDiv, Nat.reduceMod, Int.reduceToNat, Int.reduceLE, Int.reduceLT, Int.reduceBEq, Int.reduceBNe, Int.reduceNeg, Int.reduceAdd, Int.reduceSub, Int.reduceMul, reduceCtorEq] | simp -implicitDefEqProofs -dsimp (disch := omega) only [wrap_i64])); repeat (with_reducible refine sideA ?_)))
  refine callS.lend [0] false hp (by decide) ⟨leO, leO, trivial⟩ (lendCur rfl) (growCur B _ _) (.inl rfl) ?_
  (repeat ((repeat1' (first | simp -implicitDefEqProofs -dsimp only [go_sem, Nat.reduceSub, Nat.reduceAdd, Nat.reduceMul, Nat.reduceLT, Nat.reduceLeDiff, Nat.reduceEqDiff, Nat.reduceDiv, Nat.reduceMod, Int.reduceToNat, Int.reduceLE, Int.reduceLT, Int.reduceBEq, Int.reduceBNe, Int.reduceNeg, Int.reduceAdd, Int.reduceSub, Int.reduceMul, reduceCtorEq, Cur.ren, hr, IntS.cs] | simp -implicitDefEqProofs -dsimp (disch := omega) only [wrap_i64])); repeat (with_reducible refine sideA ?_)))
  exact WeakR.refl _ _ _
end Go.Proofs
end
section
set_option linter.unusedSimpArgs false
set_option linter.unusedVariables false
set_option maxRecDepth 100000
set_option maxHeartbeats 2000000
namespace Go.Proofs
open Go.Lv
def amongNV (B : List Int) (K : List Int) (n : Nat) (c : Cur) : Int := K.getD (pickV B n c).toNat 0
theorem amongNV_mem {B : List Int} (hB : CB B) {K : List Int} {n : Nat} (hn : 0 < n) (hK : n ≤ K.length) {c : Cur} (h : 0 ≤ c.a) : amongNV B K n c ∈ K := by
  obtain ⟨h1, h2⟩ := pickV_bd hB (n := n) h
  have hi : (pickV B n c).toNat < K.length := by omega
  simp [amongNV, List.getD, hi]
theorem amongN_ok {B : List Int} (hB : CB B) {c : Cur} (hc : c.le 4611686018427387903) (K : List Int) {n : Nat} (hn : 0 < n) (hK0 : n ≤ K.length) (hK : K.length ≤ 1000000000) : Ctr Try.prog 97 [.ptr 0 0, .osl 1 0 n 1] [some (c.cs B), some (rows IntS.cs K)] (.int .i64 (amongNV B K n c)) [some ((pickC B n c).cs B), some (rows IntS.cs K)] := by
  obtain ⟨h1, h2⟩ := pickV_bd hB (n := n) hc.1
  obtain ⟨i, hi'⟩ : ∃ i : Nat, pickV B n c = i := ⟨(pickV B n c).toNat, by omega⟩
  have hi : i < K.length := by omega
  have hin : decide ((i : Int) < (n : Int)) = true := decide_eq_true (by omega)
  have hr := rows_at IntS.csl hi
  have e : amongNV B K n c = K[i] := by simp [amongNV, hi', List.getD, hi]
  have hp := pick_ok hB hc n (by omega)
  rw [hi'] at hp
  rw [e]
  refine Ctr.intro Try.mixed Try.func97 rfl Try.okF97 ?_
  simp -implicitDefEqProofs -dsimp only [go_sem, Nat.reduceSub, Nat.reduceAdd, Nat.reduceMul, Nat.reduceLT, Nat.reduceLeDiff, Nat.reduceEqDiff, Nat.reduceDiv, Nat.reduceMod, Int.reduceToNat, Int.reduceLE, Int.reduceLT, Int.reduceBEq, Int.reduceBNe, Int.reduceNeg, Int.reduceAdd, Int.reduceSub, Int.reduceMul, reduceCtorEq, Try.ntmps97, Try.results97]
  (repeat ((repeat1' (first | simp -implicitDefEqProofs -dsimp only [go_sem, Nat.reduceSub, Nat.reduceAdd, Nat.reduceMul, Nat.reduceLT, Nat.reduceLeDiff, Nat.reduceEqDiff, Nat.reduceDiv, Nat.reduceMod, Int.reduceToNat, Int.reduceLE, Int.reduceLT, Int.reduceBEq, Int.reduceBNe, Int.reduceNeg, Int.reduceAdd, Int.reduceSub, Int.reduceMul, reduceCtorEq] | simp -implicitDefEqProofs -dsimp (disch := omega) only [wrap_i64])); repeat (with_reducible refine sideA ?_)))
  refine callS.lend [0] false hp (by decide) ⟨leO, leO, trivial⟩ (lendCur rfl) (growCur B _ _) (.inl rfl) ?_
  (repeat ((repeat1' (first | simp -implicitDefEqProofs -dsimp only [go_sem, Nat.reduceSub, Nat.reduceAdd, Nat.reduceMul, Nat.reduceLT, Nat.reduceLeDiff, Nat.reduceEqDiff, Nat.reduceDiv, Nat.reduceMod, Int.reduceToNat, Int.reduceLE, Int.reduceLT, Int.reduceBEq, Int.reduceBNe, Int.reduceNeg, Int.reduceAdd, Int.reduceSub, Int.reduceMul, reduceCtorEq, Cur.ren, hr, IntS.cs] | simp -implicitDefEqProofs -dsimp (disch := omega) only [wrap_i64])); repeat (with_reducible refine sideA ?_)))
  exact WeakR.refl _ _ _
theorem lmonoQ {c : Cur} {a b : Int} (h : c.le a) (hab : a ≤ b) : c.le b := ⟨h.1, Int.le_trans h.2 hab⟩
theorem memR {K : List Int} {v : Int} (h : v ∈ K) (hk : K.all (fun x => decide (-10000000 ≤ x ∧ x ≤ 10000000)) = true) : -10000000 ≤ v ∧ v ≤ 10000000 := by
  have := List.all_eq_true.1 hk v h
  simpa using this
def placeP (B : List Int) (k : Int) (r : V) (hout : Hp) : Prop := ∃ (x y : Int) (c : Cur), (-10000000 ≤ x ∧ x ≤ 10000000) ∧ (-10000000 ≤ y ∧ y ≤ 10000000) ∧ c.le k ∧ r = .tup [.int .i64 x, .int .i64 y] ∧ hout = [some (c.cs B)]
theorem place_fin {B : List Int} {k : Int} {h : Hp} {x y : Int} {c : Cur} (h0 : h[0]? = some (some (c.cs B))) (hx : -10000000 ≤ x ∧ x ≤ 10000000) (hy : -10000000 ≤ y ∧ y ≤ 10000000) (hc : c.le k) : RelR 1 (.tup [.int .i64 x, .int .i64 y]) h (placeP B k) := by
  refine ⟨_, _, ⟨x, y, c, hx, hy, hc, rfl, rfl⟩, WeakR.pick [0] (by decide) (fun j hj => by cases j <;> simp_all) (.inl rfl) ?_⟩
  simp only [pickH, List.map_cons, List.map_nil, pickB, h0, Cur.ren]
theorem quo14 {x : Int} (h : 0 ≤ x ∧ (1 ≤ (30 : Int) → x < 30)) : ∃ j : Nat, Int.tdiv x 14 = j ∧ j ≤ 2 := by
  obtain ⟨n, rfl⟩ : ∃ n : Nat, x = n := ⟨x.toNat, by omega⟩
  refine ⟨n / 14, rfl, by omega⟩
theorem wrap5 {j : Nat} (h : j ≤ 2) : IntKind.i64.wrap (5 + (j : Int)) = ((5 + j : Nat) : Int) := by
  rw [wrap_i64 (by omega) (by omega)]; omega
theorem place_ok {B : List Int} (hB : CB B) {k : Int} (hk : k ≤ 1000000) {c : Cur} (hc : c.le k) : CtrP Try.prog 116 [.ptr 0 0] [some (c.cs B)] (placeP B (k + 8)) := by
  have hcb : ∀ {c' : Cur} {k' : Int}, c'.le k' → k' ≤ 4000000 → c'.le 4611686018427387903 := fun h h' => ⟨h.1, by have := h.2; omega⟩
  refine CtrP.intro Try.mixed Try.func116 rfl Try.okF116 ?_
  simp -implicitDefEqProofs -dsimp only [go_sem, Nat.reduceSub, Nat.reduceAdd, Nat.reduceMul, Nat.reduceLT, Nat.reduceLeDiff, Nat.reduceEqDiff, Nat.reduceDiv, Nat.reduceMod, Int.reduceToNat, Int.reduceLE, Int.reduceLT, Int.reduceBEq, Int.reduceBNe, Int.reduceNeg, Int.reduceAdd, Int.reduceSub, Int.reduceMul, reduceCtorEq, Try.ntmps116, Try.results116]
  (repeat ((repeat1' (first | simp -implicitDefEqProofs -dsimp only [go_sem, Nat.reduceSub, Nat.reduceAdd, Nat.reduceMul, Nat.reduceLT, Nat.reduceLeDiff, Nat.reduceEqDiff, Nat.reduceDiv, Nat.reduceMod, Int.reduceToNat, Int.reduceLE, Int.reduceLT, Int.reduceBEq, Int.reduceBNe, Int.reduceNeg, Int.reduceAdd, Int.reduceSub, Int.reduceMul, reduceCtorEq] | simp -implicitDefEqProofs -dsimp (disch := omega) only [wrap_i64])); repeat (with_reducible refine sideA ?_)))
  have pc1 := pick_ok hB (hcb hc (by omega)) 30 (by omega); have hc1 := pickC_le (B := B) (n := 30) hc; have pvc1 := pickV_bd hB (n := 30) hc.1; generalize pickV B 30 c = vc1 at pc1 pvc1; generalize pickC B 30 c = c1 at pc1 hc1; refine callS.lend [0] false pc1 (by decide) ⟨leO, leO, trivial⟩ (lendCur rfl) (growCur B _ _) (.inl rfl) ?_
  obtain ⟨j1, hj1, hjb1⟩ := quo14 pvc1
  have hw1 := wrap5 hjb1
  (repeat ((repeat1' (first | simp -implicitDefEqProofs -dsimp only [go_sem, Nat.reduceSub, Nat.reduceAdd, Nat.reduceMul, Nat.reduceLT, Nat.reduceLeDiff, Nat.reduceEqDiff, Nat.reduceDiv, Nat.reduceMod, Int.reduceToNat, Int.reduceLE, Int.reduceLT, Int.reduceBEq, Int.reduceBNe, Int.reduceNeg, Int.reduceAdd, Int.reduceSub, Int.reduceMul, reduceCtorEq, Cur.ren, map_ren_rows, hj1, hw1] | simp -implicitDefEqProofs -dsimp (disch := omega) only [wrap_i64])); repeat (with_reducible refine sideA ?_)))
  have e1 : (5 + (j1 : Int)).toNat - 0 = 5 + j1 := by omega
  simp only [e1]
  have pc2 := amongN_ok hB (hcb hc1 (by omega)) [0, 3, 10, 50, 999, -1, 1000] (n := (5 + j1)) (by omega) (by simp only [List.length_cons, List.length_nil]; omega) (by simp); have hc2 := pickC_le (B := B) (n := (((5 + j1) : Nat) : Int)) hc1; have pvc2 := amongNV_mem hB (K := [0, 3, 10, 50, 999, -1, 1000]) (n := (5 + j1)) (by omega) (by simp only [List.length_cons, List.length_nil]; omega) hc1.1; generalize amongNV B [0, 3, 10, 50, 999, -1, 1000] (5 + j1) c1 = vc2 at pc2 pvc2; generalize pickC B (((5 + j1) : Nat) : Int) c1 = c2 at pc2 hc2; (first | refine callS.lend [0, 1] false pc2 (by decide) ⟨leO, leO, trivial⟩ (lendCur2 rfl rfl) (growCur2 B _ _) (.inl rfl) ?_)
  (repeat ((repeat1' (first | simp -implicitDefEqProofs -dsimp only [go_sem, Nat.reduceSub, Nat.reduceAdd, Nat.reduceMul, Nat.reduceLT, Nat.reduceLeDiff, Nat.reduceEqDiff, Nat.reduceDiv, Nat.reduceMod, Int.reduceToNat, Int.reduceLE, Int.reduceLT, Int.reduceBEq, Int.reduceBNe, Int.reduceNeg, Int.reduceAdd, Int.reduceSub, Int.reduceMul, reduceCtorEq, Cur.ren, map_ren_rows] | simp -implicitDefEqProofs -dsimp (disch := omega) only [wrap_i64])); repeat (with_reducible refine sideA ?_)))
  have pc3 := pick_ok hB (hcb hc2 (by omega)) 30 (by omega); have hc3 := pickC_le (B := B) (n := 30) hc2; have pvc3 := pickV_bd hB (n := 30) hc2.1; generalize pickV B 30 c2 = vc3 at pc3 pvc3; generalize pickC B 30 c2 = c3 at pc3 hc3; refine callS.lend [0] false pc3 (by decide) ⟨leO, leO, trivial⟩ (lendCur rfl) (growCur B _ _) (.inl rfl) ?_
  obtain ⟨j2, hj2, hjb2⟩ := quo14 pvc3
  have hw2 := wrap5 hjb2
  (repeat ((repeat1' (first | simp -implicitDefEqProofs -dsimp only [go_sem, Nat.reduceSub, Nat.reduceAdd, Nat.reduceMul, Nat.reduceLT, Nat.reduceLeDiff, Nat.reduceEqDiff, Nat.reduceDiv, Nat.reduceMod, Int.reduceToNat, Int.reduceLE, Int.reduceLT, Int.reduceBEq, Int.reduceBNe, Int.reduceNeg, Int.reduceAdd, Int.reduceSub, Int.reduceMul, reduceCtorEq, Cur.ren, map_ren_rows, hj2, hw2] | simp -implicitDefEqProofs -dsimp (disch := omega) only [wrap_i64])); repeat (with_reducible refine sideA ?_)))
  have e2 : (5 + (j2 : Int)).toNat - 0 = 5 + j2 := by omega
  simp only [e2]
  have pc4 := amongN_ok hB (hcb hc3 (by omega)) [0, 4, 10, 50, 999, -1, 1000] (n := (5 + j2)) (by omega) (by simp only [List.length_cons, List.length_nil]; omega) (by simp); have hc4 := pickC_le (B := B) (n := (((5 + j2) : Nat) : Int)) hc3; have pvc4 := amongNV_mem hB (K := [0, 4, 10, 50, 999, -1, 1000]) (n := (5 + j2)) (by omega) (by simp only [List.length_cons, List.length_nil]; omega) hc3.1; generalize amongNV B [0, 4, 10, 50, 999, -1, 1000] (5 + j2) c3 = vc4 at pc4 pvc4; generalize pickC B (((5 + j2) : Nat) : Int) c3 = c4 at pc4 hc4; (first | refine callS.lend [0, 2] false pc4 (by decide) ⟨leO, leO, trivial⟩ (lendCur2 rfl rfl) (growCur2 B _ _) (.inl rfl) ?_)
  (repeat ((repeat1' (first | simp -implicitDefEqProofs -dsimp only [go_sem, Nat.reduceSub, Nat.reduceAdd, Nat.reduceMul, Nat.reduceLT, Nat.reduceLeDiff, Nat.reduceEqDiff, Nat.reduceDiv, Nat.reduceMod, Int.reduceToNat, Int.reduceLE, Int.reduceLT, Int.reduceBEq, Int.reduceBNe, Int.reduceNeg, Int.reduceAdd, Int.reduceSub, Int.reduceMul, reduceCtorEq, Cur.ren, map_ren_rows] | simp -implicitDefEqProofs -dsimp (disch := omega) only [wrap_i64])); repeat (with_reducible refine sideA ?_)))
  exact place_fin rfl (memR pvc2 (by decide)) (memR pvc4 (by decide)) (lmonoQ hc4 (by omega))
def quakeP (B : List Int) (k : Int) (r : V) (hout : Hp) : Prop := ∃ (q : QuakeRow) (c : Cur), q.ok ∧ c.le k ∧ r = q.v ∧ hout = [some (c.cs B)]
theorem quake_fin {B : List Int} {k : Int} {h : Hp} {a b x y d s g : Int} {c : Cur} (h0 : h[0]? = some (some (c.cs B))) (hq : QuakeRow.ok ⟨a, b, x, y, d, s, g⟩) (hc : c.le k) : RelR 1 (.agg [.int .i64 a, .int .i64 b, .int .i64 x, .int .i64 y, .int .i64 d, .int .i64 s, .int .i64 g]) h (quakeP B k) := by
  refine ⟨_, _, ⟨⟨a, b, x, y, d, s, g⟩, c, hq, hc, rfl, rfl⟩, WeakR.pick [0] (by decide) (fun j hj => by cases j <;> simp_all) (.inl rfl) ?_⟩
  simp only [pickH, List.map_cons, List.map_nil, pickB, h0, Cur.ren]
theorem i64M {v : Int} (h : -10000000 ≤ v ∧ v ≤ 10000000) : i64R v := ⟨by omega, by omega⟩
theorem quake_ok {B : List Int} (hB : CB B) {k : Int} (hk : k ≤ 900000) {c : Cur} (hc : c.le k) (id tick : Int) (hid : i64R id) (htick : i64R tick) : CtrP Try.prog 161 [.ptr 0 0, .int .i64 id, .int .i64 tick] [some (c.cs B)] (quakeP B (k + 30)) := by
  have hcb : ∀ {c' : Cur} {k' : Int}, c'.le k' → k' ≤ 4000000 → c'.le 4611686018427387903 := fun h h' => ⟨h.1, by have := h.2; omega⟩
  refine CtrP.intro Try.mixed Try.func161 rfl Try.okF161 ?_
  simp -implicitDefEqProofs -dsimp only [go_sem, Nat.reduceSub, Nat.reduceAdd, Nat.reduceMul, Nat.reduceLT, Nat.reduceLeDiff, Nat.reduceEqDiff, Nat.reduceDiv, Nat.reduceMod, Int.reduceToNat, Int.reduceLE, Int.reduceLT, Int.reduceBEq, Int.reduceBNe, Int.reduceNeg, Int.reduceAdd, Int.reduceSub, Int.reduceMul, reduceCtorEq, Try.ntmps161, Try.results161]
  (repeat ((repeat1' (first | simp -implicitDefEqProofs -dsimp only [go_sem, Nat.reduceSub, Nat.reduceAdd, Nat.reduceMul, Nat.reduceLT, Nat.reduceLeDiff, Nat.reduceEqDiff, Nat.reduceDiv, Nat.reduceMod, Int.reduceToNat, Int.reduceLE, Int.reduceLT, Int.reduceBEq, Int.reduceBNe, Int.reduceNeg, Int.reduceAdd, Int.reduceSub, Int.reduceMul, reduceCtorEq] | simp -implicitDefEqProofs -dsimp (disch := omega) only [wrap_i64])); repeat (with_reducible refine sideA ?_)))
  have pc1 := among_ok hB (hcb hc (by omega)) [0, 9, 10, 35, 700] (by simp) (by simp); have hc1 := pickC_le (B := B) (n := (([0, 9, 10, 35, 700] : List Int).length : Int)) hc; have pvc1 := amongV_mem hB (K := [0, 9, 10, 35, 700]) (by simp) hc.1; generalize amongV B [0, 9, 10, 35, 700] c = vc1 at pc1 pvc1; generalize pickC B (([0, 9, 10, 35, 700] : List Int).length : Int) c = c1 at pc1 hc1; (first | refine callS.lend [0, 2] false pc1 (by decide) ⟨leO, leO, trivial⟩ (lendCur2 rfl rfl) (growCur2 B _ _) (.inl rfl) ?_)
  (repeat ((repeat1' (first | simp -implicitDefEqProofs -dsimp only [go_sem, Nat.reduceSub, Nat.reduceAdd, Nat.reduceMul, Nat.reduceLT, Nat.reduceLeDiff, Nat.reduceEqDiff, Nat.reduceDiv, Nat.reduceMod, Int.reduceToNat, Int.reduceLE, Int.reduceLT, Int.reduceBEq, Int.reduceBNe, Int.reduceNeg, Int.reduceAdd, Int.reduceSub, Int.reduceMul, reduceCtorEq, Cur.ren, map_ren_rows] | simp -implicitDefEqProofs -dsimp (disch := omega) only [wrap_i64])); repeat (with_reducible refine sideA ?_)))
  have pc2 := among_ok hB (hcb hc1 (by omega)) [-100, -5, 0, 250, 250, 481, 1000] (by simp) (by simp); have hc2 := pickC_le (B := B) (n := (([-100, -5, 0, 250, 250, 481, 1000] : List Int).length : Int)) hc1; have pvc2 := amongV_mem hB (K := [-100, -5, 0, 250, 250, 481, 1000]) (by simp) hc1.1; generalize amongV B [-100, -5, 0, 250, 250, 481, 1000] c1 = vc2 at pc2 pvc2; generalize pickC B (([-100, -5, 0, 250, 250, 481, 1000] : List Int).length : Int) c1 = c2 at pc2 hc2; (first | refine callS.lend [0, 3] false pc2 (by decide) ⟨leO, leO, trivial⟩ (lendCur2 rfl rfl) (growCur2 B _ _) (.inl rfl) ?_)
  (repeat ((repeat1' (first | simp -implicitDefEqProofs -dsimp only [go_sem, Nat.reduceSub, Nat.reduceAdd, Nat.reduceMul, Nat.reduceLT, Nat.reduceLeDiff, Nat.reduceEqDiff, Nat.reduceDiv, Nat.reduceMod, Int.reduceToNat, Int.reduceLE, Int.reduceLT, Int.reduceBEq, Int.reduceBNe, Int.reduceNeg, Int.reduceAdd, Int.reduceSub, Int.reduceMul, reduceCtorEq, Cur.ren, map_ren_rows] | simp -implicitDefEqProofs -dsimp (disch := omega) only [wrap_i64])); repeat (with_reducible refine sideA ?_)))
  have pc3 := pick_ok hB (hcb hc2 (by omega)) 4 (by omega); have hc3 := pickC_le (B := B) (n := 4) hc2; have pvc3 := pickV_bd hB (n := 4) hc2.1; generalize pickV B 4 c2 = vc3 at pc3 pvc3; generalize pickC B 4 c2 = c3 at pc3 hc3; refine callS.lend [0] false pc3 (by decide) ⟨leO, leO, trivial⟩ (lendCur rfl) (growCur B _ _) (.inl rfl) ?_
  have hw3 : IntKind.i64.wrap (1 + vc3) = 1 + vc3 := wrap_i64 (by omega) (by omega)
  (repeat ((repeat1' (first | simp -implicitDefEqProofs -dsimp only [go_sem, Nat.reduceSub, Nat.reduceAdd, Nat.reduceMul, Nat.reduceLT, Nat.reduceLeDiff, Nat.reduceEqDiff, Nat.reduceDiv, Nat.reduceMod, Int.reduceToNat, Int.reduceLE, Int.reduceLT, Int.reduceBEq, Int.reduceBNe, Int.reduceNeg, Int.reduceAdd, Int.reduceSub, Int.reduceMul, reduceCtorEq, Cur.ren, map_ren_rows, hw3] | simp -implicitDefEqProofs -dsimp (disch := omega) only [wrap_i64])); repeat (with_reducible refine sideA ?_)))
  refine callS.rel [0] (place_ok hB (by simp only [List.length_cons, List.length_nil] at *; omega) hc3) (by decide) ⟨leO, trivial⟩ (lendCur rfl) rfl (fun r hout hΦ => ?_)
  obtain ⟨x, y, c4, hx, hy, hc4, rfl, rfl⟩ := hΦ
  refine ⟨⟨⟨rfl, rfl⟩, trivial⟩, ?_⟩
  (repeat ((repeat1' (first | simp -implicitDefEqProofs -dsimp only [go_sem, Nat.reduceSub, Nat.reduceAdd, Nat.reduceMul, Nat.reduceLT, Nat.reduceLeDiff, Nat.reduceEqDiff, Nat.reduceDiv, Nat.reduceMod, Int.reduceToNat, Int.reduceLE, Int.reduceLT, Int.reduceBEq, Int.reduceBNe, Int.reduceNeg, Int.reduceAdd, Int.reduceSub, Int.reduceMul, reduceCtorEq, Cur.ren, map_ren_rows] | simp -implicitDefEqProofs -dsimp (disch := omega) only [wrap_i64])); repeat (with_reducible refine sideA ?_)))
  have pc5 := pick_ok hB (hcb hc4 (by omega)) 90 (by omega); have hc5 := pickC_le (B := B) (n := 90) hc4; have pvc5 := pickV_bd hB (n := 90) hc4.1; generalize pickV B 90 c4 = vc5 at pc5 pvc5; generalize pickC B 90 c4 = c5 at pc5 hc5; refine callS.lend [0] false pc5 (by decide) ⟨leO, leO, trivial⟩ (lendCur rfl) (growCur B _ _) (.inl rfl) ?_
  have hg : -10000000 ≤ 1 + vc3 ∧ 1 + vc3 ≤ 10000000 := by omega
  obtain ⟨g, hge⟩ : ∃ g, g = 1 + vc3 := ⟨_, rfl⟩
  have hgi : i64R g := i64M (by rw [hge]; exact hg)
  (repeat ((repeat1' (first | simp -implicitDefEqProofs -dsimp only [go_sem, Nat.reduceSub, Nat.reduceAdd, Nat.reduceMul, Nat.reduceLT, Nat.reduceLeDiff, Nat.reduceEqDiff, Nat.reduceDiv, Nat.reduceMod, Int.reduceToNat, Int.reduceLE, Int.reduceLT, Int.reduceBEq, Int.reduceBNe, Int.reduceNeg, Int.reduceAdd, Int.reduceSub, Int.reduceMul, reduceCtorEq, Cur.ren, map_ren_rows] | simp -implicitDefEqProofs -dsimp (disch := omega) only [wrap_i64])); repeat (with_reducible refine sideA ?_)))
  rw [← hge]
  refine condT.split (fun h1 => ?_) (fun h1 => ?_)
  · (repeat ((repeat1' (first | simp -implicitDefEqProofs -dsimp only [go_sem, Nat.reduceSub, Nat.reduceAdd, Nat.reduceMul, Nat.reduceLT, Nat.reduceLeDiff, Nat.reduceEqDiff, Nat.reduceDiv, Nat.reduceMod, Int.reduceToNat, Int.reduceLE, Int.reduceLT, Int.reduceBEq, Int.reduceBNe, Int.reduceNeg, Int.reduceAdd, Int.reduceSub, Int.reduceMul, reduceCtorEq, h1] | simp -implicitDefEqProofs -dsimp (disch := omega) only [wrap_i64])); repeat (with_reducible refine sideA ?_)))
    have pc6 := among_ok hB (hcb hc5 (by omega)) [0, 9999, 10000] (by simp) (by simp); have hc6 := pickC_le (B := B) (n := (([0, 9999, 10000] : List Int).length : Int)) hc5; have pvc6 := amongV_mem hB (K := [0, 9999, 10000]) (by simp) hc5.1; generalize amongV B [0, 9999, 10000] c5 = vc6 at pc6 pvc6; generalize pickC B (([0, 9999, 10000] : List Int).length : Int) c5 = c6 at pc6 hc6; (first | refine callS.lend [0, 3] false pc6 (by decide) ⟨leO, leO, trivial⟩ (lendCur2 rfl rfl) (growCur2 B _ _) (.inl rfl) ?_ | refine callS.lend [0, 4] false pc6 (by decide) ⟨leO, leO, trivial⟩ (lendCur2 rfl rfl) (growCur2 B _ _) (.inl rfl) ?_ | refine callS.lend [0, 5] false pc6 (by decide) ⟨leO, leO, trivial⟩ (lendCur2 rfl rfl) (growCur2 B _ _) (.inl rfl) ?_ | refine callS.lend [0, 6] false pc6 (by decide) ⟨leO, leO, trivial⟩ (lendCur2 rfl rfl) (growCur2 B _ _) (.inl rfl) ?_ | refine callS.lend [0, 7] false pc6 (by decide) ⟨leO, leO, trivial⟩ (lendCur2 rfl rfl) (growCur2 B _ _) (.inl rfl) ?_ | refine callS.lend [0, 8] false pc6 (by decide) ⟨leO, leO, trivial⟩ (lendCur2 rfl rfl) (growCur2 B _ _) (.inl rfl) ?_)
    (repeat ((repeat1' (first | simp -implicitDefEqProofs -dsimp only [go_sem, Nat.reduceSub, Nat.reduceAdd, Nat.reduceMul, Nat.reduceLT, Nat.reduceLeDiff, Nat.reduceEqDiff, Nat.reduceDiv, Nat.reduceMod, Int.reduceToNat, Int.reduceLE, Int.reduceLT, Int.reduceBEq, Int.reduceBNe, Int.reduceNeg, Int.reduceAdd, Int.reduceSub, Int.reduceMul, reduceCtorEq, Cur.ren, map_ren_rows] | simp -implicitDefEqProofs -dsimp (disch := omega) only [wrap_i64])); repeat (with_reducible refine sideA ?_)))
    exact quake_fin rfl ⟨i64M (memR pvc6 (by decide)), htick, i64M hx, i64M hy, i64M (memR pvc1 (by decide)), i64M (memR pvc2 (by decide)), hgi⟩ (lmonoQ hc6 (by simp only [List.length_cons, List.length_nil] at *; omega))
  · (repeat ((repeat1' (first | simp -implicitDefEqProofs -dsimp only [go_sem, Nat.reduceSub, Nat.reduceAdd, Nat.reduceMul, Nat.reduceLT, Nat.reduceLeDiff, Nat.reduceEqDiff, Nat.reduceDiv, Nat.reduceMod, Int.reduceToNat, Int.reduceLE, Int.reduceLT, Int.reduceBEq, Int.reduceBNe, Int.reduceNeg, Int.reduceAdd, Int.reduceSub, Int.reduceMul, reduceCtorEq, h1] | simp -implicitDefEqProofs -dsimp (disch := omega) only [wrap_i64])); repeat (with_reducible refine sideA ?_)))
    refine condT.split (fun h2 => ?_) (fun h2 => ?_)
    · (repeat ((repeat1' (first | simp -implicitDefEqProofs -dsimp only [go_sem, Nat.reduceSub, Nat.reduceAdd, Nat.reduceMul, Nat.reduceLT, Nat.reduceLeDiff, Nat.reduceEqDiff, Nat.reduceDiv, Nat.reduceMod, Int.reduceToNat, Int.reduceLE, Int.reduceLT, Int.reduceBEq, Int.reduceBNe, Int.reduceNeg, Int.reduceAdd, Int.reduceSub, Int.reduceMul, reduceCtorEq, h2] | simp -implicitDefEqProofs -dsimp (disch := omega) only [wrap_i64])); repeat (with_reducible refine sideA ?_)))
      have pc6 := among_ok hB (hcb hc5 (by omega)) [-1, 1000001] (by simp) (by simp); have hc6 := pickC_le (B := B) (n := (([-1, 1000001] : List Int).length : Int)) hc5; have pvc6 := amongV_mem hB (K := [-1, 1000001]) (by simp) hc5.1; generalize amongV B [-1, 1000001] c5 = vc6 at pc6 pvc6; generalize pickC B (([-1, 1000001] : List Int).length : Int) c5 = c6 at pc6 hc6; (first | refine callS.lend [0, 3] false pc6 (by decide) ⟨leO, leO, trivial⟩ (lendCur2 rfl rfl) (growCur2 B _ _) (.inl rfl) ?_ | refine callS.lend [0, 4] false pc6 (by decide) ⟨leO, leO, trivial⟩ (lendCur2 rfl rfl) (growCur2 B _ _) (.inl rfl) ?_ | refine callS.lend [0, 5] false pc6 (by decide) ⟨leO, leO, trivial⟩ (lendCur2 rfl rfl) (growCur2 B _ _) (.inl rfl) ?_ | refine callS.lend [0, 6] false pc6 (by decide) ⟨leO, leO, trivial⟩ (lendCur2 rfl rfl) (growCur2 B _ _) (.inl rfl) ?_ | refine callS.lend [0, 7] false pc6 (by decide) ⟨leO, leO, trivial⟩ (lendCur2 rfl rfl) (growCur2 B _ _) (.inl rfl) ?_ | refine callS.lend [0, 8] false pc6 (by decide) ⟨leO, leO, trivial⟩ (lendCur2 rfl rfl) (growCur2 B _ _) (.inl rfl) ?_)
      (repeat ((repeat1' (first | simp -implicitDefEqProofs -dsimp only [go_sem, Nat.reduceSub, Nat.reduceAdd, Nat.reduceMul, Nat.reduceLT, Nat.reduceLeDiff, Nat.reduceEqDiff, Nat.reduceDiv, Nat.reduceMod, Int.reduceToNat, Int.reduceLE, Int.reduceLT, Int.reduceBEq, Int.reduceBNe, Int.reduceNeg, Int.reduceAdd, Int.reduceSub, Int.reduceMul, reduceCtorEq, Cur.ren, map_ren_rows] | simp -implicitDefEqProofs -dsimp (disch := omega) only [wrap_i64])); repeat (with_reducible refine sideA ?_)))
      exact quake_fin rfl ⟨hid, i64M (memR pvc6 (by decide)), i64M hx, i64M hy, i64M (memR pvc1 (by decide)), i64M (memR pvc2 (by decide)), hgi⟩ (lmonoQ hc6 (by simp only [List.length_cons, List.length_nil] at *; omega))
    · (repeat ((repeat1' (first | simp -implicitDefEqProofs -dsimp only [go_sem, Nat.reduceSub, Nat.reduceAdd, Nat.reduceMul, Nat.reduceLT, Nat.reduceLeDiff, Nat.reduceEqDiff, Nat.reduceDiv, Nat.reduceMod, Int.reduceToNat, Int.reduceLE, Int.reduceLT, Int.reduceBEq, Int.reduceBNe, Int.reduceNeg, Int.reduceAdd, Int.reduceSub, Int.reduceMul, reduceCtorEq, h2] | simp -implicitDefEqProofs -dsimp (disch := omega) only [wrap_i64])); repeat (with_reducible refine sideA ?_)))
      refine condT.split (fun h3 => ?_) (fun h3 => ?_)
      · (repeat ((repeat1' (first | simp -implicitDefEqProofs -dsimp only [go_sem, Nat.reduceSub, Nat.reduceAdd, Nat.reduceMul, Nat.reduceLT, Nat.reduceLeDiff, Nat.reduceEqDiff, Nat.reduceDiv, Nat.reduceMod, Int.reduceToNat, Int.reduceLE, Int.reduceLT, Int.reduceBEq, Int.reduceBNe, Int.reduceNeg, Int.reduceAdd, Int.reduceSub, Int.reduceMul, reduceCtorEq, h3] | simp -implicitDefEqProofs -dsimp (disch := omega) only [wrap_i64])); repeat (with_reducible refine sideA ?_)))
        have pc6 := among_ok hB (hcb hc5 (by omega)) [-1, 701] (by simp) (by simp); have hc6 := pickC_le (B := B) (n := (([-1, 701] : List Int).length : Int)) hc5; have pvc6 := amongV_mem hB (K := [-1, 701]) (by simp) hc5.1; generalize amongV B [-1, 701] c5 = vc6 at pc6 pvc6; generalize pickC B (([-1, 701] : List Int).length : Int) c5 = c6 at pc6 hc6; (first | refine callS.lend [0, 3] false pc6 (by decide) ⟨leO, leO, trivial⟩ (lendCur2 rfl rfl) (growCur2 B _ _) (.inl rfl) ?_ | refine callS.lend [0, 4] false pc6 (by decide) ⟨leO, leO, trivial⟩ (lendCur2 rfl rfl) (growCur2 B _ _) (.inl rfl) ?_ | refine callS.lend [0, 5] false pc6 (by decide) ⟨leO, leO, trivial⟩ (lendCur2 rfl rfl) (growCur2 B _ _) (.inl rfl) ?_ | refine callS.lend [0, 6] false pc6 (by decide) ⟨leO, leO, trivial⟩ (lendCur2 rfl rfl) (growCur2 B _ _) (.inl rfl) ?_ | refine callS.lend [0, 7] false pc6 (by decide) ⟨leO, leO, trivial⟩ (lendCur2 rfl rfl) (growCur2 B _ _) (.inl rfl) ?_ | refine callS.lend [0, 8] false pc6 (by decide) ⟨leO, leO, trivial⟩ (lendCur2 rfl rfl) (growCur2 B _ _) (.inl rfl) ?_)
        (repeat ((repeat1' (first | simp -implicitDefEqProofs -dsimp only [go_sem, Nat.reduceSub, Nat.reduceAdd, Nat.reduceMul, Nat.reduceLT, Nat.reduceLeDiff, Nat.reduceEqDiff, Nat.reduceDiv, Nat.reduceMod, Int.reduceToNat, Int.reduceLE, Int.reduceLT, Int.reduceBEq, Int.reduceBNe, Int.reduceNeg, Int.reduceAdd, Int.reduceSub, Int.reduceMul, reduceCtorEq, Cur.ren, map_ren_rows] | simp -implicitDefEqProofs -dsimp (disch := omega) only [wrap_i64])); repeat (with_reducible refine sideA ?_)))
        exact quake_fin rfl ⟨hid, htick, i64M hx, i64M hy, i64M (memR pvc6 (by decide)), i64M (memR pvc2 (by decide)), hgi⟩ (lmonoQ hc6 (by simp only [List.length_cons, List.length_nil] at *; omega))
      · (repeat ((repeat1' (first | simp -implicitDefEqProofs -dsimp only [go_sem, Nat.reduceSub, Nat.reduceAdd, Nat.reduceMul, Nat.reduceLT, Nat.reduceLeDiff, Nat.reduceEqDiff, Nat.reduceDiv, Nat.reduceMod, Int.reduceToNat, Int.reduceLE, Int.reduceLT, Int.reduceBEq, Int.reduceBNe, Int.reduceNeg, Int.reduceAdd, Int.reduceSub, Int.reduceMul, reduceCtorEq, h3] | simp -implicitDefEqProofs -dsimp (disch := omega) only [wrap_i64])); repeat (with_reducible refine sideA ?_)))
        refine condT.split (fun h4 => ?_) (fun h4 => ?_)
        · (repeat ((repeat1' (first | simp -implicitDefEqProofs -dsimp only [go_sem, Nat.reduceSub, Nat.reduceAdd, Nat.reduceMul, Nat.reduceLT, Nat.reduceLeDiff, Nat.reduceEqDiff, Nat.reduceDiv, Nat.reduceMod, Int.reduceToNat, Int.reduceLE, Int.reduceLT, Int.reduceBEq, Int.reduceBNe, Int.reduceNeg, Int.reduceAdd, Int.reduceSub, Int.reduceMul, reduceCtorEq, h4] | simp -implicitDefEqProofs -dsimp (disch := omega) only [wrap_i64])); repeat (with_reducible refine sideA ?_)))
          have pc6 := among_ok hB (hcb hc5 (by omega)) [-101, 1001] (by simp) (by simp); have hc6 := pickC_le (B := B) (n := (([-101, 1001] : List Int).length : Int)) hc5; have pvc6 := amongV_mem hB (K := [-101, 1001]) (by simp) hc5.1; generalize amongV B [-101, 1001] c5 = vc6 at pc6 pvc6; generalize pickC B (([-101, 1001] : List Int).length : Int) c5 = c6 at pc6 hc6; (first | refine callS.lend [0, 3] false pc6 (by decide) ⟨leO, leO, trivial⟩ (lendCur2 rfl rfl) (growCur2 B _ _) (.inl rfl) ?_ | refine callS.lend [0, 4] false pc6 (by decide) ⟨leO, leO, trivial⟩ (lendCur2 rfl rfl) (growCur2 B _ _) (.inl rfl) ?_ | refine callS.lend [0, 5] false pc6 (by decide) ⟨leO, leO, trivial⟩ (lendCur2 rfl rfl) (growCur2 B _ _) (.inl rfl) ?_ | refine callS.lend [0, 6] false pc6 (by decide) ⟨leO, leO, trivial⟩ (lendCur2 rfl rfl) (growCur2 B _ _) (.inl rfl) ?_ | refine callS.lend [0, 7] false pc6 (by decide) ⟨leO, leO, trivial⟩ (lendCur2 rfl rfl) (growCur2 B _ _) (.inl rfl) ?_ | refine callS.lend [0, 8] false pc6 (by decide) ⟨leO, leO, trivial⟩ (lendCur2 rfl rfl) (growCur2 B _ _) (.inl rfl) ?_)
          (repeat ((repeat1' (first | simp -implicitDefEqProofs -dsimp only [go_sem, Nat.reduceSub, Nat.reduceAdd, Nat.reduceMul, Nat.reduceLT, Nat.reduceLeDiff, Nat.reduceEqDiff, Nat.reduceDiv, Nat.reduceMod, Int.reduceToNat, Int.reduceLE, Int.reduceLT, Int.reduceBEq, Int.reduceBNe, Int.reduceNeg, Int.reduceAdd, Int.reduceSub, Int.reduceMul, reduceCtorEq, Cur.ren, map_ren_rows] | simp -implicitDefEqProofs -dsimp (disch := omega) only [wrap_i64])); repeat (with_reducible refine sideA ?_)))
          exact quake_fin rfl ⟨hid, htick, i64M hx, i64M hy, i64M (memR pvc1 (by decide)), i64M (memR pvc6 (by decide)), hgi⟩ (lmonoQ hc6 (by simp only [List.length_cons, List.length_nil] at *; omega))
        · (repeat ((repeat1' (first | simp -implicitDefEqProofs -dsimp only [go_sem, Nat.reduceSub, Nat.reduceAdd, Nat.reduceMul, Nat.reduceLT, Nat.reduceLeDiff, Nat.reduceEqDiff, Nat.reduceDiv, Nat.reduceMod, Int.reduceToNat, Int.reduceLE, Int.reduceLT, Int.reduceBEq, Int.reduceBNe, Int.reduceNeg, Int.reduceAdd, Int.reduceSub, Int.reduceMul, reduceCtorEq, h4] | simp -implicitDefEqProofs -dsimp (disch := omega) only [wrap_i64])); repeat (with_reducible refine sideA ?_)))
          refine condT.split (fun h5 => ?_) (fun h5 => ?_)
          · (repeat ((repeat1' (first | simp -implicitDefEqProofs -dsimp only [go_sem, Nat.reduceSub, Nat.reduceAdd, Nat.reduceMul, Nat.reduceLT, Nat.reduceLeDiff, Nat.reduceEqDiff, Nat.reduceDiv, Nat.reduceMod, Int.reduceToNat, Int.reduceLE, Int.reduceLT, Int.reduceBEq, Int.reduceBNe, Int.reduceNeg, Int.reduceAdd, Int.reduceSub, Int.reduceMul, reduceCtorEq, h5] | simp -implicitDefEqProofs -dsimp (disch := omega) only [wrap_i64])); repeat (with_reducible refine sideA ?_)))
            have pc6 := among_ok hB (hcb hc5 (by omega)) [0, 5] (by simp) (by simp); have hc6 := pickC_le (B := B) (n := (([0, 5] : List Int).length : Int)) hc5; have pvc6 := amongV_mem hB (K := [0, 5]) (by simp) hc5.1; generalize amongV B [0, 5] c5 = vc6 at pc6 pvc6; generalize pickC B (([0, 5] : List Int).length : Int) c5 = c6 at pc6 hc6; (first | refine callS.lend [0, 3] false pc6 (by decide) ⟨leO, leO, trivial⟩ (lendCur2 rfl rfl) (growCur2 B _ _) (.inl rfl) ?_ | refine callS.lend [0, 4] false pc6 (by decide) ⟨leO, leO, trivial⟩ (lendCur2 rfl rfl) (growCur2 B _ _) (.inl rfl) ?_ | refine callS.lend [0, 5] false pc6 (by decide) ⟨leO, leO, trivial⟩ (lendCur2 rfl rfl) (growCur2 B _ _) (.inl rfl) ?_ | refine callS.lend [0, 6] false pc6 (by decide) ⟨leO, leO, trivial⟩ (lendCur2 rfl rfl) (growCur2 B _ _) (.inl rfl) ?_ | refine callS.lend [0, 7] false pc6 (by decide) ⟨leO, leO, trivial⟩ (lendCur2 rfl rfl) (growCur2 B _ _) (.inl rfl) ?_ | refine callS.lend [0, 8] false pc6 (by decide) ⟨leO, leO, trivial⟩ (lendCur2 rfl rfl) (growCur2 B _ _) (.inl rfl) ?_)
            (repeat ((repeat1' (first | simp -implicitDefEqProofs -dsimp only [go_sem, Nat.reduceSub, Nat.reduceAdd, Nat.reduceMul, Nat.reduceLT, Nat.reduceLeDiff, Nat.reduceEqDiff, Nat.reduceDiv, Nat.reduceMod, Int.reduceToNat, Int.reduceLE, Int.reduceLT, Int.reduceBEq, Int.reduceBNe, Int.reduceNeg, Int.reduceAdd, Int.reduceSub, Int.reduceMul, reduceCtorEq, Cur.ren, map_ren_rows] | simp -implicitDefEqProofs -dsimp (disch := omega) only [wrap_i64])); repeat (with_reducible refine sideA ?_)))
            exact quake_fin rfl ⟨hid, htick, i64M hx, i64M hy, i64M (memR pvc1 (by decide)), i64M (memR pvc2 (by decide)), i64M (memR pvc6 (by decide))⟩ (lmonoQ hc6 (by simp only [List.length_cons, List.length_nil] at *; omega))
          · (repeat ((repeat1' (first | simp -implicitDefEqProofs -dsimp only [go_sem, Nat.reduceSub, Nat.reduceAdd, Nat.reduceMul, Nat.reduceLT, Nat.reduceLeDiff, Nat.reduceEqDiff, Nat.reduceDiv, Nat.reduceMod, Int.reduceToNat, Int.reduceLE, Int.reduceLT, Int.reduceBEq, Int.reduceBNe, Int.reduceNeg, Int.reduceAdd, Int.reduceSub, Int.reduceMul, reduceCtorEq, h5] | simp -implicitDefEqProofs -dsimp (disch := omega) only [wrap_i64])); repeat (with_reducible refine sideA ?_)))
            exact quake_fin rfl ⟨hid, htick, i64M hx, i64M hy, i64M (memR pvc1 (by decide)), i64M (memR pvc2 (by decide)), hgi⟩ (lmonoQ hc5 (by omega))
end Go.Proofs
end
section
set_option linter.unusedSimpArgs false
set_option linter.unusedVariables false
set_option maxRecDepth 100000
set_option maxHeartbeats 2000000
namespace Go.Proofs
open Go.Lv
def bulP (B : List Int) (k : Int) (r : V) (hout : Hp) : Prop := ∃ (L : List QuakeRow) (c : Cur), (∀ x ∈ L, x.ok) ∧ L.length ≤ 20 ∧ c.le k ∧ r = QuakeRow.sl L ∧ hout = [some (c.cs B)]
theorem bul_fin {B : List Int} {k : Int} {h : Hp} {L : List QuakeRow} {c : Cur} (h0 : h[0]? = some (some (c.cs B))) (h1 : h[1]? = some (some (rows QuakeRow.cs L))) (hL : ∀ x ∈ L, x.ok) (hl : L.length ≤ 20) (hc : c.le k) : RelR 1 (.osl 1 0 L.length 7) h (bulP B k) := by
  refine ⟨_, _, ⟨L, c, hL, hl, hc, rfl, rfl⟩, WeakR.pick [0] (by decide) (fun j hj => by cases j <;> simp_all) (.inl ?_) ?_⟩
  · simp [ren, pickF, posOf, frzR, h1, take_rows, map_ren_rows]
  · simp only [pickH, List.map_cons, List.map_nil, pickB, h0, Cur.ren]
theorem bulletin_ok {B : List Int} (hB : CB B) {k : Int} (hk : k ≤ 800000) {c : Cur} (hc : c.le k) : CtrP Try.prog 95 [.ptr 0 0] [some (c.cs B)] (bulP B (k + 700)) := by
  have hcb : ∀ {c' : Cur} {k' : Int}, c'.le k' → k' ≤ 4000000 → c'.le 4611686018427387903 := fun h h' => ⟨h.1, by have := h.2; omega⟩
  refine CtrP.intro Try.mixed Try.func95 rfl Try.okF95 ?_
  simp -implicitDefEqProofs -dsimp only [go_sem, Nat.reduceSub, Nat.reduceAdd, Nat.reduceMul, Nat.reduceLT, Nat.reduceLeDiff, Nat.reduceEqDiff, Nat.reduceDiv, Nat.reduceMod, Int.reduceToNat, Int.reduceLE, Int.reduceLT, Int.reduceBEq, Int.reduceBNe, Int.reduceNeg, Int.reduceAdd, Int.reduceSub, Int.reduceMul, reduceCtorEq, Try.ntmps95, Try.results95]
  (repeat ((repeat1' (first | simp -implicitDefEqProofs -dsimp only [go_sem, Nat.reduceSub, Nat.reduceAdd, Nat.reduceMul, Nat.reduceLT, Nat.reduceLeDiff, Nat.reduceEqDiff, Nat.reduceDiv, Nat.reduceMod, Int.reduceToNat, Int.reduceLE, Int.reduceLT, Int.reduceBEq, Int.reduceBNe, Int.reduceNeg, Int.reduceAdd, Int.reduceSub, Int.reduceMul, reduceCtorEq] | simp -implicitDefEqProofs -dsimp (disch := omega) only [wrap_i64])); repeat (with_reducible refine sideA ?_)))
  have pc1 := among_ok hB (hcb hc (by omega)) [0, 100, 990000] (by simp) (by simp); have hc1 := pickC_le (B := B) (n := (([0, 100, 990000] : List Int).length : Int)) hc; have pvc1 := amongV_mem hB (K := [0, 100, 990000]) (by simp) hc.1; generalize amongV B [0, 100, 990000] c = vc1 at pc1 pvc1; generalize pickC B (([0, 100, 990000] : List Int).length : Int) c = c1 at pc1 hc1; (first | refine callS.lend [0, 2] false pc1 (by decide) ⟨leO, leO, trivial⟩ (lendCur2 rfl rfl) (growCur2 B _ _) (.inl rfl) ?_)
  have ht1 : 0 ≤ vc1 ∧ vc1 ≤ 990000 := by
    simp at pvc1
    rcases pvc1 with rfl | rfl | rfl <;> omega
  (repeat ((repeat1' (first | simp -implicitDefEqProofs -dsimp only [go_sem, Nat.reduceSub, Nat.reduceAdd, Nat.reduceMul, Nat.reduceLT, Nat.reduceLeDiff, Nat.reduceEqDiff, Nat.reduceDiv, Nat.reduceMod, Int.reduceToNat, Int.reduceLE, Int.reduceLT, Int.reduceBEq, Int.reduceBNe, Int.reduceNeg, Int.reduceAdd, Int.reduceSub, Int.reduceMul, reduceCtorEq, Cur.ren, map_ren_rows] | simp -implicitDefEqProofs -dsimp (disch := omega) only [wrap_i64])); repeat (with_reducible refine sideA ?_)))
  have pc2 := pick_ok hB (hcb hc1 (by omega)) 8 (by omega); have hc2 := pickC_le (B := B) (n := 8) hc1; have pvc2 := pickV_bd hB (n := 8) hc1.1; generalize pickV B 8 c1 = vc2 at pc2 pvc2; generalize pickC B 8 c1 = c2 at pc2 hc2; refine callS.lend [0] false pc2 (by decide) ⟨leO, leO, trivial⟩ (lendCur rfl) (growCur B _ _) (.inl rfl) ?_
  (repeat ((repeat1' (first | simp -implicitDefEqProofs -dsimp only [go_sem, Nat.reduceSub, Nat.reduceAdd, Nat.reduceMul, Nat.reduceLT, Nat.reduceLeDiff, Nat.reduceEqDiff, Nat.reduceDiv, Nat.reduceMod, Int.reduceToNat, Int.reduceLE, Int.reduceLT, Int.reduceBEq, Int.reduceBNe, Int.reduceNeg, Int.reduceAdd, Int.reduceSub, Int.reduceMul, reduceCtorEq, Cur.ren, map_ren_rows] | simp -implicitDefEqProofs -dsimp (disch := omega) only [wrap_i64])); repeat (with_reducible refine sideA ?_)))
  obtain ⟨n0, hn0⟩ : ∃ n : Nat, vc2 = n := ⟨vc2.toNat, by omega⟩
  subst hn0
  refine LoopT.intro (fun x : Nat × List QuakeRow × Int × Cur => x.1 ≤ 7 ∧ x.2.1.length + x.1 ≤ 7 ∧ (∀ y ∈ x.2.1, y.ok) ∧ (0 ≤ x.2.2.1 ∧ x.2.2.1 ≤ 990000 + 900 * (7 - (x.1 : Int))) ∧ x.2.2.2.le (k + 10 + 60 * (7 - (x.1 : Int)))) (fun x => ⟨[.ptr 0 0, .undef, .undef, .osl 1 0 x.2.1.length 7, .int .i64 x.2.2.1, .int .i64 x.1, .undef, .undef, .undef, .undef, .undef, .undef, .undef, .undef, .undef, .undef, .undef, .undef, .undef, .undef, .undef, .undef, .undef, .undef, .undef, .undef, .undef, .undef, .undef, .undef, .undef, .undef, .undef, .undef, .undef, .undef, .undef, .undef, .undef, .undef, .undef, .undef, .undef, .undef, .undef, .undef, .undef, .undef, .undef, .undef, .undef, .undef, .undef, .undef, .undef, .undef, .undef, .undef, .undef, .undef, .undef, .undef, .undef, .undef], [some (x.2.2.2.cs B), some (rows QuakeRow.cs x.2.1)], 1⟩) (fun x => x.1) (n0, [], vc1, c2) ⟨by simp only []; omega, by simp only [List.length_nil]; omega, fun y hy => by simp at hy, ⟨by simp only []; omega, by simp only []; omega⟩, lmonoQ hc2 (by simp only [List.length_cons, List.length_nil]; omega)⟩ ?_ (fun x hx => ?_)
  · refine Weak.cut (2) (by simp) (by simp) ?_ ?_
    · simp [LeC, LeV, ren, cutF]
    · simp [cutH, cutB, Cur.ren, ren, rows]
  obtain ⟨n, L, tick, c3⟩ := x
  obtain ⟨x0, x1, x2, x3, hc3⟩ := hx
  dsimp only at x0 x1 x2 x3 hc3
  simp -implicitDefEqProofs -dsimp only [go_sem, Nat.reduceSub, Nat.reduceAdd, Nat.reduceMul, Nat.reduceLT, Nat.reduceLeDiff, Nat.reduceEqDiff, Nat.reduceDiv, Nat.reduceMod, Int.reduceToNat, Int.reduceLE, Int.reduceLT, Int.reduceBEq, Int.reduceBNe, Int.reduceNeg, Int.reduceAdd, Int.reduceSub, Int.reduceMul, reduceCtorEq]
  refine condT.split (fun h1 => ?_) (fun h1 => ?_)
  · have hn : 0 < n := by have := of_decide_eq_true h1; omega
    (repeat ((repeat1' (first | simp -implicitDefEqProofs -dsimp only [go_sem, Nat.reduceSub, Nat.reduceAdd, Nat.reduceMul, Nat.reduceLT, Nat.reduceLeDiff, Nat.reduceEqDiff, Nat.reduceDiv, Nat.reduceMod, Int.reduceToNat, Int.reduceLE, Int.reduceLT, Int.reduceBEq, Int.reduceBNe, Int.reduceNeg, Int.reduceAdd, Int.reduceSub, Int.reduceMul, reduceCtorEq, h1, map_ren_rows, take_rows, Cur.ren] | simp -implicitDefEqProofs -dsimp (disch := omega) only [wrap_i64])); repeat (with_reducible refine sideA ?_)))
    have pc4 := pick_ok hB (hcb hc3 (by omega)) 12 (by omega); have hc4 := pickC_le (B := B) (n := 12) hc3; have pvc4 := pickV_bd hB (n := 12) hc3.1; generalize pickV B 12 c3 = vc4 at pc4 pvc4; generalize pickC B 12 c3 = c4 at pc4 hc4; refine callS.lend [0] false pc4 (by decide) ⟨leO, leO, trivial⟩ (lendCur rfl) (growCur B _ _) (.inl rfl) ?_
    have hwp : IntKind.i64.wrap (1 + vc4) = 1 + vc4 := wrap_i64 (by omega) (by omega)
    (repeat ((repeat1' (first | simp -implicitDefEqProofs -dsimp only [go_sem, Nat.reduceSub, Nat.reduceAdd, Nat.reduceMul, Nat.reduceLT, Nat.reduceLeDiff, Nat.reduceEqDiff, Nat.reduceDiv, Nat.reduceMod, Int.reduceToNat, Int.reduceLE, Int.reduceLT, Int.reduceBEq, Int.reduceBNe, Int.reduceNeg, Int.reduceAdd, Int.reduceSub, Int.reduceMul, reduceCtorEq, Cur.ren, map_ren_rows, hwp] | simp -implicitDefEqProofs -dsimp (disch := omega) only [wrap_i64])); repeat (with_reducible refine sideA ?_)))
    refine callS.rel [0] (quake_ok hB (by omega) hc4 (1 + vc4) tick ⟨by omega, by omega⟩ ⟨by omega, by omega⟩) (by decide) ⟨leO, leO, leO, trivial⟩ (lendCur rfl) rfl (fun r hout hΦ => ?_)
    obtain ⟨q, c5, hq, hc5, rfl, rfl⟩ := hΦ
    refine ⟨⟨⟨rfl, rfl⟩, trivial⟩, ?_⟩
    have hsn : rows QuakeRow.cs L ++ [.int .i64 q.Id, .int .i64 q.Tick, .int .i64 q.X, .int .i64 q.Y, .int .i64 q.Deep, .int .i64 q.Size, .int .i64 q.Grade] = rows QuakeRow.cs (L ++ [q]) := rows_snoc L q
    have hll : (L ++ [q]).length = L.length + 1 := by simp
    have hLq : ∀ y ∈ L ++ [q], y.ok := by
      intro y hy
      rcases List.mem_append.1 hy with h | h
      · exact x2 y h
      · rw [List.mem_singleton.1 h]; exact hq
    (repeat ((repeat1' (first | simp -implicitDefEqProofs -dsimp only [go_sem, Nat.reduceSub, Nat.reduceAdd, Nat.reduceMul, Nat.reduceLT, Nat.reduceLeDiff, Nat.reduceEqDiff, Nat.reduceDiv, Nat.reduceMod, Int.reduceToNat, Int.reduceLE, Int.reduceLT, Int.reduceBEq, Int.reduceBNe, Int.reduceNeg, Int.reduceAdd, Int.reduceSub, Int.reduceMul, reduceCtorEq, Cur.ren, map_ren_rows, QuakeRow.v, hsn] | simp -implicitDefEqProofs -dsimp (disch := omega) only [wrap_i64])); repeat (with_reducible refine sideA ?_)))
    have hn1 : ((n - 1 : Nat) : Int) = (n : Int) - 1 := by omega
    (first | refine callT.at (l24Good_ok (L ++ [q]) (by omega)) ⟨leA, trivial⟩ ?_ | refine callS.at (l24Good_ok (L ++ [q]) (by omega)) ⟨leA, trivial⟩ ?_)
    (repeat ((repeat1' (first | simp -implicitDefEqProofs -dsimp only [go_sem, Nat.reduceSub, Nat.reduceAdd, Nat.reduceMul, Nat.reduceLT, Nat.reduceLeDiff, Nat.reduceEqDiff, Nat.reduceDiv, Nat.reduceMod, Int.reduceToNat, Int.reduceLE, Int.reduceLT, Int.reduceBEq, Int.reduceBNe, Int.reduceNeg, Int.reduceAdd, Int.reduceSub, Int.reduceMul, reduceCtorEq] | simp -implicitDefEqProofs -dsimp (disch := omega) only [wrap_i64])); repeat (with_reducible refine sideA ?_)))
    cases hgd : bulB (L ++ [q]) with
    | true =>
      (repeat ((repeat1' (first | simp -implicitDefEqProofs -dsimp only [go_sem, Nat.reduceSub, Nat.reduceAdd, Nat.reduceMul, Nat.reduceLT, Nat.reduceLeDiff, Nat.reduceEqDiff, Nat.reduceDiv, Nat.reduceMod, Int.reduceToNat, Int.reduceLE, Int.reduceLT, Int.reduceBEq, Int.reduceBNe, Int.reduceNeg, Int.reduceAdd, Int.reduceSub, Int.reduceMul, reduceCtorEq, hgd] | simp -implicitDefEqProofs -dsimp (disch := omega) only [wrap_i64])); repeat (with_reducible refine sideA ?_)))
      obtain ⟨c6, hc6e⟩ : ∃ c6, c6 = c5 := ⟨_, rfl⟩
      rw [← hc6e] at hc5 ⊢
      have hc6 : c6.le (k + 10 + 60 * (7 - (n : Int)) + 40) := lmonoQ hc5 (by omega)
      have pc7 := among_ok hB (hcb hc6 (by omega)) [1, 200, 300, 301, 900] (by simp) (by simp); have hc7 := pickC_le (B := B) (n := (([1, 200, 300, 301, 900] : List Int).length : Int)) hc6; have pvc7 := amongV_mem hB (K := [1, 200, 300, 301, 900]) (by simp) hc6.1; generalize amongV B [1, 200, 300, 301, 900] c6 = vc7 at pc7 pvc7; generalize pickC B (([1, 200, 300, 301, 900] : List Int).length : Int) c6 = c7 at pc7 hc7; (first | refine callS.lend [0, 3] false pc7 (by decide) ⟨leO, leO, trivial⟩ (lendCur2 rfl rfl) (growCur2 B _ _) (.inl rfl) ?_ | refine callS.lend [0, 4] false pc7 (by decide) ⟨leO, leO, trivial⟩ (lendCur2 rfl rfl) (growCur2 B _ _) (.inl rfl) ?_ | refine callS.lend [0, 5] false pc7 (by decide) ⟨leO, leO, trivial⟩ (lendCur2 rfl rfl) (growCur2 B _ _) (.inl rfl) ?_ | refine callS.lend [0, 6] false pc7 (by decide) ⟨leO, leO, trivial⟩ (lendCur2 rfl rfl) (growCur2 B _ _) (.inl rfl) ?_ | refine callS.lend [0, 7] false pc7 (by decide) ⟨leO, leO, trivial⟩ (lendCur2 rfl rfl) (growCur2 B _ _) (.inl rfl) ?_ | refine callS.lend [0, 8] false pc7 (by decide) ⟨leO, leO, trivial⟩ (lendCur2 rfl rfl) (growCur2 B _ _) (.inl rfl) ?_)
      have ht7 : 1 ≤ vc7 ∧ vc7 ≤ 900 := by
        simp at pvc7
        rcases pvc7 with rfl | rfl | rfl | rfl | rfl <;> omega
      have hw7 : IntKind.i64.wrap (tick + vc7) = tick + vc7 := wrap_i64 (by omega) (by omega)
      (repeat ((repeat1' (first | simp -implicitDefEqProofs -dsimp only [go_sem, Nat.reduceSub, Nat.reduceAdd, Nat.reduceMul, Nat.reduceLT, Nat.reduceLeDiff, Nat.reduceEqDiff, Nat.reduceDiv, Nat.reduceMod, Int.reduceToNat, Int.reduceLE, Int.reduceLT, Int.reduceBEq, Int.reduceBNe, Int.reduceNeg, Int.reduceAdd, Int.reduceSub, Int.reduceMul, reduceCtorEq, Cur.ren, map_ren_rows, hw7] | simp -implicitDefEqProofs -dsimp (disch := omega) only [wrap_i64])); repeat (with_reducible refine sideA ?_)))
      refine ⟨(n - 1, L ++ [q], tick + vc7, c7), ⟨by simp only []; omega, by simp only []; omega, hLq, ⟨by simp only []; omega, by simp only []; omega⟩, lmonoQ hc7 (by simp only []; omega)⟩, ?_, by simp only []; omega⟩
      refine Weak.pick [0, 2] (by decide) (fun j hj => by cases j <;> simp_all) ?_ ?_
      · simp [LeG, LeC, LeV, ren, pickF, posOf, hn1]
      · simp [pickH, pickB, Cur.ren, ren, map_ren_rows]
    | false =>
      (repeat ((repeat1' (first | simp -implicitDefEqProofs -dsimp only [go_sem, Nat.reduceSub, Nat.reduceAdd, Nat.reduceMul, Nat.reduceLT, Nat.reduceLeDiff, Nat.reduceEqDiff, Nat.reduceDiv, Nat.reduceMod, Int.reduceToNat, Int.reduceLE, Int.reduceLT, Int.reduceBEq, Int.reduceBNe, Int.reduceNeg, Int.reduceAdd, Int.reduceSub, Int.reduceMul, reduceCtorEq, hgd] | simp -implicitDefEqProofs -dsimp (disch := omega) only [wrap_i64])); repeat (with_reducible refine sideA ?_)))
      have pc6 := one_ok hB (hcb hc5 (by omega)) 60 (by omega); have hc6 := pickC_le (B := B) (n := 60) hc5; generalize oneV B 60 c5 = vc6 at pc6; generalize pickC B 60 c5 = c6 at pc6 hc6; refine callS.lend [0] false pc6 (by decide) ⟨leO, leO, trivial⟩ (lendCur rfl) (growCur B _ _) (.inl rfl) ?_
      (repeat ((repeat1' (first | simp -implicitDefEqProofs -dsimp only [go_sem, Nat.reduceSub, Nat.reduceAdd, Nat.reduceMul, Nat.reduceLT, Nat.reduceLeDiff, Nat.reduceEqDiff, Nat.reduceDiv, Nat.reduceMod, Int.reduceToNat, Int.reduceLE, Int.reduceLT, Int.reduceBEq, Int.reduceBNe, Int.reduceNeg, Int.reduceAdd, Int.reduceSub, Int.reduceMul, reduceCtorEq, Cur.ren, map_ren_rows] | simp -implicitDefEqProofs -dsimp (disch := omega) only [wrap_i64])); repeat (with_reducible refine sideA ?_)))
      have hc6 : c6.le (k + 10 + 60 * (7 - (n : Int)) + 40) := lmonoQ hc6 (by omega)
      refine condT.split (fun h3 => ?_) (fun h3 => ?_)
      · (repeat ((repeat1' (first | simp -implicitDefEqProofs -dsimp only [go_sem, Nat.reduceSub, Nat.reduceAdd, Nat.reduceMul, Nat.reduceLT, Nat.reduceLeDiff, Nat.reduceEqDiff, Nat.reduceDiv, Nat.reduceMod, Int.reduceToNat, Int.reduceLE, Int.reduceLT, Int.reduceBEq, Int.reduceBNe, Int.reduceNeg, Int.reduceAdd, Int.reduceSub, Int.reduceMul, reduceCtorEq, h3] | simp -implicitDefEqProofs -dsimp (disch := omega) only [wrap_i64])); repeat (with_reducible refine sideA ?_)))
        have pc7 := among_ok hB (hcb hc6 (by omega)) [1, 200, 300, 301, 900] (by simp) (by simp); have hc7 := pickC_le (B := B) (n := (([1, 200, 300, 301, 900] : List Int).length : Int)) hc6; have pvc7 := amongV_mem hB (K := [1, 200, 300, 301, 900]) (by simp) hc6.1; generalize amongV B [1, 200, 300, 301, 900] c6 = vc7 at pc7 pvc7; generalize pickC B (([1, 200, 300, 301, 900] : List Int).length : Int) c6 = c7 at pc7 hc7; (first | refine callS.lend [0, 3] false pc7 (by decide) ⟨leO, leO, trivial⟩ (lendCur2 rfl rfl) (growCur2 B _ _) (.inl rfl) ?_ | refine callS.lend [0, 4] false pc7 (by decide) ⟨leO, leO, trivial⟩ (lendCur2 rfl rfl) (growCur2 B _ _) (.inl rfl) ?_ | refine callS.lend [0, 5] false pc7 (by decide) ⟨leO, leO, trivial⟩ (lendCur2 rfl rfl) (growCur2 B _ _) (.inl rfl) ?_ | refine callS.lend [0, 6] false pc7 (by decide) ⟨leO, leO, trivial⟩ (lendCur2 rfl rfl) (growCur2 B _ _) (.inl rfl) ?_ | refine callS.lend [0, 7] false pc7 (by decide) ⟨leO, leO, trivial⟩ (lendCur2 rfl rfl) (growCur2 B _ _) (.inl rfl) ?_ | refine callS.lend [0, 8] false pc7 (by decide) ⟨leO, leO, trivial⟩ (lendCur2 rfl rfl) (growCur2 B _ _) (.inl rfl) ?_)
        have ht7 : 1 ≤ vc7 ∧ vc7 ≤ 900 := by
          simp at pvc7
          rcases pvc7 with rfl | rfl | rfl | rfl | rfl <;> omega
        have hw7 : IntKind.i64.wrap (tick + vc7) = tick + vc7 := wrap_i64 (by omega) (by omega)
        (repeat ((repeat1' (first | simp -implicitDefEqProofs -dsimp only [go_sem, Nat.reduceSub, Nat.reduceAdd, Nat.reduceMul, Nat.reduceLT, Nat.reduceLeDiff, Nat.reduceEqDiff, Nat.reduceDiv, Nat.reduceMod, Int.reduceToNat, Int.reduceLE, Int.reduceLT, Int.reduceBEq, Int.reduceBNe, Int.reduceNeg, Int.reduceAdd, Int.reduceSub, Int.reduceMul, reduceCtorEq, Cur.ren, map_ren_rows, hw7] | simp -implicitDefEqProofs -dsimp (disch := omega) only [wrap_i64])); repeat (with_reducible refine sideA ?_)))
        refine ⟨(n - 1, L ++ [q], tick + vc7, c7), ⟨by simp only []; omega, by simp only []; omega, hLq, ⟨by simp only []; omega, by simp only []; omega⟩, lmonoQ hc7 (by simp only []; omega)⟩, ?_, by simp only []; omega⟩
        refine Weak.pick [0, 2] (by decide) (fun j hj => by cases j <;> simp_all) ?_ ?_
        · simp [LeG, LeC, LeV, ren, pickF, posOf, hn1]
        · simp [pickH, pickB, Cur.ren, ren, map_ren_rows]
      · (repeat ((repeat1' (first | simp -implicitDefEqProofs -dsimp only [go_sem, Nat.reduceSub, Nat.reduceAdd, Nat.reduceMul, Nat.reduceLT, Nat.reduceLeDiff, Nat.reduceEqDiff, Nat.reduceDiv, Nat.reduceMod, Int.reduceToNat, Int.reduceLE, Int.reduceLT, Int.reduceBEq, Int.reduceBNe, Int.reduceNeg, Int.reduceAdd, Int.reduceSub, Int.reduceMul, reduceCtorEq, h3] | simp -implicitDefEqProofs -dsimp (disch := omega) only [wrap_i64])); repeat (with_reducible refine sideA ?_)))
        have pc7 := among_ok hB (hcb hc6 (by omega)) [1, 200, 300, 301, 900] (by simp) (by simp); have hc7 := pickC_le (B := B) (n := (([1, 200, 300, 301, 900] : List Int).length : Int)) hc6; have pvc7 := amongV_mem hB (K := [1, 200, 300, 301, 900]) (by simp) hc6.1; generalize amongV B [1, 200, 300, 301, 900] c6 = vc7 at pc7 pvc7; generalize pickC B (([1, 200, 300, 301, 900] : List Int).length : Int) c6 = c7 at pc7 hc7; (first | refine callS.lend [0, 3] false pc7 (by decide) ⟨leO, leO, trivial⟩ (lendCur2 rfl rfl) (growCur2 B _ _) (.inl rfl) ?_ | refine callS.lend [0, 4] false pc7 (by decide) ⟨leO, leO, trivial⟩ (lendCur2 rfl rfl) (growCur2 B _ _) (.inl rfl) ?_ | refine callS.lend [0, 5] false pc7 (by decide) ⟨leO, leO, trivial⟩ (lendCur2 rfl rfl) (growCur2 B _ _) (.inl rfl) ?_ | refine callS.lend [0, 6] false pc7 (by decide) ⟨leO, leO, trivial⟩ (lendCur2 rfl rfl) (growCur2 B _ _) (.inl rfl) ?_ | refine callS.lend [0, 7] false pc7 (by decide) ⟨leO, leO, trivial⟩ (lendCur2 rfl rfl) (growCur2 B _ _) (.inl rfl) ?_ | refine callS.lend [0, 8] false pc7 (by decide) ⟨leO, leO, trivial⟩ (lendCur2 rfl rfl) (growCur2 B _ _) (.inl rfl) ?_)
        have ht7 : 1 ≤ vc7 ∧ vc7 ≤ 900 := by
          simp at pvc7
          rcases pvc7 with rfl | rfl | rfl | rfl | rfl <;> omega
        have hw7 : IntKind.i64.wrap (tick + vc7) = tick + vc7 := wrap_i64 (by omega) (by omega)
        (repeat ((repeat1' (first | simp -implicitDefEqProofs -dsimp only [go_sem, Nat.reduceSub, Nat.reduceAdd, Nat.reduceMul, Nat.reduceLT, Nat.reduceLeDiff, Nat.reduceEqDiff, Nat.reduceDiv, Nat.reduceMod, Int.reduceToNat, Int.reduceLE, Int.reduceLT, Int.reduceBEq, Int.reduceBNe, Int.reduceNeg, Int.reduceAdd, Int.reduceSub, Int.reduceMul, reduceCtorEq, Cur.ren, map_ren_rows, hw7] | simp -implicitDefEqProofs -dsimp (disch := omega) only [wrap_i64])); repeat (with_reducible refine sideA ?_)))
        refine ⟨(n - 1, L, tick + vc7, c7), ⟨by simp only []; omega, by simp only []; omega, x2, ⟨by simp only []; omega, by simp only []; omega⟩, lmonoQ hc7 (by simp only []; omega)⟩, ?_, by simp only []; omega⟩
        refine Weak.pick [0, 1] (by decide) (fun j hj => by cases j <;> simp_all) ?_ ?_
        · simp [LeG, LeC, LeV, ren, pickF, posOf, hn1]
        · simp [pickH, pickB, Cur.ren, ren, map_ren_rows]
  · (repeat ((repeat1' (first | simp -implicitDefEqProofs -dsimp only [go_sem, Nat.reduceSub, Nat.reduceAdd, Nat.reduceMul, Nat.reduceLT, Nat.reduceLeDiff, Nat.reduceEqDiff, Nat.reduceDiv, Nat.reduceMod, Int.reduceToNat, Int.reduceLE, Int.reduceLT, Int.reduceBEq, Int.reduceBNe, Int.reduceNeg, Int.reduceAdd, Int.reduceSub, Int.reduceMul, reduceCtorEq, h1] | simp -implicitDefEqProofs -dsimp (disch := omega) only [wrap_i64])); repeat (with_reducible refine sideA ?_)))
    have pc9 := one_ok hB (hcb hc3 (by omega)) 24 (by omega); have hc9 := pickC_le (B := B) (n := 24) hc3; generalize oneV B 24 c3 = vc9 at pc9; generalize pickC B 24 c3 = c9 at pc9 hc9; refine callS.lend [0] false pc9 (by decide) ⟨leO, leO, trivial⟩ (lendCur rfl) (growCur B _ _) (.inl rfl) ?_
    (repeat ((repeat1' (first | simp -implicitDefEqProofs -dsimp only [go_sem, Nat.reduceSub, Nat.reduceAdd, Nat.reduceMul, Nat.reduceLT, Nat.reduceLeDiff, Nat.reduceEqDiff, Nat.reduceDiv, Nat.reduceMod, Int.reduceToNat, Int.reduceLE, Int.reduceLT, Int.reduceBEq, Int.reduceBNe, Int.reduceNeg, Int.reduceAdd, Int.reduceSub, Int.reduceMul, reduceCtorEq, Cur.ren, map_ren_rows] | simp -implicitDefEqProofs -dsimp (disch := omega) only [wrap_i64])); repeat (with_reducible refine sideA ?_)))
    refine condT.split (fun g1 => ?_) (fun g1 => ?_)
    · (repeat ((repeat1' (first | simp -implicitDefEqProofs -dsimp only [go_sem, Nat.reduceSub, Nat.reduceAdd, Nat.reduceMul, Nat.reduceLT, Nat.reduceLeDiff, Nat.reduceEqDiff, Nat.reduceDiv, Nat.reduceMod, Int.reduceToNat, Int.reduceLE, Int.reduceLT, Int.reduceBEq, Int.reduceBNe, Int.reduceNeg, Int.reduceAdd, Int.reduceSub, Int.reduceMul, reduceCtorEq, g1] | simp -implicitDefEqProofs -dsimp (disch := omega) only [wrap_i64])); repeat (with_reducible refine sideA ?_)))
      refine LoopT.intro (fun x : Nat × List QuakeRow × Cur => x.1 ≤ 13 ∧ x.2.1.length = x.1 ∧ (∀ y ∈ x.2.1, y.ok) ∧ x.2.2.le (k + 600 + 3 * (x.1 : Int))) (fun x => ⟨[.ptr 0 0, .undef, .undef, .osl 1 0 x.2.1.length 7, .undef, .undef, .undef, .int .i64 x.1, .undef, .undef, .undef, .undef, .undef, .undef, .undef, .undef, .undef, .undef, .undef, .undef, .undef, .undef, .undef, .undef, .undef, .undef, .undef, .undef, .undef, .undef, .undef, .undef, .undef, .undef, .undef, .undef, .undef, .undef, .undef, .undef, .undef, .undef, .undef, .undef, .undef, .undef, .undef, .undef, .undef, .undef, .undef, .undef, .undef, .undef, .undef, .undef, .undef, .undef, .undef, .undef, .undef, .undef, .undef, .undef], [some (x.2.2.cs B), some (rows QuakeRow.cs x.2.1)], 1⟩) (fun x => 14 - x.1) (0, [], c9) ⟨by simp only []; omega, rfl, fun y hy => by simp at hy, lmonoQ hc9 (by simp only []; omega)⟩ ?_ (fun x hx => ?_)
      · refine Weak.pick [0, 2] (by decide) (fun j hj => by cases j <;> simp_all) ?_ ?_
        · simp [LeG, LeC, LeV, ren, pickF, posOf]
        · simp [pickH, pickB, Cur.ren, ren, rows]
      obtain ⟨n, L2, c10⟩ := x
      obtain ⟨n1, n2, n3, hc10⟩ := hx
      dsimp only at n1 n2 n3 hc10
      simp -implicitDefEqProofs -dsimp only [go_sem, Nat.reduceSub, Nat.reduceAdd, Nat.reduceMul, Nat.reduceLT, Nat.reduceLeDiff, Nat.reduceEqDiff, Nat.reduceDiv, Nat.reduceMod, Int.reduceToNat, Int.reduceLE, Int.reduceLT, Int.reduceBEq, Int.reduceBNe, Int.reduceNeg, Int.reduceAdd, Int.reduceSub, Int.reduceMul, reduceCtorEq]
      have pc11 := pick_ok hB (hcb hc10 (by omega)) 2 (by omega); have hc11 := pickC_le (B := B) (n := 2) hc10; have pvc11 := pickV_bd hB (n := 2) hc10.1; generalize pickV B 2 c10 = vc11 at pc11 pvc11; generalize pickC B 2 c10 = c11 at pc11 hc11; refine callS.lend [0] false pc11 (by decide) ⟨leO, leO, trivial⟩ (lendCur rfl) (growCur B _ _) (.inl rfl) ?_
      have hwp : IntKind.i64.wrap (12 + vc11) = 12 + vc11 := wrap_i64 (by omega) (by omega)
      (repeat ((repeat1' (first | simp -implicitDefEqProofs -dsimp only [go_sem, Nat.reduceSub, Nat.reduceAdd, Nat.reduceMul, Nat.reduceLT, Nat.reduceLeDiff, Nat.reduceEqDiff, Nat.reduceDiv, Nat.reduceMod, Int.reduceToNat, Int.reduceLE, Int.reduceLT, Int.reduceBEq, Int.reduceBNe, Int.reduceNeg, Int.reduceAdd, Int.reduceSub, Int.reduceMul, reduceCtorEq, Cur.ren, map_ren_rows, hwp] | simp -implicitDefEqProofs -dsimp (disch := omega) only [wrap_i64])); repeat (with_reducible refine sideA ?_)))
      refine condT.split (fun g2 => ?_) (fun g2 => ?_)
      · have hn : n < 13 := by have := of_decide_eq_true g2; omega
        have hw1 : IntKind.i64.wrap ((n : Int) + 1) = ((n + 1 : Nat) : Int) := by rw [wrap_i64 (by omega) (by omega)]; omega
        have hw2 : IntKind.i64.wrap (50 * (n : Int)) = ((50 * n : Nat) : Int) := by rw [wrap_i64 (by omega) (by omega)]; omega
        have hw3 : IntKind.i64.wrap (60 * (n : Int)) = ((60 * n : Nat) : Int) := by rw [wrap_i64 (by omega) (by omega)]; omega
        have hw4 : Int.tmod ((60 * n : Nat) : Int) 700 = ((60 * n % 700 : Nat) : Int) := rfl
        have hsn : rows QuakeRow.cs L2 ++ [.int .i64 ((n + 1 : Nat) : Int), .int .i64 ((50 * n : Nat) : Int), .int .i64 n, .int .i64 0, .int .i64 ((60 * n % 700 : Nat) : Int), .int .i64 0, .int .i64 2] = rows QuakeRow.cs (L2 ++ [⟨((n + 1 : Nat) : Int), ((50 * n : Nat) : Int), n, 0, ((60 * n % 700 : Nat) : Int), 0, 2⟩]) := rows_snoc (cs := QuakeRow.cs) L2 ⟨((n + 1 : Nat) : Int), ((50 * n : Nat) : Int), n, 0, ((60 * n % 700 : Nat) : Int), 0, 2⟩
        (repeat ((repeat1' (first | simp -implicitDefEqProofs -dsimp only [go_sem, Nat.reduceSub, Nat.reduceAdd, Nat.reduceMul, Nat.reduceLT, Nat.reduceLeDiff, Nat.reduceEqDiff, Nat.reduceDiv, Nat.reduceMod, Int.reduceToNat, Int.reduceLE, Int.reduceLT, Int.reduceBEq, Int.reduceBNe, Int.reduceNeg, Int.reduceAdd, Int.reduceSub, Int.reduceMul, reduceCtorEq, g2, hw1, hw2, hw3, hw4, map_ren_rows, Cur.ren, hsn] | simp -implicitDefEqProofs -dsimp (disch := omega) only [wrap_i64])); repeat (with_reducible refine sideA ?_)))
        refine ⟨(n + 1, L2 ++ [⟨((n + 1 : Nat) : Int), ((50 * n : Nat) : Int), n, 0, ((60 * n % 700 : Nat) : Int), 0, 2⟩], c11), ⟨by simp only []; omega, by simp only [List.length_append, List.length_cons, List.length_nil]; omega, fun y hy => ?_, lmonoQ hc11 (by simp only []; omega)⟩, ?_, by simp only []; omega⟩
        · rcases List.mem_append.1 hy with h | h
          · exact n3 y h
          · rw [List.mem_singleton.1 h]
            exact ⟨⟨by simp only []; omega, by simp only []; omega⟩, ⟨by simp only []; omega, by simp only []; omega⟩, ⟨by simp only []; omega, by simp only []; omega⟩, by simp [i64R], ⟨by simp only []; omega, by simp only []; omega⟩, by simp [i64R], by simp [i64R]⟩
        · refine Weak.cut (2) (by simp) (by simp) ?_ ?_
          · simp [LeC, LeV, ren, cutF]
          · simp [cutH, cutB, Cur.ren, ren, map_ren_rows]
      · (repeat ((repeat1' (first | simp -implicitDefEqProofs -dsimp only [go_sem, Nat.reduceSub, Nat.reduceAdd, Nat.reduceMul, Nat.reduceLT, Nat.reduceLeDiff, Nat.reduceEqDiff, Nat.reduceDiv, Nat.reduceMod, Int.reduceToNat, Int.reduceLE, Int.reduceLT, Int.reduceBEq, Int.reduceBNe, Int.reduceNeg, Int.reduceAdd, Int.reduceSub, Int.reduceMul, reduceCtorEq, g2] | simp -implicitDefEqProofs -dsimp (disch := omega) only [wrap_i64])); repeat (with_reducible refine sideA ?_)))
        exact bul_fin rfl rfl n3 (by omega) (lmonoQ hc11 (by omega))
    · (repeat ((repeat1' (first | simp -implicitDefEqProofs -dsimp only [go_sem, Nat.reduceSub, Nat.reduceAdd, Nat.reduceMul, Nat.reduceLT, Nat.reduceLeDiff, Nat.reduceEqDiff, Nat.reduceDiv, Nat.reduceMod, Int.reduceToNat, Int.reduceLE, Int.reduceLT, Int.reduceBEq, Int.reduceBNe, Int.reduceNeg, Int.reduceAdd, Int.reduceSub, Int.reduceMul, reduceCtorEq, g1] | simp -implicitDefEqProofs -dsimp (disch := omega) only [wrap_i64])); repeat (with_reducible refine sideA ?_)))
      exact bul_fin rfl rfl x2 (by omega) (lmonoQ hc9 (by omega))
end Go.Proofs
end
section
set_option linter.unusedSimpArgs false
set_option linter.unusedVariables false
set_option maxRecDepth 100000
set_option maxHeartbeats 2000000
namespace Go.Proofs
open Go.Lv
def okQ (L : List QuakeRow) : Prop := (∀ x ∈ L, x.ok) ∧ L.length ≤ 20
def okI (v : Int) : Prop := -10000000 ≤ v ∧ v ≤ 10000000
def dQuietP (r : V) (hout : Hp) : Prop := ∃ (L : List QuakeRow) (s : Int), okQ L ∧ okI s ∧ r = .tup [QuakeRow.sl L, .int .i64 s] ∧ hout = []
def dNearP (r : V) (hout : Hp) : Prop := ∃ (L : List QuakeRow) (x y f : Int), okQ L ∧ okI x ∧ okI y ∧ okI f ∧ r = .tup [QuakeRow.sl L, .int .i64 x, .int .i64 y, .int .i64 f] ∧ hout = []
def dDepthP (r : V) (hout : Hp) : Prop := ∃ (L : List QuakeRow) (K : List Int), okQ L ∧ (∀ x ∈ K, okI x) ∧ K.length ≤ 20 ∧ r = .tup [QuakeRow.sl L, IntS.sl K] ∧ hout = []
def dBothP (r : V) (hout : Hp) : Prop := ∃ (L M : List QuakeRow), okQ L ∧ okQ M ∧ r = .tup [QuakeRow.sl L, QuakeRow.sl M] ∧ hout = []
theorem quo11 {x : Int} (h : 0 ≤ x ∧ (1 ≤ (24 : Int) → x < 24)) : ∃ j : Nat, Int.tdiv x 11 = j ∧ j ≤ 2 := by
  obtain ⟨n, rfl⟩ : ∃ n : Nat, x = n := ⟨x.toNat, by omega⟩
  refine ⟨n / 11, rfl, by omega⟩
theorem wrap4 {j : Nat} (h : j ≤ 2) : IntKind.i64.wrap (4 + (j : Int)) = ((4 + j : Nat) : Int) := by
  rw [wrap_i64 (by omega) (by omega)]; omega
theorem curq_le {k : Int} (h : 0 ≤ k) : (Cur.mk 0 0).le k := ⟨by simp, by simpa using h⟩
theorem drawQuietRun_ok {B : List Int} (hB : CB B) : CtrP Try.prog 40 [ByteS.sl B] [] dQuietP := by
  have hcb : ∀ {c' : Cur} {k' : Int}, c'.le k' → k' ≤ 4000000 → c'.le 4611686018427387903 := fun h h' => ⟨h.1, by have := h.2; omega⟩
  obtain ⟨c, hcd⟩ : ∃ c : Cur, c = ⟨0, 0⟩ := ⟨_, rfl⟩
  have hc : c.le 0 := by rw [hcd]; exact curq_le (by omega)
  have hcc : c.cs B = [ByteS.sl B, .int .i64 0, .int .u64 0] := by rw [hcd]; rfl
  refine CtrP.intro Try.mixed Try.func40 rfl Try.okF40 ?_
  simp -implicitDefEqProofs -dsimp only [go_sem, Nat.reduceSub, Nat.reduceAdd, Nat.reduceMul, Nat.reduceLT, Nat.reduceLeDiff, Nat.reduceEqDiff, Nat.reduceDiv, Nat.reduceMod, Int.reduceToNat, Int.reduceLE, Int.reduceLT, Int.reduceBEq, Int.reduceBNe, Int.reduceNeg, Int.reduceAdd, Int.reduceSub, Int.reduceMul, reduceCtorEq, Try.ntmps40, Try.results40]
  (repeat ((repeat1' (first | simp -implicitDefEqProofs -dsimp only [go_sem, Nat.reduceSub, Nat.reduceAdd, Nat.reduceMul, Nat.reduceLT, Nat.reduceLeDiff, Nat.reduceEqDiff, Nat.reduceDiv, Nat.reduceMod, Int.reduceToNat, Int.reduceLE, Int.reduceLT, Int.reduceBEq, Int.reduceBNe, Int.reduceNeg, Int.reduceAdd, Int.reduceSub, Int.reduceMul, reduceCtorEq, ByteS.sl] | simp -implicitDefEqProofs -dsimp (disch := omega) only [wrap_i64])); repeat (with_reducible refine sideA ?_)))
  rw [← ByteS.sl, ← hcc]
  refine callS.rel [0] (bulletin_ok hB (by omega) hc) (by decide) ⟨leO, trivial⟩ (lendCur rfl) rfl (fun r hout hΦ => ?_)
  obtain ⟨L, c1, x1, x2, hc1, rfl, rfl⟩ := hΦ
  refine ⟨⟨⟨rfl, rfl⟩, trivial⟩, ?_⟩
  (repeat ((repeat1' (first | simp -implicitDefEqProofs -dsimp only [go_sem, Nat.reduceSub, Nat.reduceAdd, Nat.reduceMul, Nat.reduceLT, Nat.reduceLeDiff, Nat.reduceEqDiff, Nat.reduceDiv, Nat.reduceMod, Int.reduceToNat, Int.reduceLE, Int.reduceLT, Int.reduceBEq, Int.reduceBNe, Int.reduceNeg, Int.reduceAdd, Int.reduceSub, Int.reduceMul, reduceCtorEq, Cur.ren, map_ren_rows] | simp -implicitDefEqProofs -dsimp (disch := omega) only [wrap_i64])); repeat (with_reducible refine sideA ?_)))
  have pc2 := pick_ok hB (hcb hc1 (by omega)) 24 (by omega); have hc2 := pickC_le (B := B) (n := 24) hc1; have pvc2 := pickV_bd hB (n := 24) hc1.1; generalize pickV B 24 c1 = vc2 at pc2 pvc2; generalize pickC B 24 c1 = c2 at pc2 hc2; refine callS.lend [0] false pc2 (by decide) ⟨leO, leO, trivial⟩ (lendCur rfl) (growCur B _ _) (.inl rfl) ?_
  obtain ⟨j1, hj1, hjb1⟩ := quo11 pvc2
  have hw1 := wrap4 hjb1
  (repeat ((repeat1' (first | simp -implicitDefEqProofs -dsimp only [go_sem, Nat.reduceSub, Nat.reduceAdd, Nat.reduceMul, Nat.reduceLT, Nat.reduceLeDiff, Nat.reduceEqDiff, Nat.reduceDiv, Nat.reduceMod, Int.reduceToNat, Int.reduceLE, Int.reduceLT, Int.reduceBEq, Int.reduceBNe, Int.reduceNeg, Int.reduceAdd, Int.reduceSub, Int.reduceMul, reduceCtorEq, Cur.ren, map_ren_rows, hj1, hw1] | simp -implicitDefEqProofs -dsimp (disch := omega) only [wrap_i64])); repeat (with_reducible refine sideA ?_)))
  have e1 : (4 + (j1 : Int)).toNat - 0 = 4 + j1 := by omega
  simp only [e1]
  have pc3 := amongN_ok hB (hcb hc2 (by omega)) [-100, 0, 250, 1000, -101, 1001] (n := (4 + j1)) (by omega) (by simp only [List.length_cons, List.length_nil]; omega) (by simp); have hc3 := pickC_le (B := B) (n := (((4 + j1) : Nat) : Int)) hc2; have pvc3 := amongNV_mem hB (K := [-100, 0, 250, 1000, -101, 1001]) (n := (4 + j1)) (by omega) (by simp only [List.length_cons, List.length_nil]; omega) hc2.1; generalize amongNV B [-100, 0, 250, 1000, -101, 1001] (4 + j1) c2 = vc3 at pc3 pvc3; generalize pickC B (((4 + j1) : Nat) : Int) c2 = c3 at pc3 hc3; (first | refine callS.lend [0, 1] false pc3 (by decide) ⟨leO, leO, trivial⟩ (lendCur2 rfl rfl) (growCur2 B _ _) (.inl rfl) ?_)
  (repeat ((repeat1' (first | simp -implicitDefEqProofs -dsimp only [go_sem, Nat.reduceSub, Nat.reduceAdd, Nat.reduceMul, Nat.reduceLT, Nat.reduceLeDiff, Nat.reduceEqDiff, Nat.reduceDiv, Nat.reduceMod, Int.reduceToNat, Int.reduceLE, Int.reduceLT, Int.reduceBEq, Int.reduceBNe, Int.reduceNeg, Int.reduceAdd, Int.reduceSub, Int.reduceMul, reduceCtorEq, Cur.ren, map_ren_rows] | simp -implicitDefEqProofs -dsimp (disch := omega) only [wrap_i64])); repeat (with_reducible refine sideA ?_)))
  exact ⟨_, _, ⟨L, vc3, ⟨x1, x2⟩, memR pvc3 (by decide), rfl, rfl⟩, WeakR.drop' rfl (by simp [noOwn, rows_noOwn])⟩
theorem drawQuakesNear_ok {B : List Int} (hB : CB B) : CtrP Try.prog 43 [ByteS.sl B] [] dNearP := by
  have hcb : ∀ {c' : Cur} {k' : Int}, c'.le k' → k' ≤ 4000000 → c'.le 4611686018427387903 := fun h h' => ⟨h.1, by have := h.2; omega⟩
  obtain ⟨c, hcd⟩ : ∃ c : Cur, c = ⟨0, 0⟩ := ⟨_, rfl⟩
  have hc : c.le 0 := by rw [hcd]; exact curq_le (by omega)
  have hcc : c.cs B = [ByteS.sl B, .int .i64 0, .int .u64 0] := by rw [hcd]; rfl
  refine CtrP.intro Try.mixed Try.func43 rfl Try.okF43 ?_
  simp -implicitDefEqProofs -dsimp only [go_sem, Nat.reduceSub, Nat.reduceAdd, Nat.reduceMul, Nat.reduceLT, Nat.reduceLeDiff, Nat.reduceEqDiff, Nat.reduceDiv, Nat.reduceMod, Int.reduceToNat, Int.reduceLE, Int.reduceLT, Int.reduceBEq, Int.reduceBNe, Int.reduceNeg, Int.reduceAdd, Int.reduceSub, Int.reduceMul, reduceCtorEq, Try.ntmps43, Try.results43]
  (repeat ((repeat1' (first | simp -implicitDefEqProofs -dsimp only [go_sem, Nat.reduceSub, Nat.reduceAdd, Nat.reduceMul, Nat.reduceLT, Nat.reduceLeDiff, Nat.reduceEqDiff, Nat.reduceDiv, Nat.reduceMod, Int.reduceToNat, Int.reduceLE, Int.reduceLT, Int.reduceBEq, Int.reduceBNe, Int.reduceNeg, Int.reduceAdd, Int.reduceSub, Int.reduceMul, reduceCtorEq, ByteS.sl] | simp -implicitDefEqProofs -dsimp (disch := omega) only [wrap_i64])); repeat (with_reducible refine sideA ?_)))
  rw [← ByteS.sl, ← hcc]
  refine callS.rel [0] (bulletin_ok hB (by omega) hc) (by decide) ⟨leO, trivial⟩ (lendCur rfl) rfl (fun r hout hΦ => ?_)
  obtain ⟨L, c1, x1, x2, hc1, rfl, rfl⟩ := hΦ
  refine ⟨⟨⟨rfl, rfl⟩, trivial⟩, ?_⟩
  (repeat ((repeat1' (first | simp -implicitDefEqProofs -dsimp only [go_sem, Nat.reduceSub, Nat.reduceAdd, Nat.reduceMul, Nat.reduceLT, Nat.reduceLeDiff, Nat.reduceEqDiff, Nat.reduceDiv, Nat.reduceMod, Int.reduceToNat, Int.reduceLE, Int.reduceLT, Int.reduceBEq, Int.reduceBNe, Int.reduceNeg, Int.reduceAdd, Int.reduceSub, Int.reduceMul, reduceCtorEq, Cur.ren, map_ren_rows] | simp -implicitDefEqProofs -dsimp (disch := omega) only [wrap_i64])); repeat (with_reducible refine sideA ?_)))
  refine callS.rel [0] (place_ok hB (by omega) hc1) (by decide) ⟨leO, trivial⟩ (lendCur rfl) rfl (fun r hout hΦ => ?_)
  obtain ⟨x, y, c2, hx, hy, hc2, rfl, rfl⟩ := hΦ
  refine ⟨⟨⟨rfl, rfl⟩, trivial⟩, ?_⟩
  (repeat ((repeat1' (first | simp -implicitDefEqProofs -dsimp only [go_sem, Nat.reduceSub, Nat.reduceAdd, Nat.reduceMul, Nat.reduceLT, Nat.reduceLeDiff, Nat.reduceEqDiff, Nat.reduceDiv, Nat.reduceMod, Int.reduceToNat, Int.reduceLE, Int.reduceLT, Int.reduceBEq, Int.reduceBNe, Int.reduceNeg, Int.reduceAdd, Int.reduceSub, Int.reduceMul, reduceCtorEq, Cur.ren, map_ren_rows] | simp -implicitDefEqProofs -dsimp (disch := omega) only [wrap_i64])); repeat (with_reducible refine sideA ?_)))
  have pc3 := pick_ok hB (hcb hc2 (by omega)) 24 (by omega); have hc3 := pickC_le (B := B) (n := 24) hc2; have pvc3 := pickV_bd hB (n := 24) hc2.1; generalize pickV B 24 c2 = vc3 at pc3 pvc3; generalize pickC B 24 c2 = c3 at pc3 hc3; refine callS.lend [0] false pc3 (by decide) ⟨leO, leO, trivial⟩ (lendCur rfl) (growCur B _ _) (.inl rfl) ?_
  obtain ⟨j1, hj1, hjb1⟩ := quo11 pvc3
  have hw1 := wrap5 hjb1
  (repeat ((repeat1' (first | simp -implicitDefEqProofs -dsimp only [go_sem, Nat.reduceSub, Nat.reduceAdd, Nat.reduceMul, Nat.reduceLT, Nat.reduceLeDiff, Nat.reduceEqDiff, Nat.reduceDiv, Nat.reduceMod, Int.reduceToNat, Int.reduceLE, Int.reduceLT, Int.reduceBEq, Int.reduceBNe, Int.reduceNeg, Int.reduceAdd, Int.reduceSub, Int.reduceMul, reduceCtorEq, Cur.ren, map_ren_rows, hj1, hw1] | simp -implicitDefEqProofs -dsimp (disch := omega) only [wrap_i64])); repeat (with_reducible refine sideA ?_)))
  have e1 : (5 + (j1 : Int)).toNat - 0 = 5 + j1 := by omega
  simp only [e1]
  have pc4 := amongN_ok hB (hcb hc3 (by omega)) [0, 5, 12, 60, 1500, -1, 1501] (n := (5 + j1)) (by omega) (by simp only [List.length_cons, List.length_nil]; omega) (by simp); have hc4 := pickC_le (B := B) (n := (((5 + j1) : Nat) : Int)) hc3; have pvc4 := amongNV_mem hB (K := [0, 5, 12, 60, 1500, -1, 1501]) (n := (5 + j1)) (by omega) (by simp only [List.length_cons, List.length_nil]; omega) hc3.1; generalize amongNV B [0, 5, 12, 60, 1500, -1, 1501] (5 + j1) c3 = vc4 at pc4 pvc4; generalize pickC B (((5 + j1) : Nat) : Int) c3 = c4 at pc4 hc4; (first | refine callS.lend [0, 1] false pc4 (by decide) ⟨leO, leO, trivial⟩ (lendCur2 rfl rfl) (growCur2 B _ _) (.inl rfl) ?_)
  (repeat ((repeat1' (first | simp -implicitDefEqProofs -dsimp only [go_sem, Nat.reduceSub, Nat.reduceAdd, Nat.reduceMul, Nat.reduceLT, Nat.reduceLeDiff, Nat.reduceEqDiff, Nat.reduceDiv, Nat.reduceMod, Int.reduceToNat, Int.reduceLE, Int.reduceLT, Int.reduceBEq, Int.reduceBNe, Int.reduceNeg, Int.reduceAdd, Int.reduceSub, Int.reduceMul, reduceCtorEq, Cur.ren, map_ren_rows] | simp -implicitDefEqProofs -dsimp (disch := omega) only [wrap_i64])); repeat (with_reducible refine sideA ?_)))
  refine ⟨_, _, ⟨L, x, y, vc4, ⟨x1, x2⟩, hx, hy, memR pvc4 (by decide), rfl, rfl⟩, WeakR.drop' rfl ?_⟩
  first | rfl | (simp [noOwn, rows_noOwn]; done)
theorem fin_two {h : Hp} {i : Nat} {α : Type} {cs : α → List V} {w : Nat} [FlatP cs w] {K : List α} {L : List QuakeRow} (hi : h[i]? = some (some (rows cs K))) : WeakR 0 (.tup [QuakeRow.sl L, .osl i 0 K.length w]) h (.tup [QuakeRow.sl L, .sl K.length w (rows cs K)]) [] := by
  refine WeakR.pick [] (by decide) (fun j hj => by omega) (.inl ?_) ?_
  · simp [ren, pickF, posOf, frzR, hi, take_rows, map_ren_rows]
  · rfl
theorem drawDepthCounts_ok {B : List Int} (hB : CB B) : CtrP Try.prog 35 [ByteS.sl B] [] dDepthP := by
  have hcb : ∀ {c' : Cur} {k' : Int}, c'.le k' → k' ≤ 4000000 → c'.le 4611686018427387903 := fun h h' => ⟨h.1, by have := h.2; omega⟩
  obtain ⟨c, hcd⟩ : ∃ c : Cur, c = ⟨0, 0⟩ := ⟨_, rfl⟩
  have hc : c.le 0 := by rw [hcd]; exact curq_le (by omega)
  have hcc : c.cs B = [ByteS.sl B, .int .i64 0, .int .u64 0] := by rw [hcd]; rfl
  refine CtrP.intro Try.mixed Try.func35 rfl Try.okF35 ?_
  simp -implicitDefEqProofs -dsimp only [go_sem, Nat.reduceSub, Nat.reduceAdd, Nat.reduceMul, Nat.reduceLT, Nat.reduceLeDiff, Nat.reduceEqDiff, Nat.reduceDiv, Nat.reduceMod, Int.reduceToNat, Int.reduceLE, Int.reduceLT, Int.reduceBEq, Int.reduceBNe, Int.reduceNeg, Int.reduceAdd, Int.reduceSub, Int.reduceMul, reduceCtorEq, Try.ntmps35, Try.results35]
  (repeat ((repeat1' (first | simp -implicitDefEqProofs -dsimp only [go_sem, Nat.reduceSub, Nat.reduceAdd, Nat.reduceMul, Nat.reduceLT, Nat.reduceLeDiff, Nat.reduceEqDiff, Nat.reduceDiv, Nat.reduceMod, Int.reduceToNat, Int.reduceLE, Int.reduceLT, Int.reduceBEq, Int.reduceBNe, Int.reduceNeg, Int.reduceAdd, Int.reduceSub, Int.reduceMul, reduceCtorEq, ByteS.sl] | simp -implicitDefEqProofs -dsimp (disch := omega) only [wrap_i64])); repeat (with_reducible refine sideA ?_)))
  rw [← ByteS.sl, ← hcc]
  refine callS.rel [0] (bulletin_ok hB (by omega) hc) (by decide) ⟨leO, trivial⟩ (lendCur rfl) rfl (fun r hout hΦ => ?_)
  obtain ⟨L, c1, x1, x2, hc1, rfl, rfl⟩ := hΦ
  refine ⟨⟨⟨rfl, rfl⟩, trivial⟩, ?_⟩
  (repeat ((repeat1' (first | simp -implicitDefEqProofs -dsimp only [go_sem, Nat.reduceSub, Nat.reduceAdd, Nat.reduceMul, Nat.reduceLT, Nat.reduceLeDiff, Nat.reduceEqDiff, Nat.reduceDiv, Nat.reduceMod, Int.reduceToNat, Int.reduceLE, Int.reduceLT, Int.reduceBEq, Int.reduceBNe, Int.reduceNeg, Int.reduceAdd, Int.reduceSub, Int.reduceMul, reduceCtorEq, Cur.ren, map_ren_rows] | simp -implicitDefEqProofs -dsimp (disch := omega) only [wrap_i64])); repeat (with_reducible refine sideA ?_)))
  have pc2 := pick_ok hB (hcb hc1 (by omega)) 4 (by omega); have hc2 := pickC_le (B := B) (n := 4) hc1; have pvc2 := pickV_bd hB (n := 4) hc1.1; generalize pickV B 4 c1 = vc2 at pc2 pvc2; generalize pickC B 4 c1 = c2 at pc2 hc2; refine callS.lend [0] false pc2 (by decide) ⟨leO, leO, trivial⟩ (lendCur rfl) (growCur B _ _) (.inl rfl) ?_
  have hw2 : IntKind.i64.wrap (1 + vc2) = 1 + vc2 := wrap_i64 (by omega) (by omega)
  (repeat ((repeat1' (first | simp -implicitDefEqProofs -dsimp only [go_sem, Nat.reduceSub, Nat.reduceAdd, Nat.reduceMul, Nat.reduceLT, Nat.reduceLeDiff, Nat.reduceEqDiff, Nat.reduceDiv, Nat.reduceMod, Int.reduceToNat, Int.reduceLE, Int.reduceLT, Int.reduceBEq, Int.reduceBNe, Int.reduceNeg, Int.reduceAdd, Int.reduceSub, Int.reduceMul, reduceCtorEq, Cur.ren, map_ren_rows, hw2] | simp -implicitDefEqProofs -dsimp (disch := omega) only [wrap_i64])); repeat (with_reducible refine sideA ?_)))
  obtain ⟨n0, hn0⟩ : ∃ n : Nat, 1 + vc2 = n := ⟨(1 + vc2).toNat, by omega⟩
  rw [hn0]
  refine LoopT.intro (fun x : Nat × List Int × Int × Cur => x.1 ≤ 4 ∧ x.2.1.length + x.1 ≤ 4 ∧ (∀ y ∈ x.2.1, okI y) ∧ (0 ≤ x.2.2.1 ∧ x.2.2.1 ≤ 100 * (4 - (x.1 : Int))) ∧ x.2.2.2.le (1000 + 3 * (4 - (x.1 : Int)))) (fun x => ⟨[.undef, .undef, .undef, .undef, .ptr 0 0, QuakeRow.sl L, .osl 1 0 x.2.1.length 1, .int .i64 x.2.2.1, .int .i64 x.1, .undef, .undef, .undef, .undef, .undef, .undef, .undef, .undef, .undef, .undef, .undef, .undef, .undef, .undef, .undef, .undef, .undef, .undef, .undef, .undef, .undef, .undef, .undef, .undef, .undef, .undef, .undef, .undef, .undef, .undef, .undef, .undef, .undef, .undef, .undef, .undef, .undef, .undef, .undef, .undef, .undef, .undef, .undef, .undef, .undef, .undef, .undef, .undef, .undef, .undef, .undef], [some (x.2.2.2.cs B), some (rows IntS.cs x.2.1)], 0⟩) (fun x => x.1) (n0, [], 0, c2) ⟨by simp only []; omega, by simp only [List.length_nil]; omega, fun y hy => by simp at hy, ⟨by simp, by simp only []; omega⟩, lmonoQ hc2 (by simp only []; omega)⟩ ?_ (fun x hx => ?_)
  · refine Weak.cut (2) (by simp) (by simp) ?_ ?_
    · simp [LeC, LeV, ren, cutF]
    · simp [cutH, cutB, Cur.ren, ren, rows]
  obtain ⟨n, K, lim, c3⟩ := x
  obtain ⟨y0, y1, y2, y3, hc3⟩ := hx
  dsimp only at y0 y1 y2 y3 hc3
  simp -implicitDefEqProofs -dsimp only [go_sem, Nat.reduceSub, Nat.reduceAdd, Nat.reduceMul, Nat.reduceLT, Nat.reduceLeDiff, Nat.reduceEqDiff, Nat.reduceDiv, Nat.reduceMod, Int.reduceToNat, Int.reduceLE, Int.reduceLT, Int.reduceBEq, Int.reduceBNe, Int.reduceNeg, Int.reduceAdd, Int.reduceSub, Int.reduceMul, reduceCtorEq]
  refine condT.split (fun h1 => ?_) (fun h1 => ?_)
  · have hn : 0 < n := by have := of_decide_eq_true h1; omega
    (repeat ((repeat1' (first | simp -implicitDefEqProofs -dsimp only [go_sem, Nat.reduceSub, Nat.reduceAdd, Nat.reduceMul, Nat.reduceLT, Nat.reduceLeDiff, Nat.reduceEqDiff, Nat.reduceDiv, Nat.reduceMod, Int.reduceToNat, Int.reduceLE, Int.reduceLT, Int.reduceBEq, Int.reduceBNe, Int.reduceNeg, Int.reduceAdd, Int.reduceSub, Int.reduceMul, reduceCtorEq, h1, map_ren_rows, Cur.ren] | simp -implicitDefEqProofs -dsimp (disch := omega) only [wrap_i64])); repeat (with_reducible refine sideA ?_)))
    have pc4 := among_ok hB (hcb hc3 (by omega)) [1, 9, 25, 100] (by simp) (by simp); have hc4 := pickC_le (B := B) (n := (([1, 9, 25, 100] : List Int).length : Int)) hc3; have pvc4 := amongV_mem hB (K := [1, 9, 25, 100]) (by simp) hc3.1; generalize amongV B [1, 9, 25, 100] c3 = vc4 at pc4 pvc4; generalize pickC B (([1, 9, 25, 100] : List Int).length : Int) c3 = c4 at pc4 hc4; (first | refine callS.lend [0, 2] false pc4 (by decide) ⟨leO, leO, trivial⟩ (lendCur2 rfl rfl) (growCur2 B _ _) (.inl rfl) ?_)
    have hv4 : 1 ≤ vc4 ∧ vc4 ≤ 100 := by
      simp at pvc4
      rcases pvc4 with rfl | rfl | rfl | rfl <;> omega
    have hw4 : IntKind.i64.wrap (lim + vc4) = lim + vc4 := wrap_i64 (by omega) (by omega)
    have hsn : rows IntS.cs K ++ [.int .i64 (lim + vc4)] = rows IntS.cs (K ++ [lim + vc4]) := rows_snoc (cs := IntS.cs) K (lim + vc4)
    (repeat ((repeat1' (first | simp -implicitDefEqProofs -dsimp only [go_sem, Nat.reduceSub, Nat.reduceAdd, Nat.reduceMul, Nat.reduceLT, Nat.reduceLeDiff, Nat.reduceEqDiff, Nat.reduceDiv, Nat.reduceMod, Int.reduceToNat, Int.reduceLE, Int.reduceLT, Int.reduceBEq, Int.reduceBNe, Int.reduceNeg, Int.reduceAdd, Int.reduceSub, Int.reduceMul, reduceCtorEq, Cur.ren, map_ren_rows, hw4, hsn] | simp -implicitDefEqProofs -dsimp (disch := omega) only [wrap_i64])); repeat (with_reducible refine sideA ?_)))
    have hn1 : ((n - 1 : Nat) : Int) = (n : Int) - 1 := by omega
    refine ⟨(n - 1, K ++ [lim + vc4], lim + vc4, c4), ⟨by simp only []; omega, by simp only [List.length_append, List.length_cons, List.length_nil]; omega, fun y hy => ?_, ⟨by simp only []; omega, by simp only []; omega⟩, lmonoQ hc4 (by simp only [List.length_cons, List.length_nil]; omega)⟩, ?_, by simp only []; omega⟩
    · rcases List.mem_append.1 hy with h | h
      · exact y2 y h
      · rw [List.mem_singleton.1 h]; exact ⟨by omega, by omega⟩
    · refine Weak.cut (2) (by simp) (by simp) ?_ ?_
      · simp [LeC, LeV, ren, cutF, hn1]
      · simp [cutH, cutB, Cur.ren, ren, map_ren_rows]
  · (repeat ((repeat1' (first | simp -implicitDefEqProofs -dsimp only [go_sem, Nat.reduceSub, Nat.reduceAdd, Nat.reduceMul, Nat.reduceLT, Nat.reduceLeDiff, Nat.reduceEqDiff, Nat.reduceDiv, Nat.reduceMod, Int.reduceToNat, Int.reduceLE, Int.reduceLT, Int.reduceBEq, Int.reduceBNe, Int.reduceNeg, Int.reduceAdd, Int.reduceSub, Int.reduceMul, reduceCtorEq, h1, map_ren_rows, Cur.ren] | simp -implicitDefEqProofs -dsimp (disch := omega) only [wrap_i64])); repeat (with_reducible refine sideA ?_)))
    have pc5 := pick_ok hB (hcb hc3 (by omega)) 24 (by omega); have hc5 := pickC_le (B := B) (n := 24) hc3; have pvc5 := pickV_bd hB (n := 24) hc3.1; generalize pickV B 24 c3 = vc5 at pc5 pvc5; generalize pickC B 24 c3 = c5 at pc5 hc5; refine callS.lend [0] false pc5 (by decide) ⟨leO, leO, trivial⟩ (lendCur rfl) (growCur B _ _) (.inl rfl) ?_
    (repeat ((repeat1' (first | simp -implicitDefEqProofs -dsimp only [go_sem, Nat.reduceSub, Nat.reduceAdd, Nat.reduceMul, Nat.reduceLT, Nat.reduceLeDiff, Nat.reduceEqDiff, Nat.reduceDiv, Nat.reduceMod, Int.reduceToNat, Int.reduceLE, Int.reduceLT, Int.reduceBEq, Int.reduceBNe, Int.reduceNeg, Int.reduceAdd, Int.reduceSub, Int.reduceMul, reduceCtorEq, Cur.ren, map_ren_rows] | simp -implicitDefEqProofs -dsimp (disch := omega) only [wrap_i64])); repeat (with_reducible refine sideA ?_)))
    refine condT.split (fun h2 => ?_) (fun h2 => ?_)
    · (repeat ((repeat1' (first | simp -implicitDefEqProofs -dsimp only [go_sem, Nat.reduceSub, Nat.reduceAdd, Nat.reduceMul, Nat.reduceLT, Nat.reduceLeDiff, Nat.reduceEqDiff, Nat.reduceDiv, Nat.reduceMod, Int.reduceToNat, Int.reduceLE, Int.reduceLT, Int.reduceBEq, Int.reduceBNe, Int.reduceNeg, Int.reduceAdd, Int.reduceSub, Int.reduceMul, reduceCtorEq, h2] | simp -implicitDefEqProofs -dsimp (disch := omega) only [wrap_i64])); repeat (with_reducible refine sideA ?_)))
      refine ⟨_, _, ⟨L, [], ⟨x1, x2⟩, fun y hy => by simp at hy, by simp, rfl, rfl⟩, ?_⟩
      exact fin_two (cs := IntS.cs) (K := ([] : List Int)) rfl
    · (repeat ((repeat1' (first | simp -implicitDefEqProofs -dsimp only [go_sem, Nat.reduceSub, Nat.reduceAdd, Nat.reduceMul, Nat.reduceLT, Nat.reduceLeDiff, Nat.reduceEqDiff, Nat.reduceDiv, Nat.reduceMod, Int.reduceToNat, Int.reduceLE, Int.reduceLT, Int.reduceBEq, Int.reduceBNe, Int.reduceNeg, Int.reduceAdd, Int.reduceSub, Int.reduceMul, reduceCtorEq, h2] | simp -implicitDefEqProofs -dsimp (disch := omega) only [wrap_i64])); repeat (with_reducible refine sideA ?_)))
      refine condT.split (fun h3 => ?_) (fun h3 => ?_)
      · (repeat ((repeat1' (first | simp -implicitDefEqProofs -dsimp only [go_sem, Nat.reduceSub, Nat.reduceAdd, Nat.reduceMul, Nat.reduceLT, Nat.reduceLeDiff, Nat.reduceEqDiff, Nat.reduceDiv, Nat.reduceMod, Int.reduceToNat, Int.reduceLE, Int.reduceLT, Int.reduceBEq, Int.reduceBNe, Int.reduceNeg, Int.reduceAdd, Int.reduceSub, Int.reduceMul, reduceCtorEq, h3] | simp -implicitDefEqProofs -dsimp (disch := omega) only [wrap_i64])); repeat (with_reducible refine sideA ?_)))
        have pc6 := among_ok hB (hcb hc5 (by omega)) [1, 701] (by simp) (by simp); have hc6 := pickC_le (B := B) (n := (([1, 701] : List Int).length : Int)) hc5; have pvc6 := amongV_mem hB (K := [1, 701]) (by simp) hc5.1; generalize amongV B [1, 701] c5 = vc6 at pc6 pvc6; generalize pickC B (([1, 701] : List Int).length : Int) c5 = c6 at pc6 hc6; (first | refine callS.lend [0, 2] false pc6 (by decide) ⟨leO, leO, trivial⟩ (lendCur2 rfl rfl) (growCur2 B _ _) (.inl rfl) ?_)
        have hsn : rows IntS.cs K ++ [.int .i64 vc6] = rows IntS.cs (K ++ [vc6]) := rows_snoc (cs := IntS.cs) K vc6
        (repeat ((repeat1' (first | simp -implicitDefEqProofs -dsimp only [go_sem, Nat.reduceSub, Nat.reduceAdd, Nat.reduceMul, Nat.reduceLT, Nat.reduceLeDiff, Nat.reduceEqDiff, Nat.reduceDiv, Nat.reduceMod, Int.reduceToNat, Int.reduceLE, Int.reduceLT, Int.reduceBEq, Int.reduceBNe, Int.reduceNeg, Int.reduceAdd, Int.reduceSub, Int.reduceMul, reduceCtorEq, Cur.ren, map_ren_rows, hsn] | simp -implicitDefEqProofs -dsimp (disch := omega) only [wrap_i64])); repeat (with_reducible refine sideA ?_)))
        have hkl : K.length + 1 = (K ++ [vc6]).length := by simp
        rw [hkl]
        refine ⟨_, _, ⟨L, K ++ [vc6], ⟨x1, x2⟩, fun y hy => ?_, by simp only [List.length_append, List.length_cons, List.length_nil]; omega, rfl, rfl⟩, fin_two rfl⟩
        rcases List.mem_append.1 hy with h | h
        · exact y2 y h
        · rw [List.mem_singleton.1 h]; exact memR pvc6 (by decide)
      · (repeat ((repeat1' (first | simp -implicitDefEqProofs -dsimp only [go_sem, Nat.reduceSub, Nat.reduceAdd, Nat.reduceMul, Nat.reduceLT, Nat.reduceLeDiff, Nat.reduceEqDiff, Nat.reduceDiv, Nat.reduceMod, Int.reduceToNat, Int.reduceLE, Int.reduceLT, Int.reduceBEq, Int.reduceBNe, Int.reduceNeg, Int.reduceAdd, Int.reduceSub, Int.reduceMul, reduceCtorEq, h3] | simp -implicitDefEqProofs -dsimp (disch := omega) only [wrap_i64])); repeat (with_reducible refine sideA ?_)))
        refine condT.split (fun h4 => ?_) (fun h4 => ?_)
        · (repeat ((repeat1' (first | simp -implicitDefEqProofs -dsimp only [go_sem, Nat.reduceSub, Nat.reduceAdd, Nat.reduceMul, Nat.reduceLT, Nat.reduceLeDiff, Nat.reduceEqDiff, Nat.reduceDiv, Nat.reduceMod, Int.reduceToNat, Int.reduceLE, Int.reduceLT, Int.reduceBEq, Int.reduceBNe, Int.reduceNeg, Int.reduceAdd, Int.reduceSub, Int.reduceMul, reduceCtorEq, h4] | simp -implicitDefEqProofs -dsimp (disch := omega) only [wrap_i64])); repeat (with_reducible refine sideA ?_)))
          refine LoopT.intro (fun x : List Int × Int × Cur => x.1.length ≤ 7 ∧ (∀ y ∈ x.1, okI y) ∧ (0 ≤ x.2.1 ∧ x.2.1 ≤ 400 + 2 * (x.1.length : Int)) ∧ x.2.2.le (1100 + 3 * (x.1.length : Int))) (fun x => ⟨[.undef, .undef, .undef, .undef, .ptr 0 0, QuakeRow.sl L, .osl 1 0 x.1.length 1, .int .i64 x.2.1, .undef, .undef, .undef, .undef, .undef, .undef, .undef, .undef, .undef, .undef, .undef, .undef, .undef, .undef, .undef, .undef, .undef, .undef, .undef, .undef, .undef, .undef, .undef, .undef, .undef, .undef, .undef, .undef, .undef, .undef, .undef, .undef, .undef, .undef, .undef, .undef, .undef, .undef, .undef, .undef, .undef, .undef, .undef, .undef, .undef, .undef, .undef, .undef, .undef, .undef, .undef, .undef], [some (x.2.2.cs B), some (rows IntS.cs x.1)], 0⟩) (fun x => 8 - x.1.length) (K, lim, c5) ⟨by simp only []; omega, y2, ⟨by simp only []; omega, by simp only []; omega⟩, lmonoQ hc5 (by simp only []; omega)⟩ ?_ (fun x hx => ?_)
          · refine Weak.cut (2) (by simp) (by simp) ?_ ?_
            · simp [LeC, LeV, ren, cutF]
            · simp [cutH, cutB, Cur.ren, ren, map_ren_rows]
          obtain ⟨K2, lim2, c7⟩ := x
          obtain ⟨z0, z1, z2, hc7⟩ := hx
          dsimp only at z0 z1 z2 hc7
          (repeat ((repeat1' (first | simp -implicitDefEqProofs -dsimp only [go_sem, Nat.reduceSub, Nat.reduceAdd, Nat.reduceMul, Nat.reduceLT, Nat.reduceLeDiff, Nat.reduceEqDiff, Nat.reduceDiv, Nat.reduceMod, Int.reduceToNat, Int.reduceLE, Int.reduceLT, Int.reduceBEq, Int.reduceBNe, Int.reduceNeg, Int.reduceAdd, Int.reduceSub, Int.reduceMul, reduceCtorEq] | simp -implicitDefEqProofs -dsimp (disch := omega) only [wrap_i64])); repeat (with_reducible refine sideA ?_)))
          have pc8 := pick_ok hB (hcb hc7 (by omega)) 2 (by omega); have hc8 := pickC_le (B := B) (n := 2) hc7; have pvc8 := pickV_bd hB (n := 2) hc7.1; generalize pickV B 2 c7 = vc8 at pc8 pvc8; generalize pickC B 2 c7 = c8 at pc8 hc8; refine callS.lend [0] false pc8 (by decide) ⟨leO, leO, trivial⟩ (lendCur rfl) (growCur B _ _) (.inl rfl) ?_
          have hw8 : IntKind.i64.wrap (6 + vc8) = 6 + vc8 := wrap_i64 (by omega) (by omega)
          (repeat ((repeat1' (first | simp -implicitDefEqProofs -dsimp only [go_sem, Nat.reduceSub, Nat.reduceAdd, Nat.reduceMul, Nat.reduceLT, Nat.reduceLeDiff, Nat.reduceEqDiff, Nat.reduceDiv, Nat.reduceMod, Int.reduceToNat, Int.reduceLE, Int.reduceLT, Int.reduceBEq, Int.reduceBNe, Int.reduceNeg, Int.reduceAdd, Int.reduceSub, Int.reduceMul, reduceCtorEq, Cur.ren, map_ren_rows, hw8] | simp -implicitDefEqProofs -dsimp (disch := omega) only [wrap_i64])); repeat (with_reducible refine sideA ?_)))
          refine condT.split (fun h5 => ?_) (fun h5 => ?_)
          · have hn : K2.length < 7 := by have := of_decide_eq_true h5; omega
            have hw9 : IntKind.i64.wrap (lim2 + 2) = lim2 + 2 := wrap_i64 (by omega) (by omega)
            have hsn : rows IntS.cs K2 ++ [.int .i64 (lim2 + 2)] = rows IntS.cs (K2 ++ [lim2 + 2]) := rows_snoc (cs := IntS.cs) K2 (lim2 + 2)
            (repeat ((repeat1' (first | simp -implicitDefEqProofs -dsimp only [go_sem, Nat.reduceSub, Nat.reduceAdd, Nat.reduceMul, Nat.reduceLT, Nat.reduceLeDiff, Nat.reduceEqDiff, Nat.reduceDiv, Nat.reduceMod, Int.reduceToNat, Int.reduceLE, Int.reduceLT, Int.reduceBEq, Int.reduceBNe, Int.reduceNeg, Int.reduceAdd, Int.reduceSub, Int.reduceMul, reduceCtorEq, h5, hw9, hsn, map_ren_rows, Cur.ren] | simp -implicitDefEqProofs -dsimp (disch := omega) only [wrap_i64])); repeat (with_reducible refine sideA ?_)))
            refine ⟨(K2 ++ [lim2 + 2], lim2 + 2, c8), ⟨by simp only [List.length_append, List.length_cons, List.length_nil]; omega, fun y hy => ?_, ⟨by simp only []; omega, by simp only [List.length_append, List.length_cons, List.length_nil]; omega⟩, lmonoQ hc8 (by simp only [List.length_append, List.length_cons, List.length_nil]; omega)⟩, ?_, by simp only [List.length_append, List.length_cons, List.length_nil]; omega⟩
            · rcases List.mem_append.1 hy with h | h
              · exact z1 y h
              · rw [List.mem_singleton.1 h]; exact ⟨by omega, by omega⟩
            · refine Weak.cut (2) (by simp) (by simp) ?_ ?_
              · simp [LeC, LeV, ren, cutF]
              · simp [cutH, cutB, Cur.ren, ren, map_ren_rows]
          · (repeat ((repeat1' (first | simp -implicitDefEqProofs -dsimp only [go_sem, Nat.reduceSub, Nat.reduceAdd, Nat.reduceMul, Nat.reduceLT, Nat.reduceLeDiff, Nat.reduceEqDiff, Nat.reduceDiv, Nat.reduceMod, Int.reduceToNat, Int.reduceLE, Int.reduceLT, Int.reduceBEq, Int.reduceBNe, Int.reduceNeg, Int.reduceAdd, Int.reduceSub, Int.reduceMul, reduceCtorEq, h5] | simp -implicitDefEqProofs -dsimp (disch := omega) only [wrap_i64])); repeat (with_reducible refine sideA ?_)))
            exact ⟨_, _, ⟨L, K2, ⟨x1, x2⟩, z1, by omega, rfl, rfl⟩, fin_two rfl⟩
        · (repeat ((repeat1' (first | simp -implicitDefEqProofs -dsimp only [go_sem, Nat.reduceSub, Nat.reduceAdd, Nat.reduceMul, Nat.reduceLT, Nat.reduceLeDiff, Nat.reduceEqDiff, Nat.reduceDiv, Nat.reduceMod, Int.reduceToNat, Int.reduceLE, Int.reduceLT, Int.reduceBEq, Int.reduceBNe, Int.reduceNeg, Int.reduceAdd, Int.reduceSub, Int.reduceMul, reduceCtorEq, h4] | simp -implicitDefEqProofs -dsimp (disch := omega) only [wrap_i64])); repeat (with_reducible refine sideA ?_)))
          exact ⟨_, _, ⟨L, K, ⟨x1, x2⟩, y2, by omega, rfl, rfl⟩, fin_two rfl⟩
end Go.Proofs
end
section
set_option linter.unusedSimpArgs false
set_option linter.unusedVariables false
set_option maxRecDepth 100000
set_option maxHeartbeats 2000000
namespace Go.Proofs
open Go.Lv
theorem wrapQ (x : Int) : i64R (IntKind.i64.wrap x) := by
  unfold i64R IntKind.wrap
  simp [IntKind.bits, IntKind.signed]
  omega
theorem minQ {a b : Int} (ha : i64R a) (hb : i64R b) : i64R (min a b) := by
  rcases Int.le_total a b with h | h
  · rw [Int.min_eq_left h]; exact ha
  · rw [Int.min_eq_right h]; exact hb
theorem drawBestOfBoth_ok {B : List Int} (hB : CB B) : CtrP Try.prog 31 [ByteS.sl B] [] dBothP := by
  have hcb : ∀ {c' : Cur} {k' : Int}, c'.le k' → k' ≤ 4000000 → c'.le 4611686018427387903 := fun h h' => ⟨h.1, by have := h.2; omega⟩
  obtain ⟨c, hcd⟩ : ∃ c : Cur, c = ⟨0, 0⟩ := ⟨_, rfl⟩
  have hc : c.le 0 := by rw [hcd]; exact curq_le (by omega)
  have hcc : c.cs B = [ByteS.sl B, .int .i64 0, .int .u64 0] := by rw [hcd]; rfl
  refine CtrP.intro Try.mixed Try.func31 rfl Try.okF31 ?_
  simp -implicitDefEqProofs -dsimp only [go_sem, Nat.reduceSub, Nat.reduceAdd, Nat.reduceMul, Nat.reduceLT, Nat.reduceLeDiff, Nat.reduceEqDiff, Nat.reduceDiv, Nat.reduceMod, Int.reduceToNat, Int.reduceLE, Int.reduceLT, Int.reduceBEq, Int.reduceBNe, Int.reduceNeg, Int.reduceAdd, Int.reduceSub, Int.reduceMul, reduceCtorEq, Try.ntmps31, Try.results31]
  (repeat ((repeat1' (first | simp -implicitDefEqProofs -dsimp only [go_sem, Nat.reduceSub, Nat.reduceAdd, Nat.reduceMul, Nat.reduceLT, Nat.reduceLeDiff, Nat.reduceEqDiff, Nat.reduceDiv, Nat.reduceMod, Int.reduceToNat, Int.reduceLE, Int.reduceLT, Int.reduceBEq, Int.reduceBNe, Int.reduceNeg, Int.reduceAdd, Int.reduceSub, Int.reduceMul, reduceCtorEq, ByteS.sl] | simp -implicitDefEqProofs -dsimp (disch := omega) only [wrap_i64])); repeat (with_reducible refine sideA ?_)))
  rw [← ByteS.sl, ← hcc]
  refine callS.rel [0] (bulletin_ok hB (by omega) hc) (by decide) ⟨leO, trivial⟩ (lendCur rfl) rfl (fun r hout hΦ => ?_)
  obtain ⟨L, c1, x1, x2, hc1, rfl, rfl⟩ := hΦ
  refine ⟨⟨⟨rfl, rfl⟩, trivial⟩, ?_⟩
  (repeat ((repeat1' (first | simp -implicitDefEqProofs -dsimp only [go_sem, Nat.reduceSub, Nat.reduceAdd, Nat.reduceMul, Nat.reduceLT, Nat.reduceLeDiff, Nat.reduceEqDiff, Nat.reduceDiv, Nat.reduceMod, Int.reduceToNat, Int.reduceLE, Int.reduceLT, Int.reduceBEq, Int.reduceBNe, Int.reduceNeg, Int.reduceAdd, Int.reduceSub, Int.reduceMul, reduceCtorEq, Cur.ren, map_ren_rows] | simp -implicitDefEqProofs -dsimp (disch := omega) only [wrap_i64])); repeat (with_reducible refine sideA ?_)))
  refine callS.rel [0] (bulletin_ok hB (by omega) hc1) (by decide) ⟨leO, trivial⟩ (lendCur rfl) rfl (fun r hout hΦ => ?_)
  obtain ⟨M0, c2, y1, y2, hc2, rfl, rfl⟩ := hΦ
  refine ⟨⟨⟨rfl, rfl⟩, trivial⟩, ?_⟩
  (repeat ((repeat1' (first | simp -implicitDefEqProofs -dsimp only [go_sem, Nat.reduceSub, Nat.reduceAdd, Nat.reduceMul, Nat.reduceLT, Nat.reduceLeDiff, Nat.reduceEqDiff, Nat.reduceDiv, Nat.reduceMod, Int.reduceToNat, Int.reduceLE, Int.reduceLT, Int.reduceBEq, Int.reduceBNe, Int.reduceNeg, Int.reduceAdd, Int.reduceSub, Int.reduceMul, reduceCtorEq, Cur.ren, map_ren_rows] | simp -implicitDefEqProofs -dsimp (disch := omega) only [wrap_i64])); repeat (with_reducible refine sideA ?_)))
  have pc3 := one_ok hB (hcb hc2 (by omega)) 2 (by omega); have hc3 := pickC_le (B := B) (n := 2) hc2; generalize oneV B 2 c2 = vc3 at pc3; generalize pickC B 2 c2 = c3 at pc3 hc3; refine callS.lend [0] false pc3 (by decide) ⟨leO, leO, trivial⟩ (lendCur rfl) (growCur B _ _) (.inl rfl) ?_
  (repeat ((repeat1' (first | simp -implicitDefEqProofs -dsimp only [go_sem, Nat.reduceSub, Nat.reduceAdd, Nat.reduceMul, Nat.reduceLT, Nat.reduceLeDiff, Nat.reduceEqDiff, Nat.reduceDiv, Nat.reduceMod, Int.reduceToNat, Int.reduceLE, Int.reduceLT, Int.reduceBEq, Int.reduceBNe, Int.reduceNeg, Int.reduceAdd, Int.reduceSub, Int.reduceMul, reduceCtorEq, Cur.ren, map_ren_rows] | simp -implicitDefEqProofs -dsimp (disch := omega) only [wrap_i64])); repeat (with_reducible refine sideA ?_)))
  refine condT.split (fun h1 => ?_) (fun h1 => ?_)
  · (repeat ((repeat1' (first | simp -implicitDefEqProofs -dsimp only [go_sem, Nat.reduceSub, Nat.reduceAdd, Nat.reduceMul, Nat.reduceLT, Nat.reduceLeDiff, Nat.reduceEqDiff, Nat.reduceDiv, Nat.reduceMod, Int.reduceToNat, Int.reduceLE, Int.reduceLT, Int.reduceBEq, Int.reduceBNe, Int.reduceNeg, Int.reduceAdd, Int.reduceSub, Int.reduceMul, reduceCtorEq, h1] | simp -implicitDefEqProofs -dsimp (disch := omega) only [wrap_i64])); repeat (with_reducible refine sideA ?_)))
    refine LoopT.intro (fun x : Nat × List QuakeRow × Cur => x.1 ≤ L.length ∧ x.2.1.length ≤ x.1 ∧ (∀ y ∈ x.2.1, y.ok) ∧ x.2.2.le (1500 + 5 * (x.1 : Int))) (fun x => ⟨[.undef, .undef, .undef, .undef, .ptr 0 0, QuakeRow.sl L, .osl 1 0 x.2.1.length 7, .int .i64 x.1, .undef, .undef, .undef, .undef, .undef, .undef, .undef, .undef, .undef, .undef, .undef, .undef, .undef, .undef, .undef, .undef, .undef, .undef, .undef, .undef, .undef, .undef, .undef, .undef, .undef, .undef, .undef, .undef, .undef, .undef, .undef, .undef, .undef, .undef, .undef, .undef, .undef, .undef, .undef, .undef, .undef, .undef, .undef, .undef, .undef, .undef, .undef, .undef, .undef, .undef], [some (x.2.2.cs B), some (rows QuakeRow.cs x.2.1)], 0⟩) (fun x => L.length - x.1) (0, [], c3) ⟨by simp, by simp, fun y hy => by simp at hy, lmonoQ hc3 (by simp only []; omega)⟩ ?_ (fun x hx => ?_)
    · refine Weak.cut (2) (by simp) (by simp) ?_ ?_
      · simp [LeC, LeV, ren, cutF]
      · simp [cutH, cutB, Cur.ren, ren, rows]
    obtain ⟨i, M, c4⟩ := x
    obtain ⟨z0, z1, z2, hc4⟩ := hx
    dsimp only at z0 z1 z2 hc4
    simp -implicitDefEqProofs -dsimp only [go_sem, Nat.reduceSub, Nat.reduceAdd, Nat.reduceMul, Nat.reduceLT, Nat.reduceLeDiff, Nat.reduceEqDiff, Nat.reduceDiv, Nat.reduceMod, Int.reduceToNat, Int.reduceLE, Int.reduceLT, Int.reduceBEq, Int.reduceBNe, Int.reduceNeg, Int.reduceAdd, Int.reduceSub, Int.reduceMul, reduceCtorEq]
    refine condT.split (fun h2 => ?_) (fun h2 => ?_)
    · have hi' : i < L.length := by simpa using h2
      have hr := rows_at QuakeRow.csl hi'
      have hq := x1 _ (List.getElem_mem hi')
      (repeat ((repeat1' (first | simp -implicitDefEqProofs -dsimp only [go_sem, Nat.reduceSub, Nat.reduceAdd, Nat.reduceMul, Nat.reduceLT, Nat.reduceLeDiff, Nat.reduceEqDiff, Nat.reduceDiv, Nat.reduceMod, Int.reduceToNat, Int.reduceLE, Int.reduceLT, Int.reduceBEq, Int.reduceBNe, Int.reduceNeg, Int.reduceAdd, Int.reduceSub, Int.reduceMul, reduceCtorEq, h2, hr, QuakeRow.cs, map_ren_rows, Cur.ren] | simp -implicitDefEqProofs -dsimp (disch := omega) only [wrap_i64])); repeat (with_reducible refine sideA ?_)))
      generalize L[i] = q at hq ⊢
      (first | refine callT.at (l1Least_ok 9999 (IntKind.i64.wrap (q.Id + 20))) ⟨leA, leA, trivial⟩ ?_ | refine callS.at (l1Least_ok 9999 (IntKind.i64.wrap (q.Id + 20))) ⟨leA, leA, trivial⟩ ?_)
      (repeat ((repeat1' (first | simp -implicitDefEqProofs -dsimp only [go_sem, Nat.reduceSub, Nat.reduceAdd, Nat.reduceMul, Nat.reduceLT, Nat.reduceLeDiff, Nat.reduceEqDiff, Nat.reduceDiv, Nat.reduceMod, Int.reduceToNat, Int.reduceLE, Int.reduceLT, Int.reduceBEq, Int.reduceBNe, Int.reduceNeg, Int.reduceAdd, Int.reduceSub, Int.reduceMul, reduceCtorEq, map_ren_rows, Cur.ren] | simp -implicitDefEqProofs -dsimp (disch := omega) only [wrap_i64])); repeat (with_reducible refine sideA ?_)))
      have hid : i64R (min 9999 (IntKind.i64.wrap (q.Id + 20))) := minQ (by simp [i64R]) (wrapQ _)
      generalize min 9999 (IntKind.i64.wrap (q.Id + 20)) = id2 at hid ⊢
      refine clT.tree (fun s2 => ∃ (v : Int) (c5 : Cur), i64R v ∧ c5.le (1500 + 5 * (i : Int) + 2) ∧ s2 = ⟨[.undef, .undef, .undef, .undef, .ptr 0 0, QuakeRow.sl L, .osl 1 0 M.length 7, .int .i64 i, .ptr 2 0, .undef, .undef, .undef, .undef, .undef, .undef, .undef, .undef, .undef, .undef, .undef, .undef, .undef, .undef, .undef, .undef, .undef, .undef, .undef, .undef, .undef, .undef, .undef, .undef, .undef, .undef, .undef, .undef, .undef, .undef, .undef, .undef, .undef, .undef, .undef, .undef, .undef, .undef, .undef, .undef, .undef, .undef, .undef, .undef, .undef, .undef, .undef, .undef, .undef], [some (c5.cs B), some (rows QuakeRow.cs M), some [.int .i64 id2, .int .i64 v, .int .i64 q.X, .int .i64 q.Y, .int .i64 q.Deep, .int .i64 q.Size, .int .i64 q.Grade]], 0⟩) (.take 0 (.take 2 (.alt 1 (.alt 3 (.alt 4 (.take 5 (.alt 6 (.take 7 (.alt 8 .done .stop)) .stop)) .stop) .stop) (.alt 3 (.alt 1 (.alt 4 (.take 5 (.alt 6 (.take 7 (.alt 8 .done .stop)) .stop)) .stop) (.alt 4 (.alt 1 (.take 5 (.alt 6 (.take 7 (.alt 8 .done .stop)) .stop)) .stop) .stop)) .stop)))) (by kernel_rfl) (fun s2 hs2 => ?_) ?_
      · obtain ⟨v, c5, hv, hc5, rfl⟩ := hs2
        (repeat ((repeat1' (first | simp -implicitDefEqProofs -dsimp only [go_sem, Nat.reduceSub, Nat.reduceAdd, Nat.reduceMul, Nat.reduceLT, Nat.reduceLeDiff, Nat.reduceEqDiff, Nat.reduceDiv, Nat.reduceMod, Int.reduceToNat, Int.reduceLE, Int.reduceLT, Int.reduceBEq, Int.reduceBNe, Int.reduceNeg, Int.reduceAdd, Int.reduceSub, Int.reduceMul, reduceCtorEq] | simp -implicitDefEqProofs -dsimp (disch := omega) only [wrap_i64])); repeat (with_reducible refine sideA ?_)))
        have pc6 := pick_ok hB (hcb hc5 (by omega)) 4 (by omega); have hc6 := pickC_le (B := B) (n := 4) hc5; have pvc6 := pickV_bd hB (n := 4) hc5.1; generalize pickV B 4 c5 = vc6 at pc6 pvc6; generalize pickC B 4 c5 = c6 at pc6 hc6; refine callS.lend [0] false pc6 (by decide) ⟨leO, leO, trivial⟩ (lendCur rfl) (growCur B _ _) (.inl rfl) ?_
        have hw6 : IntKind.i64.wrap (1 + vc6) = 1 + vc6 := wrap_i64 (by omega) (by omega)
        (repeat ((repeat1' (first | simp -implicitDefEqProofs -dsimp only [go_sem, Nat.reduceSub, Nat.reduceAdd, Nat.reduceMul, Nat.reduceLT, Nat.reduceLeDiff, Nat.reduceEqDiff, Nat.reduceDiv, Nat.reduceMod, Int.reduceToNat, Int.reduceLE, Int.reduceLT, Int.reduceBEq, Int.reduceBNe, Int.reduceNeg, Int.reduceAdd, Int.reduceSub, Int.reduceMul, reduceCtorEq, Cur.ren, map_ren_rows, hw6] | simp -implicitDefEqProofs -dsimp (disch := omega) only [wrap_i64])); repeat (with_reducible refine sideA ?_)))
        have hsn : rows QuakeRow.cs M ++ [.int .i64 id2, .int .i64 v, .int .i64 q.X, .int .i64 q.Y, .int .i64 q.Deep, .int .i64 q.Size, .int .i64 (1 + vc6)] = rows QuakeRow.cs (M ++ [⟨id2, v, q.X, q.Y, q.Deep, q.Size, 1 + vc6⟩]) := rows_snoc (cs := QuakeRow.cs) M ⟨id2, v, q.X, q.Y, q.Deep, q.Size, 1 + vc6⟩
        refine chT.intro [false, true, false, true, true, false, false] [true, true, true, true, true, true, false] [some ⟨none, 47, 58, []⟩, none, some ⟨some 0, 49, 58, [48]⟩, none, none, some ⟨some 2, 52, 58, [48, 51]⟩, none] [⟨5, 52, 58, [48, 51]⟩] (by kernel_rfl) (by rfl) ?_
        (repeat ((repeat1' (first | simp -implicitDefEqProofs -dsimp only [go_sem, Nat.reduceSub, Nat.reduceAdd, Nat.reduceMul, Nat.reduceLT, Nat.reduceLeDiff, Nat.reduceEqDiff, Nat.reduceDiv, Nat.reduceMod, Int.reduceToNat, Int.reduceLE, Int.reduceLT, Int.reduceBEq, Int.reduceBNe, Int.reduceNeg, Int.reduceAdd, Int.reduceSub, Int.reduceMul, reduceCtorEq, take_rows, map_ren_rows, Cur.ren, hsn] | simp -implicitDefEqProofs -dsimp (disch := omega) only [wrap_i64])); repeat (with_reducible refine sideA ?_)))
        refine ⟨⟨by omega, by omega, rows_noOwn _ _⟩, ?_⟩
        have hx : QuakeRow.ok ⟨id2, v, q.X, q.Y, q.Deep, q.Size, 1 + vc6⟩ := ⟨hid, hv, hq.2.2.1, hq.2.2.2.1, hq.2.2.2.2.1, hq.2.2.2.2.2.1, ⟨by simp only []; omega, by simp only []; omega⟩⟩
        generalize (⟨id2, v, q.X, q.Y, q.Deep, q.Size, 1 + vc6⟩ : QuakeRow) = x at hx hsn ⊢
        have hll : (M ++ [x]).length = M.length + 1 := by simp
        have hM2 : ∀ y ∈ M ++ [x], y.ok := by
          intro y hy
          rcases List.mem_append.1 hy with h | h
          · exact z2 y h
          · rw [List.mem_singleton.1 h]; exact hx
        (first | refine callT.at (l24Good_ok (M ++ [x]) (by omega)) ⟨leA, trivial⟩ ?_ | refine callS.at (l24Good_ok (M ++ [x]) (by omega)) ⟨leA, trivial⟩ ?_)
        (repeat ((repeat1' (first | simp -implicitDefEqProofs -dsimp only [go_sem, Nat.reduceSub, Nat.reduceAdd, Nat.reduceMul, Nat.reduceLT, Nat.reduceLeDiff, Nat.reduceEqDiff, Nat.reduceDiv, Nat.reduceMod, Int.reduceToNat, Int.reduceLE, Int.reduceLT, Int.reduceBEq, Int.reduceBNe, Int.reduceNeg, Int.reduceAdd, Int.reduceSub, Int.reduceMul, reduceCtorEq] | simp -implicitDefEqProofs -dsimp (disch := omega) only [wrap_i64])); repeat (with_reducible refine sideA ?_)))
        have hw7 : IntKind.i64.wrap ((i : Int) + 1) = ((i + 1 : Nat) : Int) := by rw [wrap_i64 (by omega) (by omega)]; omega
        cases hgd : bulB (M ++ [x]) with
        | true =>
          (repeat ((repeat1' (first | simp -implicitDefEqProofs -dsimp only [go_sem, Nat.reduceSub, Nat.reduceAdd, Nat.reduceMul, Nat.reduceLT, Nat.reduceLeDiff, Nat.reduceEqDiff, Nat.reduceDiv, Nat.reduceMod, Int.reduceToNat, Int.reduceLE, Int.reduceLT, Int.reduceBEq, Int.reduceBNe, Int.reduceNeg, Int.reduceAdd, Int.reduceSub, Int.reduceMul, reduceCtorEq, hgd, hw7] | simp -implicitDefEqProofs -dsimp (disch := omega) only [wrap_i64])); repeat (with_reducible refine sideA ?_)))
          refine ⟨(i + 1, M ++ [x], c6), ⟨hi', by simp only []; omega, hM2, lmonoQ hc6 (by simp only []; omega)⟩, ?_, by simp only []; omega⟩
          refine Weak.pick [0, 4] (by decide) (fun j hj => by omega) ?_ ?_
          · simp [LeG, LeC, LeV, ren, pickF, posOf]
          · simp [pickH, pickB, Cur.ren, ren, map_ren_rows]
        | false =>
          (repeat ((repeat1' (first | simp -implicitDefEqProofs -dsimp only [go_sem, Nat.reduceSub, Nat.reduceAdd, Nat.reduceMul, Nat.reduceLT, Nat.reduceLeDiff, Nat.reduceEqDiff, Nat.reduceDiv, Nat.reduceMod, Int.reduceToNat, Int.reduceLE, Int.reduceLT, Int.reduceBEq, Int.reduceBNe, Int.reduceNeg, Int.reduceAdd, Int.reduceSub, Int.reduceMul, reduceCtorEq, hgd, hw7] | simp -implicitDefEqProofs -dsimp (disch := omega) only [wrap_i64])); repeat (with_reducible refine sideA ?_)))
          refine ⟨(i + 1, M, c6), ⟨hi', by simp only []; omega, z2, lmonoQ hc6 (by simp only []; omega)⟩, ?_, by simp only []; omega⟩
          refine Weak.pick [0, 1] (by decide) (fun j hj => by omega) ?_ ?_
          · simp [LeG, LeC, LeV, ren, pickF, posOf]
          · simp [pickH, pickB, Cur.ren, ren, map_ren_rows]
      · have p5 := among_ok hB (hcb hc4 (by omega)) [0, 1, 300] (by simp) (by simp)
        have hc5 := pickC_le (B := B) (n := (([0, 1, 300] : List Int).length : Int)) hc4
        generalize amongV B [0, 1, 300] c4 = v5 at p5
        generalize pickC B (([0, 1, 300] : List Int).length : Int) c4 = c5 at p5 hc5
        have hle := l1Least_ok 1000000 (IntKind.i64.wrap (q.Tick + v5))
        have hv : i64R (min 1000000 (IntKind.i64.wrap (q.Tick + v5))) := minQ (by simp [i64R]) (wrapQ _)
        (repeat ((repeat1' (first | simp -implicitDefEqProofs -dsimp only [go_sem, Nat.reduceSub, Nat.reduceAdd, Nat.reduceMul, Nat.reduceLT, Nat.reduceLeDiff, Nat.reduceEqDiff, Nat.reduceDiv, Nat.reduceMod, Int.reduceToNat, Int.reduceLE, Int.reduceLT, Int.reduceBEq, Int.reduceBNe, Int.reduceNeg, Int.reduceAdd, Int.reduceSub, Int.reduceMul, reduceCtorEq] | simp -implicitDefEqProofs -dsimp (disch := omega) only [wrap_i64])); repeat (with_reducible refine sideA ?_)))
        repeat' (first | (refine callS.lend [0, 3] false p5 (by decide) ⟨leO, leO, trivial⟩ (lendCur2 rfl rfl) (growCur2 B _ _) (.inl rfl) ?_; (repeat ((repeat1' (first | simp -implicitDefEqProofs -dsimp only [go_sem, Nat.reduceSub, Nat.reduceAdd, Nat.reduceMul, Nat.reduceLT, Nat.reduceLeDiff, Nat.reduceEqDiff, Nat.reduceDiv, Nat.reduceMod, Int.reduceToNat, Int.reduceLE, Int.reduceLT, Int.reduceBEq, Int.reduceBNe, Int.reduceNeg, Int.reduceAdd, Int.reduceSub, Int.reduceMul, reduceCtorEq, Cur.ren, map_ren_rows] | simp -implicitDefEqProofs -dsimp (disch := omega) only [wrap_i64])); repeat (with_reducible refine sideA ?_)))) | ((first | refine callT.at (hle) ⟨leA, leA, trivial⟩ ?_ | refine callS.at (hle) ⟨leA, leA, trivial⟩ ?_); (repeat ((repeat1' (first | simp -implicitDefEqProofs -dsimp only [go_sem, Nat.reduceSub, Nat.reduceAdd, Nat.reduceMul, Nat.reduceLT, Nat.reduceLeDiff, Nat.reduceEqDiff, Nat.reduceDiv, Nat.reduceMod, Int.reduceToNat, Int.reduceLE, Int.reduceLT, Int.reduceBEq, Int.reduceBNe, Int.reduceNeg, Int.reduceAdd, Int.reduceSub, Int.reduceMul, reduceCtorEq, Cur.ren, map_ren_rows] | simp -implicitDefEqProofs -dsimp (disch := omega) only [wrap_i64])); repeat (with_reducible refine sideA ?_)))) | (refine And.intro ?_ ?_) | exact trivial)
        all_goals
          refine ⟨_, ⟨_, c5, hv, hc5, rfl⟩, ?_⟩
          refine Weak.cut (3) (by simp) (by simp) ?_ ?_
          · simp [LeC, LeV, ren, cutF]
          · simp [cutH, cutB, Cur.ren, ren, map_ren_rows]
    · (repeat ((repeat1' (first | simp -implicitDefEqProofs -dsimp only [go_sem, Nat.reduceSub, Nat.reduceAdd, Nat.reduceMul, Nat.reduceLT, Nat.reduceLeDiff, Nat.reduceEqDiff, Nat.reduceDiv, Nat.reduceMod, Int.reduceToNat, Int.reduceLE, Int.reduceLT, Int.reduceBEq, Int.reduceBNe, Int.reduceNeg, Int.reduceAdd, Int.reduceSub, Int.reduceMul, reduceCtorEq, h2] | simp -implicitDefEqProofs -dsimp (disch := omega) only [wrap_i64])); repeat (with_reducible refine sideA ?_)))
      exact ⟨_, _, ⟨L, M, ⟨x1, x2⟩, ⟨z2, by omega⟩, rfl, rfl⟩, fin_two rfl⟩
  · (repeat ((repeat1' (first | simp -implicitDefEqProofs -dsimp only [go_sem, Nat.reduceSub, Nat.reduceAdd, Nat.reduceMul, Nat.reduceLT, Nat.reduceLeDiff, Nat.reduceEqDiff, Nat.reduceDiv, Nat.reduceMod, Int.reduceToNat, Int.reduceLE, Int.reduceLT, Int.reduceBEq, Int.reduceBNe, Int.reduceNeg, Int.reduceAdd, Int.reduceSub, Int.reduceMul, reduceCtorEq, h1] | simp -implicitDefEqProofs -dsimp (disch := omega) only [wrap_i64])); repeat (with_reducible refine sideA ?_)))
    refine ⟨_, _, ⟨L, M0, ⟨x1, x2⟩, ⟨y1, y2⟩, rfl, rfl⟩, WeakR.drop' rfl ?_⟩
    first | rfl | (simp [noOwn, rows_noOwn]; done)
end Go.Proofs
end
section
set_option linter.unusedSimpArgs false
set_option linter.unusedVariables false
set_option maxRecDepth 100000
set_option maxHeartbeats 2000000
namespace Go.Proofs
open Go.Lv
theorem rBig_ok (L : List Int) : Ctr Try.prog 30 [ByteS.sl L] [] (.bool (decide (65536 < (L.length : Int)))) [] := by
  refine Ctr.intro Try.mixed Try.func30 rfl Try.okF30 ?_
  simp -implicitDefEqProofs -dsimp only [go_sem, Nat.reduceSub, Nat.reduceAdd, Nat.reduceMul, Nat.reduceLT, Nat.reduceLeDiff, Nat.reduceEqDiff, Nat.reduceDiv, Nat.reduceMod, Int.reduceToNat, Int.reduceLE, Int.reduceLT, Int.reduceBEq, Int.reduceBNe, Int.reduceNeg, Int.reduceAdd, Int.reduceSub, Int.reduceMul, reduceCtorEq, Try.ntmps30, Try.results30]
  (repeat ((repeat1' (first | simp -implicitDefEqProofs -dsimp only [go_sem, Nat.reduceSub, Nat.reduceAdd, Nat.reduceMul, Nat.reduceLT, Nat.reduceLeDiff, Nat.reduceEqDiff, Nat.reduceDiv, Nat.reduceMod, Int.reduceToNat, Int.reduceLE, Int.reduceLT, Int.reduceBEq, Int.reduceBNe, Int.reduceNeg, Int.reduceAdd, Int.reduceSub, Int.reduceMul, reduceCtorEq] | simp -implicitDefEqProofs -dsimp (disch := omega) only [wrap_i64])); repeat (with_reducible refine sideA ?_)))
  exact WeakR.drop' rfl (by rfl)
theorem rQuakes_ok (L : List QuakeRow) (hl : L.length ≤ 1048576) : Ctr Try.prog 34 [QuakeRow.sl L, QuakeRow.sl L] [] (.bool true) [] := by
  refine Ctr.intro Try.mixed Try.func34 rfl Try.okF34 ?_
  simp -implicitDefEqProofs -dsimp only [go_sem, Nat.reduceSub, Nat.reduceAdd, Nat.reduceMul, Nat.reduceLT, Nat.reduceLeDiff, Nat.reduceEqDiff, Nat.reduceDiv, Nat.reduceMod, Int.reduceToNat, Int.reduceLE, Int.reduceLT, Int.reduceBEq, Int.reduceBNe, Int.reduceNeg, Int.reduceAdd, Int.reduceSub, Int.reduceMul, reduceCtorEq, Try.ntmps34, Try.results34]
  (repeat ((repeat1' (first | simp -implicitDefEqProofs -dsimp only [go_sem, Nat.reduceSub, Nat.reduceAdd, Nat.reduceMul, Nat.reduceLT, Nat.reduceLeDiff, Nat.reduceEqDiff, Nat.reduceDiv, Nat.reduceMod, Int.reduceToNat, Int.reduceLE, Int.reduceLT, Int.reduceBEq, Int.reduceBNe, Int.reduceNeg, Int.reduceAdd, Int.reduceSub, Int.reduceMul, reduceCtorEq] | simp -implicitDefEqProofs -dsimp (disch := omega) only [wrap_i64])); repeat (with_reducible refine sideA ?_)))
  refine LoopT.intro (fun i : Nat => i ≤ L.length) (fun i => ⟨[QuakeRow.sl L, QuakeRow.sl L, .undef, .undef, .undef, .int .i64 i, .undef, .undef, .undef, .undef, .undef, .undef, .undef, .undef, .undef, .undef, .undef, .undef, .undef, .undef, .undef, .undef, .undef, .undef, .undef, .undef], [], 0⟩) (fun i => L.length - i) 0 (Nat.zero_le _) ?_ (fun i hi => ?_)
  · refine Weak.cut (0) (by simp) (by simp) ?_ ?_
    · simp [LeC, LeV, ren, cutF]
    · rfl
  simp -implicitDefEqProofs -dsimp only [go_sem, Nat.reduceSub, Nat.reduceAdd, Nat.reduceMul, Nat.reduceLT, Nat.reduceLeDiff, Nat.reduceEqDiff, Nat.reduceDiv, Nat.reduceMod, Int.reduceToNat, Int.reduceLE, Int.reduceLT, Int.reduceBEq, Int.reduceBNe, Int.reduceNeg, Int.reduceAdd, Int.reduceSub, Int.reduceMul, reduceCtorEq]
  refine condT.split (fun h1 => ?_) (fun h1 => ?_)
  · have hi' : i < L.length := by simpa using h1
    have hr := rows_at QuakeRow.csl hi'
    (repeat ((repeat1' (first | simp -implicitDefEqProofs -dsimp only [go_sem, Nat.reduceSub, Nat.reduceAdd, Nat.reduceMul, Nat.reduceLT, Nat.reduceLeDiff, Nat.reduceEqDiff, Nat.reduceDiv, Nat.reduceMod, Int.reduceToNat, Int.reduceLE, Int.reduceLT, Int.reduceBEq, Int.reduceBNe, Int.reduceNeg, Int.reduceAdd, Int.reduceSub, Int.reduceMul, reduceCtorEq, h1, hr, QuakeRow.cs] | simp -implicitDefEqProofs -dsimp (disch := omega) only [wrap_i64])); repeat (with_reducible refine sideA ?_)))
    refine ⟨i + 1, hi', ?_, by omega⟩
    refine Weak.cut (0) (by simp) (by simp) ?_ ?_
    · simp [LeC, LeV, ren, cutF]
    · rfl
  · (repeat ((repeat1' (first | simp -implicitDefEqProofs -dsimp only [go_sem, Nat.reduceSub, Nat.reduceAdd, Nat.reduceMul, Nat.reduceLT, Nat.reduceLeDiff, Nat.reduceEqDiff, Nat.reduceDiv, Nat.reduceMod, Int.reduceToNat, Int.reduceLE, Int.reduceLT, Int.reduceBEq, Int.reduceBNe, Int.reduceNeg, Int.reduceAdd, Int.reduceSub, Int.reduceMul, reduceCtorEq, h1] | simp -implicitDefEqProofs -dsimp (disch := omega) only [wrap_i64])); repeat (with_reducible refine sideA ?_)))
    exact WeakR.drop' rfl (by rfl)
theorem rInts_ok (L : List Int) (hl : L.length ≤ 1048576) : Ctr Try.prog 38 [IntS.sl L, IntS.sl L] [] (.bool true) [] := by
  refine Ctr.intro Try.mixed Try.func38 rfl Try.okF38 ?_
  simp -implicitDefEqProofs -dsimp only [go_sem, Nat.reduceSub, Nat.reduceAdd, Nat.reduceMul, Nat.reduceLT, Nat.reduceLeDiff, Nat.reduceEqDiff, Nat.reduceDiv, Nat.reduceMod, Int.reduceToNat, Int.reduceLE, Int.reduceLT, Int.reduceBEq, Int.reduceBNe, Int.reduceNeg, Int.reduceAdd, Int.reduceSub, Int.reduceMul, reduceCtorEq, Try.ntmps38, Try.results38]
  (repeat ((repeat1' (first | simp -implicitDefEqProofs -dsimp only [go_sem, Nat.reduceSub, Nat.reduceAdd, Nat.reduceMul, Nat.reduceLT, Nat.reduceLeDiff, Nat.reduceEqDiff, Nat.reduceDiv, Nat.reduceMod, Int.reduceToNat, Int.reduceLE, Int.reduceLT, Int.reduceBEq, Int.reduceBNe, Int.reduceNeg, Int.reduceAdd, Int.reduceSub, Int.reduceMul, reduceCtorEq] | simp -implicitDefEqProofs -dsimp (disch := omega) only [wrap_i64])); repeat (with_reducible refine sideA ?_)))
  refine LoopT.intro (fun i : Nat => i ≤ L.length) (fun i => ⟨[IntS.sl L, IntS.sl L, .undef, .undef, .undef, .int .i64 i, .undef, .undef, .undef, .undef, .undef, .undef, .undef, .undef, .undef, .undef, .undef, .undef, .undef, .undef, .undef, .undef, .undef, .undef, .undef, .undef], [], 0⟩) (fun i => L.length - i) 0 (Nat.zero_le _) ?_ (fun i hi => ?_)
  · refine Weak.cut (0) (by simp) (by simp) ?_ ?_
    · simp [LeC, LeV, ren, cutF]
    · rfl
  simp -implicitDefEqProofs -dsimp only [go_sem, Nat.reduceSub, Nat.reduceAdd, Nat.reduceMul, Nat.reduceLT, Nat.reduceLeDiff, Nat.reduceEqDiff, Nat.reduceDiv, Nat.reduceMod, Int.reduceToNat, Int.reduceLE, Int.reduceLT, Int.reduceBEq, Int.reduceBNe, Int.reduceNeg, Int.reduceAdd, Int.reduceSub, Int.reduceMul, reduceCtorEq]
  refine condT.split (fun h1 => ?_) (fun h1 => ?_)
  · have hi' : i < L.length := by simpa using h1
    have hr := rows_at IntS.csl hi'
    (repeat ((repeat1' (first | simp -implicitDefEqProofs -dsimp only [go_sem, Nat.reduceSub, Nat.reduceAdd, Nat.reduceMul, Nat.reduceLT, Nat.reduceLeDiff, Nat.reduceEqDiff, Nat.reduceDiv, Nat.reduceMod, Int.reduceToNat, Int.reduceLE, Int.reduceLT, Int.reduceBEq, Int.reduceBNe, Int.reduceNeg, Int.reduceAdd, Int.reduceSub, Int.reduceMul, reduceCtorEq, h1, hr, IntS.cs] | simp -implicitDefEqProofs -dsimp (disch := omega) only [wrap_i64])); repeat (with_reducible refine sideA ?_)))
    refine ⟨i + 1, hi', ?_, by omega⟩
    refine Weak.cut (0) (by simp) (by simp) ?_ ?_
    · simp [LeC, LeV, ren, cutF]
    · rfl
  · (repeat ((repeat1' (first | simp -implicitDefEqProofs -dsimp only [go_sem, Nat.reduceSub, Nat.reduceAdd, Nat.reduceMul, Nat.reduceLT, Nat.reduceLeDiff, Nat.reduceEqDiff, Nat.reduceDiv, Nat.reduceMod, Int.reduceToNat, Int.reduceLE, Int.reduceLT, Int.reduceBEq, Int.reduceBNe, Int.reduceNeg, Int.reduceAdd, Int.reduceSub, Int.reduceMul, reduceCtorEq, h1] | simp -implicitDefEqProofs -dsimp (disch := omega) only [wrap_i64])); repeat (with_reducible refine sideA ?_)))
    exact WeakR.drop' rfl (by rfl)
theorem rSum_ok (L : List Int) (hl : L.length ≤ 1000) (hL : ∀ x ∈ L, 0 ≤ x ∧ x ≤ 1000) : Ctr Try.prog 39 [IntS.sl L] [] (.int .i64 (psum (fun x => x) L)) [] := by
  refine Ctr.intro Try.mixed Try.func39 rfl Try.okF39 ?_
  simp -implicitDefEqProofs -dsimp only [go_sem, Nat.reduceSub, Nat.reduceAdd, Nat.reduceMul, Nat.reduceLT, Nat.reduceLeDiff, Nat.reduceEqDiff, Nat.reduceDiv, Nat.reduceMod, Int.reduceToNat, Int.reduceLE, Int.reduceLT, Int.reduceBEq, Int.reduceBNe, Int.reduceNeg, Int.reduceAdd, Int.reduceSub, Int.reduceMul, reduceCtorEq, Try.ntmps39, Try.results39]
  (repeat ((repeat1' (first | simp -implicitDefEqProofs -dsimp only [go_sem, Nat.reduceSub, Nat.reduceAdd, Nat.reduceMul, Nat.reduceLT, Nat.reduceLeDiff, Nat.reduceEqDiff, Nat.reduceDiv, Nat.reduceMod, Int.reduceToNat, Int.reduceLE, Int.reduceLT, Int.reduceBEq, Int.reduceBNe, Int.reduceNeg, Int.reduceAdd, Int.reduceSub, Int.reduceMul, reduceCtorEq] | simp -implicitDefEqProofs -dsimp (disch := omega) only [wrap_i64])); repeat (with_reducible refine sideA ?_)))
  refine LoopT.intro (fun i : Nat => i ≤ L.length) (fun i => ⟨[IntS.sl L, .undef, .undef, .int .i64 (psum (fun x => x) (L.take i)), .int .i64 i, .undef, .undef, .undef, .undef, .undef, .undef, .undef, .undef, .undef, .undef, .undef, .undef, .undef], [], 0⟩) (fun i => L.length - i) 0 (Nat.zero_le _) ?_ (fun i hi => ?_)
  · refine Weak.cut (0) (by simp) (by simp) ?_ ?_
    · simp [LeC, LeV, ren, cutF, psum]
    · rfl
  simp -implicitDefEqProofs -dsimp only [go_sem, Nat.reduceSub, Nat.reduceAdd, Nat.reduceMul, Nat.reduceLT, Nat.reduceLeDiff, Nat.reduceEqDiff, Nat.reduceDiv, Nat.reduceMod, Int.reduceToNat, Int.reduceLE, Int.reduceLT, Int.reduceBEq, Int.reduceBNe, Int.reduceNeg, Int.reduceAdd, Int.reduceSub, Int.reduceMul, reduceCtorEq]
  refine condT.split (fun h1 => ?_) (fun h1 => ?_)
  · have hi' : i < L.length := by simpa using h1
    have hr := rows_at IntS.csl hi'
    have hb := psum_bound (f := fun x : Int => x) (B := 1000) (L := L.take i) (fun x hx => hL x (List.mem_of_mem_take hx))
    have hbl : (((L.take i).length : Nat) : Int) * 1000 ≤ 1000000 := by simp; omega
    have hx := hL _ (List.getElem_mem hi')
    have hs := psum_succ (fun x : Int => x) hi'
    have hw : IntKind.i64.wrap (psum (fun x => x) (L.take i) + L[i]) = psum (fun x => x) (L.take (i + 1)) := by rw [wrap_i64 (by omega) (by omega), hs]
    (repeat ((repeat1' (first | simp -implicitDefEqProofs -dsimp only [go_sem, Nat.reduceSub, Nat.reduceAdd, Nat.reduceMul, Nat.reduceLT, Nat.reduceLeDiff, Nat.reduceEqDiff, Nat.reduceDiv, Nat.reduceMod, Int.reduceToNat, Int.reduceLE, Int.reduceLT, Int.reduceBEq, Int.reduceBNe, Int.reduceNeg, Int.reduceAdd, Int.reduceSub, Int.reduceMul, reduceCtorEq, h1, hr, IntS.cs, hw] | simp -implicitDefEqProofs -dsimp (disch := omega) only [wrap_i64])); repeat (with_reducible refine sideA ?_)))
    refine ⟨i + 1, hi', ?_, by omega⟩
    refine Weak.cut (0) (by simp) (by simp) ?_ ?_
    · simp [LeC, LeV, ren, cutF]
    · rfl
  · (repeat ((repeat1' (first | simp -implicitDefEqProofs -dsimp only [go_sem, Nat.reduceSub, Nat.reduceAdd, Nat.reduceMul, Nat.reduceLT, Nat.reduceLeDiff, Nat.reduceEqDiff, Nat.reduceDiv, Nat.reduceMod, Int.reduceToNat, Int.reduceLE, Int.reduceLT, Int.reduceBEq, Int.reduceBNe, Int.reduceNeg, Int.reduceAdd, Int.reduceSub, Int.reduceMul, reduceCtorEq, h1] | simp -implicitDefEqProofs -dsimp (disch := omega) only [wrap_i64])); repeat (with_reducible refine sideA ?_)))
    have hi' : i = L.length := by simp at h1; omega
    subst hi'
    rw [List.take_length]
    exact WeakR.drop' rfl (by rfl)
end Go.Proofs
end
