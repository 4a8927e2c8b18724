/-
  Bulletins: the better rows of both lists. Conditions: none.
-/
import Derived.Test.YtekhnmibkkinaaaF24c
import Derived.Test.YtekhnmibkkinaaaSQuakeRow
import Derived.Test.YtekhnmibkkinaaaOQuakeRow
import Derived.Test.YtekhnmibkkinaaaF25r
set_option linter.unusedSimpArgs false
set_option linter.unusedVariables false
set_option maxRecDepth 100000
set_option maxHeartbeats 2000000
namespace Go.Proofs
open Go.Lv
def sameQ (a b : QuakeRow) : Bool := inB' (a.Tick - b.Tick) (-300) 300 && decide ((a.X - b.X) * (a.X - b.X) + (a.Y - b.Y) * (a.Y - b.Y) ≤ 400)
def betB (r q : QuakeRow) : Bool := sameQ r q && decide (q.Grade < r.Grade)
def bestOne (B : List QuakeRow) (r : QuakeRow) : QuakeRow := if idxI (betB r) B < 0 then r else B.getD (idxI (betB r) B).toNat r
theorem bestOne_found {B : List QuakeRow} {r : QuakeRow} {k : Nat} (h : k < B.length) (h0 : (B.take k).any (betB r) = false) (h1 : betB r B[k] = true) : bestOne B r = B[k] := by
  rw [bestOne, idxI_found h h0 h1, if_neg (by omega)]; simp [List.getD, h]
theorem bestOne_none {B : List QuakeRow} {r : QuakeRow} (h : B.any (betB r) = false) : bestOne B r = r := by
  rw [bestOne, idxI_none h, if_pos (by omega)]
theorem idxI_cases {α : Type} (p : α → Bool) (L : List α) : idxI p L = -1 ∨ ∃ k, ∃ _ : k < L.length, idxI p L = (k : Int) := by
  unfold idxI
  cases h : L.findIdx? p with
  | none => exact .inl rfl
  | some i =>
    rw [List.findIdx?_eq_some_iff_getElem] at h
    obtain ⟨hi, _⟩ := h
    exact .inr ⟨i, hi, rfl⟩
def ltT (x y : QuakeRow) : Bool := decide (x.Tick < y.Tick)
def srtQ (B L : List QuakeRow) (i : Nat) : List QuakeRow := insSort ltT ((L.map (bestOne B)).take i)
theorem srtQ_len {B L : List QuakeRow} {i : Nat} (h : i ≤ L.length) : (srtQ B L i).length = i := by simp [srtQ, insSort_len]; omega
theorem srtQ_succ {B L : List QuakeRow} {i : Nat} (h : i < L.length) : srtQ B L (i + 1) = ins ltT (srtQ B L i) (bestOne B L[i]) := by
  have h' : i < (L.map (bestOne B)).length := by simpa using h
  rw [srtQ, insSort_take h']; simp [srtQ]
theorem srtQ_all (B L : List QuakeRow) : srtQ B L L.length = insSort ltT (L.map (bestOne B)) := by
  have : L.length = (L.map (bestOne B)).length := by simp
  rw [srtQ, this, List.take_length]
/-- The better rows of both lists: what both return. -/
def bothR (L B : List QuakeRow) : Option (List QuakeRow) := if bulB L = true ∧ bulB B = true ∧ bulB (insSort ltT (L.map (bestOne B))) = true then some (insSort ltT (L.map (bestOne B))) else none
theorem bothR_no {L B : List QuakeRow} (h : bulB L = false ∨ bulB B = false ∨ bulB (insSort ltT (L.map (bestOne B))) = false) : bothR L B = none := by
  rw [bothR, if_neg]
  rintro ⟨h1, h2, h3⟩
  simp [h1, h2, h3] at h
theorem l24Same_ok (a b : QuakeRow) (ha : qrB a = true) (hb : qrB b = true) : Ctr Try.prog 112 [a.v, b.v] [] (.bool (sameQ a b)) [] := by
  have h1 := qrB_iff.1 ha
  have h2 := qrB_iff.1 hb
  refine Ctr.intro Try.mixed Try.func112 rfl Try.okF112 ?_
  simp -implicitDefEqProofs -dsimp only [go_sem, Nat.reduceSub, Nat.reduceAdd, Nat.reduceMul, Nat.reduceLT, Nat.reduceLeDiff, Nat.reduceEqDiff, Nat.reduceDiv, Nat.reduceMod, Int.reduceToNat, Int.reduceLE, Int.reduceLT, Int.reduceBEq, Int.reduceBNe, Int.reduceNeg, Int.reduceAdd, Int.reduceSub, Int.reduceMul, reduceCtorEq, Try.ntmps112, Try.results112]
  (repeat ((repeat1' (first | simp -implicitDefEqProofs -dsimp only [go_sem, Nat.reduceSub, Nat.reduceAdd, Nat.reduceMul, Nat.reduceLT, Nat.reduceLeDiff, Nat.reduceEqDiff, Nat.reduceDiv, Nat.reduceMod, Int.reduceToNat, Int.reduceLE, Int.reduceLT, Int.reduceBEq, Int.reduceBNe, Int.reduceNeg, Int.reduceAdd, Int.reduceSub, Int.reduceMul, reduceCtorEq, QuakeRow.v] | simp -implicitDefEqProofs -dsimp (disch := omega) only [wrap_i64])); repeat (with_reducible refine sideA ?_)))
  (first | refine callT.at (l1In_ok _ _ _) ⟨leA, leA, leA, trivial⟩ ?_ | refine callS.at (l1In_ok _ _ _) ⟨leA, leA, leA, trivial⟩ ?_)
  (repeat ((repeat1' (first | simp -implicitDefEqProofs -dsimp only [go_sem, Nat.reduceSub, Nat.reduceAdd, Nat.reduceMul, Nat.reduceLT, Nat.reduceLeDiff, Nat.reduceEqDiff, Nat.reduceDiv, Nat.reduceMod, Int.reduceToNat, Int.reduceLE, Int.reduceLT, Int.reduceBEq, Int.reduceBNe, Int.reduceNeg, Int.reduceAdd, Int.reduceSub, Int.reduceMul, reduceCtorEq, QuakeRow.v] | simp -implicitDefEqProofs -dsimp (disch := omega) only [wrap_i64])); repeat (with_reducible refine sideA ?_)))
  refine guardT.split (fun h3 => ?_) (fun h3 => ?_) <;> (repeat ((repeat1' (first | simp -implicitDefEqProofs -dsimp only [go_sem, Nat.reduceSub, Nat.reduceAdd, Nat.reduceMul, Nat.reduceLT, Nat.reduceLeDiff, Nat.reduceEqDiff, Nat.reduceDiv, Nat.reduceMod, Int.reduceToNat, Int.reduceLE, Int.reduceLT, Int.reduceBEq, Int.reduceBNe, Int.reduceNeg, Int.reduceAdd, Int.reduceSub, Int.reduceMul, reduceCtorEq, h3] | simp -implicitDefEqProofs -dsimp (disch := omega) only [wrap_i64])); repeat (with_reducible refine sideA ?_)))
  · (first | refine callT.at (l24Square_ok a b.X b.Y (by omega) (by omega)) ⟨leA, leA, leA, trivial⟩ ?_ | refine callS.at (l24Square_ok a b.X b.Y (by omega) (by omega)) ⟨leA, leA, leA, trivial⟩ ?_)
    (repeat ((repeat1' (first | simp -implicitDefEqProofs -dsimp only [go_sem, Nat.reduceSub, Nat.reduceAdd, Nat.reduceMul, Nat.reduceLT, Nat.reduceLeDiff, Nat.reduceEqDiff, Nat.reduceDiv, Nat.reduceMod, Int.reduceToNat, Int.reduceLE, Int.reduceLT, Int.reduceBEq, Int.reduceBNe, Int.reduceNeg, Int.reduceAdd, Int.reduceSub, Int.reduceMul, reduceCtorEq] | simp -implicitDefEqProofs -dsimp (disch := omega) only [wrap_i64])); repeat (with_reducible refine sideA ?_)))
    exact WeakR.drop' (by simp [sameQ, h3]) rfl
  · exact WeakR.drop' (by simp [sameQ, h3]) rfl
theorem sameEvent_ok (a b : QuakeRow) (ha : qrB a = true) (hb : qrB b = true) : Ctr Try.prog 118 [a.v, b.v] [] (.bool (sameQ a b)) [] := by
  have h1 := qrB_iff.1 ha
  have h2 := qrB_iff.1 hb
  have he : decide (((a.Tick - b.Tick).natAbs : Int) ≤ 300) = inB' (a.Tick - b.Tick) (-300) 300 := by simp only [inB', ← Bool.decide_and]; exact decide_eq_decide.2 (by omega)
  refine Ctr.intro Try.mixed Try.func118 rfl Try.okF118 ?_
  simp -implicitDefEqProofs -dsimp only [go_sem, Nat.reduceSub, Nat.reduceAdd, Nat.reduceMul, Nat.reduceLT, Nat.reduceLeDiff, Nat.reduceEqDiff, Nat.reduceDiv, Nat.reduceMod, Int.reduceToNat, Int.reduceLE, Int.reduceLT, Int.reduceBEq, Int.reduceBNe, Int.reduceNeg, Int.reduceAdd, Int.reduceSub, Int.reduceMul, reduceCtorEq, Try.ntmps118, Try.results118]
  (repeat ((repeat1' (first | simp -implicitDefEqProofs -dsimp only [go_sem, Nat.reduceSub, Nat.reduceAdd, Nat.reduceMul, Nat.reduceLT, Nat.reduceLeDiff, Nat.reduceEqDiff, Nat.reduceDiv, Nat.reduceMod, Int.reduceToNat, Int.reduceLE, Int.reduceLT, Int.reduceBEq, Int.reduceBNe, Int.reduceNeg, Int.reduceAdd, Int.reduceSub, Int.reduceMul, reduceCtorEq, QuakeRow.v] | simp -implicitDefEqProofs -dsimp (disch := omega) only [wrap_i64])); repeat (with_reducible refine sideA ?_)))
  (first | refine callT.at (abs_ok (a.Tick - b.Tick) (by omega) (by omega)) ⟨leA, trivial⟩ ?_ | refine callS.at (abs_ok (a.Tick - b.Tick) (by omega) (by omega)) ⟨leA, trivial⟩ ?_)
  (repeat ((repeat1' (first | simp -implicitDefEqProofs -dsimp only [go_sem, Nat.reduceSub, Nat.reduceAdd, Nat.reduceMul, Nat.reduceLT, Nat.reduceLeDiff, Nat.reduceEqDiff, Nat.reduceDiv, Nat.reduceMod, Int.reduceToNat, Int.reduceLE, Int.reduceLT, Int.reduceBEq, Int.reduceBNe, Int.reduceNeg, Int.reduceAdd, Int.reduceSub, Int.reduceMul, reduceCtorEq, he] | simp -implicitDefEqProofs -dsimp (disch := omega) only [wrap_i64])); repeat (with_reducible refine sideA ?_)))
  refine guardT.split (fun h3 => ?_) (fun h3 => ?_) <;> (repeat ((repeat1' (first | simp -implicitDefEqProofs -dsimp only [go_sem, Nat.reduceSub, Nat.reduceAdd, Nat.reduceMul, Nat.reduceLT, Nat.reduceLeDiff, Nat.reduceEqDiff, Nat.reduceDiv, Nat.reduceMod, Int.reduceToNat, Int.reduceLE, Int.reduceLT, Int.reduceBEq, Int.reduceBNe, Int.reduceNeg, Int.reduceAdd, Int.reduceSub, Int.reduceMul, reduceCtorEq, h3] | simp -implicitDefEqProofs -dsimp (disch := omega) only [wrap_i64])); repeat (with_reducible refine sideA ?_)))
  · (first | refine callT.at (square_ok (a.X - b.X) (a.Y - b.Y) (by omega) (by omega)) ⟨leA, leA, trivial⟩ ?_ | refine callS.at (square_ok (a.X - b.X) (a.Y - b.Y) (by omega) (by omega)) ⟨leA, leA, trivial⟩ ?_)
    (repeat ((repeat1' (first | simp -implicitDefEqProofs -dsimp only [go_sem, Nat.reduceSub, Nat.reduceAdd, Nat.reduceMul, Nat.reduceLT, Nat.reduceLeDiff, Nat.reduceEqDiff, Nat.reduceDiv, Nat.reduceMod, Int.reduceToNat, Int.reduceLE, Int.reduceLT, Int.reduceBEq, Int.reduceBNe, Int.reduceNeg, Int.reduceAdd, Int.reduceSub, Int.reduceMul, reduceCtorEq] | simp -implicitDefEqProofs -dsimp (disch := omega) only [wrap_i64])); repeat (with_reducible refine sideA ?_)))
    exact WeakR.drop' (by simp [sameQ, h3]) rfl
  · exact WeakR.drop' (by simp [sameQ, h3]) rfl
theorem better_ok (r q : QuakeRow) (hr : qrB r = true) (hq : qrB q = true) : Ctr Try.prog 117 [q.v, .pt r.cs] [] (.bool (betB r q)) [] := by
  refine Ctr.intro Try.mixed Try.func117 rfl Try.okF117 ?_
  simp -implicitDefEqProofs -dsimp only [go_sem, Nat.reduceSub, Nat.reduceAdd, Nat.reduceMul, Nat.reduceLT, Nat.reduceLeDiff, Nat.reduceEqDiff, Nat.reduceDiv, Nat.reduceMod, Int.reduceToNat, Int.reduceLE, Int.reduceLT, Int.reduceBEq, Int.reduceBNe, Int.reduceNeg, Int.reduceAdd, Int.reduceSub, Int.reduceMul, reduceCtorEq, Try.ntmps117, Try.results117]
  (repeat ((repeat1' (first | simp -implicitDefEqProofs -dsimp only [go_sem, Nat.reduceSub, Nat.reduceAdd, Nat.reduceMul, Nat.reduceLT, Nat.reduceLeDiff, Nat.reduceEqDiff, Nat.reduceDiv, Nat.reduceMod, Int.reduceToNat, Int.reduceLE, Int.reduceLT, Int.reduceBEq, Int.reduceBNe, Int.reduceNeg, Int.reduceAdd, Int.reduceSub, Int.reduceMul, reduceCtorEq, QuakeRow.v, QuakeRow.cs] | simp -implicitDefEqProofs -dsimp (disch := omega) only [wrap_i64])); repeat (with_reducible refine sideA ?_)))
  (first | refine callT.at (sameEvent_ok r q hr hq) ⟨leA, leA, trivial⟩ ?_ | refine callS.at (sameEvent_ok r q hr hq) ⟨leA, leA, trivial⟩ ?_)
  (repeat ((repeat1' (first | simp -implicitDefEqProofs -dsimp only [go_sem, Nat.reduceSub, Nat.reduceAdd, Nat.reduceMul, Nat.reduceLT, Nat.reduceLeDiff, Nat.reduceEqDiff, Nat.reduceDiv, Nat.reduceMod, Int.reduceToNat, Int.reduceLE, Int.reduceLT, Int.reduceBEq, Int.reduceBNe, Int.reduceNeg, Int.reduceAdd, Int.reduceSub, Int.reduceMul, reduceCtorEq] | simp -implicitDefEqProofs -dsimp (disch := omega) only [wrap_i64])); repeat (with_reducible refine sideA ?_)))
  refine guardT.split (fun h3 => ?_) (fun h3 => ?_) <;> (repeat ((repeat1' (first | simp -implicitDefEqProofs -dsimp only [go_sem, Nat.reduceSub, Nat.reduceAdd, Nat.reduceMul, Nat.reduceLT, Nat.reduceLeDiff, Nat.reduceEqDiff, Nat.reduceDiv, Nat.reduceMod, Int.reduceToNat, Int.reduceLE, Int.reduceLT, Int.reduceBEq, Int.reduceBNe, Int.reduceNeg, Int.reduceAdd, Int.reduceSub, Int.reduceMul, reduceCtorEq, h3] | simp -implicitDefEqProofs -dsimp (disch := omega) only [wrap_i64])); repeat (with_reducible refine sideA ?_)))
  · exact WeakR.drop' (by simp [betB, h3]) rfl
  · exact WeakR.drop' (by simp [betB, h3]) rfl
theorem cmpTick_ok (a b : QuakeRow) : Ctr Try.prog 120 [a.v, b.v] [] (.int .i64 (cmpI a.Tick b.Tick)) [] := by
  refine Ctr.intro Try.mixed Try.func120 rfl Try.okF120 ?_
  simp -implicitDefEqProofs -dsimp only [go_sem, Nat.reduceSub, Nat.reduceAdd, Nat.reduceMul, Nat.reduceLT, Nat.reduceLeDiff, Nat.reduceEqDiff, Nat.reduceDiv, Nat.reduceMod, Int.reduceToNat, Int.reduceLE, Int.reduceLT, Int.reduceBEq, Int.reduceBNe, Int.reduceNeg, Int.reduceAdd, Int.reduceSub, Int.reduceMul, reduceCtorEq, Try.ntmps120, Try.results120]
  (repeat ((repeat1' (first | simp -implicitDefEqProofs -dsimp only [go_sem, Nat.reduceSub, Nat.reduceAdd, Nat.reduceMul, Nat.reduceLT, Nat.reduceLeDiff, Nat.reduceEqDiff, Nat.reduceDiv, Nat.reduceMod, Int.reduceToNat, Int.reduceLE, Int.reduceLT, Int.reduceBEq, Int.reduceBNe, Int.reduceNeg, Int.reduceAdd, Int.reduceSub, Int.reduceMul, reduceCtorEq, QuakeRow.v] | simp -implicitDefEqProofs -dsimp (disch := omega) only [wrap_i64])); repeat (with_reducible refine sideA ?_)))
  (first | refine callT.at (compareInt_ok a.Tick b.Tick) ⟨leA, leA, trivial⟩ ?_ | refine callS.at (compareInt_ok a.Tick b.Tick) ⟨leA, leA, trivial⟩ ?_)
  (repeat ((repeat1' (first | simp -implicitDefEqProofs -dsimp only [go_sem, Nat.reduceSub, Nat.reduceAdd, Nat.reduceMul, Nat.reduceLT, Nat.reduceLeDiff, Nat.reduceEqDiff, Nat.reduceDiv, Nat.reduceMod, Int.reduceToNat, Int.reduceLE, Int.reduceLT, Int.reduceBEq, Int.reduceBNe, Int.reduceNeg, Int.reduceAdd, Int.reduceSub, Int.reduceMul, reduceCtorEq] | simp -implicitDefEqProofs -dsimp (disch := omega) only [wrap_i64])); repeat (with_reducible refine sideA ?_)))
  exact WeakR.drop' rfl rfl
theorem copyOfQuakeRow_ok (L : List QuakeRow) (hl : L.length ≤ 1048576) : Ctr Try.prog 115 [QuakeRow.sl L] [] (.osl 0 0 L.length 7) [some (rows QuakeRow.cs L)] := by
  refine Ctr.intro Try.mixed Try.func115 rfl Try.okF115 ?_
  simp -implicitDefEqProofs -dsimp only [go_sem, Nat.reduceSub, Nat.reduceAdd, Nat.reduceMul, Nat.reduceLT, Nat.reduceLeDiff, Nat.reduceEqDiff, Nat.reduceDiv, Nat.reduceMod, Int.reduceToNat, Int.reduceLE, Int.reduceLT, Int.reduceBEq, Int.reduceBNe, Int.reduceNeg, Int.reduceAdd, Int.reduceSub, Int.reduceMul, reduceCtorEq, Try.ntmps115, Try.results115]
  repeat (with_reducible refine sideA ?_)
  exact WeakR.refl _ _ _
theorem sBestOfBoth_ok (L B : List QuakeRow) (hl : L.length ≤ 1048576) (hb : B.length ≤ 1048576) : Ctr Try.prog 38 [QuakeRow.sl L, QuakeRow.sl B] [] (optO 7 (bothR L B)) (optOh QuakeRow.cs (bothR L B)) := by
  refine Ctr.intro Try.mixed Try.func38 rfl Try.okF38 ?_
  simp -implicitDefEqProofs -dsimp only [go_sem, Nat.reduceSub, Nat.reduceAdd, Nat.reduceMul, Nat.reduceLT, Nat.reduceLeDiff, Nat.reduceEqDiff, Nat.reduceDiv, Nat.reduceMod, Int.reduceToNat, Int.reduceLE, Int.reduceLT, Int.reduceBEq, Int.reduceBNe, Int.reduceNeg, Int.reduceAdd, Int.reduceSub, Int.reduceMul, reduceCtorEq, Try.ntmps38, Try.results38]
  (first | refine callT.at (l24Good_ok L (by omega)) ⟨leA, trivial⟩ ?_ | refine callS.at (l24Good_ok L (by omega)) ⟨leA, trivial⟩ ?_)
  simp -implicitDefEqProofs -dsimp only [go_sem, Nat.reduceSub, Nat.reduceAdd, Nat.reduceMul, Nat.reduceLT, Nat.reduceLeDiff, Nat.reduceEqDiff, Nat.reduceDiv, Nat.reduceMod, Int.reduceToNat, Int.reduceLE, Int.reduceLT, Int.reduceBEq, Int.reduceBNe, Int.reduceNeg, Int.reduceAdd, Int.reduceSub, Int.reduceMul, reduceCtorEq]
  refine guardT.splitF (fun h1 => ?_) (fun h1 => ?_) <;> simp -implicitDefEqProofs -dsimp only [go_sem, Nat.reduceSub, Nat.reduceAdd, Nat.reduceMul, Nat.reduceLT, Nat.reduceLeDiff, Nat.reduceEqDiff, Nat.reduceDiv, Nat.reduceMod, Int.reduceToNat, Int.reduceLE, Int.reduceLT, Int.reduceBEq, Int.reduceBNe, Int.reduceNeg, Int.reduceAdd, Int.reduceSub, Int.reduceMul, reduceCtorEq, h1]
  rotate_left
  · rw [bothR_no (.inl (by simpa using h1))]
    exact WeakR.refl _ _ _
  (first | refine callT.at (l24Good_ok B (by omega)) ⟨leA, trivial⟩ ?_ | refine callS.at (l24Good_ok B (by omega)) ⟨leA, trivial⟩ ?_)
  simp -implicitDefEqProofs -dsimp only [go_sem, Nat.reduceSub, Nat.reduceAdd, Nat.reduceMul, Nat.reduceLT, Nat.reduceLeDiff, Nat.reduceEqDiff, Nat.reduceDiv, Nat.reduceMod, Int.reduceToNat, Int.reduceLE, Int.reduceLT, Int.reduceBEq, Int.reduceBNe, Int.reduceNeg, Int.reduceAdd, Int.reduceSub, Int.reduceMul, reduceCtorEq]
  refine condT.split (fun h2 => ?_) (fun h2 => ?_) <;> simp -implicitDefEqProofs -dsimp only [go_sem, Nat.reduceSub, Nat.reduceAdd, Nat.reduceMul, Nat.reduceLT, Nat.reduceLeDiff, Nat.reduceEqDiff, Nat.reduceDiv, Nat.reduceMod, Int.reduceToNat, Int.reduceLE, Int.reduceLT, Int.reduceBEq, Int.reduceBNe, Int.reduceNeg, Int.reduceAdd, Int.reduceSub, Int.reduceMul, reduceCtorEq, h2]
  · rw [bothR_no (.inr (.inl (by simpa using h2)))]
    exact WeakR.refl _ _ _
  have h1' : bulB L = true := by simpa using h1
  have h2' : bulB B = true := by simpa using h2
  obtain ⟨hv, hlen⟩ := bulB_all h1'
  obtain ⟨hvb, hlenb⟩ := bulB_all h2'
  refine LoopT.intro (fun i : Nat => i ≤ L.length) (fun i => ⟨[QuakeRow.sl L, QuakeRow.sl B, .undef, .undef, .undef, .undef, .osl 0 0 i 7, .int .i64 i, .undef, .undef, .undef, .undef, .undef, .undef, .undef, .undef, .undef, .undef, .undef, .undef, .undef, .undef, .undef, .undef, .undef, .undef, .undef, .undef, .undef, .undef, .undef, .undef, .undef, .undef, .undef, .undef, .undef, .undef, .undef, .undef, .undef, .undef, .undef, .undef, .undef, .undef, .undef, .undef, .undef, .undef, .undef, .undef, .undef, .undef, .undef, .undef, .undef, .undef, .undef, .undef, .undef, .undef, .undef, .undef, .undef, .undef, .undef, .undef, .undef, .undef, .undef, .undef, .undef, .undef, .undef, .undef, .undef, .undef, .undef, .undef, .undef, .undef, .undef, .undef, .undef, .undef, .undef, .undef, .undef, .undef, .undef, .undef, .undef, .undef, .undef, .undef, .undef], [some (rows QuakeRow.cs (srtQ B L i))], 0⟩) (fun i => L.length - i) 0 (Nat.zero_le _) ?_ (fun i hi => ?_)
  · refine Weak.cut (1) (by simp) (by simp) ?_ ?_
    · simp [LeC, LeV, ren, cutF]
    · simp [cutH, cutB, srtQ, insSort, rows]
  simp -implicitDefEqProofs -dsimp only [go_sem, Nat.reduceSub, Nat.reduceAdd, Nat.reduceMul, Nat.reduceLT, Nat.reduceLeDiff, Nat.reduceEqDiff, Nat.reduceDiv, Nat.reduceMod, Int.reduceToNat, Int.reduceLE, Int.reduceLT, Int.reduceBEq, Int.reduceBNe, Int.reduceNeg, Int.reduceAdd, Int.reduceSub, Int.reduceMul, reduceCtorEq]
  refine condT.split (fun h3 => ?_) (fun h3 => ?_)
  · have hi' : i < L.length := by simpa using h3
    have hS := srtQ_len (B := B) (L := L) hi
    have hr0 := rows_at QuakeRow.csl hi'
    have hvi := hv _ (List.getElem_mem hi')
    have fin : ∀ j : Nat, j ≤ i → posK ltT (srtQ B L i) (bestOne B L[i]) i = j → rows QuakeRow.cs ((srtQ B L i).take j) ++ (bestOne B L[i]).cs ++ rows QuakeRow.cs ((srtQ B L i).drop j) = rows QuakeRow.cs (srtQ B L (i + 1)) := by
      intro j hj hp
      rw [srtQ_succ hi', ins, hS, hp, putAt, rowsOf_append, rows_cons, List.append_assoc]
    (repeat ((repeat1' (first | simp -implicitDefEqProofs -dsimp only [go_sem, Nat.reduceSub, Nat.reduceAdd, Nat.reduceMul, Nat.reduceLT, Nat.reduceLeDiff, Nat.reduceEqDiff, Nat.reduceDiv, Nat.reduceMod, Int.reduceToNat, Int.reduceLE, Int.reduceLT, Int.reduceBEq, Int.reduceBNe, Int.reduceNeg, Int.reduceAdd, Int.reduceSub, Int.reduceMul, reduceCtorEq, h3, hr0, QuakeRow.cs] | simp -implicitDefEqProofs -dsimp (disch := omega) only [wrap_i64])); repeat (with_reducible refine sideA ?_)))
    refine LoopT.intro (fun k : Nat => k ≤ B.length ∧ (B.take k).any (betB L[i]) = false) (fun k => ⟨[QuakeRow.sl L, QuakeRow.sl B, .undef, .undef, .undef, .undef, .osl 0 0 i 7, .int .i64 i, .ptr 1 0, .int .i64 k, .undef, .undef, .undef, .undef, .undef, .undef, .undef, .undef, .undef, .undef, .undef, .undef, .undef, .undef, .undef, .undef, .undef, .undef, .undef, .undef, .undef, .undef, .undef, .undef, .undef, .undef, .undef, .undef, .undef, .undef, .undef, .undef, .undef, .undef, .undef, .undef, .undef, .undef, .undef, .undef, .undef, .undef, .undef, .undef, .undef, .undef, .undef, .undef, .undef, .undef, .undef, .undef, .undef, .undef, .undef, .undef, .undef, .undef, .undef, .undef, .undef, .undef, .undef, .undef, .undef, .undef, .undef, .undef, .undef, .undef, .undef, .undef, .undef, .undef, .undef, .undef, .undef, .undef, .undef, .undef, .undef, .undef, .undef, .undef, .undef, .undef, .undef], [some (rows QuakeRow.cs (srtQ B L i)), some L[i].cs], 0⟩) (fun k => B.length - k) 0 ⟨Nat.zero_le _, rfl⟩ ?_ (fun k hk => ?_)
    · refine Weak.cut (2) (by simp) (by simp) ?_ ?_
      · simp [LeC, LeV, ren, cutF]
      · simp [cutH, cutB, map_ren_rows, ren, QuakeRow.cs]
    simp -implicitDefEqProofs -dsimp only [go_sem, Nat.reduceSub, Nat.reduceAdd, Nat.reduceMul, Nat.reduceLT, Nat.reduceLeDiff, Nat.reduceEqDiff, Nat.reduceDiv, Nat.reduceMod, Int.reduceToNat, Int.reduceLE, Int.reduceLT, Int.reduceBEq, Int.reduceBNe, Int.reduceNeg, Int.reduceAdd, Int.reduceSub, Int.reduceMul, reduceCtorEq]
    refine condT.split (fun h4 => ?_) (fun h4 => ?_)
    · have hk' : k < B.length := by simpa using h4
      have hrk := rows_at QuakeRow.csl hk'
      have hvk := hvb _ (List.getElem_mem hk')
      (repeat ((repeat1' (first | simp -implicitDefEqProofs -dsimp only [go_sem, Nat.reduceSub, Nat.reduceAdd, Nat.reduceMul, Nat.reduceLT, Nat.reduceLeDiff, Nat.reduceEqDiff, Nat.reduceDiv, Nat.reduceMod, Int.reduceToNat, Int.reduceLE, Int.reduceLT, Int.reduceBEq, Int.reduceBNe, Int.reduceNeg, Int.reduceAdd, Int.reduceSub, Int.reduceMul, reduceCtorEq, h4, hr0, hrk, QuakeRow.cs] | simp -implicitDefEqProofs -dsimp (disch := omega) only [wrap_i64])); repeat (with_reducible refine sideA ?_)))
      (first | refine callT.at (l24Same_ok L[i] B[k] hvi hvk) ⟨leA, leA, trivial⟩ ?_ | refine callS.at (l24Same_ok L[i] B[k] hvi hvk) ⟨leA, leA, trivial⟩ ?_)
      (repeat ((repeat1' (first | simp -implicitDefEqProofs -dsimp only [go_sem, Nat.reduceSub, Nat.reduceAdd, Nat.reduceMul, Nat.reduceLT, Nat.reduceLeDiff, Nat.reduceEqDiff, Nat.reduceDiv, Nat.reduceMod, Int.reduceToNat, Int.reduceLE, Int.reduceLT, Int.reduceBEq, Int.reduceBNe, Int.reduceNeg, Int.reduceAdd, Int.reduceSub, Int.reduceMul, reduceCtorEq, hr0, hrk, QuakeRow.cs] | simp -implicitDefEqProofs -dsimp (disch := omega) only [wrap_i64])); repeat (with_reducible refine sideA ?_)))
      have go : betB L[i] B[k] = false → (B.take (k + 1)).any (betB L[i]) = false := fun h => by rw [List.take_succ_eq_append_getElem hk']; simp only [List.any_append, hk.2, List.any_cons, h, List.any_nil, Bool.or_self]
      refine guardT.split (fun h5 => ?_) (fun h5 => ?_) <;> (repeat ((repeat1' (first | simp -implicitDefEqProofs -dsimp only [go_sem, Nat.reduceSub, Nat.reduceAdd, Nat.reduceMul, Nat.reduceLT, Nat.reduceLeDiff, Nat.reduceEqDiff, Nat.reduceDiv, Nat.reduceMod, Int.reduceToNat, Int.reduceLE, Int.reduceLT, Int.reduceBEq, Int.reduceBNe, Int.reduceNeg, Int.reduceAdd, Int.reduceSub, Int.reduceMul, reduceCtorEq, h5, hr0, hrk, QuakeRow.cs] | simp -implicitDefEqProofs -dsimp (disch := omega) only [wrap_i64])); repeat (with_reducible refine sideA ?_)))
      · refine condT.split (fun h6 => ?_) (fun h6 => ?_)
        · have hq := bestOne_found hk' hk.2 (by simp [betB, h5, h6])
          (repeat ((repeat1' (first | simp -implicitDefEqProofs -dsimp only [go_sem, Nat.reduceSub, Nat.reduceAdd, Nat.reduceMul, Nat.reduceLT, Nat.reduceLeDiff, Nat.reduceEqDiff, Nat.reduceDiv, Nat.reduceMod, Int.reduceToNat, Int.reduceLE, Int.reduceLT, Int.reduceBEq, Int.reduceBNe, Int.reduceNeg, Int.reduceAdd, Int.reduceSub, Int.reduceMul, reduceCtorEq, h6, hrk, QuakeRow.cs] | simp -implicitDefEqProofs -dsimp (disch := omega) only [wrap_i64])); repeat (with_reducible refine sideA ?_)))
          refine LoopT.intro (fun j : Nat => j ≤ i ∧ posK ltT (srtQ B L i) (bestOne B L[i]) i = posK ltT (srtQ B L i) (bestOne B L[i]) j) (fun j => ⟨[QuakeRow.sl L, QuakeRow.sl B, .undef, .undef, .undef, .undef, .osl 0 0 i 7, .int .i64 i, .ptr 1 0, .undef, .int .i64 j, .undef, .undef, .undef, .undef, .undef, .undef, .undef, .undef, .undef, .undef, .undef, .undef, .undef, .undef, .undef, .undef, .undef, .undef, .undef, .undef, .undef, .undef, .undef, .undef, .undef, .undef, .undef, .undef, .undef, .undef, .undef, .undef, .undef, .undef, .undef, .undef, .undef, .undef, .undef, .undef, .undef, .undef, .undef, .undef, .undef, .undef, .undef, .undef, .undef, .undef, .undef, .undef, .undef, .undef, .undef, .undef, .undef, .undef, .undef, .undef, .undef, .undef, .undef, .undef, .undef, .undef, .undef, .undef, .undef, .undef, .undef, .undef, .undef, .undef, .undef, .undef, .undef, .undef, .undef, .undef, .undef, .undef, .undef, .undef, .undef, .undef], [some (rows QuakeRow.cs (srtQ B L i)), some ((bestOne B L[i]).cs)], 0⟩) (fun j => j) i ⟨Nat.le_refl _, rfl⟩ ?_ (fun j hj => ?_)
          · refine Weak.cut (2) (by simp) (by simp) ?_ ?_
            · simp [LeC, LeV, ren, cutF]
            · simp [cutH, cutB, map_ren_rows, hq, ren, QuakeRow.cs]
          simp -implicitDefEqProofs -dsimp only [go_sem, Nat.reduceSub, Nat.reduceAdd, Nat.reduceMul, Nat.reduceLT, Nat.reduceLeDiff, Nat.reduceEqDiff, Nat.reduceDiv, Nat.reduceMod, Int.reduceToNat, Int.reduceLE, Int.reduceLT, Int.reduceBEq, Int.reduceBNe, Int.reduceNeg, Int.reduceAdd, Int.reduceSub, Int.reduceMul, reduceCtorEq]
          refine ⟨by kernel_rfl, ?_⟩
          cases j with
          | zero =>
            have hz : ((0 : Nat) : Int) = 0 := rfl
            (repeat ((repeat1' (first | simp -implicitDefEqProofs -dsimp only [go_sem, Nat.reduceSub, Nat.reduceAdd, Nat.reduceMul, Nat.reduceLT, Nat.reduceLeDiff, Nat.reduceEqDiff, Nat.reduceDiv, Nat.reduceMod, Int.reduceToNat, Int.reduceLE, Int.reduceLT, Int.reduceBEq, Int.reduceBNe, Int.reduceNeg, Int.reduceAdd, Int.reduceSub, Int.reduceMul, reduceCtorEq, hz] | simp -implicitDefEqProofs -dsimp (disch := omega) only [wrap_i64])); repeat (with_reducible refine sideA ?_)))
            refine chT.intro [false, true, true, true, false, true, true, false, true, true, true, false, false] [true, true, true, true, true, true, true, true, true, true, true, true, false] [some ⟨none, 80, 62, []⟩, none, none, none, some ⟨some 0, 84, 62, [83]⟩, none, none, some ⟨some 4, 87, 62, [83, 86]⟩, none, none, none, some ⟨some 7, 91, 62, [83, 86, 90]⟩, none] [⟨11, 91, 62, [83, 86, 90]⟩] (by kernel_rfl) (by rfl) ?_
            have hf := fin 0 (by omega) hj.2
            have htk := rows_take QuakeRow.csl (srtQ B L i) i
            rw [List.take_of_length_le (Nat.le_of_eq hS)] at htk
            simp only [List.take_zero, rows_nil, List.nil_append, List.drop_zero, List.cons_append, QuakeRow.cs] at hf
            (repeat ((repeat1' (first | simp -implicitDefEqProofs -dsimp only [go_sem, Nat.reduceSub, Nat.reduceAdd, Nat.reduceMul, Nat.reduceLT, Nat.reduceLeDiff, Nat.reduceEqDiff, Nat.reduceDiv, Nat.reduceMod, Int.reduceToNat, Int.reduceLE, Int.reduceLT, Int.reduceBEq, Int.reduceBNe, Int.reduceNeg, Int.reduceAdd, Int.reduceSub, Int.reduceMul, reduceCtorEq, QuakeRow.cs, Nat.sub_zero, htk] | simp -implicitDefEqProofs -dsimp (disch := omega) only [wrap_i64])); repeat (with_reducible refine sideA ?_)))
            refine ⟨⟨by omega, by omega, rows_noOwn _ _⟩, i + 1, hi', ?_, by omega⟩
            refine Weak.pick [3] (by decide) (fun j hj => by omega) ?_ ?_
            · simp [LeG, LeC, LeV, ren, pickF, posOf]; omega
            · simp only [pickH, List.map_cons, List.map_nil, pickB, List.getElem?_cons_zero, List.getElem?_cons_succ, hf, map_ren_rows]
          | succ j =>
            have hjS : j < (srtQ B L i).length := by omega
            have hg : decide ((0 : Int) < ((j + 1 : Nat) : Int)) = true := decide_eq_true (by omega)
            have hw1 : IntKind.i64.wrap (((j + 1 : Nat) : Int) - 1) = (j : Int) := by rw [wrap_i64 (by omega) (by omega)]; omega
            have hrj := rows_at QuakeRow.csl hjS
            have hrj1 := rows_drop_at (cs := QuakeRow.cs) QuakeRow.csl hjS 1
            simp only [QuakeRow.cs, List.cons_append, List.drop_succ_cons, List.drop_zero] at hrj1
            have hlr := rows_len (w := 7) QuakeRow.csl (srtQ B L i)
            (repeat ((repeat1' (first | simp -implicitDefEqProofs -dsimp only [go_sem, Nat.reduceSub, Nat.reduceAdd, Nat.reduceMul, Nat.reduceLT, Nat.reduceLeDiff, Nat.reduceEqDiff, Nat.reduceDiv, Nat.reduceMod, Int.reduceToNat, Int.reduceLE, Int.reduceLT, Int.reduceBEq, Int.reduceBNe, Int.reduceNeg, Int.reduceAdd, Int.reduceSub, Int.reduceMul, reduceCtorEq, hg, hw1, hrj1, hlr, hS, QuakeRow.cs] | simp -implicitDefEqProofs -dsimp (disch := omega) only [wrap_i64])); repeat (with_reducible refine sideA ?_)))
            refine condT.split (fun h3 => ?_) (fun h3 => ?_)
            · (repeat ((repeat1' (first | simp -implicitDefEqProofs -dsimp only [go_sem, Nat.reduceSub, Nat.reduceAdd, Nat.reduceMul, Nat.reduceLT, Nat.reduceLeDiff, Nat.reduceEqDiff, Nat.reduceDiv, Nat.reduceMod, Int.reduceToNat, Int.reduceLE, Int.reduceLT, Int.reduceBEq, Int.reduceBNe, Int.reduceNeg, Int.reduceAdd, Int.reduceSub, Int.reduceMul, reduceCtorEq, h3, hw1] | simp -implicitDefEqProofs -dsimp (disch := omega) only [wrap_i64])); repeat (with_reducible refine sideA ?_)))
              refine ⟨j, ⟨by omega, hj.2.trans (posK_down hjS h3)⟩, ?_, by omega⟩
              refine Weak.cut (2) (by simp) (by simp) ?_ ?_
              · simp [LeC, LeV, ren, cutF]
              · simp [cutH, cutB, map_ren_rows, ren, QuakeRow.cs]
            · (repeat ((repeat1' (first | simp -implicitDefEqProofs -dsimp only [go_sem, Nat.reduceSub, Nat.reduceAdd, Nat.reduceMul, Nat.reduceLT, Nat.reduceLeDiff, Nat.reduceEqDiff, Nat.reduceDiv, Nat.reduceMod, Int.reduceToNat, Int.reduceLE, Int.reduceLT, Int.reduceBEq, Int.reduceBNe, Int.reduceNeg, Int.reduceAdd, Int.reduceSub, Int.reduceMul, reduceCtorEq, h3] | simp -implicitDefEqProofs -dsimp (disch := omega) only [wrap_i64])); repeat (with_reducible refine sideA ?_)))
              have hp := hj.2.trans (posK_stay hjS h3)
              have hf := fin (j + 1) hj.1 hp
              simp only [QuakeRow.cs] at hf
              refine chT.intro [false, true, true, true, false, true, true, false, true, true, true, false, false] [true, true, true, true, true, true, true, true, true, true, true, true, false] [some ⟨none, 80, 62, []⟩, none, none, none, some ⟨some 0, 84, 62, [83]⟩, none, none, some ⟨some 4, 87, 62, [83, 86]⟩, none, none, none, some ⟨some 7, 91, 62, [83, 86, 90]⟩, none] [⟨11, 91, 62, [83, 86, 90]⟩] (by kernel_rfl) (by rfl) ?_
              have ht := rows_take QuakeRow.csl (srtQ B L i) (j + 1)
              have hd := rows_drop QuakeRow.csl (srtQ B L i) (j + 1)
              have htk := rows_take QuakeRow.csl ((srtQ B L i).drop (j + 1)) (i - (j + 1))
              rw [List.take_of_length_le (l := (srtQ B L i).drop (j + 1)) (by rw [List.length_drop, hS]; exact Nat.le_refl _)] at htk
              by_cases hji : j + 1 < i
              · have hif : (((j + 1 : Nat) : Int) = 0 ∨ ((j + 1 : Nat) : Int) < (i : Int)) = True := eq_true (by omega)
                (repeat ((repeat1' (first | simp -implicitDefEqProofs -dsimp only [go_sem, Nat.reduceSub, Nat.reduceAdd, Nat.reduceMul, Nat.reduceLT, Nat.reduceLeDiff, Nat.reduceEqDiff, Nat.reduceDiv, Nat.reduceMod, Int.reduceToNat, Int.reduceLE, Int.reduceLT, Int.reduceBEq, Int.reduceBNe, Int.reduceNeg, Int.reduceAdd, Int.reduceSub, Int.reduceMul, reduceCtorEq, QuakeRow.cs, ht, hd, htk, Nat.sub_zero, hif, if_true] | simp -implicitDefEqProofs -dsimp (disch := omega) only [wrap_i64])); repeat (with_reducible refine sideA ?_)))
                refine ⟨⟨by omega, by omega, by rw [hf]; exact rows_noOwn _ _⟩, i + 1, hi', ?_, by omega⟩
                refine Weak.pick [3] (by decide) (fun j hj => by omega) ?_ ?_
                · simp [LeG, LeC, LeV, ren, pickF, posOf]; omega
                · simp only [pickH, List.map_cons, List.map_nil, pickB, List.getElem?_cons_zero, List.getElem?_cons_succ, hf, map_ren_rows]
              · have hif : (((j + 1 : Nat) : Int) = 0 ∨ ((j + 1 : Nat) : Int) < (i : Int)) = False := eq_false (by omega)
                have hdz : (srtQ B L i).drop (j + 1) = [] := List.drop_of_length_le (by omega)
                rw [hdz, rows_nil, List.append_nil] at hf
                (repeat ((repeat1' (first | simp -implicitDefEqProofs -dsimp only [go_sem, Nat.reduceSub, Nat.reduceAdd, Nat.reduceMul, Nat.reduceLT, Nat.reduceLeDiff, Nat.reduceEqDiff, Nat.reduceDiv, Nat.reduceMod, Int.reduceToNat, Int.reduceLE, Int.reduceLT, Int.reduceBEq, Int.reduceBNe, Int.reduceNeg, Int.reduceAdd, Int.reduceSub, Int.reduceMul, reduceCtorEq, QuakeRow.cs, ht, Nat.sub_zero, hif, if_false] | simp -implicitDefEqProofs -dsimp (disch := omega) only [wrap_i64])); repeat (with_reducible refine sideA ?_)))
                refine ⟨⟨by omega, by omega, by rw [hf]; exact rows_noOwn _ _⟩, i + 1, hi', ?_, by omega⟩
                refine Weak.pick [3] (by decide) (fun j hj => by omega) ?_ ?_
                · simp [LeG, LeC, LeV, ren, pickF, posOf]; omega
                · simp only [pickH, List.map_cons, List.map_nil, pickB, List.getElem?_cons_zero, List.getElem?_cons_succ, hf, map_ren_rows, List.append_nil]
        · (repeat ((repeat1' (first | simp -implicitDefEqProofs -dsimp only [go_sem, Nat.reduceSub, Nat.reduceAdd, Nat.reduceMul, Nat.reduceLT, Nat.reduceLeDiff, Nat.reduceEqDiff, Nat.reduceDiv, Nat.reduceMod, Int.reduceToNat, Int.reduceLE, Int.reduceLT, Int.reduceBEq, Int.reduceBNe, Int.reduceNeg, Int.reduceAdd, Int.reduceSub, Int.reduceMul, reduceCtorEq, h6] | simp -implicitDefEqProofs -dsimp (disch := omega) only [wrap_i64])); repeat (with_reducible refine sideA ?_)))
          refine ⟨k + 1, ⟨hk', go (by simp [betB, h6])⟩, ?_, by omega⟩
          refine Weak.cut (2) (by simp) (by simp) ?_ ?_
          · simp [LeC, LeV, ren, cutF]
          · simp [cutH, cutB, map_ren_rows, ren, QuakeRow.cs]
      · refine ⟨k + 1, ⟨hk', go (by simp [betB, h5])⟩, ?_, by omega⟩
        refine Weak.cut (2) (by simp) (by simp) ?_ ?_
        · simp [LeC, LeV, ren, cutF]
        · simp [cutH, cutB, map_ren_rows, ren, QuakeRow.cs]
    · have hk' : k = B.length := by simp at h4; omega
      subst hk'
      have hk2 := hk.2
      rw [List.take_length] at hk2
      have hq := bestOne_none hk2
      (repeat ((repeat1' (first | simp -implicitDefEqProofs -dsimp only [go_sem, Nat.reduceSub, Nat.reduceAdd, Nat.reduceMul, Nat.reduceLT, Nat.reduceLeDiff, Nat.reduceEqDiff, Nat.reduceDiv, Nat.reduceMod, Int.reduceToNat, Int.reduceLE, Int.reduceLT, Int.reduceBEq, Int.reduceBNe, Int.reduceNeg, Int.reduceAdd, Int.reduceSub, Int.reduceMul, reduceCtorEq, h4] | simp -implicitDefEqProofs -dsimp (disch := omega) only [wrap_i64])); repeat (with_reducible refine sideA ?_)))
      refine LoopT.intro (fun j : Nat => j ≤ i ∧ posK ltT (srtQ B L i) (bestOne B L[i]) i = posK ltT (srtQ B L i) (bestOne B L[i]) j) (fun j => ⟨[QuakeRow.sl L, QuakeRow.sl B, .undef, .undef, .undef, .undef, .osl 0 0 i 7, .int .i64 i, .ptr 1 0, .undef, .int .i64 j, .undef, .undef, .undef, .undef, .undef, .undef, .undef, .undef, .undef, .undef, .undef, .undef, .undef, .undef, .undef, .undef, .undef, .undef, .undef, .undef, .undef, .undef, .undef, .undef, .undef, .undef, .undef, .undef, .undef, .undef, .undef, .undef, .undef, .undef, .undef, .undef, .undef, .undef, .undef, .undef, .undef, .undef, .undef, .undef, .undef, .undef, .undef, .undef, .undef, .undef, .undef, .undef, .undef, .undef, .undef, .undef, .undef, .undef, .undef, .undef, .undef, .undef, .undef, .undef, .undef, .undef, .undef, .undef, .undef, .undef, .undef, .undef, .undef, .undef, .undef, .undef, .undef, .undef, .undef, .undef, .undef, .undef, .undef, .undef, .undef, .undef], [some (rows QuakeRow.cs (srtQ B L i)), some ((bestOne B L[i]).cs)], 0⟩) (fun j => j) i ⟨Nat.le_refl _, rfl⟩ ?_ (fun j hj => ?_)
      · refine Weak.cut (2) (by simp) (by simp) ?_ ?_
        · simp [LeC, LeV, ren, cutF]
        · simp [cutH, cutB, map_ren_rows, hq, ren, QuakeRow.cs]
      simp -implicitDefEqProofs -dsimp only [go_sem, Nat.reduceSub, Nat.reduceAdd, Nat.reduceMul, Nat.reduceLT, Nat.reduceLeDiff, Nat.reduceEqDiff, Nat.reduceDiv, Nat.reduceMod, Int.reduceToNat, Int.reduceLE, Int.reduceLT, Int.reduceBEq, Int.reduceBNe, Int.reduceNeg, Int.reduceAdd, Int.reduceSub, Int.reduceMul, reduceCtorEq]
      refine ⟨by kernel_rfl, ?_⟩
      cases j with
      | zero =>
        have hz : ((0 : Nat) : Int) = 0 := rfl
        (repeat ((repeat1' (first | simp -implicitDefEqProofs -dsimp only [go_sem, Nat.reduceSub, Nat.reduceAdd, Nat.reduceMul, Nat.reduceLT, Nat.reduceLeDiff, Nat.reduceEqDiff, Nat.reduceDiv, Nat.reduceMod, Int.reduceToNat, Int.reduceLE, Int.reduceLT, Int.reduceBEq, Int.reduceBNe, Int.reduceNeg, Int.reduceAdd, Int.reduceSub, Int.reduceMul, reduceCtorEq, hz] | simp -implicitDefEqProofs -dsimp (disch := omega) only [wrap_i64])); repeat (with_reducible refine sideA ?_)))
        refine chT.intro [false, true, true, true, false, true, true, false, true, true, true, false, false] [true, true, true, true, true, true, true, true, true, true, true, true, false] [some ⟨none, 80, 62, []⟩, none, none, none, some ⟨some 0, 84, 62, [83]⟩, none, none, some ⟨some 4, 87, 62, [83, 86]⟩, none, none, none, some ⟨some 7, 91, 62, [83, 86, 90]⟩, none] [⟨11, 91, 62, [83, 86, 90]⟩] (by kernel_rfl) (by rfl) ?_
        have hf := fin 0 (by omega) hj.2
        have htk := rows_take QuakeRow.csl (srtQ B L i) i
        rw [List.take_of_length_le (Nat.le_of_eq hS)] at htk
        simp only [List.take_zero, rows_nil, List.nil_append, List.drop_zero, List.cons_append, QuakeRow.cs] at hf
        (repeat ((repeat1' (first | simp -implicitDefEqProofs -dsimp only [go_sem, Nat.reduceSub, Nat.reduceAdd, Nat.reduceMul, Nat.reduceLT, Nat.reduceLeDiff, Nat.reduceEqDiff, Nat.reduceDiv, Nat.reduceMod, Int.reduceToNat, Int.reduceLE, Int.reduceLT, Int.reduceBEq, Int.reduceBNe, Int.reduceNeg, Int.reduceAdd, Int.reduceSub, Int.reduceMul, reduceCtorEq, QuakeRow.cs, Nat.sub_zero, htk] | simp -implicitDefEqProofs -dsimp (disch := omega) only [wrap_i64])); repeat (with_reducible refine sideA ?_)))
        refine ⟨⟨by omega, by omega, rows_noOwn _ _⟩, i + 1, hi', ?_, by omega⟩
        refine Weak.pick [3] (by decide) (fun j hj => by omega) ?_ ?_
        · simp [LeG, LeC, LeV, ren, pickF, posOf]; omega
        · simp only [pickH, List.map_cons, List.map_nil, pickB, List.getElem?_cons_zero, List.getElem?_cons_succ, hf, map_ren_rows]
      | succ j =>
        have hjS : j < (srtQ B L i).length := by omega
        have hg : decide ((0 : Int) < ((j + 1 : Nat) : Int)) = true := decide_eq_true (by omega)
        have hw1 : IntKind.i64.wrap (((j + 1 : Nat) : Int) - 1) = (j : Int) := by rw [wrap_i64 (by omega) (by omega)]; omega
        have hrj := rows_at QuakeRow.csl hjS
        have hrj1 := rows_drop_at (cs := QuakeRow.cs) QuakeRow.csl hjS 1
        simp only [QuakeRow.cs, List.cons_append, List.drop_succ_cons, List.drop_zero] at hrj1
        have hlr := rows_len (w := 7) QuakeRow.csl (srtQ B L i)
        (repeat ((repeat1' (first | simp -implicitDefEqProofs -dsimp only [go_sem, Nat.reduceSub, Nat.reduceAdd, Nat.reduceMul, Nat.reduceLT, Nat.reduceLeDiff, Nat.reduceEqDiff, Nat.reduceDiv, Nat.reduceMod, Int.reduceToNat, Int.reduceLE, Int.reduceLT, Int.reduceBEq, Int.reduceBNe, Int.reduceNeg, Int.reduceAdd, Int.reduceSub, Int.reduceMul, reduceCtorEq, hg, hw1, hrj1, hlr, hS, QuakeRow.cs] | simp -implicitDefEqProofs -dsimp (disch := omega) only [wrap_i64])); repeat (with_reducible refine sideA ?_)))
        refine condT.split (fun h3 => ?_) (fun h3 => ?_)
        · (repeat ((repeat1' (first | simp -implicitDefEqProofs -dsimp only [go_sem, Nat.reduceSub, Nat.reduceAdd, Nat.reduceMul, Nat.reduceLT, Nat.reduceLeDiff, Nat.reduceEqDiff, Nat.reduceDiv, Nat.reduceMod, Int.reduceToNat, Int.reduceLE, Int.reduceLT, Int.reduceBEq, Int.reduceBNe, Int.reduceNeg, Int.reduceAdd, Int.reduceSub, Int.reduceMul, reduceCtorEq, h3, hw1] | simp -implicitDefEqProofs -dsimp (disch := omega) only [wrap_i64])); repeat (with_reducible refine sideA ?_)))
          refine ⟨j, ⟨by omega, hj.2.trans (posK_down hjS h3)⟩, ?_, by omega⟩
          refine Weak.cut (2) (by simp) (by simp) ?_ ?_
          · simp [LeC, LeV, ren, cutF]
          · simp [cutH, cutB, map_ren_rows, ren, QuakeRow.cs]
        · (repeat ((repeat1' (first | simp -implicitDefEqProofs -dsimp only [go_sem, Nat.reduceSub, Nat.reduceAdd, Nat.reduceMul, Nat.reduceLT, Nat.reduceLeDiff, Nat.reduceEqDiff, Nat.reduceDiv, Nat.reduceMod, Int.reduceToNat, Int.reduceLE, Int.reduceLT, Int.reduceBEq, Int.reduceBNe, Int.reduceNeg, Int.reduceAdd, Int.reduceSub, Int.reduceMul, reduceCtorEq, h3] | simp -implicitDefEqProofs -dsimp (disch := omega) only [wrap_i64])); repeat (with_reducible refine sideA ?_)))
          have hp := hj.2.trans (posK_stay hjS h3)
          have hf := fin (j + 1) hj.1 hp
          simp only [QuakeRow.cs] at hf
          refine chT.intro [false, true, true, true, false, true, true, false, true, true, true, false, false] [true, true, true, true, true, true, true, true, true, true, true, true, false] [some ⟨none, 80, 62, []⟩, none, none, none, some ⟨some 0, 84, 62, [83]⟩, none, none, some ⟨some 4, 87, 62, [83, 86]⟩, none, none, none, some ⟨some 7, 91, 62, [83, 86, 90]⟩, none] [⟨11, 91, 62, [83, 86, 90]⟩] (by kernel_rfl) (by rfl) ?_
          have ht := rows_take QuakeRow.csl (srtQ B L i) (j + 1)
          have hd := rows_drop QuakeRow.csl (srtQ B L i) (j + 1)
          have htk := rows_take QuakeRow.csl ((srtQ B L i).drop (j + 1)) (i - (j + 1))
          rw [List.take_of_length_le (l := (srtQ B L i).drop (j + 1)) (by rw [List.length_drop, hS]; exact Nat.le_refl _)] at htk
          by_cases hji : j + 1 < i
          · have hif : (((j + 1 : Nat) : Int) = 0 ∨ ((j + 1 : Nat) : Int) < (i : Int)) = True := eq_true (by omega)
            (repeat ((repeat1' (first | simp -implicitDefEqProofs -dsimp only [go_sem, Nat.reduceSub, Nat.reduceAdd, Nat.reduceMul, Nat.reduceLT, Nat.reduceLeDiff, Nat.reduceEqDiff, Nat.reduceDiv, Nat.reduceMod, Int.reduceToNat, Int.reduceLE, Int.reduceLT, Int.reduceBEq, Int.reduceBNe, Int.reduceNeg, Int.reduceAdd, Int.reduceSub, Int.reduceMul, reduceCtorEq, QuakeRow.cs, ht, hd, htk, Nat.sub_zero, hif, if_true] | simp -implicitDefEqProofs -dsimp (disch := omega) only [wrap_i64])); repeat (with_reducible refine sideA ?_)))
            refine ⟨⟨by omega, by omega, by rw [hf]; exact rows_noOwn _ _⟩, i + 1, hi', ?_, by omega⟩
            refine Weak.pick [3] (by decide) (fun j hj => by omega) ?_ ?_
            · simp [LeG, LeC, LeV, ren, pickF, posOf]; omega
            · simp only [pickH, List.map_cons, List.map_nil, pickB, List.getElem?_cons_zero, List.getElem?_cons_succ, hf, map_ren_rows]
          · have hif : (((j + 1 : Nat) : Int) = 0 ∨ ((j + 1 : Nat) : Int) < (i : Int)) = False := eq_false (by omega)
            have hdz : (srtQ B L i).drop (j + 1) = [] := List.drop_of_length_le (by omega)
            rw [hdz, rows_nil, List.append_nil] at hf
            (repeat ((repeat1' (first | simp -implicitDefEqProofs -dsimp only [go_sem, Nat.reduceSub, Nat.reduceAdd, Nat.reduceMul, Nat.reduceLT, Nat.reduceLeDiff, Nat.reduceEqDiff, Nat.reduceDiv, Nat.reduceMod, Int.reduceToNat, Int.reduceLE, Int.reduceLT, Int.reduceBEq, Int.reduceBNe, Int.reduceNeg, Int.reduceAdd, Int.reduceSub, Int.reduceMul, reduceCtorEq, QuakeRow.cs, ht, Nat.sub_zero, hif, if_false] | simp -implicitDefEqProofs -dsimp (disch := omega) only [wrap_i64])); repeat (with_reducible refine sideA ?_)))
            refine ⟨⟨by omega, by omega, by rw [hf]; exact rows_noOwn _ _⟩, i + 1, hi', ?_, by omega⟩
            refine Weak.pick [3] (by decide) (fun j hj => by omega) ?_ ?_
            · simp [LeG, LeC, LeV, ren, pickF, posOf]; omega
            · simp only [pickH, List.map_cons, List.map_nil, pickB, List.getElem?_cons_zero, List.getElem?_cons_succ, hf, map_ren_rows, List.append_nil]
  · simp -implicitDefEqProofs -dsimp only [go_sem, Nat.reduceSub, Nat.reduceAdd, Nat.reduceMul, Nat.reduceLT, Nat.reduceLeDiff, Nat.reduceEqDiff, Nat.reduceDiv, Nat.reduceMod, Int.reduceToNat, Int.reduceLE, Int.reduceLT, Int.reduceBEq, Int.reduceBNe, Int.reduceNeg, Int.reduceAdd, Int.reduceSub, Int.reduceMul, reduceCtorEq, h3]
    have hi' : i = L.length := by simp at h3; omega
    subst hi'
    have hSl := srtQ_len (B := B) (L := L) (Nat.le_refl _)
    have hov : V.osl 0 0 L.length 7 = V.osl 0 0 (srtQ B L L.length).length 7 := by rw [hSl]
    rw [hov]
    (first | refine callT.at (l24Good_ok (srtQ B L L.length) (by omega)) ⟨leA, trivial⟩ ?_ | refine callS.at (l24Good_ok (srtQ B L L.length) (by omega)) ⟨leA, trivial⟩ ?_)
    (repeat ((repeat1' (first | simp -implicitDefEqProofs -dsimp only [go_sem, Nat.reduceSub, Nat.reduceAdd, Nat.reduceMul, Nat.reduceLT, Nat.reduceLeDiff, Nat.reduceEqDiff, Nat.reduceDiv, Nat.reduceMod, Int.reduceToNat, Int.reduceLE, Int.reduceLT, Int.reduceBEq, Int.reduceBNe, Int.reduceNeg, Int.reduceAdd, Int.reduceSub, Int.reduceMul, reduceCtorEq] | simp -implicitDefEqProofs -dsimp (disch := omega) only [wrap_i64])); repeat (with_reducible refine sideA ?_)))
    rw [hSl, srtQ_all]
    refine condT.split (fun h4 => ?_) (fun h4 => ?_) <;> (repeat ((repeat1' (first | simp -implicitDefEqProofs -dsimp only [go_sem, Nat.reduceSub, Nat.reduceAdd, Nat.reduceMul, Nat.reduceLT, Nat.reduceLeDiff, Nat.reduceEqDiff, Nat.reduceDiv, Nat.reduceMod, Int.reduceToNat, Int.reduceLE, Int.reduceLT, Int.reduceBEq, Int.reduceBNe, Int.reduceNeg, Int.reduceAdd, Int.reduceSub, Int.reduceMul, reduceCtorEq, h4] | simp -implicitDefEqProofs -dsimp (disch := omega) only [wrap_i64])); repeat (with_reducible refine sideA ?_)))
    · rw [bothR_no (.inr (.inr (by simpa using h4)))]
      refine WeakR.pick [1] (by decide) (fun j hj => by omega) (.inl ?_) ?_
      · simp [ren, pickF, posOf, optO]
      · simp only [pickH, List.map_cons, List.map_nil, pickB, List.getElem?_cons_zero, List.getElem?_cons_succ, map_ren_rows]; rfl
    · rw [bothR, if_pos ⟨h1', h2', by simpa using h4⟩]
      have hSl' : (insSort ltT (L.map (bestOne B))).length = L.length := by rw [insSort_len, List.length_map]
      simp only [optO, optOh, hSl']
      exact WeakR.refl _ _ _
def outI (B L : List QuakeRow) (i : Nat) : List QuakeRow := (L.map (bestOne B)).take i ++ L.drop i
theorem outI_len {B L : List QuakeRow} {i : Nat} (h : i ≤ L.length) : (outI B L i).length = L.length := by simp [outI]; omega
theorem outI_set {B L : List QuakeRow} {i : Nat} (h : i < L.length) : (outI B L i).set i (bestOne B L[i]) = outI B L (i + 1) := by
  have e1 : ((L.map (bestOne B)).take i).length = i := by simp; omega
  have h' : i < (L.map (bestOne B)).length := by simpa using h
  rw [outI, outI, List.set_append_right _ _ (by omega), e1, Nat.sub_self, List.drop_eq_getElem_cons h, List.set_cons_zero, List.take_succ_eq_append_getElem h']
  simp
theorem outI_get {B L : List QuakeRow} {i : Nat} (h : i < L.length) (h2 : i < (outI B L i).length) : (outI B L i)[i] = L[i] := by
  have e1 : ((L.map (bestOne B)).take i).length = i := by simp; omega
  simp only [outI]
  rw [List.getElem_append_right (by omega)]
  simp [e1, List.getElem_drop]
theorem iBestOfBoth_ok (L B : List QuakeRow) (hl : L.length ≤ 1048576) (hb : B.length ≤ 1048576) : Ctr Try.prog 40 [QuakeRow.sl L, QuakeRow.sl B] [] (optN 7 (bothR L B)) (optNh QuakeRow.cs (bothR L B)) := by
  refine Ctr.intro Try.mixed Try.func40 rfl Try.okF40 ?_
  simp -implicitDefEqProofs -dsimp only [go_sem, Nat.reduceSub, Nat.reduceAdd, Nat.reduceMul, Nat.reduceLT, Nat.reduceLeDiff, Nat.reduceEqDiff, Nat.reduceDiv, Nat.reduceMod, Int.reduceToNat, Int.reduceLE, Int.reduceLT, Int.reduceBEq, Int.reduceBNe, Int.reduceNeg, Int.reduceAdd, Int.reduceSub, Int.reduceMul, reduceCtorEq, Try.ntmps40, Try.results40]
  (first | refine callT.at (iIsBulletin_ok L (by omega)) ⟨leA, trivial⟩ ?_ | refine callS.at (iIsBulletin_ok L (by omega)) ⟨leA, trivial⟩ ?_)
  simp -implicitDefEqProofs -dsimp only [go_sem, Nat.reduceSub, Nat.reduceAdd, Nat.reduceMul, Nat.reduceLT, Nat.reduceLeDiff, Nat.reduceEqDiff, Nat.reduceDiv, Nat.reduceMod, Int.reduceToNat, Int.reduceLE, Int.reduceLT, Int.reduceBEq, Int.reduceBNe, Int.reduceNeg, Int.reduceAdd, Int.reduceSub, Int.reduceMul, reduceCtorEq]
  refine guardT.splitF (fun h1 => ?_) (fun h1 => ?_) <;> simp -implicitDefEqProofs -dsimp only [go_sem, Nat.reduceSub, Nat.reduceAdd, Nat.reduceMul, Nat.reduceLT, Nat.reduceLeDiff, Nat.reduceEqDiff, Nat.reduceDiv, Nat.reduceMod, Int.reduceToNat, Int.reduceLE, Int.reduceLT, Int.reduceBEq, Int.reduceBNe, Int.reduceNeg, Int.reduceAdd, Int.reduceSub, Int.reduceMul, reduceCtorEq, h1]
  rotate_left
  · rw [bothR_no (.inl (by simpa using h1))]
    exact WeakR.refl _ _ _
  (first | refine callT.at (iIsBulletin_ok B (by omega)) ⟨leA, trivial⟩ ?_ | refine callS.at (iIsBulletin_ok B (by omega)) ⟨leA, trivial⟩ ?_)
  simp -implicitDefEqProofs -dsimp only [go_sem, Nat.reduceSub, Nat.reduceAdd, Nat.reduceMul, Nat.reduceLT, Nat.reduceLeDiff, Nat.reduceEqDiff, Nat.reduceDiv, Nat.reduceMod, Int.reduceToNat, Int.reduceLE, Int.reduceLT, Int.reduceBEq, Int.reduceBNe, Int.reduceNeg, Int.reduceAdd, Int.reduceSub, Int.reduceMul, reduceCtorEq]
  refine condT.split (fun h2 => ?_) (fun h2 => ?_) <;> simp -implicitDefEqProofs -dsimp only [go_sem, Nat.reduceSub, Nat.reduceAdd, Nat.reduceMul, Nat.reduceLT, Nat.reduceLeDiff, Nat.reduceEqDiff, Nat.reduceDiv, Nat.reduceMod, Int.reduceToNat, Int.reduceLE, Int.reduceLT, Int.reduceBEq, Int.reduceBNe, Int.reduceNeg, Int.reduceAdd, Int.reduceSub, Int.reduceMul, reduceCtorEq, h2]
  · rw [bothR_no (.inr (.inl (by simpa using h2)))]
    exact WeakR.refl _ _ _
  have h1' : bulB L = true := by simpa using h1
  have h2' : bulB B = true := by simpa using h2
  obtain ⟨hv, hlen⟩ := bulB_all h1'
  obtain ⟨hvb, hlenb⟩ := bulB_all h2'
  (first | refine callT.at (copyOfQuakeRow_ok L hl) ⟨leA, trivial⟩ ?_ | refine callS.at (copyOfQuakeRow_ok L hl) ⟨leA, trivial⟩ ?_)
  (repeat ((repeat1' (first | simp -implicitDefEqProofs -dsimp only [go_sem, Nat.reduceSub, Nat.reduceAdd, Nat.reduceMul, Nat.reduceLT, Nat.reduceLeDiff, Nat.reduceEqDiff, Nat.reduceDiv, Nat.reduceMod, Int.reduceToNat, Int.reduceLE, Int.reduceLT, Int.reduceBEq, Int.reduceBNe, Int.reduceNeg, Int.reduceAdd, Int.reduceSub, Int.reduceMul, reduceCtorEq] | simp -implicitDefEqProofs -dsimp (disch := omega) only [wrap_i64])); repeat (with_reducible refine sideA ?_)))
  refine LoopT.intro (fun i : Nat => i ≤ L.length) (fun i => ⟨[.undef, QuakeRow.sl B, .undef, .undef, .undef, .undef, .osl 0 0 L.length 7, .undef, .undef, .undef, .undef, .undef, .undef, .undef, .undef, .undef, .undef, .undef, .undef, .undef, QuakeRow.sl L, .int .i64 L.length, .int .i64 i, .undef, .undef, .undef, .undef, .undef, .undef, .undef, .undef, .undef, .undef, .undef, .undef, .undef, .undef, .undef, .undef, .undef, .undef, .undef, .undef, .undef, .undef, .undef], [some (rows QuakeRow.cs (outI B L i))], 0⟩) (fun i => L.length - i) 0 (Nat.zero_le _) ?_ (fun i hi => ?_)
  · refine Weak.cut (1) (by simp) (by simp) ?_ ?_
    · simp [LeC, LeV, ren, cutF]
    · simp [cutH, cutB, outI, map_ren_rows]
  simp -implicitDefEqProofs -dsimp only [go_sem, Nat.reduceSub, Nat.reduceAdd, Nat.reduceMul, Nat.reduceLT, Nat.reduceLeDiff, Nat.reduceEqDiff, Nat.reduceDiv, Nat.reduceMod, Int.reduceToNat, Int.reduceLE, Int.reduceLT, Int.reduceBEq, Int.reduceBNe, Int.reduceNeg, Int.reduceAdd, Int.reduceSub, Int.reduceMul, reduceCtorEq]
  refine condT.split (fun h3 => ?_) (fun h3 => ?_)
  · have hi' : i < L.length := by simpa using h3
    have hS := outI_len (B := B) (L := L) hi
    have hr0 := rows_at QuakeRow.csl hi'
    have hvi := hv _ (List.getElem_mem hi')
    (repeat ((repeat1' (first | simp -implicitDefEqProofs -dsimp only [go_sem, Nat.reduceSub, Nat.reduceAdd, Nat.reduceMul, Nat.reduceLT, Nat.reduceLeDiff, Nat.reduceEqDiff, Nat.reduceDiv, Nat.reduceMod, Int.reduceToNat, Int.reduceLE, Int.reduceLT, Int.reduceBEq, Int.reduceBNe, Int.reduceNeg, Int.reduceAdd, Int.reduceSub, Int.reduceMul, reduceCtorEq, h3, hr0, QuakeRow.cs] | simp -implicitDefEqProofs -dsimp (disch := omega) only [wrap_i64])); repeat (with_reducible refine sideA ?_)))
    (first | refine callT.at (indexFuncQuakeRow_ok B (betB L[i]) _ [.pt L[i].cs] (fun d => by cases d <;> rfl) (fun x hx => better_ok L[i] x hvi (hvb x hx)) (by omega)) ⟨leA, leA, trivial⟩ ?_ | refine callS.at (indexFuncQuakeRow_ok B (betB L[i]) _ [.pt L[i].cs] (fun d => by cases d <;> rfl) (fun x hx => better_ok L[i] x hvi (hvb x hx)) (by omega)) ⟨leA, leA, trivial⟩ ?_)
    rcases idxI_cases (betB L[i]) B with hk | ⟨k, hk, hkx⟩
    · have hq : bestOne B L[i] = L[i] := by rw [bestOne, hk, if_pos (by omega)]
      have hs := outI_set (B := B) hi'
      rw [hq, ← outI_get (B := B) hi' (by omega), List.set_getElem_self] at hs
      (repeat ((repeat1' (first | simp -implicitDefEqProofs -dsimp only [go_sem, Nat.reduceSub, Nat.reduceAdd, Nat.reduceMul, Nat.reduceLT, Nat.reduceLeDiff, Nat.reduceEqDiff, Nat.reduceDiv, Nat.reduceMod, Int.reduceToNat, Int.reduceLE, Int.reduceLT, Int.reduceBEq, Int.reduceBNe, Int.reduceNeg, Int.reduceAdd, Int.reduceSub, Int.reduceMul, reduceCtorEq, hk] | simp -implicitDefEqProofs -dsimp (disch := omega) only [wrap_i64])); repeat (with_reducible refine sideA ?_)))
      refine ⟨i + 1, hi', ?_, by omega⟩
      refine Weak.cut (1) (by simp) (by simp) ?_ ?_
      · simp [LeC, LeV, ren, cutF]
      · simp [cutH, cutB, map_ren_rows, hs]
    · have hq : bestOne B L[i] = B[k] := by rw [bestOne, hkx, if_neg (by omega)]; simp [List.getD, hk]
      have hs := outI_set (B := B) hi'
      have hrk := rows_at QuakeRow.csl hk
      have hd : decide ((0 : Int) ≤ (k : Int)) = true := decide_eq_true (by omega)
      have s1 := splice_row (cs := QuakeRow.cs) QuakeRow.csl (L := outI B L i) (i := i) (by omega) B[k]
      rw [← hq, hs, hq] at s1
      have hlr := rows_len (w := 7) QuakeRow.csl (outI B L i)
      rw [hS] at hlr
      simp only [QuakeRow.cs] at s1
      (repeat ((repeat1' (first | simp -implicitDefEqProofs -dsimp only [go_sem, Nat.reduceSub, Nat.reduceAdd, Nat.reduceMul, Nat.reduceLT, Nat.reduceLeDiff, Nat.reduceEqDiff, Nat.reduceDiv, Nat.reduceMod, Int.reduceToNat, Int.reduceLE, Int.reduceLT, Int.reduceBEq, Int.reduceBNe, Int.reduceNeg, Int.reduceAdd, Int.reduceSub, Int.reduceMul, reduceCtorEq, hkx, hd, hrk, s1, hlr, QuakeRow.cs] | simp -implicitDefEqProofs -dsimp (disch := omega) only [wrap_i64])); repeat (with_reducible refine sideA ?_)))
      refine ⟨i + 1, hi', ?_, by omega⟩
      refine Weak.cut (1) (by simp) (by simp) ?_ ?_
      · simp [LeC, LeV, ren, cutF]
      · simp [cutH, cutB, map_ren_rows, hs]
  · simp -implicitDefEqProofs -dsimp only [go_sem, Nat.reduceSub, Nat.reduceAdd, Nat.reduceMul, Nat.reduceLT, Nat.reduceLeDiff, Nat.reduceEqDiff, Nat.reduceDiv, Nat.reduceMod, Int.reduceToNat, Int.reduceLE, Int.reduceLT, Int.reduceBEq, Int.reduceBNe, Int.reduceNeg, Int.reduceAdd, Int.reduceSub, Int.reduceMul, reduceCtorEq, h3]
    have hi' : i = L.length := by simp at h3; omega
    subst hi'
    have hm : (L.map (bestOne B)).length = L.length := by simp
    have ho : outI B L L.length = L.map (bestOne B) := by rw [outI, ← hm, List.take_length, List.drop_of_length_le (by omega), List.append_nil]
    have hc : (fun x y : QuakeRow => decide (cmpI x.Tick y.Tick < 0)) = ltT := by funext x y; exact cmpI_neg _ _
    have hs := sortStableQuakeRow_ok (L.map (bestOne B)) (fun x y => cmpI x.Tick y.Tick) _ cmpTick_ok (by omega)
    rw [hc, hm] at hs
    rw [ho]
    (repeat ((repeat1' (first | simp -implicitDefEqProofs -dsimp only [go_sem, Nat.reduceSub, Nat.reduceAdd, Nat.reduceMul, Nat.reduceLT, Nat.reduceLeDiff, Nat.reduceEqDiff, Nat.reduceDiv, Nat.reduceMod, Int.reduceToNat, Int.reduceLE, Int.reduceLT, Int.reduceBEq, Int.reduceBNe, Int.reduceNeg, Int.reduceAdd, Int.reduceSub, Int.reduceMul, reduceCtorEq] | simp -implicitDefEqProofs -dsimp (disch := omega) only [wrap_i64])); repeat (with_reducible refine sideA ?_)))
    refine callS.lend [0] false ( hs) (by decide) ⟨leO, leO, trivial⟩ lendA ( grown_one (by simp [rows_length, insSort_len])) (.inl rfl) ?_
    have hSl : (insSort ltT (L.map (bestOne B))).length = L.length := by rw [insSort_len, List.length_map]
    have hov : V.osl 0 0 L.length 7 = V.osl 0 0 (insSort ltT (L.map (bestOne B))).length 7 := by rw [hSl]
    rw [hov]
    (repeat ((repeat1' (first | simp -implicitDefEqProofs -dsimp only [go_sem, Nat.reduceSub, Nat.reduceAdd, Nat.reduceMul, Nat.reduceLT, Nat.reduceLeDiff, Nat.reduceEqDiff, Nat.reduceDiv, Nat.reduceMod, Int.reduceToNat, Int.reduceLE, Int.reduceLT, Int.reduceBEq, Int.reduceBNe, Int.reduceNeg, Int.reduceAdd, Int.reduceSub, Int.reduceMul, reduceCtorEq] | simp -implicitDefEqProofs -dsimp (disch := omega) only [wrap_i64])); repeat (with_reducible refine sideA ?_)))
    (first | refine callT.at (iIsBulletin_ok (insSort ltT (L.map (bestOne B))) (by omega)) ⟨leA, trivial⟩ ?_ | refine callS.at (iIsBulletin_ok (insSort ltT (L.map (bestOne B))) (by omega)) ⟨leA, trivial⟩ ?_)
    (repeat ((repeat1' (first | simp -implicitDefEqProofs -dsimp only [go_sem, Nat.reduceSub, Nat.reduceAdd, Nat.reduceMul, Nat.reduceLT, Nat.reduceLeDiff, Nat.reduceEqDiff, Nat.reduceDiv, Nat.reduceMod, Int.reduceToNat, Int.reduceLE, Int.reduceLT, Int.reduceBEq, Int.reduceBNe, Int.reduceNeg, Int.reduceAdd, Int.reduceSub, Int.reduceMul, reduceCtorEq] | simp -implicitDefEqProofs -dsimp (disch := omega) only [wrap_i64])); repeat (with_reducible refine sideA ?_)))
    refine condT.split (fun h4 => ?_) (fun h4 => ?_) <;> (repeat ((repeat1' (first | simp -implicitDefEqProofs -dsimp only [go_sem, Nat.reduceSub, Nat.reduceAdd, Nat.reduceMul, Nat.reduceLT, Nat.reduceLeDiff, Nat.reduceEqDiff, Nat.reduceDiv, Nat.reduceMod, Int.reduceToNat, Int.reduceLE, Int.reduceLT, Int.reduceBEq, Int.reduceBNe, Int.reduceNeg, Int.reduceAdd, Int.reduceSub, Int.reduceMul, reduceCtorEq, h4] | simp -implicitDefEqProofs -dsimp (disch := omega) only [wrap_i64])); repeat (with_reducible refine sideA ?_)))
    · rw [bothR_no (.inr (.inr (by simpa using h4)))]
      exact WeakR.drop' rfl rfl
    · rw [bothR, if_pos ⟨h1', h2', by simpa using h4⟩]
      exact WeakR.refl _ _ _
end Go.Proofs
