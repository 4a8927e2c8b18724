/-
  Week rows: the median. Conditions: none.
-/
import Derived.Test.YtekhnmibkkinaaaF26b
import Derived.Test.YtekhnmibkkinaaaOIntS
set_option linter.unusedSimpArgs false
set_option linter.unusedVariables false
set_option maxRecDepth 100000
set_option maxHeartbeats 1000000
namespace Go.Proofs
open Go.Lv
def evs (L : List WeekRow) : List Int := L.map WeekRow.Events
def srtE (L : List WeekRow) (i : Nat) : List Int := insSort ltI ((evs L).take i)
theorem srtE_len {L : List WeekRow} {i : Nat} (h : i ≤ L.length) : (srtE L i).length = i := by simp [srtE, insSort_len, evs]; omega
theorem srtE_succ {L : List WeekRow} {i : Nat} (h : i < L.length) : srtE L (i + 1) = ins ltI (srtE L i) L[i].Events := by
  have h' : i < (evs L).length := by simpa [evs] using h
  rw [srtE, insSort_take h']; simp [srtE, evs]
theorem srtE_all (L : List WeekRow) : srtE L L.length = insSort ltI (evs L) := by
  have : L.length = (evs L).length := by simp [evs]
  rw [srtE, this, List.take_length]
theorem mid_ix {n : Nat} (h0 : n ≠ 0) (h : n ≤ 12) : IntKind.i64.wrap ((IntKind.i64.wrap ((n : Int) - 1)).tdiv 2) = (((n - 1) / 2 : Nat) : Int) := by
  rw [wrap_i64 (n := (n : Int) - 1) (by omega) (by omega), Int.tdiv_eq_ediv_of_nonneg (by omega), wrap_i64 (by omega) (by omega)]
  omega
theorem getD_ix {S : List Int} {k : Nat} (h : k < S.length) : S.getD k 0 = S[k] := by simp [List.getD, h]
/-- The median: what both return. -/
def medR (L : List WeekRow) : List V := if wrsB L = true ∧ L ≠ [] then [.int .i64 ((insSort ltI (evs L)).getD ((L.length - 1) / 2) 0), .bool true] else [.int .i64 0, .bool false]
theorem medR_no {L : List WeekRow} (h : wrsB L = false ∨ L.length = 0) : medR L = [.int .i64 0, .bool false] := by
  rw [medR, if_neg]
  rintro ⟨h1, h2⟩
  rcases h with h | h
  · simp [h1] at h
  · exact h2 (List.length_eq_zero_iff.1 h)
theorem sMedianEvents_ok (L : List WeekRow) (hl : L.length ≤ 281474976710656) : Ctr Try.prog 63 [WeekRow.sl L] [] (.tup (medR L)) [] := by
  by_cases hB : wrsB L = true ∧ L.length ≠ 0
  case neg =>
    have hB' : wrsB L = false ∨ L.length = 0 := by
      cases h : wrsB L
      · exact .inl rfl
      · exact .inr (by simpa [h] using hB)
    rw [medR_no hB']
    refine Ctr.intro Try.mixed Try.func63 rfl Try.okF63 ?_
    simp -implicitDefEqProofs -dsimp only [go_sem, Nat.reduceSub, Nat.reduceAdd, Nat.reduceMul, Nat.reduceLT, Nat.reduceLeDiff, Nat.reduceEqDiff, Nat.reduceDiv, Nat.reduceMod, Int.reduceToNat, Int.reduceLE, Int.reduceLT, Int.reduceBEq, Int.reduceBNe, Int.reduceNeg, Int.reduceAdd, Int.reduceSub, Int.reduceMul, reduceCtorEq, Try.ntmps63, Try.results63]
    (first | refine callT.at (l26Good_ok L hl) ⟨.inl rfl, trivial⟩ ?_ | refine callS.at (l26Good_ok L hl) ⟨.inl rfl, trivial⟩ ?_)
    simp -implicitDefEqProofs -dsimp only [go_sem, Nat.reduceSub, Nat.reduceAdd, Nat.reduceMul, Nat.reduceLT, Nat.reduceLeDiff, Nat.reduceEqDiff, Nat.reduceDiv, Nat.reduceMod, Int.reduceToNat, Int.reduceLE, Int.reduceLT, Int.reduceBEq, Int.reduceBNe, Int.reduceNeg, Int.reduceAdd, Int.reduceSub, Int.reduceMul, reduceCtorEq]
    repeat' (first | (refine WeakR.drop' ?_ rfl; (simp [*]; done)) | (refine guardT.splitF (fun _ => ?_) (fun _ => ?_) <;> (repeat ((repeat1' (first | simp -implicitDefEqProofs -dsimp only [go_sem, Nat.reduceSub, Nat.reduceAdd, Nat.reduceMul, Nat.reduceLT, Nat.reduceLeDiff, Nat.reduceEqDiff, Nat.reduceDiv, Nat.reduceMod, Int.reduceToNat, Int.reduceLE, Int.reduceLT, Int.reduceBEq, Int.reduceBNe, Int.reduceNeg, Int.reduceAdd, Int.reduceSub, Int.reduceMul, reduceCtorEq, *] | simp -implicitDefEqProofs -dsimp (disch := omega) only [wrap_i64])); repeat (with_reducible refine sideA ?_)))) | (refine condT.split (fun _ => ?_) (fun _ => ?_) <;> (repeat ((repeat1' (first | simp -implicitDefEqProofs -dsimp only [go_sem, Nat.reduceSub, Nat.reduceAdd, Nat.reduceMul, Nat.reduceLT, Nat.reduceLeDiff, Nat.reduceEqDiff, Nat.reduceDiv, Nat.reduceMod, Int.reduceToNat, Int.reduceLE, Int.reduceLT, Int.reduceBEq, Int.reduceBNe, Int.reduceNeg, Int.reduceAdd, Int.reduceSub, Int.reduceMul, reduceCtorEq, *] | simp -implicitDefEqProofs -dsimp (disch := omega) only [wrap_i64])); repeat (with_reducible refine sideA ?_)))))
    all_goals (exfalso; rcases hB' with h | h <;> simp_all; done)
  obtain ⟨h1, h0⟩ := hB
  obtain ⟨hv, hlen⟩ := wrsB_all h1
  have hd0 : ((L.length : Int) == 0) = false := by simp; intro h; simp [h] at h0
  refine Ctr.intro Try.mixed Try.func63 rfl Try.okF63 ?_
  simp -implicitDefEqProofs -dsimp only [go_sem, Nat.reduceSub, Nat.reduceAdd, Nat.reduceMul, Nat.reduceLT, Nat.reduceLeDiff, Nat.reduceEqDiff, Nat.reduceDiv, Nat.reduceMod, Int.reduceToNat, Int.reduceLE, Int.reduceLT, Int.reduceBEq, Int.reduceBNe, Int.reduceNeg, Int.reduceAdd, Int.reduceSub, Int.reduceMul, reduceCtorEq, Try.ntmps63, Try.results63]
  (first | refine callT.at (l26Good_ok L hl) ⟨.inl rfl, trivial⟩ ?_ | refine callS.at (l26Good_ok L hl) ⟨.inl rfl, trivial⟩ ?_)
  (repeat ((repeat1' (first | simp -implicitDefEqProofs -dsimp only [go_sem, Nat.reduceSub, Nat.reduceAdd, Nat.reduceMul, Nat.reduceLT, Nat.reduceLeDiff, Nat.reduceEqDiff, Nat.reduceDiv, Nat.reduceMod, Int.reduceToNat, Int.reduceLE, Int.reduceLT, Int.reduceBEq, Int.reduceBNe, Int.reduceNeg, Int.reduceAdd, Int.reduceSub, Int.reduceMul, reduceCtorEq, h1, hd0] | simp -implicitDefEqProofs -dsimp (disch := omega) only [wrap_i64])); repeat (with_reducible refine sideA ?_)))
  refine LoopT.intro (fun i : Nat => i ≤ L.length) (fun i => ⟨[WeekRow.sl L, .undef, .undef, .undef, .osl 0 0 i 1, .int .i64 i, .undef, .undef, .undef, .undef, .undef, .undef, .undef, .undef, .undef, .undef, .undef, .undef, .undef, .undef, .undef, .undef, .undef, .undef, .undef, .undef, .undef, .undef, .undef, .undef, .undef, .undef, .undef, .undef, .undef, .undef, .undef, .undef, .undef, .undef, .undef, .undef, .undef, .undef, .undef, .undef, .undef, .undef, .undef, .undef, .undef, .undef, .undef, .undef, .undef, .undef, .undef, .undef, .undef, .undef, .undef, .undef, .undef, .undef], [some (rows IntS.cs (srtE L i))], 0⟩) (fun i => L.length - i) 0 (Nat.zero_le _) ?_ (fun i hi => ?_)
  · refine Weak.cut (1) (by simp) (by simp) ?_ ?_
    · simp [LeC, LeV, ren, cutF]
    · simp [cutH, cutB, srtE, insSort, rows]
  simp -implicitDefEqProofs -dsimp only [go_sem, Nat.reduceSub, Nat.reduceAdd, Nat.reduceMul, Nat.reduceLT, Nat.reduceLeDiff, Nat.reduceEqDiff, Nat.reduceDiv, Nat.reduceMod, Int.reduceToNat, Int.reduceLE, Int.reduceLT, Int.reduceBEq, Int.reduceBNe, Int.reduceNeg, Int.reduceAdd, Int.reduceSub, Int.reduceMul, reduceCtorEq]
  refine condT.split (fun h2 => ?_) (fun h2 => ?_)
  · have hi' : i < L.length := by simpa using h2
    have hS := srtE_len (L := L) hi
    have hr0 := rows_at WeekRow.csl hi'
    (repeat ((repeat1' (first | simp -implicitDefEqProofs -dsimp only [go_sem, Nat.reduceSub, Nat.reduceAdd, Nat.reduceMul, Nat.reduceLT, Nat.reduceLeDiff, Nat.reduceEqDiff, Nat.reduceDiv, Nat.reduceMod, Int.reduceToNat, Int.reduceLE, Int.reduceLT, Int.reduceBEq, Int.reduceBNe, Int.reduceNeg, Int.reduceAdd, Int.reduceSub, Int.reduceMul, reduceCtorEq, h2] | simp -implicitDefEqProofs -dsimp (disch := omega) only [wrap_i64])); repeat (with_reducible refine sideA ?_)))
    refine LoopT.intro (fun j : Nat => j ≤ i ∧ posK ltI (srtE L i) L[i].Events i = posK ltI (srtE L i) L[i].Events j) (fun j => ⟨[WeekRow.sl L, .undef, .undef, .undef, .osl 0 0 i 1, .int .i64 i, .int .i64 j, .undef, .undef, .undef, .undef, .undef, .undef, .undef, .undef, .undef, .undef, .undef, .undef, .undef, .undef, .undef, .undef, .undef, .undef, .undef, .undef, .undef, .undef, .undef, .undef, .undef, .undef, .undef, .undef, .undef, .undef, .undef, .undef, .undef, .undef, .undef, .undef, .undef, .undef, .undef, .undef, .undef, .undef, .undef, .undef, .undef, .undef, .undef, .undef, .undef, .undef, .undef, .undef, .undef, .undef, .undef, .undef, .undef], [some (rows IntS.cs (srtE L i))], 0⟩) (fun j => j) i ⟨Nat.le_refl _, rfl⟩ ?_ (fun j hj => ?_)
    · refine Weak.cut (1) (by simp) (by simp) ?_ ?_
      · simp [LeC, LeV, ren, cutF]
      · simp [cutH, cutB, map_ren_rows]
    have fin : ∀ j : Nat, j ≤ i → posK ltI (srtE L i) L[i].Events i = j → rows IntS.cs ((srtE L i).take j) ++ [V.int .i64 L[i].Events] ++ rows IntS.cs ((srtE L i).drop j) = rows IntS.cs (srtE L (i + 1)) := by
      intro j hj hp
      have hm : rows IntS.cs [L[i].Events] = [V.int .i64 L[i].Events] := rfl
      rw [srtE_succ hi', ins, hS, hp, putAt, rowsOf_append, rows_cons, ← hm, List.append_assoc]
      rfl
    simp -implicitDefEqProofs -dsimp only [go_sem, Nat.reduceSub, Nat.reduceAdd, Nat.reduceMul, Nat.reduceLT, Nat.reduceLeDiff, Nat.reduceEqDiff, Nat.reduceDiv, Nat.reduceMod, Int.reduceToNat, Int.reduceLE, Int.reduceLT, Int.reduceBEq, Int.reduceBNe, Int.reduceNeg, Int.reduceAdd, Int.reduceSub, Int.reduceMul, reduceCtorEq]
    refine ⟨by kernel_rfl, ?_⟩
    cases j with
    | zero =>
      have hz : ((0 : Nat) : Int) = 0 := rfl
      (repeat ((repeat1' (first | simp -implicitDefEqProofs -dsimp only [go_sem, Nat.reduceSub, Nat.reduceAdd, Nat.reduceMul, Nat.reduceLT, Nat.reduceLeDiff, Nat.reduceEqDiff, Nat.reduceDiv, Nat.reduceMod, Int.reduceToNat, Int.reduceLE, Int.reduceLT, Int.reduceBEq, Int.reduceBNe, Int.reduceNeg, Int.reduceAdd, Int.reduceSub, Int.reduceMul, reduceCtorEq, hz] | simp -implicitDefEqProofs -dsimp (disch := omega) only [wrap_i64])); repeat (with_reducible refine sideA ?_)))
      refine chT.intro [false, true, true, true, false, true, true, true, true, true, true, false, true, true, true, false, false] [true, true, true, true, true, true, true, true, true, true, true, true, true, true, true, true, false] [some ⟨none, 41, 99, []⟩, none, none, none, some ⟨some 0, 45, 99, [44]⟩, none, none, none, none, none, none, some ⟨some 4, 52, 99, [44, 51]⟩, none, none, none, some ⟨some 11, 56, 99, [44, 51, 55]⟩, none] [⟨15, 56, 99, [44, 51, 55]⟩] (by kernel_rfl) (by rfl) ?_
      have hf := fin 0 (by omega) hj.2
      have htk := rows_take IntS.csl (srtE L i) i
      rw [List.take_of_length_le (Nat.le_of_eq hS)] at htk
      simp only [List.take_zero, rows_nil, List.nil_append, List.drop_zero, List.cons_append] at hf
      (repeat ((repeat1' (first | simp -implicitDefEqProofs -dsimp only [go_sem, Nat.reduceSub, Nat.reduceAdd, Nat.reduceMul, Nat.reduceLT, Nat.reduceLeDiff, Nat.reduceEqDiff, Nat.reduceDiv, Nat.reduceMod, Int.reduceToNat, Int.reduceLE, Int.reduceLT, Int.reduceBEq, Int.reduceBNe, Int.reduceNeg, Int.reduceAdd, Int.reduceSub, Int.reduceMul, reduceCtorEq, hr0, WeekRow.cs, Nat.sub_zero, htk] | simp -implicitDefEqProofs -dsimp (disch := omega) only [wrap_i64])); repeat (with_reducible refine sideA ?_)))
      refine ⟨⟨by omega, by omega, rows_noOwn _ _⟩, i + 1, hi', ?_, by omega⟩
      refine Weak.pick [2] (by decide) (fun j hj => by omega) ?_ ?_
      · simp [LeG, LeC, LeV, ren, pickF, posOf]; omega
      · simp only [pickH, List.map_cons, List.map_nil, pickB, List.getElem?_cons_zero, List.getElem?_cons_succ, hf, map_ren_rows]
    | succ j =>
      have hjS : j < (srtE L i).length := by omega
      have hg : decide ((0 : Int) < ((j + 1 : Nat) : Int)) = true := decide_eq_true (by omega)
      have hw1 : IntKind.i64.wrap (((j + 1 : Nat) : Int) - 1) = (j : Int) := by rw [wrap_i64 (by omega) (by omega)]; omega
      have hrj := rows_at IntS.csl hjS
      have hlr := rows_len (w := 1) IntS.csl (srtE L i)
      (repeat ((repeat1' (first | simp -implicitDefEqProofs -dsimp only [go_sem, Nat.reduceSub, Nat.reduceAdd, Nat.reduceMul, Nat.reduceLT, Nat.reduceLeDiff, Nat.reduceEqDiff, Nat.reduceDiv, Nat.reduceMod, Int.reduceToNat, Int.reduceLE, Int.reduceLT, Int.reduceBEq, Int.reduceBNe, Int.reduceNeg, Int.reduceAdd, Int.reduceSub, Int.reduceMul, reduceCtorEq, hg, hw1, hrj, hr0, hlr, hS, IntS.cs, WeekRow.cs] | simp -implicitDefEqProofs -dsimp (disch := omega) only [wrap_i64])); repeat (with_reducible refine sideA ?_)))
      refine condT.split (fun h3 => ?_) (fun h3 => ?_)
      · (repeat ((repeat1' (first | simp -implicitDefEqProofs -dsimp only [go_sem, Nat.reduceSub, Nat.reduceAdd, Nat.reduceMul, Nat.reduceLT, Nat.reduceLeDiff, Nat.reduceEqDiff, Nat.reduceDiv, Nat.reduceMod, Int.reduceToNat, Int.reduceLE, Int.reduceLT, Int.reduceBEq, Int.reduceBNe, Int.reduceNeg, Int.reduceAdd, Int.reduceSub, Int.reduceMul, reduceCtorEq, h3, hw1] | simp -implicitDefEqProofs -dsimp (disch := omega) only [wrap_i64])); repeat (with_reducible refine sideA ?_)))
        refine ⟨j, ⟨by omega, hj.2.trans (posK_down hjS h3)⟩, ?_, by omega⟩
        refine Weak.cut (1) (by simp) (by simp) ?_ ?_
        · simp [LeC, LeV, ren, cutF]
        · simp [cutH, cutB, map_ren_rows]
      · (repeat ((repeat1' (first | simp -implicitDefEqProofs -dsimp only [go_sem, Nat.reduceSub, Nat.reduceAdd, Nat.reduceMul, Nat.reduceLT, Nat.reduceLeDiff, Nat.reduceEqDiff, Nat.reduceDiv, Nat.reduceMod, Int.reduceToNat, Int.reduceLE, Int.reduceLT, Int.reduceBEq, Int.reduceBNe, Int.reduceNeg, Int.reduceAdd, Int.reduceSub, Int.reduceMul, reduceCtorEq, h3] | simp -implicitDefEqProofs -dsimp (disch := omega) only [wrap_i64])); repeat (with_reducible refine sideA ?_)))
        have hp := hj.2.trans (posK_stay hjS h3)
        have hf := fin (j + 1) hj.1 hp
        refine chT.intro [false, true, true, true, false, true, true, true, true, true, true, false, true, true, true, false, false] [true, true, true, true, true, true, true, true, true, true, true, true, true, true, true, true, false] [some ⟨none, 41, 99, []⟩, none, none, none, some ⟨some 0, 45, 99, [44]⟩, none, none, none, none, none, none, some ⟨some 4, 52, 99, [44, 51]⟩, none, none, none, some ⟨some 11, 56, 99, [44, 51, 55]⟩, none] [⟨15, 56, 99, [44, 51, 55]⟩] (by kernel_rfl) (by rfl) ?_
        have ht := rows_take IntS.csl (srtE L i) (j + 1)
        have hd := rows_drop IntS.csl (srtE L i) (j + 1)
        have htk := rows_take IntS.csl ((srtE L i).drop (j + 1)) (i - (j + 1))
        rw [List.take_of_length_le (l := (srtE L i).drop (j + 1)) (by rw [List.length_drop, hS]; exact Nat.le_refl _)] at htk
        by_cases hji : j + 1 < i
        · have hif : (((j + 1 : Nat) : Int) = 0 ∨ ((j + 1 : Nat) : Int) < (i : Int)) = True := eq_true (by omega)
          (repeat ((repeat1' (first | simp -implicitDefEqProofs -dsimp only [go_sem, Nat.reduceSub, Nat.reduceAdd, Nat.reduceMul, Nat.reduceLT, Nat.reduceLeDiff, Nat.reduceEqDiff, Nat.reduceDiv, Nat.reduceMod, Int.reduceToNat, Int.reduceLE, Int.reduceLT, Int.reduceBEq, Int.reduceBNe, Int.reduceNeg, Int.reduceAdd, Int.reduceSub, Int.reduceMul, reduceCtorEq, hr0, WeekRow.cs, ht, hd, htk, Nat.sub_zero, hif, if_true] | simp -implicitDefEqProofs -dsimp (disch := omega) only [wrap_i64])); repeat (with_reducible refine sideA ?_)))
          refine ⟨⟨by omega, by omega, by rw [hf]; exact rows_noOwn _ _⟩, i + 1, hi', ?_, by omega⟩
          refine Weak.pick [2] (by decide) (fun j hj => by omega) ?_ ?_
          · simp [LeG, LeC, LeV, ren, pickF, posOf]; omega
          · simp only [pickH, List.map_cons, List.map_nil, pickB, List.getElem?_cons_zero, List.getElem?_cons_succ, hf, map_ren_rows]
        · have hif : (((j + 1 : Nat) : Int) = 0 ∨ ((j + 1 : Nat) : Int) < (i : Int)) = False := eq_false (by omega)
          have hdz : (srtE L i).drop (j + 1) = [] := List.drop_of_length_le (by omega)
          rw [hdz, rows_nil, List.append_nil] at hf
          (repeat ((repeat1' (first | simp -implicitDefEqProofs -dsimp only [go_sem, Nat.reduceSub, Nat.reduceAdd, Nat.reduceMul, Nat.reduceLT, Nat.reduceLeDiff, Nat.reduceEqDiff, Nat.reduceDiv, Nat.reduceMod, Int.reduceToNat, Int.reduceLE, Int.reduceLT, Int.reduceBEq, Int.reduceBNe, Int.reduceNeg, Int.reduceAdd, Int.reduceSub, Int.reduceMul, reduceCtorEq, hr0, WeekRow.cs, ht, Nat.sub_zero, hif, if_false] | simp -implicitDefEqProofs -dsimp (disch := omega) only [wrap_i64])); repeat (with_reducible refine sideA ?_)))
          refine ⟨⟨by omega, by omega, by rw [hf]; exact rows_noOwn _ _⟩, i + 1, hi', ?_, by omega⟩
          refine Weak.pick [2] (by decide) (fun j hj => by omega) ?_ ?_
          · simp [LeG, LeC, LeV, ren, pickF, posOf]; omega
          · simp only [pickH, List.map_cons, List.map_nil, pickB, List.getElem?_cons_zero, List.getElem?_cons_succ, hf, map_ren_rows, List.append_nil]
  · simp -implicitDefEqProofs -dsimp only [go_sem, Nat.reduceSub, Nat.reduceAdd, Nat.reduceMul, Nat.reduceLT, Nat.reduceLeDiff, Nat.reduceEqDiff, Nat.reduceDiv, Nat.reduceMod, Int.reduceToNat, Int.reduceLE, Int.reduceLT, Int.reduceBEq, Int.reduceBNe, Int.reduceNeg, Int.reduceAdd, Int.reduceSub, Int.reduceMul, reduceCtorEq, h2]
    have hi' : i = L.length := by simp at h2; omega
    subst hi'
    have hlt : (L.length - 1) / 2 < (insSort ltI (evs L)).length := by rw [insSort_len]; simp [evs]; omega
    have hrm := rows_at IntS.csl hlt
    have hm : medR L = [.int .i64 ((insSort ltI (evs L))[(L.length - 1) / 2]), .bool true] := by
      rw [medR, if_pos ⟨h1, by intro h; simp [h] at h0⟩, getD_ix hlt]
    rw [srtE_all, hm]
    (repeat ((repeat1' (first | simp -implicitDefEqProofs -dsimp only [go_sem, Nat.reduceSub, Nat.reduceAdd, Nat.reduceMul, Nat.reduceLT, Nat.reduceLeDiff, Nat.reduceEqDiff, Nat.reduceDiv, Nat.reduceMod, Int.reduceToNat, Int.reduceLE, Int.reduceLT, Int.reduceBEq, Int.reduceBNe, Int.reduceNeg, Int.reduceAdd, Int.reduceSub, Int.reduceMul, reduceCtorEq, mid_ix h0 hlen, hrm, IntS.cs] | simp -implicitDefEqProofs -dsimp (disch := omega) only [wrap_i64])); repeat (with_reducible refine sideA ?_)))
    exact WeakR.drop' rfl rfl
theorem iMedianEvents_ok (L : List WeekRow) (hl : L.length ≤ 281474976710656) : Ctr Try.prog 64 [WeekRow.sl L] [] (.tup (medR L)) [] := by
  by_cases hB : wrsB L = true ∧ L.length ≠ 0
  case neg =>
    have hB' : wrsB L = false ∨ L.length = 0 := by
      cases h : wrsB L
      · exact .inl rfl
      · exact .inr (by simpa [h] using hB)
    rw [medR_no hB']
    refine Ctr.intro Try.mixed Try.func64 rfl Try.okF64 ?_
    simp -implicitDefEqProofs -dsimp only [go_sem, Nat.reduceSub, Nat.reduceAdd, Nat.reduceMul, Nat.reduceLT, Nat.reduceLeDiff, Nat.reduceEqDiff, Nat.reduceDiv, Nat.reduceMod, Int.reduceToNat, Int.reduceLE, Int.reduceLT, Int.reduceBEq, Int.reduceBNe, Int.reduceNeg, Int.reduceAdd, Int.reduceSub, Int.reduceMul, reduceCtorEq, Try.ntmps64, Try.results64]
    (first | refine callT.at (iAreWeekRows_ok L hl) ⟨.inl rfl, trivial⟩ ?_ | refine callS.at (iAreWeekRows_ok L hl) ⟨.inl rfl, trivial⟩ ?_)
    simp -implicitDefEqProofs -dsimp only [go_sem, Nat.reduceSub, Nat.reduceAdd, Nat.reduceMul, Nat.reduceLT, Nat.reduceLeDiff, Nat.reduceEqDiff, Nat.reduceDiv, Nat.reduceMod, Int.reduceToNat, Int.reduceLE, Int.reduceLT, Int.reduceBEq, Int.reduceBNe, Int.reduceNeg, Int.reduceAdd, Int.reduceSub, Int.reduceMul, reduceCtorEq]
    repeat' (first | (refine WeakR.drop' ?_ rfl; (simp [*]; done)) | (refine guardT.splitF (fun _ => ?_) (fun _ => ?_) <;> (repeat ((repeat1' (first | simp -implicitDefEqProofs -dsimp only [go_sem, Nat.reduceSub, Nat.reduceAdd, Nat.reduceMul, Nat.reduceLT, Nat.reduceLeDiff, Nat.reduceEqDiff, Nat.reduceDiv, Nat.reduceMod, Int.reduceToNat, Int.reduceLE, Int.reduceLT, Int.reduceBEq, Int.reduceBNe, Int.reduceNeg, Int.reduceAdd, Int.reduceSub, Int.reduceMul, reduceCtorEq, *] | simp -implicitDefEqProofs -dsimp (disch := omega) only [wrap_i64])); repeat (with_reducible refine sideA ?_)))) | (refine condT.split (fun _ => ?_) (fun _ => ?_) <;> (repeat ((repeat1' (first | simp -implicitDefEqProofs -dsimp only [go_sem, Nat.reduceSub, Nat.reduceAdd, Nat.reduceMul, Nat.reduceLT, Nat.reduceLeDiff, Nat.reduceEqDiff, Nat.reduceDiv, Nat.reduceMod, Int.reduceToNat, Int.reduceLE, Int.reduceLT, Int.reduceBEq, Int.reduceBNe, Int.reduceNeg, Int.reduceAdd, Int.reduceSub, Int.reduceMul, reduceCtorEq, *] | simp -implicitDefEqProofs -dsimp (disch := omega) only [wrap_i64])); repeat (with_reducible refine sideA ?_)))))
    all_goals (exfalso; rcases hB' with h | h <;> simp_all; done)
  obtain ⟨h1, h0⟩ := hB
  obtain ⟨hv, hlen⟩ := wrsB_all h1
  have hd0 : ((L.length : Int) == 0) = false := by simp; intro h; simp [h] at h0
  refine Ctr.intro Try.mixed Try.func64 rfl Try.okF64 ?_
  simp -implicitDefEqProofs -dsimp only [go_sem, Nat.reduceSub, Nat.reduceAdd, Nat.reduceMul, Nat.reduceLT, Nat.reduceLeDiff, Nat.reduceEqDiff, Nat.reduceDiv, Nat.reduceMod, Int.reduceToNat, Int.reduceLE, Int.reduceLT, Int.reduceBEq, Int.reduceBNe, Int.reduceNeg, Int.reduceAdd, Int.reduceSub, Int.reduceMul, reduceCtorEq, Try.ntmps64, Try.results64]
  (first | refine callT.at (iAreWeekRows_ok L hl) ⟨.inl rfl, trivial⟩ ?_ | refine callS.at (iAreWeekRows_ok L hl) ⟨.inl rfl, trivial⟩ ?_)
  (repeat ((repeat1' (first | simp -implicitDefEqProofs -dsimp only [go_sem, Nat.reduceSub, Nat.reduceAdd, Nat.reduceMul, Nat.reduceLT, Nat.reduceLeDiff, Nat.reduceEqDiff, Nat.reduceDiv, Nat.reduceMod, Int.reduceToNat, Int.reduceLE, Int.reduceLT, Int.reduceBEq, Int.reduceBNe, Int.reduceNeg, Int.reduceAdd, Int.reduceSub, Int.reduceMul, reduceCtorEq, h1, hd0] | simp -implicitDefEqProofs -dsimp (disch := omega) only [wrap_i64])); repeat (with_reducible refine sideA ?_)))
  refine LoopT.intro (fun i : Nat => i ≤ L.length) (fun i => ⟨[.undef, .undef, .undef, .undef, .osl 0 0 i 1, .undef, .undef, .undef, .undef, .undef, .undef, .undef, .undef, .undef, .undef, .undef, WeekRow.sl L, .int .i64 L.length, .int .i64 i, .undef, .undef, .undef, .undef, .undef, .undef, .undef, .undef, .undef, .undef, .undef, .undef, .undef, .undef, .undef, .undef, .undef, .undef], [some (rows IntS.cs ((evs L).take i))], 0⟩) (fun i => L.length - i) 0 (Nat.zero_le _) ?_ (fun i hi => ?_)
  · refine Weak.cut (1) (by simp) (by simp) ?_ ?_
    · simp [LeC, LeV, ren, cutF]
    · simp [cutH, cutB, rows]
  simp -implicitDefEqProofs -dsimp only [go_sem, Nat.reduceSub, Nat.reduceAdd, Nat.reduceMul, Nat.reduceLT, Nat.reduceLeDiff, Nat.reduceEqDiff, Nat.reduceDiv, Nat.reduceMod, Int.reduceToNat, Int.reduceLE, Int.reduceLT, Int.reduceBEq, Int.reduceBNe, Int.reduceNeg, Int.reduceAdd, Int.reduceSub, Int.reduceMul, reduceCtorEq]
  refine condT.split (fun h2 => ?_) (fun h2 => ?_)
  · have hi' : i < L.length := by simpa using h2
    have hr0 := rows_at WeekRow.csl hi'
    (repeat ((repeat1' (first | simp -implicitDefEqProofs -dsimp only [go_sem, Nat.reduceSub, Nat.reduceAdd, Nat.reduceMul, Nat.reduceLT, Nat.reduceLeDiff, Nat.reduceEqDiff, Nat.reduceDiv, Nat.reduceMod, Int.reduceToNat, Int.reduceLE, Int.reduceLT, Int.reduceBEq, Int.reduceBNe, Int.reduceNeg, Int.reduceAdd, Int.reduceSub, Int.reduceMul, reduceCtorEq, h2, hr0, WeekRow.cs] | simp -implicitDefEqProofs -dsimp (disch := omega) only [wrap_i64])); repeat (with_reducible refine sideA ?_)))
    have hl1 : ((evs L).take i).length = i := by simp [evs]; omega
    have e1 : (evs L).take (i + 1) = (evs L).take i ++ [L[i].Events] := by simp [evs, List.take_add_one, hi']
    refine ⟨by rw [rows_len (w := 1) IntS.csl, hl1], by omega, by omega, i + 1, hi', ?_, by omega⟩
    refine Weak.cut (1) (by simp) (by simp) ?_ ?_
    · simp [LeC, LeV, ren, cutF]
    · rw [e1, ← rows_snoc]; simp [cutH, cutB, map_ren_rows, ren, IntS.cs]
  · simp -implicitDefEqProofs -dsimp only [go_sem, Nat.reduceSub, Nat.reduceAdd, Nat.reduceMul, Nat.reduceLT, Nat.reduceLeDiff, Nat.reduceEqDiff, Nat.reduceDiv, Nat.reduceMod, Int.reduceToNat, Int.reduceLE, Int.reduceLT, Int.reduceBEq, Int.reduceBNe, Int.reduceNeg, Int.reduceAdd, Int.reduceSub, Int.reduceMul, reduceCtorEq, h2]
    have hi' : i = L.length := by simp at h2; omega
    subst hi'
    have e1 : (evs L).take L.length = evs L := by rw [show L.length = (evs L).length by simp [evs]]; exact List.take_length
    have e2 : (evs L).length = L.length := by simp [evs]
    have hs := sortInt_ok (evs L) (by omega)
    rw [e2] at hs
    rw [e1]
    (repeat ((repeat1' (first | simp -implicitDefEqProofs -dsimp only [go_sem, Nat.reduceSub, Nat.reduceAdd, Nat.reduceMul, Nat.reduceLT, Nat.reduceLeDiff, Nat.reduceEqDiff, Nat.reduceDiv, Nat.reduceMod, Int.reduceToNat, Int.reduceLE, Int.reduceLT, Int.reduceBEq, Int.reduceBNe, Int.reduceNeg, Int.reduceAdd, Int.reduceSub, Int.reduceMul, reduceCtorEq] | simp -implicitDefEqProofs -dsimp (disch := omega) only [wrap_i64])); repeat (with_reducible refine sideA ?_)))
    refine callS.lend [0] false ( hs) (by decide) ⟨leO, trivial⟩ lendA ( grown_one (by simp [rows_length, insSort_len])) (.inl rfl) ?_
    have hlt : (L.length - 1) / 2 < (insSort ltI (evs L)).length := by rw [insSort_len]; simp [evs]; omega
    have hrm := rows_at IntS.csl hlt
    have hm : medR L = [.int .i64 ((insSort ltI (evs L))[(L.length - 1) / 2]), .bool true] := by
      rw [medR, if_pos ⟨h1, by intro h; simp [h] at h0⟩, getD_ix hlt]
    rw [hm]
    (repeat ((repeat1' (first | simp -implicitDefEqProofs -dsimp only [go_sem, Nat.reduceSub, Nat.reduceAdd, Nat.reduceMul, Nat.reduceLT, Nat.reduceLeDiff, Nat.reduceEqDiff, Nat.reduceDiv, Nat.reduceMod, Int.reduceToNat, Int.reduceLE, Int.reduceLT, Int.reduceBEq, Int.reduceBNe, Int.reduceNeg, Int.reduceAdd, Int.reduceSub, Int.reduceMul, reduceCtorEq, mid_ix h0 hlen, hrm, IntS.cs] | simp -implicitDefEqProofs -dsimp (disch := omega) only [wrap_i64])); repeat (with_reducible refine sideA ?_)))
    exact WeakR.drop' rfl rfl
end Go.Proofs
