/-
  Week rows: running sums. Conditions: none.
-/
import Derived.Test.YtnoknihkmfbdbaaF26c
set_option linter.unusedSimpArgs false
set_option linter.unusedVariables false
set_option maxRecDepth 100000
namespace Go.Proofs
open Go.Lv
def runTo (L : List WeekRow) (n : Nat) : List Int := (List.range n).map fun j => psum WeekRow.Events (L.take (j + 1))
theorem runTo_len (L : List WeekRow) (n : Nat) : (runTo L n).length = n := by simp [runTo]
theorem runTo_succ (L : List WeekRow) (n : Nat) : runTo L (n + 1) = runTo L n ++ [psum WeekRow.Events (L.take (n + 1))] := by simp [runTo, List.range_succ]
def runR (L : List WeekRow) : Option (List Int) := if wrsB L = true then some (runTo L L.length) else none
theorem sRunningEvents_ok (L : List WeekRow) (hl : L.length ≤ 281474976710656) : Ctr Try.prog 38 [WeekRow.sl L] [] (optO 1 (runR L)) (optOh IntS.cs (runR L)) := by
  refine Ctr.intro Try.mixed Try.func38 rfl Try.okF38 ?_
  simp -implicitDefEqProofs -dsimp only [go_sem, Nat.reduceSub, Nat.reduceAdd, Nat.reduceMul, Nat.reduceLT, Nat.reduceLeDiff, Nat.reduceEqDiff, Nat.reduceDiv, Nat.reduceMod, Int.reduceToNat, Int.reduceLE, Int.reduceLT, Nat.le_refl, Int.toNat_natCast, beq_self_eq_true, bne_self_eq_false, Int.reduceBEq, Int.reduceBNe, Int.reduceNeg, Int.reduceAdd, Int.reduceSub, Int.reduceMul, decide_true, decide_false, eq_self, ne_eq, Option.some.injEq, reduceCtorEq, not_false_eq_true, Option.map_some, map_ren_rows, Try.ntmps38, Try.results38]
  (first | refine callT.intro (l26Good_ok L hl) ⟨.inl rfl, trivial⟩ (.inl rfl) ?_ | refine callS.intro (l26Good_ok L hl) ⟨.inl rfl, trivial⟩ (.inl rfl) ?_)
  simp -implicitDefEqProofs -dsimp only [go_sem, Nat.reduceSub, Nat.reduceAdd, Nat.reduceMul, Nat.reduceLT, Nat.reduceLeDiff, Nat.reduceEqDiff, Nat.reduceDiv, Nat.reduceMod, Int.reduceToNat, Int.reduceLE, Int.reduceLT, Nat.le_refl, Int.toNat_natCast, beq_self_eq_true, bne_self_eq_false, Int.reduceBEq, Int.reduceBNe, Int.reduceNeg, Int.reduceAdd, Int.reduceSub, Int.reduceMul, decide_true, decide_false, eq_self, ne_eq, Option.some.injEq, reduceCtorEq, not_false_eq_true, Option.map_some, map_ren_rows]
  refine condT.split (fun h1 => ?_) (fun h1 => ?_) <;> simp -implicitDefEqProofs -dsimp only [go_sem, Nat.reduceSub, Nat.reduceAdd, Nat.reduceMul, Nat.reduceLT, Nat.reduceLeDiff, Nat.reduceEqDiff, Nat.reduceDiv, Nat.reduceMod, Int.reduceToNat, Int.reduceLE, Int.reduceLT, Nat.le_refl, Int.toNat_natCast, beq_self_eq_true, bne_self_eq_false, Int.reduceBEq, Int.reduceBNe, Int.reduceNeg, Int.reduceAdd, Int.reduceSub, Int.reduceMul, decide_true, decide_false, eq_self, ne_eq, Option.some.injEq, reduceCtorEq, not_false_eq_true, Option.map_some, map_ren_rows, h1]
  · have hn : runR L = none := by rw [runR, if_neg]; simp at h1; simp [h1]
    rw [hn]
    exact WeakR.refl _ _ _
  have h1' : wrsB L = true := by simpa using h1
  obtain ⟨hv, hlen⟩ := wrsB_all h1'
  have he := psum_take_le (wrs_events hv) (by decide) hlen
  refine LoopT.intro (fun i : Nat => i ≤ L.length) (fun i => ⟨[WeekRow.sl L, .undef, .undef, .undef, .osl 0 0 (runTo L i).length 1, .int .i64 (psum WeekRow.Events (L.take i)), .int .i64 i, .undef, .undef, .undef, .undef, .undef, .undef, .undef, .undef, .undef, .undef, .undef, .undef, .undef, .undef, .undef, .undef, .undef, .undef, .undef, .undef, .undef, .undef, .undef], [some (rows IntS.cs (runTo L i))], 0⟩) (fun i => L.length - i) 0 (Nat.zero_le _) ?_ (fun i hi => ?_)
  · refine Weak.cut (1) (by simp) (by simp) ?_ ?_
    · simp [LeC, LeV, ren, cutF, runTo, psum]
    · simp [cutH, cutB, runTo, rows]
  simp -implicitDefEqProofs -dsimp only [go_sem, Nat.reduceSub, Nat.reduceAdd, Nat.reduceMul, Nat.reduceLT, Nat.reduceLeDiff, Nat.reduceEqDiff, Nat.reduceDiv, Nat.reduceMod, Int.reduceToNat, Int.reduceLE, Int.reduceLT, Nat.le_refl, Int.toNat_natCast, beq_self_eq_true, bne_self_eq_false, Int.reduceBEq, Int.reduceBNe, Int.reduceNeg, Int.reduceAdd, Int.reduceSub, Int.reduceMul, decide_true, decide_false, eq_self, ne_eq, Option.some.injEq, reduceCtorEq, not_false_eq_true, Option.map_some, map_ren_rows]
  refine condT.split (fun h2 => ?_) (fun h2 => ?_)
  · simp -implicitDefEqProofs -dsimp only [go_sem, Nat.reduceSub, Nat.reduceAdd, Nat.reduceMul, Nat.reduceLT, Nat.reduceLeDiff, Nat.reduceEqDiff, Nat.reduceDiv, Nat.reduceMod, Int.reduceToNat, Int.reduceLE, Int.reduceLT, Nat.le_refl, Int.toNat_natCast, beq_self_eq_true, bne_self_eq_false, Int.reduceBEq, Int.reduceBNe, Int.reduceNeg, Int.reduceAdd, Int.reduceSub, Int.reduceMul, decide_true, decide_false, eq_self, ne_eq, Option.some.injEq, reduceCtorEq, not_false_eq_true, Option.map_some, map_ren_rows, h2]
    have hi' : i < L.length := by simpa using h2
    have hr := rows_at WeekRow.csl hi'
    have e2 := psum_succ WeekRow.Events hi'
    have p2 := he (i + 1)
    have hlk := runTo_len L i
    simp -implicitDefEqProofs -dsimp (disch := omega) only [wrap_i64, go_sem, Nat.reduceSub, Nat.reduceAdd, Nat.reduceMul, Nat.reduceLT, Nat.reduceLeDiff, Nat.reduceEqDiff, Nat.reduceDiv, Nat.reduceMod, Int.reduceToNat, Int.reduceLE, Int.reduceLT, Nat.le_refl, Int.toNat_natCast, beq_self_eq_true, bne_self_eq_false, Int.reduceBEq, Int.reduceBNe, Int.reduceNeg, Int.reduceAdd, Int.reduceSub, Int.reduceMul, decide_true, decide_false, eq_self, ne_eq, Option.some.injEq, reduceCtorEq, not_false_eq_true, Option.map_some, map_ren_rows, hr, WeekRow.cs]
    repeat (with_reducible refine And.intro ?_ ?_; focus (first | omega | with_reducible rfl | (show drawOk _ = true; kernel_rfl) | (simp only [rows_length, rows_cell, List.length_append, List.length_cons, List.length_nil, List.all_append, List.all_cons, List.all_nil, isCell, Nat.mul_one, Nat.one_mul, Bool.and_self]; first | done | omega)))
    try simp -implicitDefEqProofs -dsimp (disch := omega) only [wrap_i64, go_sem, Nat.reduceSub, Nat.reduceAdd, Nat.reduceMul, Nat.reduceLT, Nat.reduceLeDiff, Nat.reduceEqDiff, Nat.reduceDiv, Nat.reduceMod, Int.reduceToNat, Int.reduceLE, Int.reduceLT, Nat.le_refl, Int.toNat_natCast, beq_self_eq_true, bne_self_eq_false, Int.reduceBEq, Int.reduceBNe, Int.reduceNeg, Int.reduceAdd, Int.reduceSub, Int.reduceMul, decide_true, decide_false, eq_self, ne_eq, Option.some.injEq, reduceCtorEq, not_false_eq_true, Option.map_some, map_ren_rows, rows_length, Nat.mul_one, rows_cell]
    repeat (with_reducible refine And.intro ?_ ?_; focus (first | omega | with_reducible rfl | (show drawOk _ = true; kernel_rfl) | (simp only [rows_length, rows_cell, List.length_append, List.length_cons, List.length_nil, List.all_append, List.all_cons, List.all_nil, isCell, Nat.mul_one, Nat.one_mul, Bool.and_self]; first | done | omega)))
    refine ⟨i + 1, hi', ?_, by omega⟩
    refine Weak.cut (1) (by simp) (by simp) ?_ ?_
    · rw [e2]
      simp [LeC, LeV, ren, cutF, runTo_succ]
    · rw [runTo_succ, ← rows_snoc, e2]
      simp [cutH, cutB, map_ren_rows, killC, ren, IntS.cs]
  · simp -implicitDefEqProofs -dsimp only [go_sem, Nat.reduceSub, Nat.reduceAdd, Nat.reduceMul, Nat.reduceLT, Nat.reduceLeDiff, Nat.reduceEqDiff, Nat.reduceDiv, Nat.reduceMod, Int.reduceToNat, Int.reduceLE, Int.reduceLT, Nat.le_refl, Int.toNat_natCast, beq_self_eq_true, bne_self_eq_false, Int.reduceBEq, Int.reduceBNe, Int.reduceNeg, Int.reduceAdd, Int.reduceSub, Int.reduceMul, decide_true, decide_false, eq_self, ne_eq, Option.some.injEq, reduceCtorEq, not_false_eq_true, Option.map_some, map_ren_rows, h2]
    have hi' : i = L.length := by simp at h2; omega
    subst hi'
    rw [runR, if_pos h1']
    exact WeakR.refl _ _ _
theorem iRunningEvents_ok (L : List WeekRow) (hl : L.length ≤ 281474976710656) : Ctr Try.prog 39 [WeekRow.sl L] [] (optN 1 (runR L)) (optNh IntS.cs (runR L)) := by
  refine Ctr.intro Try.mixed Try.func39 rfl Try.okF39 ?_
  simp -implicitDefEqProofs -dsimp only [go_sem, Nat.reduceSub, Nat.reduceAdd, Nat.reduceMul, Nat.reduceLT, Nat.reduceLeDiff, Nat.reduceEqDiff, Nat.reduceDiv, Nat.reduceMod, Int.reduceToNat, Int.reduceLE, Int.reduceLT, Nat.le_refl, Int.toNat_natCast, beq_self_eq_true, bne_self_eq_false, Int.reduceBEq, Int.reduceBNe, Int.reduceNeg, Int.reduceAdd, Int.reduceSub, Int.reduceMul, decide_true, decide_false, eq_self, ne_eq, Option.some.injEq, reduceCtorEq, not_false_eq_true, Option.map_some, map_ren_rows, Try.ntmps39, Try.results39]
  (first | refine callT.intro (iAreWeekRows_ok L hl) ⟨.inl rfl, trivial⟩ (.inl rfl) ?_ | refine callS.intro (iAreWeekRows_ok L hl) ⟨.inl rfl, trivial⟩ (.inl rfl) ?_)
  simp -implicitDefEqProofs -dsimp only [go_sem, Nat.reduceSub, Nat.reduceAdd, Nat.reduceMul, Nat.reduceLT, Nat.reduceLeDiff, Nat.reduceEqDiff, Nat.reduceDiv, Nat.reduceMod, Int.reduceToNat, Int.reduceLE, Int.reduceLT, Nat.le_refl, Int.toNat_natCast, beq_self_eq_true, bne_self_eq_false, Int.reduceBEq, Int.reduceBNe, Int.reduceNeg, Int.reduceAdd, Int.reduceSub, Int.reduceMul, decide_true, decide_false, eq_self, ne_eq, Option.some.injEq, reduceCtorEq, not_false_eq_true, Option.map_some, map_ren_rows]
  refine condT.split (fun h1 => ?_) (fun h1 => ?_) <;> simp -implicitDefEqProofs -dsimp only [go_sem, Nat.reduceSub, Nat.reduceAdd, Nat.reduceMul, Nat.reduceLT, Nat.reduceLeDiff, Nat.reduceEqDiff, Nat.reduceDiv, Nat.reduceMod, Int.reduceToNat, Int.reduceLE, Int.reduceLT, Nat.le_refl, Int.toNat_natCast, beq_self_eq_true, bne_self_eq_false, Int.reduceBEq, Int.reduceBNe, Int.reduceNeg, Int.reduceAdd, Int.reduceSub, Int.reduceMul, decide_true, decide_false, eq_self, ne_eq, Option.some.injEq, reduceCtorEq, not_false_eq_true, Option.map_some, map_ren_rows, h1]
  · have hn : runR L = none := by rw [runR, if_neg]; simp at h1; simp [h1]
    rw [hn]
    exact WeakR.refl _ _ _
  have h1' : wrsB L = true := by simpa using h1
  obtain ⟨hv, hlen⟩ := wrsB_all h1'
  refine LoopT.intro (fun i : Nat => i ≤ L.length) (fun i => ⟨[WeekRow.sl L, .undef, .undef, .undef, .osl 0 0 (runTo L i).length 1, .undef, .undef, .undef, .undef, .undef, .undef, .int .i64 L.length, .int .i64 i, .undef, .undef, .undef, .undef, .undef, .undef, .undef, .undef, .undef, .undef, .undef, .undef, .undef], [some (rows IntS.cs (runTo L i))], 0⟩) (fun i => L.length - i) 0 (Nat.zero_le _) ?_ (fun i hi => ?_)
  · refine Weak.cut (1) (by simp) (by simp) ?_ ?_
    · simp [LeC, LeV, ren, cutF, runTo]
    · simp [cutH, cutB, runTo, rows]
  simp -implicitDefEqProofs -dsimp only [go_sem, Nat.reduceSub, Nat.reduceAdd, Nat.reduceMul, Nat.reduceLT, Nat.reduceLeDiff, Nat.reduceEqDiff, Nat.reduceDiv, Nat.reduceMod, Int.reduceToNat, Int.reduceLE, Int.reduceLT, Nat.le_refl, Int.toNat_natCast, beq_self_eq_true, bne_self_eq_false, Int.reduceBEq, Int.reduceBNe, Int.reduceNeg, Int.reduceAdd, Int.reduceSub, Int.reduceMul, decide_true, decide_false, eq_self, ne_eq, Option.some.injEq, reduceCtorEq, not_false_eq_true, Option.map_some, map_ren_rows]
  refine condT.split (fun h2 => ?_) (fun h2 => ?_)
  · simp -implicitDefEqProofs -dsimp only [go_sem, Nat.reduceSub, Nat.reduceAdd, Nat.reduceMul, Nat.reduceLT, Nat.reduceLeDiff, Nat.reduceEqDiff, Nat.reduceDiv, Nat.reduceMod, Int.reduceToNat, Int.reduceLE, Int.reduceLT, Nat.le_refl, Int.toNat_natCast, beq_self_eq_true, bne_self_eq_false, Int.reduceBEq, Int.reduceBNe, Int.reduceNeg, Int.reduceAdd, Int.reduceSub, Int.reduceMul, decide_true, decide_false, eq_self, ne_eq, Option.some.injEq, reduceCtorEq, not_false_eq_true, Option.map_some, map_ren_rows, h2]
    have hi' : i < L.length := by simpa using h2
    have hlk := runTo_len L i
    have hc : ((i : Int) + 1).toNat = i + 1 := by omega
    have e : V.sl (i + 1) 5 ((rows WeekRow.cs L).take ((i + 1) * 5)) = WeekRow.sl (L.take (i + 1)) := by
      rw [rows_take WeekRow.csl]
      show V.sl _ _ _ = V.sl (L.take (i + 1)).length 5 _
      rw [List.length_take, Nat.min_eq_left (by omega)]
    have hlt : (L.take (i + 1)).length ≤ 281474976710656 := by rw [List.length_take]; omega
    simp -implicitDefEqProofs -dsimp (disch := omega) only [wrap_i64, go_sem, Nat.reduceSub, Nat.reduceAdd, Nat.reduceMul, Nat.reduceLT, Nat.reduceLeDiff, Nat.reduceEqDiff, Nat.reduceDiv, Nat.reduceMod, Int.reduceToNat, Int.reduceLE, Int.reduceLT, Nat.le_refl, Int.toNat_natCast, beq_self_eq_true, bne_self_eq_false, Int.reduceBEq, Int.reduceBNe, Int.reduceNeg, Int.reduceAdd, Int.reduceSub, Int.reduceMul, decide_true, decide_false, eq_self, ne_eq, Option.some.injEq, reduceCtorEq, not_false_eq_true, Option.map_some, map_ren_rows, hc, e, Nat.zero_mul, Nat.sub_zero]
    repeat (with_reducible refine And.intro ?_ ?_; focus (first | omega | with_reducible rfl | (show drawOk _ = true; kernel_rfl) | (simp only [rows_length, rows_cell, List.length_append, List.length_cons, List.length_nil, List.all_append, List.all_cons, List.all_nil, isCell, Nat.mul_one, Nat.one_mul, Bool.and_self]; first | done | omega)))
    (first | refine callT.intro (totals_ok (L.take (i + 1)) hlt) ⟨.inl rfl, trivial⟩ (.inl rfl) ?_ | refine callS.intro (totals_ok (L.take (i + 1)) hlt) ⟨.inl rfl, trivial⟩ (.inl rfl) ?_)
    simp -implicitDefEqProofs -dsimp (disch := omega) only [wrap_i64, go_sem, Nat.reduceSub, Nat.reduceAdd, Nat.reduceMul, Nat.reduceLT, Nat.reduceLeDiff, Nat.reduceEqDiff, Nat.reduceDiv, Nat.reduceMod, Int.reduceToNat, Int.reduceLE, Int.reduceLT, Nat.le_refl, Int.toNat_natCast, beq_self_eq_true, bne_self_eq_false, Int.reduceBEq, Int.reduceBNe, Int.reduceNeg, Int.reduceAdd, Int.reduceSub, Int.reduceMul, decide_true, decide_false, eq_self, ne_eq, Option.some.injEq, reduceCtorEq, not_false_eq_true, Option.map_some, map_ren_rows, WeekRow.v, tot]
    repeat (with_reducible refine And.intro ?_ ?_; focus (first | omega | with_reducible rfl | (show drawOk _ = true; kernel_rfl) | (simp only [rows_length, rows_cell, List.length_append, List.length_cons, List.length_nil, List.all_append, List.all_cons, List.all_nil, isCell, Nat.mul_one, Nat.one_mul, Bool.and_self]; first | done | omega)))
    try simp -implicitDefEqProofs -dsimp (disch := omega) only [wrap_i64, go_sem, Nat.reduceSub, Nat.reduceAdd, Nat.reduceMul, Nat.reduceLT, Nat.reduceLeDiff, Nat.reduceEqDiff, Nat.reduceDiv, Nat.reduceMod, Int.reduceToNat, Int.reduceLE, Int.reduceLT, Nat.le_refl, Int.toNat_natCast, beq_self_eq_true, bne_self_eq_false, Int.reduceBEq, Int.reduceBNe, Int.reduceNeg, Int.reduceAdd, Int.reduceSub, Int.reduceMul, decide_true, decide_false, eq_self, ne_eq, Option.some.injEq, reduceCtorEq, not_false_eq_true, Option.map_some, map_ren_rows, rows_length, Nat.mul_one, rows_cell]
    repeat (with_reducible refine And.intro ?_ ?_; focus (first | omega | with_reducible rfl | (show drawOk _ = true; kernel_rfl) | (simp only [rows_length, rows_cell, List.length_append, List.length_cons, List.length_nil, List.all_append, List.all_cons, List.all_nil, isCell, Nat.mul_one, Nat.one_mul, Bool.and_self]; first | done | omega)))
    refine ⟨i + 1, hi', ?_, by omega⟩
    have e3 : wsum WeekRow.Events (L.take (i + 1)) = psum WeekRow.Events (L.take (i + 1)) := wsum_psum (B := 9999) (fun x hx => wrs_events hv x (List.mem_of_mem_take hx)) (by simp; omega)
    refine Weak.cut (1) (by simp) (by simp) ?_ ?_
    · simp [LeC, LeV, ren, cutF, runTo_succ]
    · rw [runTo_succ, ← rows_snoc, e3]
      simp [cutH, cutB, map_ren_rows, killC, ren, IntS.cs]
  · simp -implicitDefEqProofs -dsimp only [go_sem, Nat.reduceSub, Nat.reduceAdd, Nat.reduceMul, Nat.reduceLT, Nat.reduceLeDiff, Nat.reduceEqDiff, Nat.reduceDiv, Nat.reduceMod, Int.reduceToNat, Int.reduceLE, Int.reduceLT, Nat.le_refl, Int.toNat_natCast, beq_self_eq_true, bne_self_eq_false, Int.reduceBEq, Int.reduceBNe, Int.reduceNeg, Int.reduceAdd, Int.reduceSub, Int.reduceMul, decide_true, decide_false, eq_self, ne_eq, Option.some.injEq, reduceCtorEq, not_false_eq_true, Option.map_some, map_ren_rows, h2]
    have hi' : i = L.length := by simp at h2; omega
    subst hi'
    rw [runR, if_pos h1']
    exact WeakR.refl _ _ _
end Go.Proofs
