/-
  Alarms: what a step makes of an alarm (the reference). Conditions: none.
-/
import Derived.Test.YtekhnmibkkinaaaF21c
set_option linter.unusedSimpArgs false
set_option linter.unusedVariables false
set_option maxRecDepth 100000
set_option maxHeartbeats 1000000
namespace Go.Proofs
open Go.Lv
theorem l21Own_ok (a : Alarm) (hl : a.Heard.length ≤ 16777216) : Ctr Try.prog 123 [a.v] [] (a.o 0) [some (rows Heard.cs a.Heard)] := by
  refine Ctr.intro Try.mixed Try.func123 rfl Try.okF123 ?_
  simp -implicitDefEqProofs -dsimp only [go_sem, Nat.reduceSub, Nat.reduceAdd, Nat.reduceMul, Nat.reduceLT, Nat.reduceLeDiff, Nat.reduceEqDiff, Nat.reduceDiv, Nat.reduceMod, Int.reduceToNat, Int.reduceLE, Int.reduceLT, Nat.le_refl, Int.toNat_natCast, beq_self_eq_true, bne_self_eq_false, Int.reduceBEq, Int.reduceBNe, Int.reduceNeg, Int.reduceAdd, Int.reduceSub, Int.reduceMul, decide_true, decide_false, eq_self, ne_eq, Option.some.injEq, reduceCtorEq, not_false_eq_true, Option.map_some, map_ren_rows, Try.ntmps123, Try.results123]
  simp -implicitDefEqProofs -dsimp only [go_sem, Nat.reduceSub, Nat.reduceAdd, Nat.reduceMul, Nat.reduceLT, Nat.reduceLeDiff, Nat.reduceEqDiff, Nat.reduceDiv, Nat.reduceMod, Int.reduceToNat, Int.reduceLE, Int.reduceLT, Nat.le_refl, Int.toNat_natCast, beq_self_eq_true, bne_self_eq_false, Int.reduceBEq, Int.reduceBNe, Int.reduceNeg, Int.reduceAdd, Int.reduceSub, Int.reduceMul, decide_true, decide_false, eq_self, ne_eq, Option.some.injEq, reduceCtorEq, not_false_eq_true, Option.map_some, map_ren_rows, Alarm.v]
  refine chT.intro [true, true, true, true, false, true, true, false, true, true, true, true, false, false] [true, true, true, true, true, true, true, true, true, true, true, true, false, false] [none, none, none, none, some ⟨none, 7, 49, []⟩, none, none, some ⟨some 4, 10, 49, [9]⟩, none, none, none, none, none, none] [⟨7, 10, 49, [9]⟩] (by kernel_rfl) (by rfl) ?_
  simp -implicitDefEqProofs -dsimp only [go_sem, Nat.reduceSub, Nat.reduceAdd, Nat.reduceMul, Nat.reduceLT, Nat.reduceLeDiff, Nat.reduceEqDiff, Nat.reduceDiv, Nat.reduceMod, Int.reduceToNat, Int.reduceLE, Int.reduceLT, Nat.le_refl, Int.toNat_natCast, beq_self_eq_true, bne_self_eq_false, Int.reduceBEq, Int.reduceBNe, Int.reduceNeg, Int.reduceAdd, Int.reduceSub, Int.reduceMul, decide_true, decide_false, eq_self, ne_eq, Option.some.injEq, reduceCtorEq, not_false_eq_true, Option.map_some, map_ren_rows]
  repeat (with_reducible refine And.intro ?_ ?_; focus (first | omega | with_reducible rfl | (show drawOk _ = true; kernel_rfl) | (simp only [rows_length, rows_cell, List.length_append, List.length_cons, List.length_nil, List.all_append, List.all_cons, List.all_nil, isCell, Nat.mul_one, Nat.one_mul, Bool.and_self]; first | done | omega)))
  refine ⟨⟨by omega, by omega, rows_all Heard.csp _⟩, ?_⟩
  refine WeakR.pick [2] (by decide) (fun j hj => by omega) (.inl ?_) ?_
  · first | rfl | (simp [ren, pickF, posOf, Alarm.o]; done)
  · simp only [pickH, List.map_cons, List.map_nil, pickB, List.getElem?_cons_zero, List.getElem?_cons_succ, map_ren_rows]
def waitH (now : Int) (L : List Heard) : List Heard := L.filter fun h => decide (now - h.Tick ≤ 500)
def waitA (a : Alarm) (v : Int) : Alarm := if a.State = 1 then ⟨a.Now + v, if (waitH (a.Now + v) a.Heard).length = 0 then 0 else 1, waitH (a.Now + v) a.Heard, a.Given, a.Cancelled⟩ else ⟨a.Now + v, a.State, a.Heard, a.Given, a.Cancelled⟩
theorem l21Wait_ok (a : Alarm) (v : Int) (ha : alarmB a = true) (h0 : 1 ≤ v) (h1 : v ≤ 1000000 - a.Now) : Ctr Try.prog 187 [a.v, .int .i64 v] [] ((waitA a v).o 0) [some (rows Heard.cs (waitA a v).Heard)] := by
  have A := alarmB_ok ha
  have hlen := A.len
  have hn := A.now
  have hw : IntKind.i64.wrap (a.Now + v) = a.Now + v := wrap_i64 (by omega) (by omega)
  refine Ctr.intro Try.mixed Try.func187 rfl Try.okF187 ?_
  simp -implicitDefEqProofs -dsimp only [go_sem, Nat.reduceSub, Nat.reduceAdd, Nat.reduceMul, Nat.reduceLT, Nat.reduceLeDiff, Nat.reduceEqDiff, Nat.reduceDiv, Nat.reduceMod, Int.reduceToNat, Int.reduceLE, Int.reduceLT, Nat.le_refl, Int.toNat_natCast, beq_self_eq_true, bne_self_eq_false, Int.reduceBEq, Int.reduceBNe, Int.reduceNeg, Int.reduceAdd, Int.reduceSub, Int.reduceMul, decide_true, decide_false, eq_self, ne_eq, Option.some.injEq, reduceCtorEq, not_false_eq_true, Option.map_some, map_ren_rows, Try.ntmps187, Try.results187]
  simp -implicitDefEqProofs -dsimp only [go_sem, Nat.reduceSub, Nat.reduceAdd, Nat.reduceMul, Nat.reduceLT, Nat.reduceLeDiff, Nat.reduceEqDiff, Nat.reduceDiv, Nat.reduceMod, Int.reduceToNat, Int.reduceLE, Int.reduceLT, Nat.le_refl, Int.toNat_natCast, beq_self_eq_true, bne_self_eq_false, Int.reduceBEq, Int.reduceBNe, Int.reduceNeg, Int.reduceAdd, Int.reduceSub, Int.reduceMul, decide_true, decide_false, eq_self, ne_eq, Option.some.injEq, reduceCtorEq, not_false_eq_true, Option.map_some, map_ren_rows, Alarm.v]
  (first | refine callT.intro (l21Own_ok a (by omega)) ⟨(by first | exact le_snap rfl | exact .inl rfl | exact le_nil | exact le_snap' rfl (by simp) | exact LeV.aggR (by first | ((repeat' (first | exact True.intro | exact leE_snap rfl (by simp) (by simp) | exact LeE.nil | exact LeE.refl _ | refine And.intro ?_ ?_)); done) | fail)), trivial⟩ (by first | exact .inl rfl | exact .inr ⟨noRo_ok 3 rfl, by first | exact NoRoH.nil | exact noRoH_rows _ | exact NoRoH.of (by simp only [hpNoRo, List.all_cons, List.all_nil, rows_noRo, Bool.and_self])⟩) (by first | exact ⟨rfl, rfl⟩ | exact ⟨rfl, by simp [refOk, refV, refB, noOwn, rows_noOwn, rows_refV]⟩ | simp [refOk, refV, refB, noOwn, rows_noOwn, rows_refV]) ?_ | refine callS.intro (l21Own_ok a (by omega)) ⟨(by first | exact le_snap rfl | exact .inl rfl | exact le_nil | exact le_snap' rfl (by simp) | exact LeV.aggR (by first | ((repeat' (first | exact True.intro | exact leE_snap rfl (by simp) (by simp) | exact LeE.nil | exact LeE.refl _ | refine And.intro ?_ ?_)); done) | fail)), trivial⟩ (by first | exact .inl rfl | exact .inr ⟨noRo_ok 3 rfl, by first | exact NoRoH.nil | exact noRoH_rows _ | exact NoRoH.of (by simp only [hpNoRo, List.all_cons, List.all_nil, rows_noRo, Bool.and_self])⟩) ?_)
  (repeat ((repeat1' (first | simp -implicitDefEqProofs -dsimp only [go_sem, Nat.reduceSub, Nat.reduceAdd, Nat.reduceMul, Nat.reduceLT, Nat.reduceLeDiff, Nat.reduceEqDiff, Nat.reduceDiv, Nat.reduceMod, Int.reduceToNat, Int.reduceLE, Int.reduceLT, Nat.le_refl, Int.toNat_natCast, beq_self_eq_true, bne_self_eq_false, Int.reduceBEq, Int.reduceBNe, Int.reduceNeg, Int.reduceAdd, Int.reduceSub, Int.reduceMul, decide_true, decide_false, eq_self, ne_eq, Option.some.injEq, reduceCtorEq, not_false_eq_true, Option.map_some, map_ren_rows, Alarm.o, hw] | simp -implicitDefEqProofs -dsimp (disch := omega) only [wrap_i64])); repeat (with_reducible refine And.intro ?_ ?_; focus (first | omega | with_reducible rfl | (show drawOk _ = true; kernel_rfl) | (simp only [rows_length, rows_cell, List.length_append, List.length_cons, List.length_nil, List.all_append, List.all_cons, List.all_nil, isCell, Nat.mul_one, Nat.one_mul, Bool.and_self]; first | done | omega)))))
  refine condT.split (fun g1 => ?_) (fun g1 => ?_) <;> (repeat ((repeat1' (first | simp -implicitDefEqProofs -dsimp only [go_sem, Nat.reduceSub, Nat.reduceAdd, Nat.reduceMul, Nat.reduceLT, Nat.reduceLeDiff, Nat.reduceEqDiff, Nat.reduceDiv, Nat.reduceMod, Int.reduceToNat, Int.reduceLE, Int.reduceLT, Nat.le_refl, Int.toNat_natCast, beq_self_eq_true, bne_self_eq_false, Int.reduceBEq, Int.reduceBNe, Int.reduceNeg, Int.reduceAdd, Int.reduceSub, Int.reduceMul, decide_true, decide_false, eq_self, ne_eq, Option.some.injEq, reduceCtorEq, not_false_eq_true, Option.map_some, map_ren_rows, g1] | simp -implicitDefEqProofs -dsimp (disch := omega) only [wrap_i64])); repeat (with_reducible refine And.intro ?_ ?_; focus (first | omega | with_reducible rfl | (show drawOk _ = true; kernel_rfl) | (simp only [rows_length, rows_cell, List.length_append, List.length_cons, List.length_nil, List.all_append, List.all_cons, List.all_nil, isCell, Nat.mul_one, Nat.one_mul, Bool.and_self]; first | done | omega)))))
  · have : waitA a v = ⟨a.Now + v, a.State, a.Heard, a.Given, a.Cancelled⟩ := by rw [waitA, if_neg (by simpa using g1)]
    rw [this]
    refine WeakR.pick [2] (by decide) (fun j hj => by omega) (.inl ?_) ?_
    · first | rfl | (simp [ren, pickF, posOf]; done)
    · simp only [pickH, List.map_cons, List.map_nil, pickB, List.getElem?_cons_zero, List.getElem?_cons_succ, map_ren_rows]
  have g1' : a.State = 1 := by simpa using g1
  refine LoopT.intro (fun i : Nat => i ≤ a.Heard.length) (fun i => ⟨[.undef, .undef, .ptr 0 0, .undef, .ptr 1 0, .ptr 3 0, .int .i64 i, .undef, .undef, .undef, .undef, .undef, .undef, .undef, .undef, .undef, .undef, .undef, .undef, .undef, .undef, .undef, .undef, .undef, .undef, .undef, .undef, .undef, .undef, .undef, .undef, .undef, .undef, .undef, .undef, .undef, .undef, .undef, .undef, .undef, .undef, .undef, .undef, .undef, .undef, .undef, .undef, .undef, .undef, .undef, .undef, .undef, .undef], [some [.int .i64 a.Now, .int .i64 a.State, .sl a.Heard.length 2 (rows Heard.cs a.Heard), .int .i64 a.Given, .int .i64 a.Cancelled], some [.int .i64 0, .int .i64 0, .nilsl, .int .i64 0, .int .i64 0], some (rows Heard.cs a.Heard), some [.int .i64 (a.Now + v), .int .i64 a.State, .osl 4 0 (waitH (a.Now + v) (a.Heard.take i)).length 2, .int .i64 a.Given, .int .i64 a.Cancelled], some (rows Heard.cs (waitH (a.Now + v) (a.Heard.take i)))], 0⟩) (fun i => a.Heard.length - i) 0 (Nat.zero_le _) ?_ (fun i hi => ?_)
  · refine Weak.cut (5) (by simp) (by simp) ?_ ?_
    · simp [LeC, LeV, ren, cutF]
    · simp [cutH, cutB, ren, map_ren_rows, waitH, cutF]
      rfl
  simp -implicitDefEqProofs -dsimp only [go_sem, Nat.reduceSub, Nat.reduceAdd, Nat.reduceMul, Nat.reduceLT, Nat.reduceLeDiff, Nat.reduceEqDiff, Nat.reduceDiv, Nat.reduceMod, Int.reduceToNat, Int.reduceLE, Int.reduceLT, Nat.le_refl, Int.toNat_natCast, beq_self_eq_true, bne_self_eq_false, Int.reduceBEq, Int.reduceBNe, Int.reduceNeg, Int.reduceAdd, Int.reduceSub, Int.reduceMul, decide_true, decide_false, eq_self, ne_eq, Option.some.injEq, reduceCtorEq, not_false_eq_true, Option.map_some, map_ren_rows]
  refine condT.split (fun h2 => ?_) (fun h2 => ?_)
  · simp -implicitDefEqProofs -dsimp only [go_sem, Nat.reduceSub, Nat.reduceAdd, Nat.reduceMul, Nat.reduceLT, Nat.reduceLeDiff, Nat.reduceEqDiff, Nat.reduceDiv, Nat.reduceMod, Int.reduceToNat, Int.reduceLE, Int.reduceLT, Nat.le_refl, Int.toNat_natCast, beq_self_eq_true, bne_self_eq_false, Int.reduceBEq, Int.reduceBNe, Int.reduceNeg, Int.reduceAdd, Int.reduceSub, Int.reduceMul, decide_true, decide_false, eq_self, ne_eq, Option.some.injEq, reduceCtorEq, not_false_eq_true, Option.map_some, map_ren_rows, h2]
    have hi' : i < a.Heard.length := by simpa using h2
    have hr := rows_at Heard.csl hi'
    have hh := heardB_iff.1 (A.heard _ (List.getElem_mem hi'))
    have hw2 : IntKind.i64.wrap (a.Now + v - a.Heard[i].Tick) = a.Now + v - a.Heard[i].Tick := wrap_i64 (by omega) (by omega)
    have hlw : (waitH (a.Now + v) (a.Heard.take i)).length ≤ 8 := Nat.le_trans (List.length_filter_le _ _) (by simp; omega)
    have htk : waitH (a.Now + v) (a.Heard.take (i + 1)) = waitH (a.Now + v) (a.Heard.take i) ++ waitH (a.Now + v) [a.Heard[i]] := by
      rw [List.take_succ_eq_append_getElem hi', waitH, List.filter_append]; rfl
    (repeat ((repeat1' (first | simp -implicitDefEqProofs -dsimp only [go_sem, Nat.reduceSub, Nat.reduceAdd, Nat.reduceMul, Nat.reduceLT, Nat.reduceLeDiff, Nat.reduceEqDiff, Nat.reduceDiv, Nat.reduceMod, Int.reduceToNat, Int.reduceLE, Int.reduceLT, Nat.le_refl, Int.toNat_natCast, beq_self_eq_true, bne_self_eq_false, Int.reduceBEq, Int.reduceBNe, Int.reduceNeg, Int.reduceAdd, Int.reduceSub, Int.reduceMul, decide_true, decide_false, eq_self, ne_eq, Option.some.injEq, reduceCtorEq, not_false_eq_true, Option.map_some, map_ren_rows, hr, Heard.cs, hw2] | simp -implicitDefEqProofs -dsimp (disch := omega) only [wrap_i64])); repeat (with_reducible refine And.intro ?_ ?_; focus (first | omega | with_reducible rfl | (show drawOk _ = true; kernel_rfl) | (simp only [rows_length, rows_cell, List.length_append, List.length_cons, List.length_nil, List.all_append, List.all_cons, List.all_nil, isCell, Nat.mul_one, Nat.one_mul, Bool.and_self]; first | done | omega)))))
    refine condT.split (fun g2 => ?_) (fun g2 => ?_) <;> (repeat ((repeat1' (first | simp -implicitDefEqProofs -dsimp only [go_sem, Nat.reduceSub, Nat.reduceAdd, Nat.reduceMul, Nat.reduceLT, Nat.reduceLeDiff, Nat.reduceEqDiff, Nat.reduceDiv, Nat.reduceMod, Int.reduceToNat, Int.reduceLE, Int.reduceLT, Nat.le_refl, Int.toNat_natCast, beq_self_eq_true, bne_self_eq_false, Int.reduceBEq, Int.reduceBNe, Int.reduceNeg, Int.reduceAdd, Int.reduceSub, Int.reduceMul, decide_true, decide_false, eq_self, ne_eq, Option.some.injEq, reduceCtorEq, not_false_eq_true, Option.map_some, map_ren_rows, g2, hr, Heard.cs] | simp -implicitDefEqProofs -dsimp (disch := omega) only [wrap_i64])); repeat (with_reducible refine And.intro ?_ ?_; focus (first | omega | with_reducible rfl | (show drawOk _ = true; kernel_rfl) | (simp only [rows_length, rows_cell, List.length_append, List.length_cons, List.length_nil, List.all_append, List.all_cons, List.all_nil, isCell, Nat.mul_one, Nat.one_mul, Bool.and_self]; first | done | omega)))))
    · have h1e : waitH (a.Now + v) [a.Heard[i]] = [a.Heard[i]] := by simp only [waitH, List.filter_cons, g2, if_true, List.filter_nil]
      refine ⟨i + 1, hi', ?_, by omega⟩
      rw [htk, h1e]
      refine Weak.cut (5) (by simp) (by simp) ?_ ?_
      · simp [LeC, LeV, ren, cutF]
      · simp [cutH, cutB, ren, map_ren_rows, cutF, killB, killC, killF, rowsOf_append, rows_one, Heard.cs]
    · have h1e : waitH (a.Now + v) [a.Heard[i]] = [] := by simp only [waitH, List.filter_cons, g2, Bool.false_eq_true, if_false, List.filter_nil]
      refine ⟨i + 1, hi', ?_, by omega⟩
      rw [htk, h1e, List.append_nil]
      refine Weak.cut (5) (by simp) (by simp) ?_ ?_
      · simp [LeC, LeV, ren, cutF]
      · simp [cutH, cutB, ren, map_ren_rows, cutF]
  · simp -implicitDefEqProofs -dsimp only [go_sem, Nat.reduceSub, Nat.reduceAdd, Nat.reduceMul, Nat.reduceLT, Nat.reduceLeDiff, Nat.reduceEqDiff, Nat.reduceDiv, Nat.reduceMod, Int.reduceToNat, Int.reduceLE, Int.reduceLT, Nat.le_refl, Int.toNat_natCast, beq_self_eq_true, bne_self_eq_false, Int.reduceBEq, Int.reduceBNe, Int.reduceNeg, Int.reduceAdd, Int.reduceSub, Int.reduceMul, decide_true, decide_false, eq_self, ne_eq, Option.some.injEq, reduceCtorEq, not_false_eq_true, Option.map_some, map_ren_rows, h2]
    have hi' : i = a.Heard.length := by simp at h2; omega
    subst hi'
    rw [List.take_length]
    have hwa : waitA a v = ⟨a.Now + v, if (waitH (a.Now + v) a.Heard).length = 0 then 0 else 1, waitH (a.Now + v) a.Heard, a.Given, a.Cancelled⟩ := by rw [waitA, if_pos g1']
    rw [hwa]
    refine condT.split (fun g3 => ?_) (fun g3 => ?_) <;> (repeat ((repeat1' (first | simp -implicitDefEqProofs -dsimp only [go_sem, Nat.reduceSub, Nat.reduceAdd, Nat.reduceMul, Nat.reduceLT, Nat.reduceLeDiff, Nat.reduceEqDiff, Nat.reduceDiv, Nat.reduceMod, Int.reduceToNat, Int.reduceLE, Int.reduceLT, Nat.le_refl, Int.toNat_natCast, beq_self_eq_true, bne_self_eq_false, Int.reduceBEq, Int.reduceBNe, Int.reduceNeg, Int.reduceAdd, Int.reduceSub, Int.reduceMul, decide_true, decide_false, eq_self, ne_eq, Option.some.injEq, reduceCtorEq, not_false_eq_true, Option.map_some, map_ren_rows, g3] | simp -implicitDefEqProofs -dsimp (disch := omega) only [wrap_i64])); repeat (with_reducible refine And.intro ?_ ?_; focus (first | omega | with_reducible rfl | (show drawOk _ = true; kernel_rfl) | (simp only [rows_length, rows_cell, List.length_append, List.length_cons, List.length_nil, List.all_append, List.all_cons, List.all_nil, isCell, Nat.mul_one, Nat.one_mul, Bool.and_self]; first | done | omega)))))
    · rw [if_pos (by simp at g3; simp; omega)]
      refine WeakR.pick [4] (by decide) (fun j hj => by omega) (.inl ?_) ?_
      · first | rfl | (simp [ren, pickF, posOf]; done)
      · simp only [pickH, List.map_cons, List.map_nil, pickB, List.getElem?_cons_zero, List.getElem?_cons_succ, map_ren_rows]
    · rw [if_neg (by simp at g3; simp; omega), g1']
      refine WeakR.pick [4] (by decide) (fun j hj => by omega) (.inl ?_) ?_
      · first | rfl | (simp [ren, pickF, posOf]; done)
      · simp only [pickH, List.map_cons, List.map_nil, pickB, List.getElem?_cons_zero, List.getElem?_cons_succ, map_ren_rows]
end Go.Proofs
