/-
  Alarms: copies, and whether an alarm can be cancelled. Conditions: none.
-/
import Derived.Test.YtekhnmibkkinaaaF21b
set_option linter.unusedSimpArgs false
set_option linter.unusedVariables false
set_option maxRecDepth 100000
set_option maxHeartbeats 1000000
namespace Go.Proofs
open Go.Lv
/-- A result that is not asked but for its flag. -/
theorem WeakR.no {v : V} {h : Hp} {b : Bool} : WeakR 0 (.tup [v, .bool b]) h (.tup [.undef, .bool b]) [] := by
  intro w0 m0 h0 av0 w m val hk hkl hlt hle H hx hi
  have h2 : RV w m h (avm av0 m h) true val (.tup [.undef, .bool b]) := by
    generalize hg : V.tup [v, .bool b] = r at hx
    cases hx with
    | tup a a' ha hra =>
      cases hg
      refine .tup a _ ha (fun i hi => ?_)
      match i, hi with
      | 0, _ => exact .undef _
      | 1, hi => exact hra 1 (by simp)
    | _ => cases hg
  exact WeakR.drop rfl w0 m0 h0 av0 w m val hk hkl hlt hle H h2 hi
def tickAt (L : List Heard) (i : Nat) : Int := ((L[i]?).map Heard.Tick).getD 0
theorem tickAt_get {L : List Heard} {i : Nat} (h : i < L.length) : tickAt L i = L[i].Tick := by simp [tickAt, h]
def canB (a : Alarm) : Bool := a.State == 2 && (decide (a.Now - tickAt a.Heard 2 ≤ 1000) && decide (a.Cancelled < a.Given))
def clearA (a : Alarm) (s c : Int) : Alarm := ⟨a.Now, s, [], a.Given, c⟩
theorem state2 {a : Alarm} (A : AlarmOk a) (h : a.State = 2) : 3 ≤ a.Heard.length := by
  have := A.st
  rw [h, stateB, if_neg (by decide), if_pos rfl] at this
  have := inB'_iff.1 this; omega
theorem copyOfHeard_ok (L : List Heard) (hl : L.length ≤ 16777216) : Ctr Try.prog 210 [Heard.sl L] [] (.osl 0 0 L.length 2) [some (rows Heard.cs L)] := by
  refine Ctr.intro Try.mixed Try.func210 rfl Try.okF210 ?_
  simp -implicitDefEqProofs -dsimp only [go_sem, Nat.reduceSub, Nat.reduceAdd, Nat.reduceMul, Nat.reduceLT, Nat.reduceLeDiff, Nat.reduceEqDiff, Nat.reduceDiv, Nat.reduceMod, Int.reduceToNat, Int.reduceLE, Int.reduceLT, Nat.le_refl, Int.toNat_natCast, beq_self_eq_true, bne_self_eq_false, Int.reduceBEq, Int.reduceBNe, Int.reduceNeg, Int.reduceAdd, Int.reduceSub, Int.reduceMul, decide_true, decide_false, eq_self, ne_eq, Option.some.injEq, reduceCtorEq, not_false_eq_true, Option.map_some, map_ren_rows, Try.ntmps210, Try.results210]
  repeat (with_reducible refine And.intro ?_ ?_; focus (first | omega | with_reducible rfl | (show drawOk _ = true; kernel_rfl) | (simp only [rows_length, rows_cell, List.length_append, List.length_cons, List.length_nil, List.all_append, List.all_cons, List.all_nil, isCell, Nat.mul_one, Nat.one_mul, Bool.and_self]; first | done | omega)))
  exact WeakR.refl _ _ _
theorem copiedAlarm_ok (a : Alarm) (hl : a.Heard.length ≤ 16777216) : Ctr Try.prog 124 [a.v] [] (a.o 0) [some (rows Heard.cs a.Heard)] := by
  refine Ctr.intro Try.mixed Try.func124 rfl Try.okF124 ?_
  simp -implicitDefEqProofs -dsimp only [go_sem, Nat.reduceSub, Nat.reduceAdd, Nat.reduceMul, Nat.reduceLT, Nat.reduceLeDiff, Nat.reduceEqDiff, Nat.reduceDiv, Nat.reduceMod, Int.reduceToNat, Int.reduceLE, Int.reduceLT, Nat.le_refl, Int.toNat_natCast, beq_self_eq_true, bne_self_eq_false, Int.reduceBEq, Int.reduceBNe, Int.reduceNeg, Int.reduceAdd, Int.reduceSub, Int.reduceMul, decide_true, decide_false, eq_self, ne_eq, Option.some.injEq, reduceCtorEq, not_false_eq_true, Option.map_some, map_ren_rows, Try.ntmps124, Try.results124]
  simp -implicitDefEqProofs -dsimp only [go_sem, Nat.reduceSub, Nat.reduceAdd, Nat.reduceMul, Nat.reduceLT, Nat.reduceLeDiff, Nat.reduceEqDiff, Nat.reduceDiv, Nat.reduceMod, Int.reduceToNat, Int.reduceLE, Int.reduceLT, Nat.le_refl, Int.toNat_natCast, beq_self_eq_true, bne_self_eq_false, Int.reduceBEq, Int.reduceBNe, Int.reduceNeg, Int.reduceAdd, Int.reduceSub, Int.reduceMul, decide_true, decide_false, eq_self, ne_eq, Option.some.injEq, reduceCtorEq, not_false_eq_true, Option.map_some, map_ren_rows, Alarm.v]
  repeat (with_reducible refine And.intro ?_ ?_; focus (first | omega | with_reducible rfl | (show drawOk _ = true; kernel_rfl) | (simp only [rows_length, rows_cell, List.length_append, List.length_cons, List.length_nil, List.all_append, List.all_cons, List.all_nil, isCell, Nat.mul_one, Nat.one_mul, Bool.and_self]; first | done | omega)))
  (first | refine callT.intro (copyOfHeard_ok a.Heard hl) ⟨(by first | exact le_snap rfl | exact .inl rfl | exact le_nil | exact le_snap' rfl (by simp) | exact LeV.aggR (by first | ((repeat' (first | exact True.intro | exact leE_snap rfl (by simp) (by simp) | exact LeE.nil | exact LeE.refl _ | refine And.intro ?_ ?_)); done) | fail)), trivial⟩ (by first | exact .inl rfl | exact .inr ⟨noRo_ok 3 rfl, by first | exact NoRoH.nil | exact noRoH_rows _ | exact NoRoH.of (by simp only [hpNoRo, List.all_cons, List.all_nil, rows_noRo, Bool.and_self])⟩) (by first | exact ⟨rfl, rfl⟩ | exact ⟨rfl, by simp [refOk, refV, refB, noOwn, rows_noOwn, rows_refV]⟩ | simp [refOk, refV, refB, noOwn, rows_noOwn, rows_refV]) ?_ | refine callS.intro (copyOfHeard_ok a.Heard hl) ⟨(by first | exact le_snap rfl | exact .inl rfl | exact le_nil | exact le_snap' rfl (by simp) | exact LeV.aggR (by first | ((repeat' (first | exact True.intro | exact leE_snap rfl (by simp) (by simp) | exact LeE.nil | exact LeE.refl _ | refine And.intro ?_ ?_)); done) | fail)), trivial⟩ (by first | exact .inl rfl | exact .inr ⟨noRo_ok 3 rfl, by first | exact NoRoH.nil | exact noRoH_rows _ | exact NoRoH.of (by simp only [hpNoRo, List.all_cons, List.all_nil, rows_noRo, Bool.and_self])⟩) ?_)
  simp -implicitDefEqProofs -dsimp only [go_sem, Nat.reduceSub, Nat.reduceAdd, Nat.reduceMul, Nat.reduceLT, Nat.reduceLeDiff, Nat.reduceEqDiff, Nat.reduceDiv, Nat.reduceMod, Int.reduceToNat, Int.reduceLE, Int.reduceLT, Nat.le_refl, Int.toNat_natCast, beq_self_eq_true, bne_self_eq_false, Int.reduceBEq, Int.reduceBNe, Int.reduceNeg, Int.reduceAdd, Int.reduceSub, Int.reduceMul, decide_true, decide_false, eq_self, ne_eq, Option.some.injEq, reduceCtorEq, not_false_eq_true, Option.map_some, map_ren_rows]
  repeat (with_reducible refine And.intro ?_ ?_; focus (first | omega | with_reducible rfl | (show drawOk _ = true; kernel_rfl) | (simp only [rows_length, rows_cell, List.length_append, List.length_cons, List.length_nil, List.all_append, List.all_cons, List.all_nil, isCell, Nat.mul_one, Nat.one_mul, Bool.and_self]; first | done | omega)))
  refine WeakR.pick [2] (by decide) (fun j hj => by omega) (.inl ?_) ?_
  · first | rfl | (simp [ren, pickF, posOf, Alarm.o]; done)
  · simp only [pickH, List.map_cons, List.map_nil, pickB, List.getElem?_cons_zero, List.getElem?_cons_succ, map_ren_rows]
theorem l21Can_ok (a : Alarm) (ha : alarmB a = true) : Ctr Try.prog 190 [a.v] [] (.bool (canB a)) [] := by
  have A := alarmB_ok ha
  refine Ctr.intro Try.mixed Try.func190 rfl Try.okF190 ?_
  simp -implicitDefEqProofs -dsimp only [go_sem, Nat.reduceSub, Nat.reduceAdd, Nat.reduceMul, Nat.reduceLT, Nat.reduceLeDiff, Nat.reduceEqDiff, Nat.reduceDiv, Nat.reduceMod, Int.reduceToNat, Int.reduceLE, Int.reduceLT, Nat.le_refl, Int.toNat_natCast, beq_self_eq_true, bne_self_eq_false, Int.reduceBEq, Int.reduceBNe, Int.reduceNeg, Int.reduceAdd, Int.reduceSub, Int.reduceMul, decide_true, decide_false, eq_self, ne_eq, Option.some.injEq, reduceCtorEq, not_false_eq_true, Option.map_some, map_ren_rows, Try.ntmps190, Try.results190]
  simp -implicitDefEqProofs -dsimp only [go_sem, Nat.reduceSub, Nat.reduceAdd, Nat.reduceMul, Nat.reduceLT, Nat.reduceLeDiff, Nat.reduceEqDiff, Nat.reduceDiv, Nat.reduceMod, Int.reduceToNat, Int.reduceLE, Int.reduceLT, Nat.le_refl, Int.toNat_natCast, beq_self_eq_true, bne_self_eq_false, Int.reduceBEq, Int.reduceBNe, Int.reduceNeg, Int.reduceAdd, Int.reduceSub, Int.reduceMul, decide_true, decide_false, eq_self, ne_eq, Option.some.injEq, reduceCtorEq, not_false_eq_true, Option.map_some, map_ren_rows, Alarm.v]
  refine ⟨by kernel_rfl, ?_⟩
  by_cases hs : a.State = 2
  · have h3 := state2 A hs
    have hr := rows_at Heard.csl (show 2 < a.Heard.length by omega)
    have hh := heardB_iff.1 (A.heard _ (List.getElem_mem (show 2 < a.Heard.length by omega)))
    have hn := A.now
    have hb : (a.State == 2) = true := by simp [hs]
    have hw2 : IntKind.i64.wrap (a.Now - a.Heard[2].Tick) = a.Now - a.Heard[2].Tick := wrap_i64 (by omega) (by omega)
    (repeat ((repeat1' (first | simp -implicitDefEqProofs -dsimp only [go_sem, Nat.reduceSub, Nat.reduceAdd, Nat.reduceMul, Nat.reduceLT, Nat.reduceLeDiff, Nat.reduceEqDiff, Nat.reduceDiv, Nat.reduceMod, Int.reduceToNat, Int.reduceLE, Int.reduceLT, Nat.le_refl, Int.toNat_natCast, beq_self_eq_true, bne_self_eq_false, Int.reduceBEq, Int.reduceBNe, Int.reduceNeg, Int.reduceAdd, Int.reduceSub, Int.reduceMul, decide_true, decide_false, eq_self, ne_eq, Option.some.injEq, reduceCtorEq, not_false_eq_true, Option.map_some, map_ren_rows, hb, hr, hw2, Heard.cs] | simp -implicitDefEqProofs -dsimp (disch := omega) only [wrap_i64])); repeat (with_reducible refine And.intro ?_ ?_; focus (first | omega | with_reducible rfl | (show drawOk _ = true; kernel_rfl) | (simp only [rows_length, rows_cell, List.length_append, List.length_cons, List.length_nil, List.all_append, List.all_cons, List.all_nil, isCell, Nat.mul_one, Nat.one_mul, Bool.and_self]; first | done | omega)))))
    refine guardT.splitT (fun g1 => ?_) (fun g1 => ?_) <;> simp -implicitDefEqProofs -dsimp only [go_sem, Nat.reduceSub, Nat.reduceAdd, Nat.reduceMul, Nat.reduceLT, Nat.reduceLeDiff, Nat.reduceEqDiff, Nat.reduceDiv, Nat.reduceMod, Int.reduceToNat, Int.reduceLE, Int.reduceLT, Nat.le_refl, Int.toNat_natCast, beq_self_eq_true, bne_self_eq_false, Int.reduceBEq, Int.reduceBNe, Int.reduceNeg, Int.reduceAdd, Int.reduceSub, Int.reduceMul, decide_true, decide_false, eq_self, ne_eq, Option.some.injEq, reduceCtorEq, not_false_eq_true, Option.map_some, map_ren_rows, g1]
    · refine WeakR.drop' ?_ (by rfl)
      rw [canB, tickAt_get (by omega), hb, g1]; rfl
    · refine WeakR.drop' ?_ (by rfl)
      rw [canB, tickAt_get (by omega), hb, g1]; rfl
  · have hb : (a.State == 2) = false := by simp [hs]
    (repeat ((repeat1' (first | simp -implicitDefEqProofs -dsimp only [go_sem, Nat.reduceSub, Nat.reduceAdd, Nat.reduceMul, Nat.reduceLT, Nat.reduceLeDiff, Nat.reduceEqDiff, Nat.reduceDiv, Nat.reduceMod, Int.reduceToNat, Int.reduceLE, Int.reduceLT, Nat.le_refl, Int.toNat_natCast, beq_self_eq_true, bne_self_eq_false, Int.reduceBEq, Int.reduceBNe, Int.reduceNeg, Int.reduceAdd, Int.reduceSub, Int.reduceMul, decide_true, decide_false, eq_self, ne_eq, Option.some.injEq, reduceCtorEq, not_false_eq_true, Option.map_some, map_ren_rows, hb] | simp -implicitDefEqProofs -dsimp (disch := omega) only [wrap_i64])); repeat (with_reducible refine And.intro ?_ ?_; focus (first | omega | with_reducible rfl | (show drawOk _ = true; kernel_rfl) | (simp only [rows_length, rows_cell, List.length_append, List.length_cons, List.length_nil, List.all_append, List.all_cons, List.all_nil, isCell, Nat.mul_one, Nat.one_mul, Bool.and_self]; first | done | omega)))))
    exact WeakR.drop' (by rw [canB, hb]; rfl) (by rfl)
theorem stepCancel_ok (a : Alarm) (ha : alarmB a = true) : Ctr Try.prog 107 [a.v, .agg [.int .i64 3, .int .i64 0]] [] (.tup [.agg [.int .i64 a.Now, .int .i64 0, .nilsl, .int .i64 a.Given, .int .i64 (a.Cancelled + 1)], .bool (canB a)]) [] := by
  have A := alarmB_ok ha
  have hlen := A.len
  have hc := A.canc
  have hg := A.given
  have hw : IntKind.i64.wrap (a.Cancelled + 1) = a.Cancelled + 1 := wrap_i64 (by omega) (by omega)
  refine Ctr.intro Try.mixed Try.func107 rfl Try.okF107 ?_
  simp -implicitDefEqProofs -dsimp only [go_sem, Nat.reduceSub, Nat.reduceAdd, Nat.reduceMul, Nat.reduceLT, Nat.reduceLeDiff, Nat.reduceEqDiff, Nat.reduceDiv, Nat.reduceMod, Int.reduceToNat, Int.reduceLE, Int.reduceLT, Nat.le_refl, Int.toNat_natCast, beq_self_eq_true, bne_self_eq_false, Int.reduceBEq, Int.reduceBNe, Int.reduceNeg, Int.reduceAdd, Int.reduceSub, Int.reduceMul, decide_true, decide_false, eq_self, ne_eq, Option.some.injEq, reduceCtorEq, not_false_eq_true, Option.map_some, map_ren_rows, Try.ntmps107, Try.results107]
  simp -implicitDefEqProofs -dsimp only [go_sem, Nat.reduceSub, Nat.reduceAdd, Nat.reduceMul, Nat.reduceLT, Nat.reduceLeDiff, Nat.reduceEqDiff, Nat.reduceDiv, Nat.reduceMod, Int.reduceToNat, Int.reduceLE, Int.reduceLT, Nat.le_refl, Int.toNat_natCast, beq_self_eq_true, bne_self_eq_false, Int.reduceBEq, Int.reduceBNe, Int.reduceNeg, Int.reduceAdd, Int.reduceSub, Int.reduceMul, decide_true, decide_false, eq_self, ne_eq, Option.some.injEq, reduceCtorEq, not_false_eq_true, Option.map_some, map_ren_rows, Alarm.v]
  (first | refine callT.intro (copiedAlarm_ok a (by omega)) ⟨(by first | exact le_snap rfl | exact .inl rfl | exact le_nil | exact le_snap' rfl (by simp) | exact LeV.aggR (by first | ((repeat' (first | exact True.intro | exact leE_snap rfl (by simp) (by simp) | exact LeE.nil | exact LeE.refl _ | refine And.intro ?_ ?_)); done) | fail)), trivial⟩ (by first | exact .inl rfl | exact .inr ⟨noRo_ok 3 rfl, by first | exact NoRoH.nil | exact noRoH_rows _ | exact NoRoH.of (by simp only [hpNoRo, List.all_cons, List.all_nil, rows_noRo, Bool.and_self])⟩) (by first | exact ⟨rfl, rfl⟩ | exact ⟨rfl, by simp [refOk, refV, refB, noOwn, rows_noOwn, rows_refV]⟩ | simp [refOk, refV, refB, noOwn, rows_noOwn, rows_refV]) ?_ | refine callS.intro (copiedAlarm_ok a (by omega)) ⟨(by first | exact le_snap rfl | exact .inl rfl | exact le_nil | exact le_snap' rfl (by simp) | exact LeV.aggR (by first | ((repeat' (first | exact True.intro | exact leE_snap rfl (by simp) (by simp) | exact LeE.nil | exact LeE.refl _ | refine And.intro ?_ ?_)); done) | fail)), trivial⟩ (by first | exact .inl rfl | exact .inr ⟨noRo_ok 3 rfl, by first | exact NoRoH.nil | exact noRoH_rows _ | exact NoRoH.of (by simp only [hpNoRo, List.all_cons, List.all_nil, rows_noRo, Bool.and_self])⟩) ?_)
  simp -implicitDefEqProofs -dsimp only [go_sem, Nat.reduceSub, Nat.reduceAdd, Nat.reduceMul, Nat.reduceLT, Nat.reduceLeDiff, Nat.reduceEqDiff, Nat.reduceDiv, Nat.reduceMod, Int.reduceToNat, Int.reduceLE, Int.reduceLT, Nat.le_refl, Int.toNat_natCast, beq_self_eq_true, bne_self_eq_false, Int.reduceBEq, Int.reduceBNe, Int.reduceNeg, Int.reduceAdd, Int.reduceSub, Int.reduceMul, decide_true, decide_false, eq_self, ne_eq, Option.some.injEq, reduceCtorEq, not_false_eq_true, Option.map_some, map_ren_rows, Alarm.o]
  refine ⟨by kernel_rfl, ?_⟩
  by_cases hs : a.State = 2
  · have h3 := state2 A hs
    have hr := rows_at Heard.csl (show 2 < a.Heard.length by omega)
    have hh := heardB_iff.1 (A.heard _ (List.getElem_mem (show 2 < a.Heard.length by omega)))
    have hn := A.now
    have hb : (a.State == 2) = true := by simp [hs]
    have hw2 : IntKind.i64.wrap (a.Now - a.Heard[2].Tick) = a.Now - a.Heard[2].Tick := wrap_i64 (by omega) (by omega)
    have hI := iIsAlarm_ok (clearA a 0 (a.Cancelled + 1)) (by simp [clearA])
    simp only [Alarm.v, clearA, rows, List.length_nil, List.flatMap_nil] at hI
    have hcl : alarmB ⟨a.Now, 0, [], a.Given, a.Cancelled + 1⟩ = decide (a.Cancelled < a.Given) := by
      rw [Bool.eq_iff_iff]
      simp [alarmB, acountB, stateB, listB, freshB, inB']
      omega
    rw [hcl] at hI
    (repeat ((repeat1' (first | simp -implicitDefEqProofs -dsimp only [go_sem, Nat.reduceSub, Nat.reduceAdd, Nat.reduceMul, Nat.reduceLT, Nat.reduceLeDiff, Nat.reduceEqDiff, Nat.reduceDiv, Nat.reduceMod, Int.reduceToNat, Int.reduceLE, Int.reduceLT, Nat.le_refl, Int.toNat_natCast, beq_self_eq_true, bne_self_eq_false, Int.reduceBEq, Int.reduceBNe, Int.reduceNeg, Int.reduceAdd, Int.reduceSub, Int.reduceMul, decide_true, decide_false, eq_self, ne_eq, Option.some.injEq, reduceCtorEq, not_false_eq_true, Option.map_some, map_ren_rows, hb, hr, hw, hw2, Heard.cs] | simp -implicitDefEqProofs -dsimp (disch := omega) only [wrap_i64])); repeat (with_reducible refine And.intro ?_ ?_; focus (first | omega | with_reducible rfl | (show drawOk _ = true; kernel_rfl) | (simp only [rows_length, rows_cell, List.length_append, List.length_cons, List.length_nil, List.all_append, List.all_cons, List.all_nil, isCell, Nat.mul_one, Nat.one_mul, Bool.and_self]; first | done | omega)))))
    refine guardT.splitT (fun g1 => ?_) (fun g1 => ?_) <;> simp -implicitDefEqProofs -dsimp only [go_sem, Nat.reduceSub, Nat.reduceAdd, Nat.reduceMul, Nat.reduceLT, Nat.reduceLeDiff, Nat.reduceEqDiff, Nat.reduceDiv, Nat.reduceMod, Int.reduceToNat, Int.reduceLE, Int.reduceLT, Nat.le_refl, Int.toNat_natCast, beq_self_eq_true, bne_self_eq_false, Int.reduceBEq, Int.reduceBNe, Int.reduceNeg, Int.reduceAdd, Int.reduceSub, Int.reduceMul, decide_true, decide_false, eq_self, ne_eq, Option.some.injEq, reduceCtorEq, not_false_eq_true, Option.map_some, map_ren_rows, g1]
    · (first | refine callT.intro (hI) ⟨(by first | exact le_snap rfl | exact .inl rfl | exact le_nil | exact le_snap' rfl (by simp) | exact LeV.aggR (by first | ((repeat' (first | exact True.intro | exact leE_snap rfl (by simp) (by simp) | exact LeE.nil | exact LeE.refl _ | refine And.intro ?_ ?_)); done) | fail)), trivial⟩ (by first | exact .inl rfl | exact .inr ⟨noRo_ok 3 rfl, by first | exact NoRoH.nil | exact noRoH_rows _ | exact NoRoH.of (by simp only [hpNoRo, List.all_cons, List.all_nil, rows_noRo, Bool.and_self])⟩) (by first | exact ⟨rfl, rfl⟩ | exact ⟨rfl, by simp [refOk, refV, refB, noOwn, rows_noOwn, rows_refV]⟩ | simp [refOk, refV, refB, noOwn, rows_noOwn, rows_refV]) ?_ | refine callS.intro (hI) ⟨(by first | exact le_snap rfl | exact .inl rfl | exact le_nil | exact le_snap' rfl (by simp) | exact LeV.aggR (by first | ((repeat' (first | exact True.intro | exact leE_snap rfl (by simp) (by simp) | exact LeE.nil | exact LeE.refl _ | refine And.intro ?_ ?_)); done) | fail)), trivial⟩ (by first | exact .inl rfl | exact .inr ⟨noRo_ok 3 rfl, by first | exact NoRoH.nil | exact noRoH_rows _ | exact NoRoH.of (by simp only [hpNoRo, List.all_cons, List.all_nil, rows_noRo, Bool.and_self])⟩) ?_)
      (repeat ((repeat1' (first | simp -implicitDefEqProofs -dsimp only [go_sem, Nat.reduceSub, Nat.reduceAdd, Nat.reduceMul, Nat.reduceLT, Nat.reduceLeDiff, Nat.reduceEqDiff, Nat.reduceDiv, Nat.reduceMod, Int.reduceToNat, Int.reduceLE, Int.reduceLT, Nat.le_refl, Int.toNat_natCast, beq_self_eq_true, bne_self_eq_false, Int.reduceBEq, Int.reduceBNe, Int.reduceNeg, Int.reduceAdd, Int.reduceSub, Int.reduceMul, decide_true, decide_false, eq_self, ne_eq, Option.some.injEq, reduceCtorEq, not_false_eq_true, Option.map_some, map_ren_rows] | simp -implicitDefEqProofs -dsimp (disch := omega) only [wrap_i64])); repeat (with_reducible refine And.intro ?_ ?_; focus (first | omega | with_reducible rfl | (show drawOk _ = true; kernel_rfl) | (simp only [rows_length, rows_cell, List.length_append, List.length_cons, List.length_nil, List.all_append, List.all_cons, List.all_nil, isCell, Nat.mul_one, Nat.one_mul, Bool.and_self]; first | done | omega)))))
      have : (decide (a.Cancelled < a.Given)) = canB a := by rw [canB, tickAt_get (by omega), hb, g1]; rfl
      rw [this]
      exact WeakR.drop' rfl (by rfl)
    · have : canB a = false := by rw [canB, tickAt_get (by omega), hb, g1]; rfl
      rw [this]
      exact WeakR.drop' rfl (by rfl)
  · have hb : (a.State == 2) = false := by simp [hs]
    (repeat ((repeat1' (first | simp -implicitDefEqProofs -dsimp only [go_sem, Nat.reduceSub, Nat.reduceAdd, Nat.reduceMul, Nat.reduceLT, Nat.reduceLeDiff, Nat.reduceEqDiff, Nat.reduceDiv, Nat.reduceMod, Int.reduceToNat, Int.reduceLE, Int.reduceLT, Nat.le_refl, Int.toNat_natCast, beq_self_eq_true, bne_self_eq_false, Int.reduceBEq, Int.reduceBNe, Int.reduceNeg, Int.reduceAdd, Int.reduceSub, Int.reduceMul, decide_true, decide_false, eq_self, ne_eq, Option.some.injEq, reduceCtorEq, not_false_eq_true, Option.map_some, map_ren_rows, hb, hw] | simp -implicitDefEqProofs -dsimp (disch := omega) only [wrap_i64])); repeat (with_reducible refine And.intro ?_ ?_; focus (first | omega | with_reducible rfl | (show drawOk _ = true; kernel_rfl) | (simp only [rows_length, rows_cell, List.length_append, List.length_cons, List.length_nil, List.all_append, List.all_cons, List.all_nil, isCell, Nat.mul_one, Nat.one_mul, Bool.and_self]; first | done | omega)))))
    have : canB a = false := by rw [canB, hb]; rfl
    rw [this]
    exact WeakR.drop' rfl (by rfl)
end Go.Proofs
