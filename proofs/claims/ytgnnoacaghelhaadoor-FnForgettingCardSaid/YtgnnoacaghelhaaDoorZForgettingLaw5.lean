/-
  A part of the proof: texts put together by a program of the prover. Conditions: none.
-/
import Derived.Test.YtgnnoacaghelhaaDoorZForgettingLaw4
import Derived.Lib.ItoaNum
import Derived.Lib.ItoaLen
set_option linter.unusedSimpArgs false
set_option linter.unusedVariables false
section
set_option maxRecDepth 100000
set_option maxHeartbeats 2000000
namespace Go.Proofs
open Go.Lv
theorem vBig_ok (L : List Int) : Ctr Tryd.prog 23 [ByteS.sl L] [] (.bool (decide (65536 < (L.length : Int)))) [] := by
 refine Ctr.intro Tryd.mixed Tryd.func23 rfl Tryd.okF23 ?_
 simp -implicitDefEqProofs -dsimp only [go_sem, Tryd.ntmps23, Tryd.results23]
 (repeat ((repeat1' (first | simp -implicitDefEqProofs -dsimp only [go_sem] | simp -dsimp (disch := omega) only [wrap_i64])); repeat (with_reducible refine sideA ?_)))
 exact WeakR.drop' rfl (by rfl)
def stationsA (a : Alarm) : List Int := a.Heard.map Heard.Station
theorem iHeardBy_ok (a : Alarm) (ha : alarmB a = true) : Ctr Tryd.prog 47 [a.v] [] (.tup [IntS.sl (insSort ltI (stationsA a)), .bool true]) [] := by
 have hl := (alarmB_ok ha).len
 refine Ctr.intro Tryd.mixed Tryd.func47 rfl Tryd.okF47 ?_
 simp -implicitDefEqProofs -dsimp only [go_sem, Tryd.ntmps47, Tryd.results47]
 (repeat ((repeat1' (first | simp -implicitDefEqProofs -dsimp only [go_sem, Alarm.v] | simp -dsimp (disch := omega) only [wrap_i64])); repeat (with_reducible refine sideA ?_)))
 (first | refine callT.at (iIsAlarm_ok a (by omega)) ⟨leA, trivial⟩ ?_ | refine callS.at (iIsAlarm_ok a (by omega)) ⟨leA, trivial⟩ ?_)
 (repeat ((repeat1' (first | simp -implicitDefEqProofs -dsimp only [go_sem, ha] | simp -dsimp (disch := omega) only [wrap_i64])); repeat (with_reducible refine sideA ?_)))
 refine LoopT.intro (fun i : Nat => i ≤ a.Heard.length) (fun i => ⟨[.undef, .undef, .undef, .undef, .osl 0 0 i 1, .undef, .undef, .undef, .undef, .undef, .undef, .undef, Heard.sl a.Heard, .int .i64 a.Heard.length, .int .i64 i, .undef, .undef, .undef, .undef, .undef, .undef, .undef, .undef, .undef, .undef, .undef, .undef], [some (rows IntS.cs ((stationsA a).take i))], 0⟩) (fun i => a.Heard.length - i) 0 (Nat.zero_le _) ?_ (fun i hi => ?_)
 · refine Weak.pick [1] (by decide) (fun j hj => by omega) ?_ ?_
   · simp [LeG, LeC, LeV, ren, pickF, posOf]
   · simp [pickH, pickB, rows_nil]
 simp -implicitDefEqProofs -dsimp only [go_sem]
 refine condT.split (fun h1 => ?_) (fun h1 => ?_)
 · have hi' : i < a.Heard.length := by simpa using h1
   have hr := rows_at Heard.csl hi'
   have his : i < (stationsA a).length := by simpa [stationsA] using hi'
   have hsn : rows IntS.cs ((stationsA a).take i) ++ [.int .i64 a.Heard[i].Station] = rows IntS.cs ((stationsA a).take (i + 1)) := by
     rw [List.take_succ_eq_append_getElem his]
     have e : (stationsA a)[i] = a.Heard[i].Station := by simp [stationsA]
     rw [e]
     exact rows_snoc (cs := IntS.cs) ((stationsA a).take i) a.Heard[i].Station
   have hrl : (rows IntS.cs ((stationsA a).take i)).length = i := by rw [rows_length, List.length_take]; omega
   (repeat ((repeat1' (first | simp -implicitDefEqProofs -dsimp only [go_sem, h1, hr, Heard.cs, hsn] | simp -dsimp (disch := omega) only [wrap_i64])); repeat (with_reducible refine sideA ?_)))
   refine ⟨i + 1, hi', ?_, by omega⟩
   refine Weak.cut (1) (by simp) (by simp) ?_ ?_
   · simp [LeC, LeV, ren, cutF]
   · simp [cutH, cutB, map_ren_rows]
 · have hi' : i = a.Heard.length := by simp at h1; omega
   subst hi'
   have hsl : (stationsA a).length = a.Heard.length := by simp [stationsA]
   have htk : (stationsA a).take a.Heard.length = stationsA a := by rw [← hsl, List.take_length]
   rw [htk]
   have hs := sortInt_ok (stationsA a) (by omega)
   rw [hsl] at hs
   (repeat ((repeat1' (first | simp -implicitDefEqProofs -dsimp only [go_sem, h1] | simp -dsimp (disch := omega) only [wrap_i64])); repeat (with_reducible refine sideA ?_)))
   refine callS.lend [0] false ( hs) (by decide) ⟨leO, trivial⟩ lendA ( grown_one (by simp [rows_length, insSort_len])) (.inl rfl) ?_
   (repeat ((repeat1' (first | simp -implicitDefEqProofs -dsimp only [go_sem, map_ren_rows] | simp -dsimp (disch := omega) only [wrap_i64])); repeat (with_reducible refine sideA ?_)))
   have hzl : (insSort ltI (stationsA a)).length = a.Heard.length := by rw [insSort_len, hsl]
   have hzt := take_rows (cs := IntS.cs) (w := 1) (insSort ltI (stationsA a))
   rw [Nat.mul_one, hzl] at hzt
   refine WeakR.pick [] (by decide) (fun j hj => by omega) (.inl ?_) rfl
   simp [ren, pickF, posOf, frzR, hzl, hzt, map_ren_rows]
end Go.Proofs
end
section
set_option maxRecDepth 100000
set_option maxHeartbeats 2000000
namespace Go.Proofs
open Go.Lv
def missR (a : Alarm) : List V := if alarmB a = true ∧ a.State ≠ 3 then [.int .i64 (if a.Heard.length ≤ 3 then 3 - (a.Heard.length : Int) else 0), .bool true] else [.int .i64 0, .bool false]
theorem iStationsMissing_ok (a : Alarm) (hl : a.Heard.length ≤ 16777216) : Ctr Tryd.prog 54 [a.v] [] (.tup (missR a)) [] := by
 refine Ctr.intro Tryd.mixed Tryd.func54 rfl Tryd.okF54 ?_
 simp -implicitDefEqProofs -dsimp only [go_sem, Nat.reduceSub, Nat.reduceAdd, Nat.reduceMul, Nat.reduceLT, Nat.reduceLeDiff, Nat.reduceEqDiff, Nat.reduceDiv, Nat.reduceMod, Int.reduceToNat, Int.reduceLE, Int.reduceLT, Int.reduceBEq, Int.reduceBNe, Int.reduceNeg, Int.reduceAdd, Int.reduceSub, Int.reduceMul, reduceCtorEq, Tryd.ntmps54, Tryd.results54]
 (repeat ((repeat1' (first | simp -implicitDefEqProofs -dsimp only [go_sem, Nat.reduceSub, Nat.reduceAdd, Nat.reduceMul, Nat.reduceLT, Nat.reduceLeDiff, Nat.reduceEqDiff, Nat.reduceDiv, Nat.reduceMod, Int.reduceToNat, Int.reduceLE, Int.reduceLT, Int.reduceBEq, Int.reduceBNe, Int.reduceNeg, Int.reduceAdd, Int.reduceSub, Int.reduceMul, reduceCtorEq, Alarm.v] | simp -dsimp (disch := omega) only [wrap_i64])); repeat (with_reducible refine sideA ?_)))
 (first | refine callT.at (iIsAlarm_ok a (by omega)) ⟨leA, trivial⟩ ?_ | refine callS.at (iIsAlarm_ok a (by omega)) ⟨leA, trivial⟩ ?_)
 cases ha : alarmB a with
 | false =>
   (repeat ((repeat1' (first | simp -implicitDefEqProofs -dsimp only [go_sem, Nat.reduceSub, Nat.reduceAdd, Nat.reduceMul, Nat.reduceLT, Nat.reduceLeDiff, Nat.reduceEqDiff, Nat.reduceDiv, Nat.reduceMod, Int.reduceToNat, Int.reduceLE, Int.reduceLT, Int.reduceBEq, Int.reduceBNe, Int.reduceNeg, Int.reduceAdd, Int.reduceSub, Int.reduceMul, reduceCtorEq] | simp -dsimp (disch := omega) only [wrap_i64])); repeat (with_reducible refine sideA ?_)))
   exact WeakR.drop' (by simp [missR, ha]) (by rfl)
 | true =>
   by_cases hs : a.State = 3
   · have h3 : (a.State == 3) = true := by simp [hs]
     (repeat ((repeat1' (first | simp -implicitDefEqProofs -dsimp only [go_sem, Nat.reduceSub, Nat.reduceAdd, Nat.reduceMul, Nat.reduceLT, Nat.reduceLeDiff, Nat.reduceEqDiff, Nat.reduceDiv, Nat.reduceMod, Int.reduceToNat, Int.reduceLE, Int.reduceLT, Int.reduceBEq, Int.reduceBNe, Int.reduceNeg, Int.reduceAdd, Int.reduceSub, Int.reduceMul, reduceCtorEq, h3] | simp -dsimp (disch := omega) only [wrap_i64])); repeat (with_reducible refine sideA ?_)))
     exact WeakR.drop' (by simp [missR, hs]) (by rfl)
   · have h3 : (a.State == 3) = false := by simp [hs]
     (repeat ((repeat1' (first | simp -implicitDefEqProofs -dsimp only [go_sem, Nat.reduceSub, Nat.reduceAdd, Nat.reduceMul, Nat.reduceLT, Nat.reduceLeDiff, Nat.reduceEqDiff, Nat.reduceDiv, Nat.reduceMod, Int.reduceToNat, Int.reduceLE, Int.reduceLT, Int.reduceBEq, Int.reduceBNe, Int.reduceNeg, Int.reduceAdd, Int.reduceSub, Int.reduceMul, reduceCtorEq, h3] | simp -dsimp (disch := omega) only [wrap_i64])); repeat (with_reducible refine sideA ?_)))
     refine WeakR.drop' ?_ (by rfl)
     simp [missR, ha, hs]
     split <;> omega
end Go.Proofs
end
section
set_option maxRecDepth 100000
set_option maxHeartbeats 1000000
namespace Go.Proofs
open Go.Lv
theorem mem_insA {α : Type} {lt : α → α → Bool} {y : α} {L : List α} : y ∈ insSort lt L ↔ y ∈ L := by
 have put : ∀ (S : List α) (x : α) (j : Nat), y ∈ putAt S x j ↔ y = x ∨ y ∈ S := by
   intro S x j
   have e : y ∈ S ↔ y ∈ S.take j ∨ y ∈ S.drop j := by rw [← List.mem_append, List.take_append_drop]
   rw [putAt, List.mem_append, List.mem_cons, e]
   constructor
   · rintro (h | h | h)
     · exact .inr (.inl h)
     · exact .inl h
     · exact .inr (.inr h)
   · rintro (h | h | h)
     · exact .inr (.inl h)
     · exact .inl h
     · exact .inr (.inr h)
 have key : ∀ (L S : List α), y ∈ L.foldl (ins lt) S ↔ y ∈ S ∨ y ∈ L := by
   intro L
   induction L with
   | nil => intro S; simp
   | cons a L ih =>
     intro S
     rw [List.foldl_cons, ih, ins, put, List.mem_cons]
     constructor
     · rintro ((h | h) | h)
       · exact .inr (.inl h)
       · exact .inl h
       · exact .inr (.inr h)
     · rintro (h | h | h)
       · exact .inl (.inr h)
       · exact .inl (.inl h)
       · exact .inr h
 have := key L []
 simpa [insSort] using this
theorem forget_facts {a b : Alarm} (hl : 0 < a.Heard.length) (hs : a.State = 1) (h : stepO a 1 (a.Heard[0].Tick + 501 - a.Now) = some b) : (stationsA b).length < (stationsA a).length ∧ ∀ y ∈ stationsA b, y ∈ stationsA a := by
 obtain ⟨ha, hb, hc⟩ := stepA_cases h
 have hw : b = waitA a (a.Heard[0].Tick + 501 - a.Now) := by
   have h4 := (stepO_ok h).2.2.2
   unfold stepA at h4
   rw [if_pos rfl] at h4
   exact (okA_some h4).2
 have hh : b.Heard = waitH (a.Heard[0].Tick + 501) a.Heard := by
   rw [hw, waitA, if_pos hs]
   show waitH _ _ = waitH _ _
   congr 1
   omega
 have hlt : b.Heard.length < a.Heard.length := by
   rw [hh, waitH]
   refine Nat.lt_of_le_of_ne (List.length_filter_le _ _) fun e => ?_
   have := (List.length_filter_eq_length_iff.1 e) _ (List.getElem_mem hl)
   have := of_decide_eq_true this
   omega
 refine ⟨by simpa [stationsA] using hlt, fun y hy => ?_⟩
 obtain ⟨q, hq, rfl⟩ := List.mem_map.1 hy
 rw [hh, waitH] at hq
 exact List.mem_map.2 ⟨q, (List.mem_filter.1 hq).1, rfl⟩
theorem cancel_facts {a : Alarm} (ha : alarmB a = true) : (stepO a 3 0).isSome = canB a ∧ ∀ b, stepO a 3 0 = some b → b.Cancelled = a.Cancelled + 1 := by
 have e : stepO a 3 0 = okA (canB a) (clearA a 0 (a.Cancelled + 1)) := by
   unfold stepO stepA
   rw [ha]
   rfl
 have A := alarmB_ok ha
 refine ⟨?_, fun b hb => ?_⟩
 · rw [e, okA]
   cases hc : canB a with
   | false => simp
   | true =>
     have hlt : a.Cancelled < a.Given := by
       simp [canB] at hc
       exact hc.2.2
     have hk : alarmB (clearA a 0 (a.Cancelled + 1)) = true := by
       have h1 := A.now
       have h2 := A.canc
       have h3 := A.given
       simp only [alarmB, Bool.and_eq_true]
       refine ⟨⟨⟨⟨acountB_iff.2 ⟨h1, ⟨by simp [clearA], by simp [clearA]⟩, ⟨by simp only [clearA]; omega, by simp only [clearA]; omega⟩, h3⟩, ?_⟩, ?_⟩, ?_⟩, ?_⟩
       · simp [clearA, stateB]
       · simp [clearA, listB]
       · simp [clearA]
       · simp [clearA, freshB]
     simp [hk]
 · rw [e] at hb
   rw [(okA_some hb).2]
   rfl
end Go.Proofs
end
section
set_option maxRecDepth 100000
set_option maxHeartbeats 2000000
namespace Go.Proofs
open Go.Lv
def tick0 (a : Alarm) : Int := match a.Heard with
 | [] => 0
 | h :: _ => h.Tick
def ticksB (a : Alarm) : Bool := alarmB a && (a.State == 1)
def ticksN (a : Alarm) : Int := if ticksB a = true then tick0 a + 501 - a.Now else 0
theorem ticks_len {a : Alarm} (ha : alarmB a = true) (hs : a.State = 1) : ∃ h0 : 0 < a.Heard.length, tick0 a = a.Heard[0].Tick ∧ 0 ≤ a.Heard[0].Tick ∧ a.Heard[0].Tick ≤ a.Now ∧ 0 ≤ a.Now ∧ a.Now ≤ 1000000 := by
 have A := alarmB_ok ha
 have hst := A.st
 have hn := A.now
 rw [hs, stateB, if_pos rfl] at hst
 have := inB'_iff.1 hst
 have h0 : 0 < a.Heard.length := by omega
 have hh := heardB_iff.1 (A.heard _ (List.getElem_mem h0))
 refine ⟨h0, ?_, hh.2.1, hh.2.2, hn.1, hn.2⟩
 obtain ⟨_, _, H, _, _⟩ := a
 cases H with
 | nil => simp at h0
 | cons x tl => rfl
theorem iTicks_ok (a : Alarm) (hl : a.Heard.length ≤ 16777216) : Ctr Tryd.prog 45 [a.v] [] (.tup [.int .i64 (ticksN a), .bool (ticksB a)]) [] := by
 refine Ctr.intro Tryd.mixed Tryd.func45 rfl Tryd.okF45 ?_
 simp -implicitDefEqProofs -dsimp only [go_sem, Tryd.ntmps45, Tryd.results45]
 (repeat ((repeat1' (first | simp -implicitDefEqProofs -dsimp only [go_sem, Alarm.v] | simp -dsimp (disch := omega) only [wrap_i64])); repeat (with_reducible refine sideA ?_)))
 (first | refine callT.at (iIsAlarm_ok a (by omega)) ⟨(by first | exact leA | exact le_snap' rfl (by omega)), trivial⟩ ?_ | refine callS.at (iIsAlarm_ok a (by omega)) ⟨(by first | exact leA | exact le_snap' rfl (by omega)), trivial⟩ ?_)
 cases ha : alarmB a with
 | false =>
   (repeat ((repeat1' (first | simp -implicitDefEqProofs -dsimp only [go_sem] | simp -dsimp (disch := omega) only [wrap_i64])); repeat (with_reducible refine sideA ?_)))
   exact WeakR.drop' (by simp [ticksN, ticksB, ha]) (by rfl)
 | true =>
   by_cases hs : a.State = 1
   · have h3 : (a.State != 1) = false := by simp [hs]
     obtain ⟨h0, e0, e1, e2, e3, e4⟩ := ticks_len ha hs
     have ht2 : List.take 2 (rows Heard.cs a.Heard) = [.int .i64 a.Heard[0].Station, .int .i64 a.Heard[0].Tick] := by
       have := rows_at (cs := Heard.cs) Heard.csl h0
       rwa [Nat.zero_mul, List.drop_zero, Heard.cs] at this
     (repeat ((repeat1' (first | simp -implicitDefEqProofs -dsimp only [go_sem, h3, ht2, List.drop_succ_cons, List.drop_zero, List.length_cons, List.length_nil] | simp -dsimp (disch := omega) only [wrap_i64])); repeat (with_reducible refine sideA ?_)))
     exact WeakR.drop' (by simp [ticksN, ticksB, ha, hs, e0]) (by rfl)
   · have h3 : (a.State != 1) = true := by simp [hs]
     (repeat ((repeat1' (first | simp -implicitDefEqProofs -dsimp only [go_sem, h3] | simp -dsimp (disch := omega) only [wrap_i64])); repeat (with_reducible refine sideA ?_)))
     exact WeakR.drop' (by simp [ticksN, ticksB, ha, hs]) (by rfl)
theorem sTicks_ok (a : Alarm) (hl : a.Heard.length ≤ 16777216) : Ctr Tryd.prog 46 [a.v] [] (.tup [.int .i64 (ticksN a), .bool (ticksB a)]) [] := by
 refine Ctr.intro Tryd.mixed Tryd.func46 rfl Tryd.okF46 ?_
 simp -implicitDefEqProofs -dsimp only [go_sem, Tryd.ntmps46, Tryd.results46]
 (repeat ((repeat1' (first | simp -implicitDefEqProofs -dsimp only [go_sem, Alarm.v] | simp -dsimp (disch := omega) only [wrap_i64])); repeat (with_reducible refine sideA ?_)))
 (first | refine callT.at (l21Good_ok a (by omega)) ⟨(by first | exact leA | exact le_snap' rfl (by omega)), trivial⟩ ?_ | refine callS.at (l21Good_ok a (by omega)) ⟨(by first | exact leA | exact le_snap' rfl (by omega)), trivial⟩ ?_)
 cases ha : alarmB a with
 | false =>
   (repeat ((repeat1' (first | simp -implicitDefEqProofs -dsimp only [go_sem] | simp -dsimp (disch := omega) only [wrap_i64])); repeat (with_reducible refine sideA ?_)))
   exact WeakR.drop' (by simp [ticksN, ticksB, ha]) (by rfl)
 | true =>
   by_cases hs : a.State = 1
   · have h3 : (a.State != 1) = false := by simp [hs]
     obtain ⟨h0, e0, e1, e2, e3, e4⟩ := ticks_len ha hs
     have ht2 : List.take 2 (rows Heard.cs a.Heard) = [.int .i64 a.Heard[0].Station, .int .i64 a.Heard[0].Tick] := by
       have := rows_at (cs := Heard.cs) Heard.csl h0
       rwa [Nat.zero_mul, List.drop_zero, Heard.cs] at this
     (repeat ((repeat1' (first | simp -implicitDefEqProofs -dsimp only [go_sem, h3, ht2, List.drop_succ_cons, List.drop_zero, List.length_cons, List.length_nil] | simp -dsimp (disch := omega) only [wrap_i64])); repeat (with_reducible refine sideA ?_)))
     exact WeakR.drop' (by simp [ticksN, ticksB, ha, hs, e0]) (by rfl)
   · have h3 : (a.State != 1) = true := by simp [hs]
     (repeat ((repeat1' (first | simp -implicitDefEqProofs -dsimp only [go_sem, h3] | simp -dsimp (disch := omega) only [wrap_i64])); repeat (with_reducible refine sideA ?_)))
     exact WeakR.drop' (by simp [ticksN, ticksB, ha, hs]) (by rfl)
theorem sStationsMissing_ok (a : Alarm) (hl : a.Heard.length ≤ 16777216) : Ctr Tryd.prog 55 [a.v] [] (.tup (missR a)) [] := by
 refine Ctr.intro Tryd.mixed Tryd.func55 rfl Tryd.okF55 ?_
 simp -implicitDefEqProofs -dsimp only [go_sem, Tryd.ntmps55, Tryd.results55]
 (repeat ((repeat1' (first | simp -implicitDefEqProofs -dsimp only [go_sem, Alarm.v] | simp -dsimp (disch := omega) only [wrap_i64])); repeat (with_reducible refine sideA ?_)))
 (first | refine callT.at (l21Good_ok a (by omega)) ⟨(by first | exact leA | exact le_snap' rfl (by omega)), trivial⟩ ?_ | refine callS.at (l21Good_ok a (by omega)) ⟨(by first | exact leA | exact le_snap' rfl (by omega)), trivial⟩ ?_)
 cases ha : alarmB a with
 | false =>
   (repeat ((repeat1' (first | simp -implicitDefEqProofs -dsimp only [go_sem] | simp -dsimp (disch := omega) only [wrap_i64])); repeat (with_reducible refine sideA ?_)))
   exact WeakR.drop' (by simp [missR, ha]) (by rfl)
 | true =>
   by_cases hs : a.State = 3
   · have h3 : (a.State == 3) = true := by simp [hs]
     (repeat ((repeat1' (first | simp -implicitDefEqProofs -dsimp only [go_sem, h3] | simp -dsimp (disch := omega) only [wrap_i64])); repeat (with_reducible refine sideA ?_)))
     exact WeakR.drop' (by simp [missR, hs]) (by rfl)
   · have h3 : (a.State == 3) = false := by simp [hs]
     (repeat ((repeat1' (first | simp -implicitDefEqProofs -dsimp only [go_sem, h3] | simp -dsimp (disch := omega) only [wrap_i64])); repeat (with_reducible refine sideA ?_)))
     (first | refine callT.at (l1Most_ok _ _) ⟨(by first | exact leA | exact le_snap' rfl (by omega)), (by first | exact leA | exact le_snap' rfl (by omega)), trivial⟩ ?_ | refine callS.at (l1Most_ok _ _) ⟨(by first | exact leA | exact le_snap' rfl (by omega)), (by first | exact leA | exact le_snap' rfl (by omega)), trivial⟩ ?_)
     (repeat ((repeat1' (first | simp -implicitDefEqProofs -dsimp only [go_sem] | simp -dsimp (disch := omega) only [wrap_i64])); repeat (with_reducible refine sideA ?_)))
     refine WeakR.drop' ?_ (by rfl)
     simp [missR, ha, hs]
     split <;> omega
def hbL (a : Alarm) : List Int := if alarmB a = true then insSort ltI (stationsA a) else []
theorem iHeardByF (a : Alarm) (hl : a.Heard.length ≤ 16777216) : Ctr Tryd.prog 47 [a.v] [] (.tup [IntS.sl (hbL a), .bool (alarmB a)]) [] := by
 cases ha : alarmB a with
 | true =>
   have e : hbL a = insSort ltI (stationsA a) := by simp [hbL, ha]
   rw [e]
   exact iHeardBy_ok a ha
 | false =>
   have e : hbL a = [] := by simp [hbL, ha]
   rw [e]
   refine Ctr.weak (r := .tup [.nilsl, .bool false]) (hout := []) ?_ (frzTA (.inr (.inr (.inl ⟨rfl, 1, rfl⟩))))
   refine Ctr.intro Tryd.mixed Tryd.func47 rfl Tryd.okF47 ?_
   simp -implicitDefEqProofs -dsimp only [go_sem, Tryd.ntmps47, Tryd.results47]
   (repeat ((repeat1' (first | simp -implicitDefEqProofs -dsimp only [go_sem, Alarm.v] | simp -dsimp (disch := omega) only [wrap_i64])); repeat (with_reducible refine sideA ?_)))
   (first | refine callT.at (iIsAlarm_ok a (by omega)) ⟨(by first | exact leA | exact le_snap' rfl (by omega)), trivial⟩ ?_ | refine callS.at (iIsAlarm_ok a (by omega)) ⟨(by first | exact leA | exact le_snap' rfl (by omega)), trivial⟩ ?_)
   (repeat ((repeat1' (first | simp -implicitDefEqProofs -dsimp only [go_sem, ha] | simp -dsimp (disch := omega) only [wrap_i64])); repeat (with_reducible refine sideA ?_)))
   exact WeakR.drop' rfl (by rfl)
theorem put_front {S : List Int} {n : Int} (hs : S.Pairwise (· < ·)) (hn : n ∉ S) {k : Nat} (hk : k ≤ S.length) (h1 : ∀ j (hj : j < S.length), j < k → S[j] < n) (h2 : ∀ h : k < S.length, n < S[k]) : ins ltI S n = S.take k ++ n :: S.drop k := by
 have key : ∀ j, k ≤ j → j ≤ S.length → posK ltI S n j = k := by
   intro j
   induction j with
   | zero =>
     intro h _
     have : k = 0 := by omega
     rw [this, posK]
   | succ j ih =>
     intro h hj
     have hjl : j < S.length := by omega
     rcases Nat.lt_or_ge j k with hlt | hge
     · have e : k = j + 1 := by omega
       have := h1 j hjl hlt
       rw [posK_stay hjl (by simp [ltI]; omega), e]
     · have hkl : k < S.length := by omega
       have hk2 := h2 hkl
       have hle : S[k] ≤ S[j] := by
         rcases Nat.lt_or_ge k j with hh | hh
         · have := (List.pairwise_iff_getElem.1 hs) k j hkl hjl hh
           omega
         · have : k = j := by omega
           subst this
           omega
       rw [posK_down hjl (by simp [ltI]; omega)]
       exact ih hge (by omega)
 rw [ins, key S.length hk (Nat.le_refl _), putAt]
theorem ins_sorted {S : List Int} {n : Int} (hs : S.Pairwise (· < ·)) (hn : n ∉ S) : (ins ltI S n).Pairwise (· < ·) := by
 obtain ⟨k, hk, h1, h2⟩ : ∃ k, k ≤ S.length ∧ (∀ j (hj : j < S.length), j < k → S[j] < n) ∧ (∀ h : k < S.length, n < S[k]) := by
   have key : ∀ m, m ≤ S.length → (∀ j (hj : j < S.length), j < m → S[j] < n) ∨ ∃ k, k ≤ m ∧ (∀ j (hj : j < S.length), j < k → S[j] < n) ∧ (∀ h : k < S.length, n < S[k]) := by
     intro m
     induction m with
     | zero => intro _; exact .inl fun j hj h => by omega
     | succ m ih =>
       intro hm
       rcases ih (by omega) with h | ⟨k, hk, h1, h2⟩
       · have hml : m < S.length := by omega
         rcases Int.lt_trichotomy S[m] n with h3 | h3 | h3
         · refine .inl fun j hj hjm => ?_
           rcases Nat.lt_or_ge j m with h4 | h4
           · exact h j hj h4
           · have : j = m := by omega
             subst this
             exact h3
         · exact absurd (h3 ▸ List.getElem_mem hml) hn
         · exact .inr ⟨m, by omega, h, fun _ => h3⟩
       · exact .inr ⟨k, by omega, h1, h2⟩
   rcases key S.length (Nat.le_refl _) with h | ⟨k, hk, h1, h2⟩
   · exact ⟨S.length, Nat.le_refl _, h, fun hh => by omega⟩
   · exact ⟨k, hk, h1, h2⟩
 rw [put_front hs hn hk h1 h2]
 rw [List.pairwise_append]
 have hd := hs.sublist (List.drop_sublist k S)
 refine ⟨hs.sublist (List.take_sublist k S), List.pairwise_cons.2 ⟨fun y hy => ?_, hd⟩, fun x hx y hy => ?_⟩
 · obtain ⟨j, hj, rfl⟩ := List.getElem_of_mem hy
   rw [List.getElem_drop]
   rw [List.length_drop] at hj
   have h3 := h2 (by omega)
   rcases Nat.eq_zero_or_pos j with h | h
   · subst h; exact h3
   · have := (List.pairwise_iff_getElem.1 hs) k (k + j) (by omega) (by omega) (by omega)
     omega
 · obtain ⟨i, hi, rfl⟩ := List.getElem_of_mem hx
   rw [List.length_take] at hi
   rw [List.getElem_take]
   have h3 := h1 i (by omega) (by omega)
   rcases List.mem_cons.1 hy with e | e
   · rw [e]; exact h3
   · obtain ⟨j, hj, rfl⟩ := List.getElem_of_mem e
     rw [List.getElem_drop]
     rw [List.length_drop] at hj
     exact (List.pairwise_iff_getElem.1 hs) i (k + j) (by omega) (by omega) (by omega)
theorem insS_sorted {L : List Int} (h : L.Nodup) : (insSort ltI L).Pairwise (· < ·) := by
 have key : ∀ i, i ≤ L.length → (insSort ltI (L.take i)).Pairwise (· < ·) := by
   intro i
   induction i with
   | zero => intro _; simp [insSort]
   | succ i ih =>
     intro hi
     rw [insSort_take hi]
     refine ins_sorted (ih (by omega)) fun hm => ?_
     have hm' := mem_insA.1 hm
     obtain ⟨j, hj, e⟩ := List.getElem_of_mem hm'
     rw [List.getElem_take] at e
     rw [List.length_take] at hj
     have := (List.pairwise_iff_getElem.1 h) j i (by omega) hi (by omega)
     exact this e
 have := key L.length (Nat.le_refl _)
 rwa [List.take_length] at this
theorem l1Put_ok (S : List Int) (n : Int) (hs : S.Pairwise (· < ·)) (hn : n ∉ S) (hl : S.length ≤ 1048576) : Ctr Tryd.prog 115 [IntS.sl S, .int .i64 n] [] (.osl 0 0 (S.length + 1) 1) [some (rows IntS.cs (ins ltI S n))] := by
 refine Ctr.intro Tryd.mixed Tryd.func115 rfl Tryd.okF115 ?_
 simp -implicitDefEqProofs -dsimp only [go_sem, Tryd.ntmps115, Tryd.results115]
 refine LoopT.intro (fun i : Nat => i ≤ S.length ∧ ∀ j (hj : j < S.length), j < i → S[j] < n) (fun i => ⟨[IntS.sl S, .int .i64 n, .undef, .undef, .undef, .int .i64 i, .undef, .undef, .undef, .undef, .undef, .undef, .undef, .undef, .undef, .undef, .undef, .undef, .undef, .undef, .undef, .undef, .undef, .undef, .undef, .undef, .undef, .undef, .undef, .undef, .undef, .undef, .undef, .undef, .undef, .undef, .undef, .undef, .undef, .undef, .undef, .undef, .undef, .undef, .undef], [], 0⟩) (fun i => S.length - i) 0 ⟨Nat.zero_le _, fun j hj h => by omega⟩ ?_ (fun i hi => ?_)
 · refine Weak.cut (0) (by simp) (by simp) ?_ ?_
   · simp [LeC, LeV, ren, cutF]
   · rfl
 obtain ⟨hi, hlt⟩ := hi
 have hlr := rows_len (w := 1) IntS.csl S
 simp -implicitDefEqProofs -dsimp only [go_sem]
 have fin : (∀ h : i < S.length, n < S[i]) → rows IntS.cs (S.take i) ++ [V.int .i64 n] ++ rows IntS.cs (S.drop i) = rows IntS.cs (ins ltI S n) := by
   intro h2
   have hm : rows IntS.cs [n] = [V.int .i64 n] := rfl
   rw [put_front hs hn hi hlt h2, rowsOf_append, rows_cons, ← hm, List.append_assoc]
   rfl
 refine guardT.split (fun h1 => ?_) (fun h1 => ?_)
 · have hi' : i < S.length := by simpa using h1
   have hr := rows_at IntS.csl hi'
   have hne : ((S[i] : Int) == n) = false := by
     have : S[i] ≠ n := fun e => hn (e ▸ List.getElem_mem hi')
     simpa using this
   (repeat ((repeat1' (first | simp -implicitDefEqProofs -dsimp only [go_sem, h1, hr, IntS.cs] | simp -dsimp (disch := omega) only [wrap_i64])); repeat (with_reducible refine sideA ?_)))
   refine condT.split (fun h2 => ?_) (fun h2 => ?_)
   · have h2' := of_decide_eq_true h2
     (repeat ((repeat1' (first | simp -implicitDefEqProofs -dsimp only [go_sem, h2] | simp -dsimp (disch := omega) only [wrap_i64])); repeat (with_reducible refine sideA ?_)))
     refine ⟨i + 1, ⟨hi', fun j hj hjk => ?_⟩, ?_, by omega⟩
     · rcases Nat.lt_or_ge j i with h | h
       · exact hlt j hj h
       · have : j = i := by omega
         subst this
         exact h2'
     · refine Weak.cut (0) (by simp) (by simp) ?_ ?_
       · simp [LeC, LeV, ren, cutF]
       · rfl
   · have h2' := of_decide_eq_false h2
     have hnq : n ≠ S[i] := fun e => hn (e ▸ List.getElem_mem hi')
     (repeat ((repeat1' (first | simp -implicitDefEqProofs -dsimp only [go_sem, h1, h2, hr, IntS.cs, hne] | simp -dsimp (disch := omega) only [wrap_i64])); repeat (with_reducible refine sideA ?_)))
     have hf := fin fun _ => by omega
     have ht := rows_take IntS.csl S i
     have hd := rows_drop IntS.csl S i
     refine chT.intro [false, true, true, true, false, true, true, false, true, true, true, false, false] [true, true, true, true, true, true, true, true, true, true, true, true, false] [some ⟨none, 33, 26, []⟩, none, none, none, some ⟨some 0, 37, 26, [36]⟩, none, none, some ⟨some 4, 40, 26, [36, 39]⟩, none, none, none, some ⟨some 7, 44, 26, [36, 39, 43]⟩, none] [⟨11, 44, 26, [36, 39, 43]⟩] (by kernel_rfl) (by rfl) ?_
     have hlen : i + 1 + (S.length - i) = S.length + 1 := by omega
     (repeat ((repeat1' (first | simp -implicitDefEqProofs -dsimp only [go_sem, ht, hd, Nat.sub_zero] | simp -dsimp (disch := omega) only [wrap_i64])); repeat (with_reducible refine sideA ?_)))
     refine ⟨⟨by omega, by omega, by rw [hf]; exact rows_noOwn _ _⟩, ?_⟩
     rw [hlen, hf]
     refine WeakR.pick [1] (by decide) (fun j hj => by omega) (.inl rfl) ?_
     simp [pickH, pickB, map_ren_rows]
 · have hi' : i = S.length := by simp at h1; omega
   (repeat ((repeat1' (first | simp -implicitDefEqProofs -dsimp only [go_sem, h1] | simp -dsimp (disch := omega) only [wrap_i64])); repeat (with_reducible refine sideA ?_)))
   have hf := fin fun h => by omega
   have ht := rows_take IntS.csl S i
   have hd := rows_drop IntS.csl S i
   refine chT.intro [false, true, true, true, false, true, true, false, true, true, true, false, false] [true, true, true, true, true, true, true, true, true, true, true, true, false] [some ⟨none, 33, 26, []⟩, none, none, none, some ⟨some 0, 37, 26, [36]⟩, none, none, some ⟨some 4, 40, 26, [36, 39]⟩, none, none, none, some ⟨some 7, 44, 26, [36, 39, 43]⟩, none] [⟨11, 44, 26, [36, 39, 43]⟩] (by kernel_rfl) (by rfl) ?_
   have hlen : i + 1 + (S.length - i) = S.length + 1 := by omega
   (repeat ((repeat1' (first | simp -implicitDefEqProofs -dsimp only [go_sem, ht, hd, Nat.sub_zero] | simp -dsimp (disch := omega) only [wrap_i64])); repeat (with_reducible refine sideA ?_)))
   refine ⟨⟨by omega, by omega, by rw [hf]; exact rows_noOwn _ _⟩, ?_⟩
   rw [hlen, hf]
   refine WeakR.pick [1] (by decide) (fun j hj => by omega) (.inl rfl) ?_
   simp [pickH, pickB, map_ren_rows]
theorem sHeardByF (a : Alarm) (hl : a.Heard.length ≤ 16777216) : Ctr Tryd.prog 56 [a.v] [] (.tup [IntS.sl (hbL a), .bool (alarmB a)]) [] := by
 cases ha : alarmB a with
 | false =>
   have e : hbL a = [] := by simp [hbL, ha]
   rw [e]
   refine Ctr.intro Tryd.mixed Tryd.func56 rfl Tryd.okF56 ?_
   simp -implicitDefEqProofs -dsimp only [go_sem, Tryd.ntmps56, Tryd.results56]
   (repeat ((repeat1' (first | simp -implicitDefEqProofs -dsimp only [go_sem, Alarm.v] | simp -dsimp (disch := omega) only [wrap_i64])); repeat (with_reducible refine sideA ?_)))
   (first | refine callT.at (l21Good_ok a (by omega)) ⟨(by first | exact leA | exact le_snap' rfl (by omega)), trivial⟩ ?_ | refine callS.at (l21Good_ok a (by omega)) ⟨(by first | exact leA | exact le_snap' rfl (by omega)), trivial⟩ ?_)
   (repeat ((repeat1' (first | simp -implicitDefEqProofs -dsimp only [go_sem, ha] | simp -dsimp (disch := omega) only [wrap_i64])); repeat (with_reducible refine sideA ?_)))
   refine WeakR.pick [] (by decide) (fun j hj => by omega) (.inl ?_) rfl
   simp [ren, pickF, posOf, frzR, rows_nil]
 | true =>
   have e : hbL a = insSort ltI (stationsA a) := by simp [hbL, ha]
   have A := alarmB_ok ha
   have hlen := A.len
   have hnd : (stationsA a).Nodup := A.nodup
   rw [e]
   refine Ctr.intro Tryd.mixed Tryd.func56 rfl Tryd.okF56 ?_
   simp -implicitDefEqProofs -dsimp only [go_sem, Tryd.ntmps56, Tryd.results56]
   (repeat ((repeat1' (first | simp -implicitDefEqProofs -dsimp only [go_sem, Alarm.v] | simp -dsimp (disch := omega) only [wrap_i64])); repeat (with_reducible refine sideA ?_)))
   (first | refine callT.at (l21Good_ok a (by omega)) ⟨(by first | exact leA | exact le_snap' rfl (by omega)), trivial⟩ ?_ | refine callS.at (l21Good_ok a (by omega)) ⟨(by first | exact leA | exact le_snap' rfl (by omega)), trivial⟩ ?_)
   (repeat ((repeat1' (first | simp -implicitDefEqProofs -dsimp only [go_sem, ha] | simp -dsimp (disch := omega) only [wrap_i64])); repeat (with_reducible refine sideA ?_)))
   have hsl : (stationsA a).length = a.Heard.length := by simp [stationsA]
   refine LoopT.intro (fun i : Nat => i ≤ a.Heard.length) (fun i => ⟨[.undef, .ptr 0 0, .undef, .undef, .osl 1 0 i 1, .int .i64 i, .undef, .undef, .undef, .undef, .undef, .undef, .undef, .undef, .undef, .undef, .undef, .undef, .undef, .undef, .undef, .undef, .undef, .undef, .undef, .undef, .undef], [some a.cs, some (rows IntS.cs (insSort ltI ((stationsA a).take i)))], 0⟩) (fun i => a.Heard.length - i) 0 (Nat.zero_le _) ?_ (fun i hi => ?_)
   · refine Weak.cut (2) (by simp) (by simp) ?_ ?_
     · simp [LeC, LeV, ren, cutF]
     · simp [cutH, cutB, ren, map_ren_rows, Alarm.cs, insSort, rows_nil]
   simp -implicitDefEqProofs -dsimp only [go_sem, Alarm.cs]
   refine condT.split (fun h1 => ?_) (fun h1 => ?_)
   · have hi' : i < a.Heard.length := by simpa using h1
     have hr := rows_at Heard.csl hi'
     have his : i < (stationsA a).length := by omega
     have est : (stationsA a)[i] = a.Heard[i].Station := by simp [stationsA]
     have hsq := insS_sorted (hnd.sublist (List.take_sublist i (stationsA a)))
     have hnm : a.Heard[i].Station ∉ insSort ltI ((stationsA a).take i) := by
       intro hm
       have hm' := mem_insA.1 hm
       obtain ⟨j, hj, e⟩ := List.getElem_of_mem hm'
       rw [List.getElem_take] at e
       rw [List.length_take] at hj
       have := (List.pairwise_iff_getElem.1 hnd) j i (by omega) his (by omega)
       rw [est] at this
       exact this e
     have hgl : (insSort ltI ((stationsA a).take i)).length = i := by rw [insSort_len, List.length_take]; omega
     have hput := l1Put_ok _ _ hsq hnm (by omega)
     have htk := take_rows (cs := IntS.cs) (w := 1) (insSort ltI ((stationsA a).take i))
     rw [Nat.mul_one, hgl] at htk
     have e1 : (insSort ltI ((stationsA a).take i)).length + 1 = i + 1 := by omega
     rw [e1] at hput
     (repeat ((repeat1' (first | simp -implicitDefEqProofs -dsimp only [go_sem, h1, hr, Heard.cs, Alarm.cs, htk] | simp -dsimp (disch := omega) only [wrap_i64])); repeat (with_reducible refine sideA ?_)))
     (first | refine callT.at (hput) ⟨(by first | exact leA | exact le_snap' rfl (by omega)), (by first | exact leA | exact le_snap' rfl (by omega)), trivial⟩ ?_ | refine callS.at (hput) ⟨(by first | exact leA | exact le_snap' rfl (by omega)), (by first | exact leA | exact le_snap' rfl (by omega)), trivial⟩ ?_)
     (repeat ((repeat1' (first | simp -implicitDefEqProofs -dsimp only [go_sem] | simp -dsimp (disch := omega) only [wrap_i64])); repeat (with_reducible refine sideA ?_)))
     refine ⟨i + 1, hi', ?_, by omega⟩
     have hins : ins ltI (insSort ltI ((stationsA a).take i)) a.Heard[i].Station = insSort ltI ((stationsA a).take (i + 1)) := by rw [insSort_take his, est]
     refine Weak.pick [0, 2] (by decide) (fun j hj => by cases j <;> simp_all) ?_ ?_
     · simp [LeG, LeC, LeV, ren, pickF, posOf]
     · simp [pickH, pickB, pickF, posOf, ren, map_ren_rows, hins, Alarm.cs]
   · have hi' : i = a.Heard.length := by simp at h1; omega
     subst hi'
     have htl : (stationsA a).take a.Heard.length = stationsA a := by rw [← hsl, List.take_length]
     have hgl : (insSort ltI (stationsA a)).length = a.Heard.length := by rw [insSort_len, hsl]
     have htk := take_rows (cs := IntS.cs) (w := 1) (insSort ltI (stationsA a))
     rw [Nat.mul_one, hgl] at htk
     rw [htl]
     (repeat ((repeat1' (first | simp -implicitDefEqProofs -dsimp only [go_sem, h1] | simp -dsimp (disch := omega) only [wrap_i64])); repeat (with_reducible refine sideA ?_)))
     refine WeakR.pick [] (by decide) (fun j hj => by omega) (.inl ?_) rfl
     simp [ren, pickF, posOf, frzR, hgl, htk, map_ren_rows]
end Go.Proofs
end
section
namespace Go.Lv

def num (n : Int) : ByteArray := ⟨(Lib.itoa n).toArray⟩
theorem num_size {n : Int} (h : i64R n) : (num n).size ≤ 21 := by
 have := Lib.itoa_length_le n h.1 h.2
 simpa [num, ByteArray.size] using this
theorem num_size' {n : Int} (h0 : -9223372036854775808 ≤ n) (h1 : n ≤ 9223372036854775807) : (num n).size ≤ 21 := num_size ⟨h0, h1⟩
theorem ba_size (l : Array UInt8) : (ByteArray.mk l).size = l.size := rfl
theorem ba_add (x y : Array UInt8) : (ByteArray.mk x ++ ByteArray.mk y) = ByteArray.mk (x ++ y) := by
 apply ByteArray.ext
 simp
def digits : ByteArray := ⟨#[48, 49, 50, 51, 52, 53, 54, 55, 56, 57]⟩
theorem digit_at (d : Nat) (h : d < 10) : digits.extract d (d + 1) = ⟨#[UInt8.ofNat (48 + d)]⟩ := by
 apply ByteArray.ext
 rw [ByteArray.data_extract]
 match d, h with
 | 0, _ => decide
 | 1, _ => decide
 | 2, _ => decide
 | 3, _ => decide
 | 4, _ => decide
 | 5, _ => decide
 | 6, _ => decide
 | 7, _ => decide
 | 8, _ => decide
 | 9, _ => decide
theorem itoa_nat (u : Nat) : Lib.itoa (u : Int) = Lib.decDigits u := by unfold Lib.itoa; rw [if_neg (by omega)]; simp
theorem num_neg {u : Nat} (h : 1 ≤ u) : num (-(u : Int)) = ⟨#[45]⟩ ++ num u := by
 have e : Lib.itoa (-(u : Int)) = 45 :: Lib.decDigits u := by unfold Lib.itoa; rw [if_pos (by omega)]; simp
 unfold num
 rw [e, itoa_nat, ba_add]
 simp
theorem num_one {u : Nat} (h : u < 10) : num u = digits.extract u (u + 1) := by
 rw [digit_at u h]
 unfold num
 rw [itoa_nat, Lib.decDigits, dif_pos h]
theorem num_more {u : Nat} (h : ¬ u < 10) : num u = num ((u / 10 : Nat) : Int) ++ digits.extract (u % 10) (u % 10 + 1) := by
 rw [digit_at (u % 10) (by omega)]
 unfold num
 rw [itoa_nat, itoa_nat, Lib.decDigits, dif_neg h, ba_add]
 simp

end Go.Lv
end
