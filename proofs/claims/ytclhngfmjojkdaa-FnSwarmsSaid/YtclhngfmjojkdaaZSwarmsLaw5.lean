/-
  A part of the proof: texts put together by a program of the prover. Conditions: none.
-/
import Derived.Test.YtclhngfmjojkdaaZSwarmsLaw4
set_option linter.unusedSimpArgs false
set_option linter.unusedVariables false
section
set_option maxRecDepth 100000
set_option maxHeartbeats 10000000
namespace Go.Proofs
open Go.Lv
def pairC (p : Int × Int) : List V := [.int .i64 p.1, .int .i64 p.2]
def outC : Nat → Nat → List V
 | _, 0 => []
 | k, n + 1 => .osl k 0 2 1 :: outC (k + 1) n
def tabH (P : List (Int × Int)) : Hp := some (outC 1 P.length) :: P.map fun p => some (pairC p)
def tabC (p : Int × Int) : List V := [.sl 2 1 (pairC p)]
def tabV (P : List (Int × Int)) : V := .sl P.length 1 (rows tabC P)
def swB (lim : Int) (L : List WeekRow) : Bool := wrsB L && inB' lim 0 9999
def swR (lim : Int) (L : List WeekRow) : List (Int × Int) := if swB lim L = true then swarms lim L else []
theorem frzT1 {a a' : V} {l : List V} (h : LeV a a') : WeakR 0 (.tup (a :: l)) [] (.tup (a' :: l)) [] := by
 intro w0 m0 h0 av0 W m val e1 e2 hlt hle H hx hi
 refine ⟨m, H, ?_, hi⟩
 change RV W m [] _ true val (.tup (a :: l)) at hx
 cases hx with
 | tup a vs ha hra =>
   refine .tup _ _ ha (fun i hi => ?_)
   match i, hi with
   | 0, hi => exact (hra 0 (by simp)).le h
   | i + 1, hi => exact hra (i + 1) (by simpa using hi)

theorem iSwarmsF (L : List WeekRow) (lim : Int) (hl : L.length ≤ 1048576) : Ctr Try.prog 8 [WeekRow.sl L, .int .i64 lim] [] (.tup [tabV (swR lim L), .bool (swB lim L)]) [] := by
 cases hb : swB lim L with
 | false =>
   have e : swR lim L = [] := by simp [swR, hb]
   rw [e]
   refine Ctr.weak (r := .tup [.nilsl, .bool false]) (hout := []) ?_ (frzT1 (.inr (.inr (.inl ⟨rfl, 1, rfl⟩))))
   refine Ctr.intro Try.mixed Try.func8 rfl Try.okF8 ?_
   simp -implicitDefEqProofs -dsimp only [go_sem, Nat.reduceSub, Nat.reduceAdd, Nat.reduceMul, Nat.reduceLT, Nat.reduceLeDiff, Nat.reduceEqDiff, Nat.reduceDiv, Nat.reduceMod, Int.reduceToNat, Int.reduceLE, Int.reduceLT, Int.reduceBEq, Int.reduceBNe, Int.reduceNeg, Int.reduceAdd, Int.reduceSub, Int.reduceMul, reduceCtorEq, Try.ntmps8, Try.results8]
   (repeat ((repeat1' (first | simp -implicitDefEqProofs -dsimp only [go_sem, Nat.reduceSub, Nat.reduceAdd, Nat.reduceMul, Nat.reduceLT, Nat.reduceLeDiff, Nat.reduceEqDiff, Nat.reduceDiv, Nat.reduceMod, Int.reduceToNat, Int.reduceLE, Int.reduceLT, Int.reduceBEq, Int.reduceBNe, Int.reduceNeg, Int.reduceAdd, Int.reduceSub, Int.reduceMul, reduceCtorEq] | simp -dsimp (disch := omega) only [wrap_i64])); repeat (with_reducible refine sideA ?_)))
   (first | refine callT.at (iAreWeekRows_ok L (by omega)) ⟨leA, trivial⟩ ?_ | refine callS.at (iAreWeekRows_ok L (by omega)) ⟨leA, trivial⟩ ?_)
   (repeat ((repeat1' (first | simp -implicitDefEqProofs -dsimp only [go_sem, Nat.reduceSub, Nat.reduceAdd, Nat.reduceMul, Nat.reduceLT, Nat.reduceLeDiff, Nat.reduceEqDiff, Nat.reduceDiv, Nat.reduceMod, Int.reduceToNat, Int.reduceLE, Int.reduceLT, Int.reduceBEq, Int.reduceBNe, Int.reduceNeg, Int.reduceAdd, Int.reduceSub, Int.reduceMul, reduceCtorEq] | simp -dsimp (disch := omega) only [wrap_i64])); repeat (with_reducible refine sideA ?_)))
   cases hw : wrsB L with
   | false =>
     (repeat ((repeat1' (first | simp -implicitDefEqProofs -dsimp only [go_sem, Nat.reduceSub, Nat.reduceAdd, Nat.reduceMul, Nat.reduceLT, Nat.reduceLeDiff, Nat.reduceEqDiff, Nat.reduceDiv, Nat.reduceMod, Int.reduceToNat, Int.reduceLE, Int.reduceLT, Int.reduceBEq, Int.reduceBNe, Int.reduceNeg, Int.reduceAdd, Int.reduceSub, Int.reduceMul, reduceCtorEq, hw] | simp -dsimp (disch := omega) only [wrap_i64])); repeat (with_reducible refine sideA ?_)))
     exact WeakR.drop' rfl (by rfl)
   | true =>
     have hi : inB' lim 0 9999 = false := by rw [swB, hw, Bool.true_and] at hb; exact hb
     (repeat ((repeat1' (first | simp -implicitDefEqProofs -dsimp only [go_sem, Nat.reduceSub, Nat.reduceAdd, Nat.reduceMul, Nat.reduceLT, Nat.reduceLeDiff, Nat.reduceEqDiff, Nat.reduceDiv, Nat.reduceMod, Int.reduceToNat, Int.reduceLE, Int.reduceLT, Int.reduceBEq, Int.reduceBNe, Int.reduceNeg, Int.reduceAdd, Int.reduceSub, Int.reduceMul, reduceCtorEq, hw] | simp -dsimp (disch := omega) only [wrap_i64])); repeat (with_reducible refine sideA ?_)))
     (first | refine callT.at (in_ok lim 0 9999) ⟨leA, leA, leA, trivial⟩ ?_ | refine callS.at (in_ok lim 0 9999) ⟨leA, leA, leA, trivial⟩ ?_)
     (repeat ((repeat1' (first | simp -implicitDefEqProofs -dsimp only [go_sem, Nat.reduceSub, Nat.reduceAdd, Nat.reduceMul, Nat.reduceLT, Nat.reduceLeDiff, Nat.reduceEqDiff, Nat.reduceDiv, Nat.reduceMod, Int.reduceToNat, Int.reduceLE, Int.reduceLT, Int.reduceBEq, Int.reduceBNe, Int.reduceNeg, Int.reduceAdd, Int.reduceSub, Int.reduceMul, reduceCtorEq, hi] | simp -dsimp (disch := omega) only [wrap_i64])); repeat (with_reducible refine sideA ?_)))
     exact WeakR.drop' rfl (by rfl)
 | true =>
   have hw : wrsB L = true := by simp [swB] at hb; exact hb.1
   have hin : inB' lim 0 9999 = true := by simp [swB] at hb; exact hb.2
   have e : swR lim L = swarms lim L := by simp [swR, hb]
   obtain ⟨hv, hlen⟩ := wrsB_all hw
   rw [e]
   refine Ctr.intro Try.mixed Try.func8 rfl Try.okF8 ?_
   simp -implicitDefEqProofs -dsimp only [go_sem, Nat.reduceSub, Nat.reduceAdd, Nat.reduceMul, Nat.reduceLT, Nat.reduceLeDiff, Nat.reduceEqDiff, Nat.reduceDiv, Nat.reduceMod, Int.reduceToNat, Int.reduceLE, Int.reduceLT, Int.reduceBEq, Int.reduceBNe, Int.reduceNeg, Int.reduceAdd, Int.reduceSub, Int.reduceMul, reduceCtorEq, Try.ntmps8, Try.results8]
   (repeat ((repeat1' (first | simp -implicitDefEqProofs -dsimp only [go_sem, Nat.reduceSub, Nat.reduceAdd, Nat.reduceMul, Nat.reduceLT, Nat.reduceLeDiff, Nat.reduceEqDiff, Nat.reduceDiv, Nat.reduceMod, Int.reduceToNat, Int.reduceLE, Int.reduceLT, Int.reduceBEq, Int.reduceBNe, Int.reduceNeg, Int.reduceAdd, Int.reduceSub, Int.reduceMul, reduceCtorEq] | simp -dsimp (disch := omega) only [wrap_i64])); repeat (with_reducible refine sideA ?_)))
   (first | refine callT.at (iAreWeekRows_ok L (by omega)) ⟨leA, trivial⟩ ?_ | refine callS.at (iAreWeekRows_ok L (by omega)) ⟨leA, trivial⟩ ?_)
   (repeat ((repeat1' (first | simp -implicitDefEqProofs -dsimp only [go_sem, Nat.reduceSub, Nat.reduceAdd, Nat.reduceMul, Nat.reduceLT, Nat.reduceLeDiff, Nat.reduceEqDiff, Nat.reduceDiv, Nat.reduceMod, Int.reduceToNat, Int.reduceLE, Int.reduceLT, Int.reduceBEq, Int.reduceBNe, Int.reduceNeg, Int.reduceAdd, Int.reduceSub, Int.reduceMul, reduceCtorEq, hw] | simp -dsimp (disch := omega) only [wrap_i64])); repeat (with_reducible refine sideA ?_)))
   (first | refine callT.at (in_ok lim 0 9999) ⟨leA, leA, leA, trivial⟩ ?_ | refine callS.at (in_ok lim 0 9999) ⟨leA, leA, leA, trivial⟩ ?_)
   (repeat ((repeat1' (first | simp -implicitDefEqProofs -dsimp only [go_sem, Nat.reduceSub, Nat.reduceAdd, Nat.reduceMul, Nat.reduceLT, Nat.reduceLeDiff, Nat.reduceEqDiff, Nat.reduceDiv, Nat.reduceMod, Int.reduceToNat, Int.reduceLE, Int.reduceLT, Int.reduceBEq, Int.reduceBNe, Int.reduceNeg, Int.reduceAdd, Int.reduceSub, Int.reduceMul, reduceCtorEq, hin] | simp -dsimp (disch := omega) only [wrap_i64])); repeat (with_reducible refine sideA ?_)))
   refine LoopT.intro (fun i : Nat => i ≤ L.length) (fun i => ⟨[.undef, .int .i64 lim, .undef, .undef, .undef, .undef, .osl 0 0 (swarms lim (L.take i)).length 1, .undef, .undef, .undef, .undef, .undef, .undef, .undef, .undef, .undef, .undef, .undef, .undef, WeekRow.sl L, .int .i64 L.length, .int .i64 i, .undef, .undef, .undef, .undef, .undef, .undef, .undef, .undef, .undef, .undef, .undef, .undef, .undef, .undef, .undef, .undef, .undef, .undef, .undef, .undef, .undef, .undef, .undef, .undef, .undef, .undef, .undef, .undef, .undef, .undef, .undef, .undef, .undef, .undef, .undef, .undef, .undef, .undef, .undef, .undef, .undef], tabH (swarms lim (L.take i)), 0⟩) (fun i => L.length - i) 0 (Nat.zero_le _) ?_ (fun i hi => ?_)
   · refine Weak.cut (1) (by simp) (by simp) ?_ ?_
     · simp [LeC, LeV, ren, cutF, swarms]
     · simp [cutH, cutB, swarms, tabH, outC]
   have hPl := swarms_len lim L i hi
   have hstep := fun hi' => swarms_succ (lim := lim) (L := L) (i := i) hi'
   simp -implicitDefEqProofs -dsimp only [go_sem, Nat.reduceSub, Nat.reduceAdd, Nat.reduceMul, Nat.reduceLT, Nat.reduceLeDiff, Nat.reduceEqDiff, Nat.reduceDiv, Nat.reduceMod, Int.reduceToNat, Int.reduceLE, Int.reduceLT, Int.reduceBEq, Int.reduceBNe, Int.reduceNeg, Int.reduceAdd, Int.reduceSub, Int.reduceMul, reduceCtorEq]
   refine condT.split (fun g1 => ?_) (fun g1 => ?_)
   · have hi' : i < L.length := by simpa using g1
     have hr0 := rows_at WeekRow.csl hi'
     have hvr := wrB_iff.1 (hv _ (List.getElem_mem hi'))
     replace hstep := hstep hi'
     generalize swarms lim (L.take i) = Pq at hPl hstep ⊢
     generalize L[i] = r at hr0 hvr hstep
     rcases Pq with _ | ⟨p1, _ | ⟨p2, _ | ⟨p3, _ | ⟨p4, _ | ⟨p5, _ | ⟨p6, _ | ⟨p7, _ | ⟨p8, _ | ⟨p9, _ | ⟨p10, _ | ⟨p11, _ | ⟨p12, _ | ⟨p13, Q⟩⟩⟩⟩⟩⟩⟩⟩⟩⟩⟩⟩⟩
     · have hsk : r.Events ≤ lim → swS lim [] r = [] := fun h => by simp [swS, h]
       have hnw : ¬ r.Events ≤ lim → swS lim [] r = [(r.Week, r.Week)] := fun h => by simp [swS, h]
       have hz : decide ((0 : Int) ≤ ((0 : Nat) : Int) - 1) = false := by decide
       simp only [tabH, outC, pairC, List.length_cons, List.length_nil, List.map_cons, List.map_nil, Nat.reduceAdd, Nat.zero_add]
       (repeat ((repeat1' (first | simp -implicitDefEqProofs -dsimp only [go_sem, Nat.reduceSub, Nat.reduceAdd, Nat.reduceMul, Nat.reduceLT, Nat.reduceLeDiff, Nat.reduceEqDiff, Nat.reduceDiv, Nat.reduceMod, Int.reduceToNat, Int.reduceLE, Int.reduceLT, Int.reduceBEq, Int.reduceBNe, Int.reduceNeg, Int.reduceAdd, Int.reduceSub, Int.reduceMul, reduceCtorEq, g1, hr0, WeekRow.cs, List.drop_succ_cons, List.drop_zero] | simp -dsimp (disch := omega) only [wrap_i64])); repeat (with_reducible refine sideA ?_)))
       refine condT.split (fun g2 => ?_) (fun g2 => ?_)
       · (repeat ((repeat1' (first | simp -implicitDefEqProofs -dsimp only [go_sem, Nat.reduceSub, Nat.reduceAdd, Nat.reduceMul, Nat.reduceLT, Nat.reduceLeDiff, Nat.reduceEqDiff, Nat.reduceDiv, Nat.reduceMod, Int.reduceToNat, Int.reduceLE, Int.reduceLT, Int.reduceBEq, Int.reduceBNe, Int.reduceNeg, Int.reduceAdd, Int.reduceSub, Int.reduceMul, reduceCtorEq, g2] | simp -dsimp (disch := omega) only [wrap_i64])); repeat (with_reducible refine sideA ?_)))
         refine ⟨i + 1, hi', ?_, by omega⟩
         rw [hstep, hsk (of_decide_eq_true g2)]
         simp only [tabH, outC, pairC, List.length_cons, List.length_nil, List.map_cons, List.map_nil, Nat.reduceAdd, Nat.zero_add]
         refine Weak.pick [0] (by decide) (fun j hj => by omega) ?_ ?_
         · simp [LeG, LeC, LeV, ren, pickF, posOf]
         · simp [pickH, pickB, pickF, posOf, ren]
       · (repeat ((repeat1' (first | simp -implicitDefEqProofs -dsimp only [go_sem, Nat.reduceSub, Nat.reduceAdd, Nat.reduceMul, Nat.reduceLT, Nat.reduceLeDiff, Nat.reduceEqDiff, Nat.reduceDiv, Nat.reduceMod, Int.reduceToNat, Int.reduceLE, Int.reduceLT, Int.reduceBEq, Int.reduceBNe, Int.reduceNeg, Int.reduceAdd, Int.reduceSub, Int.reduceMul, reduceCtorEq, g2, hz] | simp -dsimp (disch := omega) only [wrap_i64])); repeat (with_reducible refine sideA ?_)))
         refine ⟨i + 1, hi', ?_, by omega⟩
         rw [hstep, hnw (of_decide_eq_false g2)]
         simp only [tabH, outC, pairC, List.length_cons, List.length_nil, List.map_cons, List.map_nil, Nat.reduceAdd, Nat.zero_add]
         refine Weak.pick [0, 2] (by decide) (fun j hj => by omega) ?_ ?_
         · simp [LeG, LeC, LeV, ren, pickF, posOf]
         · simp [pickH, pickB, pickF, posOf, ren]
     · have hsk : r.Events ≤ lim → swS lim [p1] r = [p1] := fun h => by simp [swS, h]
       have hme : ¬ r.Events ≤ lim → p1.2 = r.Week - 1 → swS lim [p1] r = [(p1.1, r.Week)] := fun h h2 => by simp [swS, h, h2]
       have hnw : ¬ r.Events ≤ lim → p1.2 ≠ r.Week - 1 → swS lim [p1] r = [p1, (r.Week, r.Week)] := fun h h2 => by simp [swS, h, h2]
       have hk : IntKind.i64.wrap (((1 : Nat) : Int) - 1) = 0 := by rw [wrap_i64 (by omega) (by omega)]; rfl
       have hz : decide ((0 : Int) < ((1 : Nat) : Int)) = true := by decide
       simp only [tabH, outC, pairC, List.length_cons, List.length_nil, List.map_cons, List.map_nil, Nat.reduceAdd, Nat.zero_add]
       (repeat ((repeat1' (first | simp -implicitDefEqProofs -dsimp only [go_sem, Nat.reduceSub, Nat.reduceAdd, Nat.reduceMul, Nat.reduceLT, Nat.reduceLeDiff, Nat.reduceEqDiff, Nat.reduceDiv, Nat.reduceMod, Int.reduceToNat, Int.reduceLE, Int.reduceLT, Int.reduceBEq, Int.reduceBNe, Int.reduceNeg, Int.reduceAdd, Int.reduceSub, Int.reduceMul, reduceCtorEq, g1, hr0, WeekRow.cs, List.drop_succ_cons, List.drop_zero] | simp -dsimp (disch := omega) only [wrap_i64])); repeat (with_reducible refine sideA ?_)))
       refine condT.split (fun g2 => ?_) (fun g2 => ?_)
       · (repeat ((repeat1' (first | simp -implicitDefEqProofs -dsimp only [go_sem, Nat.reduceSub, Nat.reduceAdd, Nat.reduceMul, Nat.reduceLT, Nat.reduceLeDiff, Nat.reduceEqDiff, Nat.reduceDiv, Nat.reduceMod, Int.reduceToNat, Int.reduceLE, Int.reduceLT, Int.reduceBEq, Int.reduceBNe, Int.reduceNeg, Int.reduceAdd, Int.reduceSub, Int.reduceMul, reduceCtorEq, g2] | simp -dsimp (disch := omega) only [wrap_i64])); repeat (with_reducible refine sideA ?_)))
         refine ⟨i + 1, hi', ?_, by omega⟩
         rw [hstep, hsk (of_decide_eq_true g2)]
         simp only [tabH, outC, pairC, List.length_cons, List.length_nil, List.map_cons, List.map_nil, Nat.reduceAdd, Nat.zero_add]
         refine Weak.pick [0, 1] (by decide) (fun j hj => by omega) ?_ ?_
         · simp [LeG, LeC, LeV, ren, pickF, posOf]
         · simp [pickH, pickB, pickF, posOf, ren]
       · (repeat ((repeat1' (first | simp -implicitDefEqProofs -dsimp only [go_sem, Nat.reduceSub, Nat.reduceAdd, Nat.reduceMul, Nat.reduceLT, Nat.reduceLeDiff, Nat.reduceEqDiff, Nat.reduceDiv, Nat.reduceMod, Int.reduceToNat, Int.reduceLE, Int.reduceLT, Int.reduceBEq, Int.reduceBNe, Int.reduceNeg, Int.reduceAdd, Int.reduceSub, Int.reduceMul, reduceCtorEq, g2, hk, hz] | simp -dsimp (disch := omega) only [wrap_i64])); repeat (with_reducible refine sideA ?_)))
         refine condT.split (fun g3 => ?_) (fun g3 => ?_)
         · have g3' : p1.2 = r.Week - 1 := by simpa using g3
           (repeat ((repeat1' (first | simp -implicitDefEqProofs -dsimp only [go_sem, Nat.reduceSub, Nat.reduceAdd, Nat.reduceMul, Nat.reduceLT, Nat.reduceLeDiff, Nat.reduceEqDiff, Nat.reduceDiv, Nat.reduceMod, Int.reduceToNat, Int.reduceLE, Int.reduceLT, Int.reduceBEq, Int.reduceBNe, Int.reduceNeg, Int.reduceAdd, Int.reduceSub, Int.reduceMul, reduceCtorEq, g3, hk] | simp -dsimp (disch := omega) only [wrap_i64])); repeat (with_reducible refine sideA ?_)))
           refine ⟨i + 1, hi', ?_, by omega⟩
           rw [hstep, hme (of_decide_eq_false g2) g3']
           simp only [tabH, outC, pairC, List.length_cons, List.length_nil, List.map_cons, List.map_nil, Nat.reduceAdd, Nat.zero_add]
           refine Weak.pick [0, 1] (by decide) (fun j hj => by omega) ?_ ?_
           · simp [LeG, LeC, LeV, ren, pickF, posOf]
           · simp [pickH, pickB, pickF, posOf, ren]
         · have g3' : p1.2 ≠ r.Week - 1 := by simpa using g3
           (repeat ((repeat1' (first | simp -implicitDefEqProofs -dsimp only [go_sem, Nat.reduceSub, Nat.reduceAdd, Nat.reduceMul, Nat.reduceLT, Nat.reduceLeDiff, Nat.reduceEqDiff, Nat.reduceDiv, Nat.reduceMod, Int.reduceToNat, Int.reduceLE, Int.reduceLT, Int.reduceBEq, Int.reduceBNe, Int.reduceNeg, Int.reduceAdd, Int.reduceSub, Int.reduceMul, reduceCtorEq, g3, hk] | simp -dsimp (disch := omega) only [wrap_i64])); repeat (with_reducible refine sideA ?_)))
           refine ⟨i + 1, hi', ?_, by omega⟩
           rw [hstep, hnw (of_decide_eq_false g2) g3']
           simp only [tabH, outC, pairC, List.length_cons, List.length_nil, List.map_cons, List.map_nil, Nat.reduceAdd, Nat.zero_add]
           refine Weak.pick [0, 1, 3] (by decide) (fun j hj => by omega) ?_ ?_
           · simp [LeG, LeC, LeV, ren, pickF, posOf]
           · simp [pickH, pickB, pickF, posOf, ren]
     · have hsk : r.Events ≤ lim → swS lim [p1, p2] r = [p1, p2] := fun h => by simp [swS, h]
       have hme : ¬ r.Events ≤ lim → p2.2 = r.Week - 1 → swS lim [p1, p2] r = [p1, (p2.1, r.Week)] := fun h h2 => by simp [swS, h, h2]
       have hnw : ¬ r.Events ≤ lim → p2.2 ≠ r.Week - 1 → swS lim [p1, p2] r = [p1, p2, (r.Week, r.Week)] := fun h h2 => by simp [swS, h, h2]
       have hk : IntKind.i64.wrap (((2 : Nat) : Int) - 1) = 1 := by rw [wrap_i64 (by omega) (by omega)]; rfl
       have hz : decide ((0 : Int) < ((2 : Nat) : Int)) = true := by decide
       simp only [tabH, outC, pairC, List.length_cons, List.length_nil, List.map_cons, List.map_nil, Nat.reduceAdd, Nat.zero_add]
       (repeat ((repeat1' (first | simp -implicitDefEqProofs -dsimp only [go_sem, Nat.reduceSub, Nat.reduceAdd, Nat.reduceMul, Nat.reduceLT, Nat.reduceLeDiff, Nat.reduceEqDiff, Nat.reduceDiv, Nat.reduceMod, Int.reduceToNat, Int.reduceLE, Int.reduceLT, Int.reduceBEq, Int.reduceBNe, Int.reduceNeg, Int.reduceAdd, Int.reduceSub, Int.reduceMul, reduceCtorEq, g1, hr0, WeekRow.cs, List.drop_succ_cons, List.drop_zero] | simp -dsimp (disch := omega) only [wrap_i64])); repeat (with_reducible refine sideA ?_)))
       refine condT.split (fun g2 => ?_) (fun g2 => ?_)
       · (repeat ((repeat1' (first | simp -implicitDefEqProofs -dsimp only [go_sem, Nat.reduceSub, Nat.reduceAdd, Nat.reduceMul, Nat.reduceLT, Nat.reduceLeDiff, Nat.reduceEqDiff, Nat.reduceDiv, Nat.reduceMod, Int.reduceToNat, Int.reduceLE, Int.reduceLT, Int.reduceBEq, Int.reduceBNe, Int.reduceNeg, Int.reduceAdd, Int.reduceSub, Int.reduceMul, reduceCtorEq, g2] | simp -dsimp (disch := omega) only [wrap_i64])); repeat (with_reducible refine sideA ?_)))
         refine ⟨i + 1, hi', ?_, by omega⟩
         rw [hstep, hsk (of_decide_eq_true g2)]
         simp only [tabH, outC, pairC, List.length_cons, List.length_nil, List.map_cons, List.map_nil, Nat.reduceAdd, Nat.zero_add]
         refine Weak.pick [0, 1, 2] (by decide) (fun j hj => by omega) ?_ ?_
         · simp [LeG, LeC, LeV, ren, pickF, posOf]
         · simp [pickH, pickB, pickF, posOf, ren]
       · (repeat ((repeat1' (first | simp -implicitDefEqProofs -dsimp only [go_sem, Nat.reduceSub, Nat.reduceAdd, Nat.reduceMul, Nat.reduceLT, Nat.reduceLeDiff, Nat.reduceEqDiff, Nat.reduceDiv, Nat.reduceMod, Int.reduceToNat, Int.reduceLE, Int.reduceLT, Int.reduceBEq, Int.reduceBNe, Int.reduceNeg, Int.reduceAdd, Int.reduceSub, Int.reduceMul, reduceCtorEq, g2, hk, hz] | simp -dsimp (disch := omega) only [wrap_i64])); repeat (with_reducible refine sideA ?_)))
         refine condT.split (fun g3 => ?_) (fun g3 => ?_)
         · have g3' : p2.2 = r.Week - 1 := by simpa using g3
           (repeat ((repeat1' (first | simp -implicitDefEqProofs -dsimp only [go_sem, Nat.reduceSub, Nat.reduceAdd, Nat.reduceMul, Nat.reduceLT, Nat.reduceLeDiff, Nat.reduceEqDiff, Nat.reduceDiv, Nat.reduceMod, Int.reduceToNat, Int.reduceLE, Int.reduceLT, Int.reduceBEq, Int.reduceBNe, Int.reduceNeg, Int.reduceAdd, Int.reduceSub, Int.reduceMul, reduceCtorEq, g3, hk] | simp -dsimp (disch := omega) only [wrap_i64])); repeat (with_reducible refine sideA ?_)))
           refine ⟨i + 1, hi', ?_, by omega⟩
           rw [hstep, hme (of_decide_eq_false g2) g3']
           simp only [tabH, outC, pairC, List.length_cons, List.length_nil, List.map_cons, List.map_nil, Nat.reduceAdd, Nat.zero_add]
           refine Weak.pick [0, 1, 2] (by decide) (fun j hj => by omega) ?_ ?_
           · simp [LeG, LeC, LeV, ren, pickF, posOf]
           · simp [pickH, pickB, pickF, posOf, ren]
         · have g3' : p2.2 ≠ r.Week - 1 := by simpa using g3
           (repeat ((repeat1' (first | simp -implicitDefEqProofs -dsimp only [go_sem, Nat.reduceSub, Nat.reduceAdd, Nat.reduceMul, Nat.reduceLT, Nat.reduceLeDiff, Nat.reduceEqDiff, Nat.reduceDiv, Nat.reduceMod, Int.reduceToNat, Int.reduceLE, Int.reduceLT, Int.reduceBEq, Int.reduceBNe, Int.reduceNeg, Int.reduceAdd, Int.reduceSub, Int.reduceMul, reduceCtorEq, g3, hk] | simp -dsimp (disch := omega) only [wrap_i64])); repeat (with_reducible refine sideA ?_)))
           refine ⟨i + 1, hi', ?_, by omega⟩
           rw [hstep, hnw (of_decide_eq_false g2) g3']
           simp only [tabH, outC, pairC, List.length_cons, List.length_nil, List.map_cons, List.map_nil, Nat.reduceAdd, Nat.zero_add]
           refine Weak.pick [0, 1, 2, 4] (by decide) (fun j hj => by omega) ?_ ?_
           · simp [LeG, LeC, LeV, ren, pickF, posOf]
           · simp [pickH, pickB, pickF, posOf, ren]
     · have hsk : r.Events ≤ lim → swS lim [p1, p2, p3] r = [p1, p2, p3] := fun h => by simp [swS, h]
       have hme : ¬ r.Events ≤ lim → p3.2 = r.Week - 1 → swS lim [p1, p2, p3] r = [p1, p2, (p3.1, r.Week)] := fun h h2 => by simp [swS, h, h2]
       have hnw : ¬ r.Events ≤ lim → p3.2 ≠ r.Week - 1 → swS lim [p1, p2, p3] r = [p1, p2, p3, (r.Week, r.Week)] := fun h h2 => by simp [swS, h, h2]
       have hk : IntKind.i64.wrap (((3 : Nat) : Int) - 1) = 2 := by rw [wrap_i64 (by omega) (by omega)]; rfl
       have hz : decide ((0 : Int) < ((3 : Nat) : Int)) = true := by decide
       simp only [tabH, outC, pairC, List.length_cons, List.length_nil, List.map_cons, List.map_nil, Nat.reduceAdd, Nat.zero_add]
       (repeat ((repeat1' (first | simp -implicitDefEqProofs -dsimp only [go_sem, Nat.reduceSub, Nat.reduceAdd, Nat.reduceMul, Nat.reduceLT, Nat.reduceLeDiff, Nat.reduceEqDiff, Nat.reduceDiv, Nat.reduceMod, Int.reduceToNat, Int.reduceLE, Int.reduceLT, Int.reduceBEq, Int.reduceBNe, Int.reduceNeg, Int.reduceAdd, Int.reduceSub, Int.reduceMul, reduceCtorEq, g1, hr0, WeekRow.cs, List.drop_succ_cons, List.drop_zero] | simp -dsimp (disch := omega) only [wrap_i64])); repeat (with_reducible refine sideA ?_)))
       refine condT.split (fun g2 => ?_) (fun g2 => ?_)
       · (repeat ((repeat1' (first | simp -implicitDefEqProofs -dsimp only [go_sem, Nat.reduceSub, Nat.reduceAdd, Nat.reduceMul, Nat.reduceLT, Nat.reduceLeDiff, Nat.reduceEqDiff, Nat.reduceDiv, Nat.reduceMod, Int.reduceToNat, Int.reduceLE, Int.reduceLT, Int.reduceBEq, Int.reduceBNe, Int.reduceNeg, Int.reduceAdd, Int.reduceSub, Int.reduceMul, reduceCtorEq, g2] | simp -dsimp (disch := omega) only [wrap_i64])); repeat (with_reducible refine sideA ?_)))
         refine ⟨i + 1, hi', ?_, by omega⟩
         rw [hstep, hsk (of_decide_eq_true g2)]
         simp only [tabH, outC, pairC, List.length_cons, List.length_nil, List.map_cons, List.map_nil, Nat.reduceAdd, Nat.zero_add]
         refine Weak.pick [0, 1, 2, 3] (by decide) (fun j hj => by omega) ?_ ?_
         · simp [LeG, LeC, LeV, ren, pickF, posOf]
         · simp [pickH, pickB, pickF, posOf, ren]
       · (repeat ((repeat1' (first | simp -implicitDefEqProofs -dsimp only [go_sem, Nat.reduceSub, Nat.reduceAdd, Nat.reduceMul, Nat.reduceLT, Nat.reduceLeDiff, Nat.reduceEqDiff, Nat.reduceDiv, Nat.reduceMod, Int.reduceToNat, Int.reduceLE, Int.reduceLT, Int.reduceBEq, Int.reduceBNe, Int.reduceNeg, Int.reduceAdd, Int.reduceSub, Int.reduceMul, reduceCtorEq, g2, hk, hz] | simp -dsimp (disch := omega) only [wrap_i64])); repeat (with_reducible refine sideA ?_)))
         refine condT.split (fun g3 => ?_) (fun g3 => ?_)
         · have g3' : p3.2 = r.Week - 1 := by simpa using g3
           (repeat ((repeat1' (first | simp -implicitDefEqProofs -dsimp only [go_sem, Nat.reduceSub, Nat.reduceAdd, Nat.reduceMul, Nat.reduceLT, Nat.reduceLeDiff, Nat.reduceEqDiff, Nat.reduceDiv, Nat.reduceMod, Int.reduceToNat, Int.reduceLE, Int.reduceLT, Int.reduceBEq, Int.reduceBNe, Int.reduceNeg, Int.reduceAdd, Int.reduceSub, Int.reduceMul, reduceCtorEq, g3, hk] | simp -dsimp (disch := omega) only [wrap_i64])); repeat (with_reducible refine sideA ?_)))
           refine ⟨i + 1, hi', ?_, by omega⟩
           rw [hstep, hme (of_decide_eq_false g2) g3']
           simp only [tabH, outC, pairC, List.length_cons, List.length_nil, List.map_cons, List.map_nil, Nat.reduceAdd, Nat.zero_add]
           refine Weak.pick [0, 1, 2, 3] (by decide) (fun j hj => by omega) ?_ ?_
           · simp [LeG, LeC, LeV, ren, pickF, posOf]
           · simp [pickH, pickB, pickF, posOf, ren]
         · have g3' : p3.2 ≠ r.Week - 1 := by simpa using g3
           (repeat ((repeat1' (first | simp -implicitDefEqProofs -dsimp only [go_sem, Nat.reduceSub, Nat.reduceAdd, Nat.reduceMul, Nat.reduceLT, Nat.reduceLeDiff, Nat.reduceEqDiff, Nat.reduceDiv, Nat.reduceMod, Int.reduceToNat, Int.reduceLE, Int.reduceLT, Int.reduceBEq, Int.reduceBNe, Int.reduceNeg, Int.reduceAdd, Int.reduceSub, Int.reduceMul, reduceCtorEq, g3, hk] | simp -dsimp (disch := omega) only [wrap_i64])); repeat (with_reducible refine sideA ?_)))
           refine ⟨i + 1, hi', ?_, by omega⟩
           rw [hstep, hnw (of_decide_eq_false g2) g3']
           simp only [tabH, outC, pairC, List.length_cons, List.length_nil, List.map_cons, List.map_nil, Nat.reduceAdd, Nat.zero_add]
           refine Weak.pick [0, 1, 2, 3, 5] (by decide) (fun j hj => by omega) ?_ ?_
           · simp [LeG, LeC, LeV, ren, pickF, posOf]
           · simp [pickH, pickB, pickF, posOf, ren]
     · have hsk : r.Events ≤ lim → swS lim [p1, p2, p3, p4] r = [p1, p2, p3, p4] := fun h => by simp [swS, h]
       have hme : ¬ r.Events ≤ lim → p4.2 = r.Week - 1 → swS lim [p1, p2, p3, p4] r = [p1, p2, p3, (p4.1, r.Week)] := fun h h2 => by simp [swS, h, h2]
       have hnw : ¬ r.Events ≤ lim → p4.2 ≠ r.Week - 1 → swS lim [p1, p2, p3, p4] r = [p1, p2, p3, p4, (r.Week, r.Week)] := fun h h2 => by simp [swS, h, h2]
       have hk : IntKind.i64.wrap (((4 : Nat) : Int) - 1) = 3 := by rw [wrap_i64 (by omega) (by omega)]; rfl
       have hz : decide ((0 : Int) < ((4 : Nat) : Int)) = true := by decide
       simp only [tabH, outC, pairC, List.length_cons, List.length_nil, List.map_cons, List.map_nil, Nat.reduceAdd, Nat.zero_add]
       (repeat ((repeat1' (first | simp -implicitDefEqProofs -dsimp only [go_sem, Nat.reduceSub, Nat.reduceAdd, Nat.reduceMul, Nat.reduceLT, Nat.reduceLeDiff, Nat.reduceEqDiff, Nat.reduceDiv, Nat.reduceMod, Int.reduceToNat, Int.reduceLE, Int.reduceLT, Int.reduceBEq, Int.reduceBNe, Int.reduceNeg, Int.reduceAdd, Int.reduceSub, Int.reduceMul, reduceCtorEq, g1, hr0, WeekRow.cs, List.drop_succ_cons, List.drop_zero] | simp -dsimp (disch := omega) only [wrap_i64])); repeat (with_reducible refine sideA ?_)))
       refine condT.split (fun g2 => ?_) (fun g2 => ?_)
       · (repeat ((repeat1' (first | simp -implicitDefEqProofs -dsimp only [go_sem, Nat.reduceSub, Nat.reduceAdd, Nat.reduceMul, Nat.reduceLT, Nat.reduceLeDiff, Nat.reduceEqDiff, Nat.reduceDiv, Nat.reduceMod, Int.reduceToNat, Int.reduceLE, Int.reduceLT, Int.reduceBEq, Int.reduceBNe, Int.reduceNeg, Int.reduceAdd, Int.reduceSub, Int.reduceMul, reduceCtorEq, g2] | simp -dsimp (disch := omega) only [wrap_i64])); repeat (with_reducible refine sideA ?_)))
         refine ⟨i + 1, hi', ?_, by omega⟩
         rw [hstep, hsk (of_decide_eq_true g2)]
         simp only [tabH, outC, pairC, List.length_cons, List.length_nil, List.map_cons, List.map_nil, Nat.reduceAdd, Nat.zero_add]
         refine Weak.pick [0, 1, 2, 3, 4] (by decide) (fun j hj => by omega) ?_ ?_
         · simp [LeG, LeC, LeV, ren, pickF, posOf]
         · simp [pickH, pickB, pickF, posOf, ren]
       · (repeat ((repeat1' (first | simp -implicitDefEqProofs -dsimp only [go_sem, Nat.reduceSub, Nat.reduceAdd, Nat.reduceMul, Nat.reduceLT, Nat.reduceLeDiff, Nat.reduceEqDiff, Nat.reduceDiv, Nat.reduceMod, Int.reduceToNat, Int.reduceLE, Int.reduceLT, Int.reduceBEq, Int.reduceBNe, Int.reduceNeg, Int.reduceAdd, Int.reduceSub, Int.reduceMul, reduceCtorEq, g2, hk, hz] | simp -dsimp (disch := omega) only [wrap_i64])); repeat (with_reducible refine sideA ?_)))
         refine condT.split (fun g3 => ?_) (fun g3 => ?_)
         · have g3' : p4.2 = r.Week - 1 := by simpa using g3
           (repeat ((repeat1' (first | simp -implicitDefEqProofs -dsimp only [go_sem, Nat.reduceSub, Nat.reduceAdd, Nat.reduceMul, Nat.reduceLT, Nat.reduceLeDiff, Nat.reduceEqDiff, Nat.reduceDiv, Nat.reduceMod, Int.reduceToNat, Int.reduceLE, Int.reduceLT, Int.reduceBEq, Int.reduceBNe, Int.reduceNeg, Int.reduceAdd, Int.reduceSub, Int.reduceMul, reduceCtorEq, g3, hk] | simp -dsimp (disch := omega) only [wrap_i64])); repeat (with_reducible refine sideA ?_)))
           refine ⟨i + 1, hi', ?_, by omega⟩
           rw [hstep, hme (of_decide_eq_false g2) g3']
           simp only [tabH, outC, pairC, List.length_cons, List.length_nil, List.map_cons, List.map_nil, Nat.reduceAdd, Nat.zero_add]
           refine Weak.pick [0, 1, 2, 3, 4] (by decide) (fun j hj => by omega) ?_ ?_
           · simp [LeG, LeC, LeV, ren, pickF, posOf]
           · simp [pickH, pickB, pickF, posOf, ren]
         · have g3' : p4.2 ≠ r.Week - 1 := by simpa using g3
           (repeat ((repeat1' (first | simp -implicitDefEqProofs -dsimp only [go_sem, Nat.reduceSub, Nat.reduceAdd, Nat.reduceMul, Nat.reduceLT, Nat.reduceLeDiff, Nat.reduceEqDiff, Nat.reduceDiv, Nat.reduceMod, Int.reduceToNat, Int.reduceLE, Int.reduceLT, Int.reduceBEq, Int.reduceBNe, Int.reduceNeg, Int.reduceAdd, Int.reduceSub, Int.reduceMul, reduceCtorEq, g3, hk] | simp -dsimp (disch := omega) only [wrap_i64])); repeat (with_reducible refine sideA ?_)))
           refine ⟨i + 1, hi', ?_, by omega⟩
           rw [hstep, hnw (of_decide_eq_false g2) g3']
           simp only [tabH, outC, pairC, List.length_cons, List.length_nil, List.map_cons, List.map_nil, Nat.reduceAdd, Nat.zero_add]
           refine Weak.pick [0, 1, 2, 3, 4, 6] (by decide) (fun j hj => by omega) ?_ ?_
           · simp [LeG, LeC, LeV, ren, pickF, posOf]
           · simp [pickH, pickB, pickF, posOf, ren]
     · have hsk : r.Events ≤ lim → swS lim [p1, p2, p3, p4, p5] r = [p1, p2, p3, p4, p5] := fun h => by simp [swS, h]
       have hme : ¬ r.Events ≤ lim → p5.2 = r.Week - 1 → swS lim [p1, p2, p3, p4, p5] r = [p1, p2, p3, p4, (p5.1, r.Week)] := fun h h2 => by simp [swS, h, h2]
       have hnw : ¬ r.Events ≤ lim → p5.2 ≠ r.Week - 1 → swS lim [p1, p2, p3, p4, p5] r = [p1, p2, p3, p4, p5, (r.Week, r.Week)] := fun h h2 => by simp [swS, h, h2]
       have hk : IntKind.i64.wrap (((5 : Nat) : Int) - 1) = 4 := by rw [wrap_i64 (by omega) (by omega)]; rfl
       have hz : decide ((0 : Int) < ((5 : Nat) : Int)) = true := by decide
       simp only [tabH, outC, pairC, List.length_cons, List.length_nil, List.map_cons, List.map_nil, Nat.reduceAdd, Nat.zero_add]
       (repeat ((repeat1' (first | simp -implicitDefEqProofs -dsimp only [go_sem, Nat.reduceSub, Nat.reduceAdd, Nat.reduceMul, Nat.reduceLT, Nat.reduceLeDiff, Nat.reduceEqDiff, Nat.reduceDiv, Nat.reduceMod, Int.reduceToNat, Int.reduceLE, Int.reduceLT, Int.reduceBEq, Int.reduceBNe, Int.reduceNeg, Int.reduceAdd, Int.reduceSub, Int.reduceMul, reduceCtorEq, g1, hr0, WeekRow.cs, List.drop_succ_cons, List.drop_zero] | simp -dsimp (disch := omega) only [wrap_i64])); repeat (with_reducible refine sideA ?_)))
       refine condT.split (fun g2 => ?_) (fun g2 => ?_)
       · (repeat ((repeat1' (first | simp -implicitDefEqProofs -dsimp only [go_sem, Nat.reduceSub, Nat.reduceAdd, Nat.reduceMul, Nat.reduceLT, Nat.reduceLeDiff, Nat.reduceEqDiff, Nat.reduceDiv, Nat.reduceMod, Int.reduceToNat, Int.reduceLE, Int.reduceLT, Int.reduceBEq, Int.reduceBNe, Int.reduceNeg, Int.reduceAdd, Int.reduceSub, Int.reduceMul, reduceCtorEq, g2] | simp -dsimp (disch := omega) only [wrap_i64])); repeat (with_reducible refine sideA ?_)))
         refine ⟨i + 1, hi', ?_, by omega⟩
         rw [hstep, hsk (of_decide_eq_true g2)]
         simp only [tabH, outC, pairC, List.length_cons, List.length_nil, List.map_cons, List.map_nil, Nat.reduceAdd, Nat.zero_add]
         refine Weak.pick [0, 1, 2, 3, 4, 5] (by decide) (fun j hj => by omega) ?_ ?_
         · simp [LeG, LeC, LeV, ren, pickF, posOf]
         · simp [pickH, pickB, pickF, posOf, ren]
       · (repeat ((repeat1' (first | simp -implicitDefEqProofs -dsimp only [go_sem, Nat.reduceSub, Nat.reduceAdd, Nat.reduceMul, Nat.reduceLT, Nat.reduceLeDiff, Nat.reduceEqDiff, Nat.reduceDiv, Nat.reduceMod, Int.reduceToNat, Int.reduceLE, Int.reduceLT, Int.reduceBEq, Int.reduceBNe, Int.reduceNeg, Int.reduceAdd, Int.reduceSub, Int.reduceMul, reduceCtorEq, g2, hk, hz] | simp -dsimp (disch := omega) only [wrap_i64])); repeat (with_reducible refine sideA ?_)))
         refine condT.split (fun g3 => ?_) (fun g3 => ?_)
         · have g3' : p5.2 = r.Week - 1 := by simpa using g3
           (repeat ((repeat1' (first | simp -implicitDefEqProofs -dsimp only [go_sem, Nat.reduceSub, Nat.reduceAdd, Nat.reduceMul, Nat.reduceLT, Nat.reduceLeDiff, Nat.reduceEqDiff, Nat.reduceDiv, Nat.reduceMod, Int.reduceToNat, Int.reduceLE, Int.reduceLT, Int.reduceBEq, Int.reduceBNe, Int.reduceNeg, Int.reduceAdd, Int.reduceSub, Int.reduceMul, reduceCtorEq, g3, hk] | simp -dsimp (disch := omega) only [wrap_i64])); repeat (with_reducible refine sideA ?_)))
           refine ⟨i + 1, hi', ?_, by omega⟩
           rw [hstep, hme (of_decide_eq_false g2) g3']
           simp only [tabH, outC, pairC, List.length_cons, List.length_nil, List.map_cons, List.map_nil, Nat.reduceAdd, Nat.zero_add]
           refine Weak.pick [0, 1, 2, 3, 4, 5] (by decide) (fun j hj => by omega) ?_ ?_
           · simp [LeG, LeC, LeV, ren, pickF, posOf]
           · simp [pickH, pickB, pickF, posOf, ren]
         · have g3' : p5.2 ≠ r.Week - 1 := by simpa using g3
           (repeat ((repeat1' (first | simp -implicitDefEqProofs -dsimp only [go_sem, Nat.reduceSub, Nat.reduceAdd, Nat.reduceMul, Nat.reduceLT, Nat.reduceLeDiff, Nat.reduceEqDiff, Nat.reduceDiv, Nat.reduceMod, Int.reduceToNat, Int.reduceLE, Int.reduceLT, Int.reduceBEq, Int.reduceBNe, Int.reduceNeg, Int.reduceAdd, Int.reduceSub, Int.reduceMul, reduceCtorEq, g3, hk] | simp -dsimp (disch := omega) only [wrap_i64])); repeat (with_reducible refine sideA ?_)))
           refine ⟨i + 1, hi', ?_, by omega⟩
           rw [hstep, hnw (of_decide_eq_false g2) g3']
           simp only [tabH, outC, pairC, List.length_cons, List.length_nil, List.map_cons, List.map_nil, Nat.reduceAdd, Nat.zero_add]
           refine Weak.pick [0, 1, 2, 3, 4, 5, 7] (by decide) (fun j hj => by omega) ?_ ?_
           · simp [LeG, LeC, LeV, ren, pickF, posOf]
           · simp [pickH, pickB, pickF, posOf, ren]
     · have hsk : r.Events ≤ lim → swS lim [p1, p2, p3, p4, p5, p6] r = [p1, p2, p3, p4, p5, p6] := fun h => by simp [swS, h]
       have hme : ¬ r.Events ≤ lim → p6.2 = r.Week - 1 → swS lim [p1, p2, p3, p4, p5, p6] r = [p1, p2, p3, p4, p5, (p6.1, r.Week)] := fun h h2 => by simp [swS, h, h2]
       have hnw : ¬ r.Events ≤ lim → p6.2 ≠ r.Week - 1 → swS lim [p1, p2, p3, p4, p5, p6] r = [p1, p2, p3, p4, p5, p6, (r.Week, r.Week)] := fun h h2 => by simp [swS, h, h2]
       have hk : IntKind.i64.wrap (((6 : Nat) : Int) - 1) = 5 := by rw [wrap_i64 (by omega) (by omega)]; rfl
       have hz : decide ((0 : Int) < ((6 : Nat) : Int)) = true := by decide
       simp only [tabH, outC, pairC, List.length_cons, List.length_nil, List.map_cons, List.map_nil, Nat.reduceAdd, Nat.zero_add]
       (repeat ((repeat1' (first | simp -implicitDefEqProofs -dsimp only [go_sem, Nat.reduceSub, Nat.reduceAdd, Nat.reduceMul, Nat.reduceLT, Nat.reduceLeDiff, Nat.reduceEqDiff, Nat.reduceDiv, Nat.reduceMod, Int.reduceToNat, Int.reduceLE, Int.reduceLT, Int.reduceBEq, Int.reduceBNe, Int.reduceNeg, Int.reduceAdd, Int.reduceSub, Int.reduceMul, reduceCtorEq, g1, hr0, WeekRow.cs, List.drop_succ_cons, List.drop_zero] | simp -dsimp (disch := omega) only [wrap_i64])); repeat (with_reducible refine sideA ?_)))
       refine condT.split (fun g2 => ?_) (fun g2 => ?_)
       · (repeat ((repeat1' (first | simp -implicitDefEqProofs -dsimp only [go_sem, Nat.reduceSub, Nat.reduceAdd, Nat.reduceMul, Nat.reduceLT, Nat.reduceLeDiff, Nat.reduceEqDiff, Nat.reduceDiv, Nat.reduceMod, Int.reduceToNat, Int.reduceLE, Int.reduceLT, Int.reduceBEq, Int.reduceBNe, Int.reduceNeg, Int.reduceAdd, Int.reduceSub, Int.reduceMul, reduceCtorEq, g2] | simp -dsimp (disch := omega) only [wrap_i64])); repeat (with_reducible refine sideA ?_)))
         refine ⟨i + 1, hi', ?_, by omega⟩
         rw [hstep, hsk (of_decide_eq_true g2)]
         simp only [tabH, outC, pairC, List.length_cons, List.length_nil, List.map_cons, List.map_nil, Nat.reduceAdd, Nat.zero_add]
         refine Weak.pick [0, 1, 2, 3, 4, 5, 6] (by decide) (fun j hj => by omega) ?_ ?_
         · simp [LeG, LeC, LeV, ren, pickF, posOf]
         · simp [pickH, pickB, pickF, posOf, ren]
       · (repeat ((repeat1' (first | simp -implicitDefEqProofs -dsimp only [go_sem, Nat.reduceSub, Nat.reduceAdd, Nat.reduceMul, Nat.reduceLT, Nat.reduceLeDiff, Nat.reduceEqDiff, Nat.reduceDiv, Nat.reduceMod, Int.reduceToNat, Int.reduceLE, Int.reduceLT, Int.reduceBEq, Int.reduceBNe, Int.reduceNeg, Int.reduceAdd, Int.reduceSub, Int.reduceMul, reduceCtorEq, g2, hk, hz] | simp -dsimp (disch := omega) only [wrap_i64])); repeat (with_reducible refine sideA ?_)))
         refine condT.split (fun g3 => ?_) (fun g3 => ?_)
         · have g3' : p6.2 = r.Week - 1 := by simpa using g3
           (repeat ((repeat1' (first | simp -implicitDefEqProofs -dsimp only [go_sem, Nat.reduceSub, Nat.reduceAdd, Nat.reduceMul, Nat.reduceLT, Nat.reduceLeDiff, Nat.reduceEqDiff, Nat.reduceDiv, Nat.reduceMod, Int.reduceToNat, Int.reduceLE, Int.reduceLT, Int.reduceBEq, Int.reduceBNe, Int.reduceNeg, Int.reduceAdd, Int.reduceSub, Int.reduceMul, reduceCtorEq, g3, hk] | simp -dsimp (disch := omega) only [wrap_i64])); repeat (with_reducible refine sideA ?_)))
           refine ⟨i + 1, hi', ?_, by omega⟩
           rw [hstep, hme (of_decide_eq_false g2) g3']
           simp only [tabH, outC, pairC, List.length_cons, List.length_nil, List.map_cons, List.map_nil, Nat.reduceAdd, Nat.zero_add]
           refine Weak.pick [0, 1, 2, 3, 4, 5, 6] (by decide) (fun j hj => by omega) ?_ ?_
           · simp [LeG, LeC, LeV, ren, pickF, posOf]
           · simp [pickH, pickB, pickF, posOf, ren]
         · have g3' : p6.2 ≠ r.Week - 1 := by simpa using g3
           (repeat ((repeat1' (first | simp -implicitDefEqProofs -dsimp only [go_sem, Nat.reduceSub, Nat.reduceAdd, Nat.reduceMul, Nat.reduceLT, Nat.reduceLeDiff, Nat.reduceEqDiff, Nat.reduceDiv, Nat.reduceMod, Int.reduceToNat, Int.reduceLE, Int.reduceLT, Int.reduceBEq, Int.reduceBNe, Int.reduceNeg, Int.reduceAdd, Int.reduceSub, Int.reduceMul, reduceCtorEq, g3, hk] | simp -dsimp (disch := omega) only [wrap_i64])); repeat (with_reducible refine sideA ?_)))
           refine ⟨i + 1, hi', ?_, by omega⟩
           rw [hstep, hnw (of_decide_eq_false g2) g3']
           simp only [tabH, outC, pairC, List.length_cons, List.length_nil, List.map_cons, List.map_nil, Nat.reduceAdd, Nat.zero_add]
           refine Weak.pick [0, 1, 2, 3, 4, 5, 6, 8] (by decide) (fun j hj => by omega) ?_ ?_
           · simp [LeG, LeC, LeV, ren, pickF, posOf]
           · simp [pickH, pickB, pickF, posOf, ren]
     · have hsk : r.Events ≤ lim → swS lim [p1, p2, p3, p4, p5, p6, p7] r = [p1, p2, p3, p4, p5, p6, p7] := fun h => by simp [swS, h]
       have hme : ¬ r.Events ≤ lim → p7.2 = r.Week - 1 → swS lim [p1, p2, p3, p4, p5, p6, p7] r = [p1, p2, p3, p4, p5, p6, (p7.1, r.Week)] := fun h h2 => by simp [swS, h, h2]
       have hnw : ¬ r.Events ≤ lim → p7.2 ≠ r.Week - 1 → swS lim [p1, p2, p3, p4, p5, p6, p7] r = [p1, p2, p3, p4, p5, p6, p7, (r.Week, r.Week)] := fun h h2 => by simp [swS, h, h2]
       have hk : IntKind.i64.wrap (((7 : Nat) : Int) - 1) = 6 := by rw [wrap_i64 (by omega) (by omega)]; rfl
       have hz : decide ((0 : Int) < ((7 : Nat) : Int)) = true := by decide
       simp only [tabH, outC, pairC, List.length_cons, List.length_nil, List.map_cons, List.map_nil, Nat.reduceAdd, Nat.zero_add]
       (repeat ((repeat1' (first | simp -implicitDefEqProofs -dsimp only [go_sem, Nat.reduceSub, Nat.reduceAdd, Nat.reduceMul, Nat.reduceLT, Nat.reduceLeDiff, Nat.reduceEqDiff, Nat.reduceDiv, Nat.reduceMod, Int.reduceToNat, Int.reduceLE, Int.reduceLT, Int.reduceBEq, Int.reduceBNe, Int.reduceNeg, Int.reduceAdd, Int.reduceSub, Int.reduceMul, reduceCtorEq, g1, hr0, WeekRow.cs, List.drop_succ_cons, List.drop_zero] | simp -dsimp (disch := omega) only [wrap_i64])); repeat (with_reducible refine sideA ?_)))
       refine condT.split (fun g2 => ?_) (fun g2 => ?_)
       · (repeat ((repeat1' (first | simp -implicitDefEqProofs -dsimp only [go_sem, Nat.reduceSub, Nat.reduceAdd, Nat.reduceMul, Nat.reduceLT, Nat.reduceLeDiff, Nat.reduceEqDiff, Nat.reduceDiv, Nat.reduceMod, Int.reduceToNat, Int.reduceLE, Int.reduceLT, Int.reduceBEq, Int.reduceBNe, Int.reduceNeg, Int.reduceAdd, Int.reduceSub, Int.reduceMul, reduceCtorEq, g2] | simp -dsimp (disch := omega) only [wrap_i64])); repeat (with_reducible refine sideA ?_)))
         refine ⟨i + 1, hi', ?_, by omega⟩
         rw [hstep, hsk (of_decide_eq_true g2)]
         simp only [tabH, outC, pairC, List.length_cons, List.length_nil, List.map_cons, List.map_nil, Nat.reduceAdd, Nat.zero_add]
         refine Weak.pick [0, 1, 2, 3, 4, 5, 6, 7] (by decide) (fun j hj => by omega) ?_ ?_
         · simp [LeG, LeC, LeV, ren, pickF, posOf]
         · simp [pickH, pickB, pickF, posOf, ren]
       · (repeat ((repeat1' (first | simp -implicitDefEqProofs -dsimp only [go_sem, Nat.reduceSub, Nat.reduceAdd, Nat.reduceMul, Nat.reduceLT, Nat.reduceLeDiff, Nat.reduceEqDiff, Nat.reduceDiv, Nat.reduceMod, Int.reduceToNat, Int.reduceLE, Int.reduceLT, Int.reduceBEq, Int.reduceBNe, Int.reduceNeg, Int.reduceAdd, Int.reduceSub, Int.reduceMul, reduceCtorEq, g2, hk, hz] | simp -dsimp (disch := omega) only [wrap_i64])); repeat (with_reducible refine sideA ?_)))
         refine condT.split (fun g3 => ?_) (fun g3 => ?_)
         · have g3' : p7.2 = r.Week - 1 := by simpa using g3
           (repeat ((repeat1' (first | simp -implicitDefEqProofs -dsimp only [go_sem, Nat.reduceSub, Nat.reduceAdd, Nat.reduceMul, Nat.reduceLT, Nat.reduceLeDiff, Nat.reduceEqDiff, Nat.reduceDiv, Nat.reduceMod, Int.reduceToNat, Int.reduceLE, Int.reduceLT, Int.reduceBEq, Int.reduceBNe, Int.reduceNeg, Int.reduceAdd, Int.reduceSub, Int.reduceMul, reduceCtorEq, g3, hk] | simp -dsimp (disch := omega) only [wrap_i64])); repeat (with_reducible refine sideA ?_)))
           refine ⟨i + 1, hi', ?_, by omega⟩
           rw [hstep, hme (of_decide_eq_false g2) g3']
           simp only [tabH, outC, pairC, List.length_cons, List.length_nil, List.map_cons, List.map_nil, Nat.reduceAdd, Nat.zero_add]
           refine Weak.pick [0, 1, 2, 3, 4, 5, 6, 7] (by decide) (fun j hj => by omega) ?_ ?_
           · simp [LeG, LeC, LeV, ren, pickF, posOf]
           · simp [pickH, pickB, pickF, posOf, ren]
         · have g3' : p7.2 ≠ r.Week - 1 := by simpa using g3
           (repeat ((repeat1' (first | simp -implicitDefEqProofs -dsimp only [go_sem, Nat.reduceSub, Nat.reduceAdd, Nat.reduceMul, Nat.reduceLT, Nat.reduceLeDiff, Nat.reduceEqDiff, Nat.reduceDiv, Nat.reduceMod, Int.reduceToNat, Int.reduceLE, Int.reduceLT, Int.reduceBEq, Int.reduceBNe, Int.reduceNeg, Int.reduceAdd, Int.reduceSub, Int.reduceMul, reduceCtorEq, g3, hk] | simp -dsimp (disch := omega) only [wrap_i64])); repeat (with_reducible refine sideA ?_)))
           refine ⟨i + 1, hi', ?_, by omega⟩
           rw [hstep, hnw (of_decide_eq_false g2) g3']
           simp only [tabH, outC, pairC, List.length_cons, List.length_nil, List.map_cons, List.map_nil, Nat.reduceAdd, Nat.zero_add]
           refine Weak.pick [0, 1, 2, 3, 4, 5, 6, 7, 9] (by decide) (fun j hj => by omega) ?_ ?_
           · simp [LeG, LeC, LeV, ren, pickF, posOf]
           · simp [pickH, pickB, pickF, posOf, ren]
     · have hsk : r.Events ≤ lim → swS lim [p1, p2, p3, p4, p5, p6, p7, p8] r = [p1, p2, p3, p4, p5, p6, p7, p8] := fun h => by simp [swS, h]
       have hme : ¬ r.Events ≤ lim → p8.2 = r.Week - 1 → swS lim [p1, p2, p3, p4, p5, p6, p7, p8] r = [p1, p2, p3, p4, p5, p6, p7, (p8.1, r.Week)] := fun h h2 => by simp [swS, h, h2]
       have hnw : ¬ r.Events ≤ lim → p8.2 ≠ r.Week - 1 → swS lim [p1, p2, p3, p4, p5, p6, p7, p8] r = [p1, p2, p3, p4, p5, p6, p7, p8, (r.Week, r.Week)] := fun h h2 => by simp [swS, h, h2]
       have hk : IntKind.i64.wrap (((8 : Nat) : Int) - 1) = 7 := by rw [wrap_i64 (by omega) (by omega)]; rfl
       have hz : decide ((0 : Int) < ((8 : Nat) : Int)) = true := by decide
       simp only [tabH, outC, pairC, List.length_cons, List.length_nil, List.map_cons, List.map_nil, Nat.reduceAdd, Nat.zero_add]
       (repeat ((repeat1' (first | simp -implicitDefEqProofs -dsimp only [go_sem, Nat.reduceSub, Nat.reduceAdd, Nat.reduceMul, Nat.reduceLT, Nat.reduceLeDiff, Nat.reduceEqDiff, Nat.reduceDiv, Nat.reduceMod, Int.reduceToNat, Int.reduceLE, Int.reduceLT, Int.reduceBEq, Int.reduceBNe, Int.reduceNeg, Int.reduceAdd, Int.reduceSub, Int.reduceMul, reduceCtorEq, g1, hr0, WeekRow.cs, List.drop_succ_cons, List.drop_zero] | simp -dsimp (disch := omega) only [wrap_i64])); repeat (with_reducible refine sideA ?_)))
       refine condT.split (fun g2 => ?_) (fun g2 => ?_)
       · (repeat ((repeat1' (first | simp -implicitDefEqProofs -dsimp only [go_sem, Nat.reduceSub, Nat.reduceAdd, Nat.reduceMul, Nat.reduceLT, Nat.reduceLeDiff, Nat.reduceEqDiff, Nat.reduceDiv, Nat.reduceMod, Int.reduceToNat, Int.reduceLE, Int.reduceLT, Int.reduceBEq, Int.reduceBNe, Int.reduceNeg, Int.reduceAdd, Int.reduceSub, Int.reduceMul, reduceCtorEq, g2] | simp -dsimp (disch := omega) only [wrap_i64])); repeat (with_reducible refine sideA ?_)))
         refine ⟨i + 1, hi', ?_, by omega⟩
         rw [hstep, hsk (of_decide_eq_true g2)]
         simp only [tabH, outC, pairC, List.length_cons, List.length_nil, List.map_cons, List.map_nil, Nat.reduceAdd, Nat.zero_add]
         refine Weak.pick [0, 1, 2, 3, 4, 5, 6, 7, 8] (by decide) (fun j hj => by omega) ?_ ?_
         · simp [LeG, LeC, LeV, ren, pickF, posOf]
         · simp [pickH, pickB, pickF, posOf, ren]
       · (repeat ((repeat1' (first | simp -implicitDefEqProofs -dsimp only [go_sem, Nat.reduceSub, Nat.reduceAdd, Nat.reduceMul, Nat.reduceLT, Nat.reduceLeDiff, Nat.reduceEqDiff, Nat.reduceDiv, Nat.reduceMod, Int.reduceToNat, Int.reduceLE, Int.reduceLT, Int.reduceBEq, Int.reduceBNe, Int.reduceNeg, Int.reduceAdd, Int.reduceSub, Int.reduceMul, reduceCtorEq, g2, hk, hz] | simp -dsimp (disch := omega) only [wrap_i64])); repeat (with_reducible refine sideA ?_)))
         refine condT.split (fun g3 => ?_) (fun g3 => ?_)
         · have g3' : p8.2 = r.Week - 1 := by simpa using g3
           (repeat ((repeat1' (first | simp -implicitDefEqProofs -dsimp only [go_sem, Nat.reduceSub, Nat.reduceAdd, Nat.reduceMul, Nat.reduceLT, Nat.reduceLeDiff, Nat.reduceEqDiff, Nat.reduceDiv, Nat.reduceMod, Int.reduceToNat, Int.reduceLE, Int.reduceLT, Int.reduceBEq, Int.reduceBNe, Int.reduceNeg, Int.reduceAdd, Int.reduceSub, Int.reduceMul, reduceCtorEq, g3, hk] | simp -dsimp (disch := omega) only [wrap_i64])); repeat (with_reducible refine sideA ?_)))
           refine ⟨i + 1, hi', ?_, by omega⟩
           rw [hstep, hme (of_decide_eq_false g2) g3']
           simp only [tabH, outC, pairC, List.length_cons, List.length_nil, List.map_cons, List.map_nil, Nat.reduceAdd, Nat.zero_add]
           refine Weak.pick [0, 1, 2, 3, 4, 5, 6, 7, 8] (by decide) (fun j hj => by omega) ?_ ?_
           · simp [LeG, LeC, LeV, ren, pickF, posOf]
           · simp [pickH, pickB, pickF, posOf, ren]
         · have g3' : p8.2 ≠ r.Week - 1 := by simpa using g3
           (repeat ((repeat1' (first | simp -implicitDefEqProofs -dsimp only [go_sem, Nat.reduceSub, Nat.reduceAdd, Nat.reduceMul, Nat.reduceLT, Nat.reduceLeDiff, Nat.reduceEqDiff, Nat.reduceDiv, Nat.reduceMod, Int.reduceToNat, Int.reduceLE, Int.reduceLT, Int.reduceBEq, Int.reduceBNe, Int.reduceNeg, Int.reduceAdd, Int.reduceSub, Int.reduceMul, reduceCtorEq, g3, hk] | simp -dsimp (disch := omega) only [wrap_i64])); repeat (with_reducible refine sideA ?_)))
           refine ⟨i + 1, hi', ?_, by omega⟩
           rw [hstep, hnw (of_decide_eq_false g2) g3']
           simp only [tabH, outC, pairC, List.length_cons, List.length_nil, List.map_cons, List.map_nil, Nat.reduceAdd, Nat.zero_add]
           refine Weak.pick [0, 1, 2, 3, 4, 5, 6, 7, 8, 10] (by decide) (fun j hj => by omega) ?_ ?_
           · simp [LeG, LeC, LeV, ren, pickF, posOf]
           · simp [pickH, pickB, pickF, posOf, ren]
     · have hsk : r.Events ≤ lim → swS lim [p1, p2, p3, p4, p5, p6, p7, p8, p9] r = [p1, p2, p3, p4, p5, p6, p7, p8, p9] := fun h => by simp [swS, h]
       have hme : ¬ r.Events ≤ lim → p9.2 = r.Week - 1 → swS lim [p1, p2, p3, p4, p5, p6, p7, p8, p9] r = [p1, p2, p3, p4, p5, p6, p7, p8, (p9.1, r.Week)] := fun h h2 => by simp [swS, h, h2]
       have hnw : ¬ r.Events ≤ lim → p9.2 ≠ r.Week - 1 → swS lim [p1, p2, p3, p4, p5, p6, p7, p8, p9] r = [p1, p2, p3, p4, p5, p6, p7, p8, p9, (r.Week, r.Week)] := fun h h2 => by simp [swS, h, h2]
       have hk : IntKind.i64.wrap (((9 : Nat) : Int) - 1) = 8 := by rw [wrap_i64 (by omega) (by omega)]; rfl
       have hz : decide ((0 : Int) < ((9 : Nat) : Int)) = true := by decide
       simp only [tabH, outC, pairC, List.length_cons, List.length_nil, List.map_cons, List.map_nil, Nat.reduceAdd, Nat.zero_add]
       (repeat ((repeat1' (first | simp -implicitDefEqProofs -dsimp only [go_sem, Nat.reduceSub, Nat.reduceAdd, Nat.reduceMul, Nat.reduceLT, Nat.reduceLeDiff, Nat.reduceEqDiff, Nat.reduceDiv, Nat.reduceMod, Int.reduceToNat, Int.reduceLE, Int.reduceLT, Int.reduceBEq, Int.reduceBNe, Int.reduceNeg, Int.reduceAdd, Int.reduceSub, Int.reduceMul, reduceCtorEq, g1, hr0, WeekRow.cs, List.drop_succ_cons, List.drop_zero] | simp -dsimp (disch := omega) only [wrap_i64])); repeat (with_reducible refine sideA ?_)))
       refine condT.split (fun g2 => ?_) (fun g2 => ?_)
       · (repeat ((repeat1' (first | simp -implicitDefEqProofs -dsimp only [go_sem, Nat.reduceSub, Nat.reduceAdd, Nat.reduceMul, Nat.reduceLT, Nat.reduceLeDiff, Nat.reduceEqDiff, Nat.reduceDiv, Nat.reduceMod, Int.reduceToNat, Int.reduceLE, Int.reduceLT, Int.reduceBEq, Int.reduceBNe, Int.reduceNeg, Int.reduceAdd, Int.reduceSub, Int.reduceMul, reduceCtorEq, g2] | simp -dsimp (disch := omega) only [wrap_i64])); repeat (with_reducible refine sideA ?_)))
         refine ⟨i + 1, hi', ?_, by omega⟩
         rw [hstep, hsk (of_decide_eq_true g2)]
         simp only [tabH, outC, pairC, List.length_cons, List.length_nil, List.map_cons, List.map_nil, Nat.reduceAdd, Nat.zero_add]
         refine Weak.pick [0, 1, 2, 3, 4, 5, 6, 7, 8, 9] (by decide) (fun j hj => by omega) ?_ ?_
         · simp [LeG, LeC, LeV, ren, pickF, posOf]
         · simp [pickH, pickB, pickF, posOf, ren]
       · (repeat ((repeat1' (first | simp -implicitDefEqProofs -dsimp only [go_sem, Nat.reduceSub, Nat.reduceAdd, Nat.reduceMul, Nat.reduceLT, Nat.reduceLeDiff, Nat.reduceEqDiff, Nat.reduceDiv, Nat.reduceMod, Int.reduceToNat, Int.reduceLE, Int.reduceLT, Int.reduceBEq, Int.reduceBNe, Int.reduceNeg, Int.reduceAdd, Int.reduceSub, Int.reduceMul, reduceCtorEq, g2, hk, hz] | simp -dsimp (disch := omega) only [wrap_i64])); repeat (with_reducible refine sideA ?_)))
         refine condT.split (fun g3 => ?_) (fun g3 => ?_)
         · have g3' : p9.2 = r.Week - 1 := by simpa using g3
           (repeat ((repeat1' (first | simp -implicitDefEqProofs -dsimp only [go_sem, Nat.reduceSub, Nat.reduceAdd, Nat.reduceMul, Nat.reduceLT, Nat.reduceLeDiff, Nat.reduceEqDiff, Nat.reduceDiv, Nat.reduceMod, Int.reduceToNat, Int.reduceLE, Int.reduceLT, Int.reduceBEq, Int.reduceBNe, Int.reduceNeg, Int.reduceAdd, Int.reduceSub, Int.reduceMul, reduceCtorEq, g3, hk] | simp -dsimp (disch := omega) only [wrap_i64])); repeat (with_reducible refine sideA ?_)))
           refine ⟨i + 1, hi', ?_, by omega⟩
           rw [hstep, hme (of_decide_eq_false g2) g3']
           simp only [tabH, outC, pairC, List.length_cons, List.length_nil, List.map_cons, List.map_nil, Nat.reduceAdd, Nat.zero_add]
           refine Weak.pick [0, 1, 2, 3, 4, 5, 6, 7, 8, 9] (by decide) (fun j hj => by omega) ?_ ?_
           · simp [LeG, LeC, LeV, ren, pickF, posOf]
           · simp [pickH, pickB, pickF, posOf, ren]
         · have g3' : p9.2 ≠ r.Week - 1 := by simpa using g3
           (repeat ((repeat1' (first | simp -implicitDefEqProofs -dsimp only [go_sem, Nat.reduceSub, Nat.reduceAdd, Nat.reduceMul, Nat.reduceLT, Nat.reduceLeDiff, Nat.reduceEqDiff, Nat.reduceDiv, Nat.reduceMod, Int.reduceToNat, Int.reduceLE, Int.reduceLT, Int.reduceBEq, Int.reduceBNe, Int.reduceNeg, Int.reduceAdd, Int.reduceSub, Int.reduceMul, reduceCtorEq, g3, hk] | simp -dsimp (disch := omega) only [wrap_i64])); repeat (with_reducible refine sideA ?_)))
           refine ⟨i + 1, hi', ?_, by omega⟩
           rw [hstep, hnw (of_decide_eq_false g2) g3']
           simp only [tabH, outC, pairC, List.length_cons, List.length_nil, List.map_cons, List.map_nil, Nat.reduceAdd, Nat.zero_add]
           refine Weak.pick [0, 1, 2, 3, 4, 5, 6, 7, 8, 9, 11] (by decide) (fun j hj => by omega) ?_ ?_
           · simp [LeG, LeC, LeV, ren, pickF, posOf]
           · simp [pickH, pickB, pickF, posOf, ren]
     · have hsk : r.Events ≤ lim → swS lim [p1, p2, p3, p4, p5, p6, p7, p8, p9, p10] r = [p1, p2, p3, p4, p5, p6, p7, p8, p9, p10] := fun h => by simp [swS, h]
       have hme : ¬ r.Events ≤ lim → p10.2 = r.Week - 1 → swS lim [p1, p2, p3, p4, p5, p6, p7, p8, p9, p10] r = [p1, p2, p3, p4, p5, p6, p7, p8, p9, (p10.1, r.Week)] := fun h h2 => by simp [swS, h, h2]
       have hnw : ¬ r.Events ≤ lim → p10.2 ≠ r.Week - 1 → swS lim [p1, p2, p3, p4, p5, p6, p7, p8, p9, p10] r = [p1, p2, p3, p4, p5, p6, p7, p8, p9, p10, (r.Week, r.Week)] := fun h h2 => by simp [swS, h, h2]
       have hk : IntKind.i64.wrap (((10 : Nat) : Int) - 1) = 9 := by rw [wrap_i64 (by omega) (by omega)]; rfl
       have hz : decide ((0 : Int) < ((10 : Nat) : Int)) = true := by decide
       simp only [tabH, outC, pairC, List.length_cons, List.length_nil, List.map_cons, List.map_nil, Nat.reduceAdd, Nat.zero_add]
       (repeat ((repeat1' (first | simp -implicitDefEqProofs -dsimp only [go_sem, Nat.reduceSub, Nat.reduceAdd, Nat.reduceMul, Nat.reduceLT, Nat.reduceLeDiff, Nat.reduceEqDiff, Nat.reduceDiv, Nat.reduceMod, Int.reduceToNat, Int.reduceLE, Int.reduceLT, Int.reduceBEq, Int.reduceBNe, Int.reduceNeg, Int.reduceAdd, Int.reduceSub, Int.reduceMul, reduceCtorEq, g1, hr0, WeekRow.cs, List.drop_succ_cons, List.drop_zero] | simp -dsimp (disch := omega) only [wrap_i64])); repeat (with_reducible refine sideA ?_)))
       refine condT.split (fun g2 => ?_) (fun g2 => ?_)
       · (repeat ((repeat1' (first | simp -implicitDefEqProofs -dsimp only [go_sem, Nat.reduceSub, Nat.reduceAdd, Nat.reduceMul, Nat.reduceLT, Nat.reduceLeDiff, Nat.reduceEqDiff, Nat.reduceDiv, Nat.reduceMod, Int.reduceToNat, Int.reduceLE, Int.reduceLT, Int.reduceBEq, Int.reduceBNe, Int.reduceNeg, Int.reduceAdd, Int.reduceSub, Int.reduceMul, reduceCtorEq, g2] | simp -dsimp (disch := omega) only [wrap_i64])); repeat (with_reducible refine sideA ?_)))
         refine ⟨i + 1, hi', ?_, by omega⟩
         rw [hstep, hsk (of_decide_eq_true g2)]
         simp only [tabH, outC, pairC, List.length_cons, List.length_nil, List.map_cons, List.map_nil, Nat.reduceAdd, Nat.zero_add]
         refine Weak.pick [0, 1, 2, 3, 4, 5, 6, 7, 8, 9, 10] (by decide) (fun j hj => by omega) ?_ ?_
         · simp [LeG, LeC, LeV, ren, pickF, posOf]
         · simp [pickH, pickB, pickF, posOf, ren]
       · (repeat ((repeat1' (first | simp -implicitDefEqProofs -dsimp only [go_sem, Nat.reduceSub, Nat.reduceAdd, Nat.reduceMul, Nat.reduceLT, Nat.reduceLeDiff, Nat.reduceEqDiff, Nat.reduceDiv, Nat.reduceMod, Int.reduceToNat, Int.reduceLE, Int.reduceLT, Int.reduceBEq, Int.reduceBNe, Int.reduceNeg, Int.reduceAdd, Int.reduceSub, Int.reduceMul, reduceCtorEq, g2, hk, hz] | simp -dsimp (disch := omega) only [wrap_i64])); repeat (with_reducible refine sideA ?_)))
         refine condT.split (fun g3 => ?_) (fun g3 => ?_)
         · have g3' : p10.2 = r.Week - 1 := by simpa using g3
           (repeat ((repeat1' (first | simp -implicitDefEqProofs -dsimp only [go_sem, Nat.reduceSub, Nat.reduceAdd, Nat.reduceMul, Nat.reduceLT, Nat.reduceLeDiff, Nat.reduceEqDiff, Nat.reduceDiv, Nat.reduceMod, Int.reduceToNat, Int.reduceLE, Int.reduceLT, Int.reduceBEq, Int.reduceBNe, Int.reduceNeg, Int.reduceAdd, Int.reduceSub, Int.reduceMul, reduceCtorEq, g3, hk] | simp -dsimp (disch := omega) only [wrap_i64])); repeat (with_reducible refine sideA ?_)))
           refine ⟨i + 1, hi', ?_, by omega⟩
           rw [hstep, hme (of_decide_eq_false g2) g3']
           simp only [tabH, outC, pairC, List.length_cons, List.length_nil, List.map_cons, List.map_nil, Nat.reduceAdd, Nat.zero_add]
           refine Weak.pick [0, 1, 2, 3, 4, 5, 6, 7, 8, 9, 10] (by decide) (fun j hj => by omega) ?_ ?_
           · simp [LeG, LeC, LeV, ren, pickF, posOf]
           · simp [pickH, pickB, pickF, posOf, ren]
         · have g3' : p10.2 ≠ r.Week - 1 := by simpa using g3
           (repeat ((repeat1' (first | simp -implicitDefEqProofs -dsimp only [go_sem, Nat.reduceSub, Nat.reduceAdd, Nat.reduceMul, Nat.reduceLT, Nat.reduceLeDiff, Nat.reduceEqDiff, Nat.reduceDiv, Nat.reduceMod, Int.reduceToNat, Int.reduceLE, Int.reduceLT, Int.reduceBEq, Int.reduceBNe, Int.reduceNeg, Int.reduceAdd, Int.reduceSub, Int.reduceMul, reduceCtorEq, g3, hk] | simp -dsimp (disch := omega) only [wrap_i64])); repeat (with_reducible refine sideA ?_)))
           refine ⟨i + 1, hi', ?_, by omega⟩
           rw [hstep, hnw (of_decide_eq_false g2) g3']
           simp only [tabH, outC, pairC, List.length_cons, List.length_nil, List.map_cons, List.map_nil, Nat.reduceAdd, Nat.zero_add]
           refine Weak.pick [0, 1, 2, 3, 4, 5, 6, 7, 8, 9, 10, 12] (by decide) (fun j hj => by omega) ?_ ?_
           · simp [LeG, LeC, LeV, ren, pickF, posOf]
           · simp [pickH, pickB, pickF, posOf, ren]
     · have hsk : r.Events ≤ lim → swS lim [p1, p2, p3, p4, p5, p6, p7, p8, p9, p10, p11] r = [p1, p2, p3, p4, p5, p6, p7, p8, p9, p10, p11] := fun h => by simp [swS, h]
       have hme : ¬ r.Events ≤ lim → p11.2 = r.Week - 1 → swS lim [p1, p2, p3, p4, p5, p6, p7, p8, p9, p10, p11] r = [p1, p2, p3, p4, p5, p6, p7, p8, p9, p10, (p11.1, r.Week)] := fun h h2 => by simp [swS, h, h2]
       have hnw : ¬ r.Events ≤ lim → p11.2 ≠ r.Week - 1 → swS lim [p1, p2, p3, p4, p5, p6, p7, p8, p9, p10, p11] r = [p1, p2, p3, p4, p5, p6, p7, p8, p9, p10, p11, (r.Week, r.Week)] := fun h h2 => by simp [swS, h, h2]
       have hk : IntKind.i64.wrap (((11 : Nat) : Int) - 1) = 10 := by rw [wrap_i64 (by omega) (by omega)]; rfl
       have hz : decide ((0 : Int) < ((11 : Nat) : Int)) = true := by decide
       simp only [tabH, outC, pairC, List.length_cons, List.length_nil, List.map_cons, List.map_nil, Nat.reduceAdd, Nat.zero_add]
       (repeat ((repeat1' (first | simp -implicitDefEqProofs -dsimp only [go_sem, Nat.reduceSub, Nat.reduceAdd, Nat.reduceMul, Nat.reduceLT, Nat.reduceLeDiff, Nat.reduceEqDiff, Nat.reduceDiv, Nat.reduceMod, Int.reduceToNat, Int.reduceLE, Int.reduceLT, Int.reduceBEq, Int.reduceBNe, Int.reduceNeg, Int.reduceAdd, Int.reduceSub, Int.reduceMul, reduceCtorEq, g1, hr0, WeekRow.cs, List.drop_succ_cons, List.drop_zero] | simp -dsimp (disch := omega) only [wrap_i64])); repeat (with_reducible refine sideA ?_)))
       refine condT.split (fun g2 => ?_) (fun g2 => ?_)
       · (repeat ((repeat1' (first | simp -implicitDefEqProofs -dsimp only [go_sem, Nat.reduceSub, Nat.reduceAdd, Nat.reduceMul, Nat.reduceLT, Nat.reduceLeDiff, Nat.reduceEqDiff, Nat.reduceDiv, Nat.reduceMod, Int.reduceToNat, Int.reduceLE, Int.reduceLT, Int.reduceBEq, Int.reduceBNe, Int.reduceNeg, Int.reduceAdd, Int.reduceSub, Int.reduceMul, reduceCtorEq, g2] | simp -dsimp (disch := omega) only [wrap_i64])); repeat (with_reducible refine sideA ?_)))
         refine ⟨i + 1, hi', ?_, by omega⟩
         rw [hstep, hsk (of_decide_eq_true g2)]
         simp only [tabH, outC, pairC, List.length_cons, List.length_nil, List.map_cons, List.map_nil, Nat.reduceAdd, Nat.zero_add]
         refine Weak.pick [0, 1, 2, 3, 4, 5, 6, 7, 8, 9, 10, 11] (by decide) (fun j hj => by omega) ?_ ?_
         · simp [LeG, LeC, LeV, ren, pickF, posOf]
         · simp [pickH, pickB, pickF, posOf, ren]
       · (repeat ((repeat1' (first | simp -implicitDefEqProofs -dsimp only [go_sem, Nat.reduceSub, Nat.reduceAdd, Nat.reduceMul, Nat.reduceLT, Nat.reduceLeDiff, Nat.reduceEqDiff, Nat.reduceDiv, Nat.reduceMod, Int.reduceToNat, Int.reduceLE, Int.reduceLT, Int.reduceBEq, Int.reduceBNe, Int.reduceNeg, Int.reduceAdd, Int.reduceSub, Int.reduceMul, reduceCtorEq, g2, hk, hz] | simp -dsimp (disch := omega) only [wrap_i64])); repeat (with_reducible refine sideA ?_)))
         refine condT.split (fun g3 => ?_) (fun g3 => ?_)
         · have g3' : p11.2 = r.Week - 1 := by simpa using g3
           (repeat ((repeat1' (first | simp -implicitDefEqProofs -dsimp only [go_sem, Nat.reduceSub, Nat.reduceAdd, Nat.reduceMul, Nat.reduceLT, Nat.reduceLeDiff, Nat.reduceEqDiff, Nat.reduceDiv, Nat.reduceMod, Int.reduceToNat, Int.reduceLE, Int.reduceLT, Int.reduceBEq, Int.reduceBNe, Int.reduceNeg, Int.reduceAdd, Int.reduceSub, Int.reduceMul, reduceCtorEq, g3, hk] | simp -dsimp (disch := omega) only [wrap_i64])); repeat (with_reducible refine sideA ?_)))
           refine ⟨i + 1, hi', ?_, by omega⟩
           rw [hstep, hme (of_decide_eq_false g2) g3']
           simp only [tabH, outC, pairC, List.length_cons, List.length_nil, List.map_cons, List.map_nil, Nat.reduceAdd, Nat.zero_add]
           refine Weak.pick [0, 1, 2, 3, 4, 5, 6, 7, 8, 9, 10, 11] (by decide) (fun j hj => by omega) ?_ ?_
           · simp [LeG, LeC, LeV, ren, pickF, posOf]
           · simp [pickH, pickB, pickF, posOf, ren]
         · have g3' : p11.2 ≠ r.Week - 1 := by simpa using g3
           (repeat ((repeat1' (first | simp -implicitDefEqProofs -dsimp only [go_sem, Nat.reduceSub, Nat.reduceAdd, Nat.reduceMul, Nat.reduceLT, Nat.reduceLeDiff, Nat.reduceEqDiff, Nat.reduceDiv, Nat.reduceMod, Int.reduceToNat, Int.reduceLE, Int.reduceLT, Int.reduceBEq, Int.reduceBNe, Int.reduceNeg, Int.reduceAdd, Int.reduceSub, Int.reduceMul, reduceCtorEq, g3, hk] | simp -dsimp (disch := omega) only [wrap_i64])); repeat (with_reducible refine sideA ?_)))
           refine ⟨i + 1, hi', ?_, by omega⟩
           rw [hstep, hnw (of_decide_eq_false g2) g3']
           simp only [tabH, outC, pairC, List.length_cons, List.length_nil, List.map_cons, List.map_nil, Nat.reduceAdd, Nat.zero_add]
           refine Weak.pick [0, 1, 2, 3, 4, 5, 6, 7, 8, 9, 10, 11, 13] (by decide) (fun j hj => by omega) ?_ ?_
           · simp [LeG, LeC, LeV, ren, pickF, posOf]
           · simp [pickH, pickB, pickF, posOf, ren]
     · have hsk : r.Events ≤ lim → swS lim [p1, p2, p3, p4, p5, p6, p7, p8, p9, p10, p11, p12] r = [p1, p2, p3, p4, p5, p6, p7, p8, p9, p10, p11, p12] := fun h => by simp [swS, h]
       have hme : ¬ r.Events ≤ lim → p12.2 = r.Week - 1 → swS lim [p1, p2, p3, p4, p5, p6, p7, p8, p9, p10, p11, p12] r = [p1, p2, p3, p4, p5, p6, p7, p8, p9, p10, p11, (p12.1, r.Week)] := fun h h2 => by simp [swS, h, h2]
       have hnw : ¬ r.Events ≤ lim → p12.2 ≠ r.Week - 1 → swS lim [p1, p2, p3, p4, p5, p6, p7, p8, p9, p10, p11, p12] r = [p1, p2, p3, p4, p5, p6, p7, p8, p9, p10, p11, p12, (r.Week, r.Week)] := fun h h2 => by simp [swS, h, h2]
       have hk : IntKind.i64.wrap (((12 : Nat) : Int) - 1) = 11 := by rw [wrap_i64 (by omega) (by omega)]; rfl
       have hz : decide ((0 : Int) < ((12 : Nat) : Int)) = true := by decide
       simp only [tabH, outC, pairC, List.length_cons, List.length_nil, List.map_cons, List.map_nil, Nat.reduceAdd, Nat.zero_add]
       (repeat ((repeat1' (first | simp -implicitDefEqProofs -dsimp only [go_sem, Nat.reduceSub, Nat.reduceAdd, Nat.reduceMul, Nat.reduceLT, Nat.reduceLeDiff, Nat.reduceEqDiff, Nat.reduceDiv, Nat.reduceMod, Int.reduceToNat, Int.reduceLE, Int.reduceLT, Int.reduceBEq, Int.reduceBNe, Int.reduceNeg, Int.reduceAdd, Int.reduceSub, Int.reduceMul, reduceCtorEq, g1, hr0, WeekRow.cs, List.drop_succ_cons, List.drop_zero] | simp -dsimp (disch := omega) only [wrap_i64])); repeat (with_reducible refine sideA ?_)))
       refine condT.split (fun g2 => ?_) (fun g2 => ?_)
       · (repeat ((repeat1' (first | simp -implicitDefEqProofs -dsimp only [go_sem, Nat.reduceSub, Nat.reduceAdd, Nat.reduceMul, Nat.reduceLT, Nat.reduceLeDiff, Nat.reduceEqDiff, Nat.reduceDiv, Nat.reduceMod, Int.reduceToNat, Int.reduceLE, Int.reduceLT, Int.reduceBEq, Int.reduceBNe, Int.reduceNeg, Int.reduceAdd, Int.reduceSub, Int.reduceMul, reduceCtorEq, g2] | simp -dsimp (disch := omega) only [wrap_i64])); repeat (with_reducible refine sideA ?_)))
         refine ⟨i + 1, hi', ?_, by omega⟩
         rw [hstep, hsk (of_decide_eq_true g2)]
         simp only [tabH, outC, pairC, List.length_cons, List.length_nil, List.map_cons, List.map_nil, Nat.reduceAdd, Nat.zero_add]
         refine Weak.pick [0, 1, 2, 3, 4, 5, 6, 7, 8, 9, 10, 11, 12] (by decide) (fun j hj => by omega) ?_ ?_
         · simp [LeG, LeC, LeV, ren, pickF, posOf]
         · simp [pickH, pickB, pickF, posOf, ren]
       · (repeat ((repeat1' (first | simp -implicitDefEqProofs -dsimp only [go_sem, Nat.reduceSub, Nat.reduceAdd, Nat.reduceMul, Nat.reduceLT, Nat.reduceLeDiff, Nat.reduceEqDiff, Nat.reduceDiv, Nat.reduceMod, Int.reduceToNat, Int.reduceLE, Int.reduceLT, Int.reduceBEq, Int.reduceBNe, Int.reduceNeg, Int.reduceAdd, Int.reduceSub, Int.reduceMul, reduceCtorEq, g2, hk, hz] | simp -dsimp (disch := omega) only [wrap_i64])); repeat (with_reducible refine sideA ?_)))
         refine condT.split (fun g3 => ?_) (fun g3 => ?_)
         · have g3' : p12.2 = r.Week - 1 := by simpa using g3
           (repeat ((repeat1' (first | simp -implicitDefEqProofs -dsimp only [go_sem, Nat.reduceSub, Nat.reduceAdd, Nat.reduceMul, Nat.reduceLT, Nat.reduceLeDiff, Nat.reduceEqDiff, Nat.reduceDiv, Nat.reduceMod, Int.reduceToNat, Int.reduceLE, Int.reduceLT, Int.reduceBEq, Int.reduceBNe, Int.reduceNeg, Int.reduceAdd, Int.reduceSub, Int.reduceMul, reduceCtorEq, g3, hk] | simp -dsimp (disch := omega) only [wrap_i64])); repeat (with_reducible refine sideA ?_)))
           refine ⟨i + 1, hi', ?_, by omega⟩
           rw [hstep, hme (of_decide_eq_false g2) g3']
           simp only [tabH, outC, pairC, List.length_cons, List.length_nil, List.map_cons, List.map_nil, Nat.reduceAdd, Nat.zero_add]
           refine Weak.pick [0, 1, 2, 3, 4, 5, 6, 7, 8, 9, 10, 11, 12] (by decide) (fun j hj => by omega) ?_ ?_
           · simp [LeG, LeC, LeV, ren, pickF, posOf]
           · simp [pickH, pickB, pickF, posOf, ren]
         · have g3' : p12.2 ≠ r.Week - 1 := by simpa using g3
           (repeat ((repeat1' (first | simp -implicitDefEqProofs -dsimp only [go_sem, Nat.reduceSub, Nat.reduceAdd, Nat.reduceMul, Nat.reduceLT, Nat.reduceLeDiff, Nat.reduceEqDiff, Nat.reduceDiv, Nat.reduceMod, Int.reduceToNat, Int.reduceLE, Int.reduceLT, Int.reduceBEq, Int.reduceBNe, Int.reduceNeg, Int.reduceAdd, Int.reduceSub, Int.reduceMul, reduceCtorEq, g3, hk] | simp -dsimp (disch := omega) only [wrap_i64])); repeat (with_reducible refine sideA ?_)))
           refine ⟨i + 1, hi', ?_, by omega⟩
           rw [hstep, hnw (of_decide_eq_false g2) g3']
           simp only [tabH, outC, pairC, List.length_cons, List.length_nil, List.map_cons, List.map_nil, Nat.reduceAdd, Nat.zero_add]
           refine Weak.pick [0, 1, 2, 3, 4, 5, 6, 7, 8, 9, 10, 11, 12, 14] (by decide) (fun j hj => by omega) ?_ ?_
           · simp [LeG, LeC, LeV, ren, pickF, posOf]
           · simp [pickH, pickB, pickF, posOf, ren]
     · exfalso; simp only [List.length_cons] at hPl; omega
   · have hi' : i = L.length := by simp at g1; omega
     subst hi'
     rw [List.take_length] at hPl ⊢
     generalize swarms lim L = Pq at hPl ⊢
     rcases Pq with _ | ⟨p1, _ | ⟨p2, _ | ⟨p3, _ | ⟨p4, _ | ⟨p5, _ | ⟨p6, _ | ⟨p7, _ | ⟨p8, _ | ⟨p9, _ | ⟨p10, _ | ⟨p11, _ | ⟨p12, _ | ⟨p13, Q⟩⟩⟩⟩⟩⟩⟩⟩⟩⟩⟩⟩⟩
     · simp only [tabH, outC, pairC, List.length_cons, List.length_nil, List.map_cons, List.map_nil, Nat.reduceAdd, Nat.zero_add]
       (repeat ((repeat1' (first | simp -implicitDefEqProofs -dsimp only [go_sem, Nat.reduceSub, Nat.reduceAdd, Nat.reduceMul, Nat.reduceLT, Nat.reduceLeDiff, Nat.reduceEqDiff, Nat.reduceDiv, Nat.reduceMod, Int.reduceToNat, Int.reduceLE, Int.reduceLT, Int.reduceBEq, Int.reduceBNe, Int.reduceNeg, Int.reduceAdd, Int.reduceSub, Int.reduceMul, reduceCtorEq, g1] | simp -dsimp (disch := omega) only [wrap_i64])); repeat (with_reducible refine sideA ?_)))
       refine WeakR.pick [] (by decide) (fun j hj => by omega) (.inl ?_) rfl
       simp [tabV, tabC, pairC, rows, ren, pickF, posOf, frzR]
     · simp only [tabH, outC, pairC, List.length_cons, List.length_nil, List.map_cons, List.map_nil, Nat.reduceAdd, Nat.zero_add]
       (repeat ((repeat1' (first | simp -implicitDefEqProofs -dsimp only [go_sem, Nat.reduceSub, Nat.reduceAdd, Nat.reduceMul, Nat.reduceLT, Nat.reduceLeDiff, Nat.reduceEqDiff, Nat.reduceDiv, Nat.reduceMod, Int.reduceToNat, Int.reduceLE, Int.reduceLT, Int.reduceBEq, Int.reduceBNe, Int.reduceNeg, Int.reduceAdd, Int.reduceSub, Int.reduceMul, reduceCtorEq, g1] | simp -dsimp (disch := omega) only [wrap_i64])); repeat (with_reducible refine sideA ?_)))
       refine WeakR.pick [] (by decide) (fun j hj => by omega) (.inl ?_) rfl
       simp [tabV, tabC, pairC, rows, ren, pickF, posOf, frzR]
     · simp only [tabH, outC, pairC, List.length_cons, List.length_nil, List.map_cons, List.map_nil, Nat.reduceAdd, Nat.zero_add]
       (repeat ((repeat1' (first | simp -implicitDefEqProofs -dsimp only [go_sem, Nat.reduceSub, Nat.reduceAdd, Nat.reduceMul, Nat.reduceLT, Nat.reduceLeDiff, Nat.reduceEqDiff, Nat.reduceDiv, Nat.reduceMod, Int.reduceToNat, Int.reduceLE, Int.reduceLT, Int.reduceBEq, Int.reduceBNe, Int.reduceNeg, Int.reduceAdd, Int.reduceSub, Int.reduceMul, reduceCtorEq, g1] | simp -dsimp (disch := omega) only [wrap_i64])); repeat (with_reducible refine sideA ?_)))
       refine WeakR.pick [] (by decide) (fun j hj => by omega) (.inl ?_) rfl
       simp [tabV, tabC, pairC, rows, ren, pickF, posOf, frzR]
     · simp only [tabH, outC, pairC, List.length_cons, List.length_nil, List.map_cons, List.map_nil, Nat.reduceAdd, Nat.zero_add]
       (repeat ((repeat1' (first | simp -implicitDefEqProofs -dsimp only [go_sem, Nat.reduceSub, Nat.reduceAdd, Nat.reduceMul, Nat.reduceLT, Nat.reduceLeDiff, Nat.reduceEqDiff, Nat.reduceDiv, Nat.reduceMod, Int.reduceToNat, Int.reduceLE, Int.reduceLT, Int.reduceBEq, Int.reduceBNe, Int.reduceNeg, Int.reduceAdd, Int.reduceSub, Int.reduceMul, reduceCtorEq, g1] | simp -dsimp (disch := omega) only [wrap_i64])); repeat (with_reducible refine sideA ?_)))
       refine WeakR.pick [] (by decide) (fun j hj => by omega) (.inl ?_) rfl
       simp [tabV, tabC, pairC, rows, ren, pickF, posOf, frzR]
     · simp only [tabH, outC, pairC, List.length_cons, List.length_nil, List.map_cons, List.map_nil, Nat.reduceAdd, Nat.zero_add]
       (repeat ((repeat1' (first | simp -implicitDefEqProofs -dsimp only [go_sem, Nat.reduceSub, Nat.reduceAdd, Nat.reduceMul, Nat.reduceLT, Nat.reduceLeDiff, Nat.reduceEqDiff, Nat.reduceDiv, Nat.reduceMod, Int.reduceToNat, Int.reduceLE, Int.reduceLT, Int.reduceBEq, Int.reduceBNe, Int.reduceNeg, Int.reduceAdd, Int.reduceSub, Int.reduceMul, reduceCtorEq, g1] | simp -dsimp (disch := omega) only [wrap_i64])); repeat (with_reducible refine sideA ?_)))
       refine WeakR.pick [] (by decide) (fun j hj => by omega) (.inl ?_) rfl
       simp [tabV, tabC, pairC, rows, ren, pickF, posOf, frzR]
     · simp only [tabH, outC, pairC, List.length_cons, List.length_nil, List.map_cons, List.map_nil, Nat.reduceAdd, Nat.zero_add]
       (repeat ((repeat1' (first | simp -implicitDefEqProofs -dsimp only [go_sem, Nat.reduceSub, Nat.reduceAdd, Nat.reduceMul, Nat.reduceLT, Nat.reduceLeDiff, Nat.reduceEqDiff, Nat.reduceDiv, Nat.reduceMod, Int.reduceToNat, Int.reduceLE, Int.reduceLT, Int.reduceBEq, Int.reduceBNe, Int.reduceNeg, Int.reduceAdd, Int.reduceSub, Int.reduceMul, reduceCtorEq, g1] | simp -dsimp (disch := omega) only [wrap_i64])); repeat (with_reducible refine sideA ?_)))
       refine WeakR.pick [] (by decide) (fun j hj => by omega) (.inl ?_) rfl
       simp [tabV, tabC, pairC, rows, ren, pickF, posOf, frzR]
     · simp only [tabH, outC, pairC, List.length_cons, List.length_nil, List.map_cons, List.map_nil, Nat.reduceAdd, Nat.zero_add]
       (repeat ((repeat1' (first | simp -implicitDefEqProofs -dsimp only [go_sem, Nat.reduceSub, Nat.reduceAdd, Nat.reduceMul, Nat.reduceLT, Nat.reduceLeDiff, Nat.reduceEqDiff, Nat.reduceDiv, Nat.reduceMod, Int.reduceToNat, Int.reduceLE, Int.reduceLT, Int.reduceBEq, Int.reduceBNe, Int.reduceNeg, Int.reduceAdd, Int.reduceSub, Int.reduceMul, reduceCtorEq, g1] | simp -dsimp (disch := omega) only [wrap_i64])); repeat (with_reducible refine sideA ?_)))
       refine WeakR.pick [] (by decide) (fun j hj => by omega) (.inl ?_) rfl
       simp [tabV, tabC, pairC, rows, ren, pickF, posOf, frzR]
     · simp only [tabH, outC, pairC, List.length_cons, List.length_nil, List.map_cons, List.map_nil, Nat.reduceAdd, Nat.zero_add]
       (repeat ((repeat1' (first | simp -implicitDefEqProofs -dsimp only [go_sem, Nat.reduceSub, Nat.reduceAdd, Nat.reduceMul, Nat.reduceLT, Nat.reduceLeDiff, Nat.reduceEqDiff, Nat.reduceDiv, Nat.reduceMod, Int.reduceToNat, Int.reduceLE, Int.reduceLT, Int.reduceBEq, Int.reduceBNe, Int.reduceNeg, Int.reduceAdd, Int.reduceSub, Int.reduceMul, reduceCtorEq, g1] | simp -dsimp (disch := omega) only [wrap_i64])); repeat (with_reducible refine sideA ?_)))
       refine WeakR.pick [] (by decide) (fun j hj => by omega) (.inl ?_) rfl
       simp [tabV, tabC, pairC, rows, ren, pickF, posOf, frzR]
     · simp only [tabH, outC, pairC, List.length_cons, List.length_nil, List.map_cons, List.map_nil, Nat.reduceAdd, Nat.zero_add]
       (repeat ((repeat1' (first | simp -implicitDefEqProofs -dsimp only [go_sem, Nat.reduceSub, Nat.reduceAdd, Nat.reduceMul, Nat.reduceLT, Nat.reduceLeDiff, Nat.reduceEqDiff, Nat.reduceDiv, Nat.reduceMod, Int.reduceToNat, Int.reduceLE, Int.reduceLT, Int.reduceBEq, Int.reduceBNe, Int.reduceNeg, Int.reduceAdd, Int.reduceSub, Int.reduceMul, reduceCtorEq, g1] | simp -dsimp (disch := omega) only [wrap_i64])); repeat (with_reducible refine sideA ?_)))
       refine WeakR.pick [] (by decide) (fun j hj => by omega) (.inl ?_) rfl
       simp [tabV, tabC, pairC, rows, ren, pickF, posOf, frzR]
     · simp only [tabH, outC, pairC, List.length_cons, List.length_nil, List.map_cons, List.map_nil, Nat.reduceAdd, Nat.zero_add]
       (repeat ((repeat1' (first | simp -implicitDefEqProofs -dsimp only [go_sem, Nat.reduceSub, Nat.reduceAdd, Nat.reduceMul, Nat.reduceLT, Nat.reduceLeDiff, Nat.reduceEqDiff, Nat.reduceDiv, Nat.reduceMod, Int.reduceToNat, Int.reduceLE, Int.reduceLT, Int.reduceBEq, Int.reduceBNe, Int.reduceNeg, Int.reduceAdd, Int.reduceSub, Int.reduceMul, reduceCtorEq, g1] | simp -dsimp (disch := omega) only [wrap_i64])); repeat (with_reducible refine sideA ?_)))
       refine WeakR.pick [] (by decide) (fun j hj => by omega) (.inl ?_) rfl
       simp [tabV, tabC, pairC, rows, ren, pickF, posOf, frzR]
     · simp only [tabH, outC, pairC, List.length_cons, List.length_nil, List.map_cons, List.map_nil, Nat.reduceAdd, Nat.zero_add]
       (repeat ((repeat1' (first | simp -implicitDefEqProofs -dsimp only [go_sem, Nat.reduceSub, Nat.reduceAdd, Nat.reduceMul, Nat.reduceLT, Nat.reduceLeDiff, Nat.reduceEqDiff, Nat.reduceDiv, Nat.reduceMod, Int.reduceToNat, Int.reduceLE, Int.reduceLT, Int.reduceBEq, Int.reduceBNe, Int.reduceNeg, Int.reduceAdd, Int.reduceSub, Int.reduceMul, reduceCtorEq, g1] | simp -dsimp (disch := omega) only [wrap_i64])); repeat (with_reducible refine sideA ?_)))
       refine WeakR.pick [] (by decide) (fun j hj => by omega) (.inl ?_) rfl
       simp [tabV, tabC, pairC, rows, ren, pickF, posOf, frzR]
     · simp only [tabH, outC, pairC, List.length_cons, List.length_nil, List.map_cons, List.map_nil, Nat.reduceAdd, Nat.zero_add]
       (repeat ((repeat1' (first | simp -implicitDefEqProofs -dsimp only [go_sem, Nat.reduceSub, Nat.reduceAdd, Nat.reduceMul, Nat.reduceLT, Nat.reduceLeDiff, Nat.reduceEqDiff, Nat.reduceDiv, Nat.reduceMod, Int.reduceToNat, Int.reduceLE, Int.reduceLT, Int.reduceBEq, Int.reduceBNe, Int.reduceNeg, Int.reduceAdd, Int.reduceSub, Int.reduceMul, reduceCtorEq, g1] | simp -dsimp (disch := omega) only [wrap_i64])); repeat (with_reducible refine sideA ?_)))
       refine WeakR.pick [] (by decide) (fun j hj => by omega) (.inl ?_) rfl
       simp [tabV, tabC, pairC, rows, ren, pickF, posOf, frzR]
     · simp only [tabH, outC, pairC, List.length_cons, List.length_nil, List.map_cons, List.map_nil, Nat.reduceAdd, Nat.zero_add]
       (repeat ((repeat1' (first | simp -implicitDefEqProofs -dsimp only [go_sem, Nat.reduceSub, Nat.reduceAdd, Nat.reduceMul, Nat.reduceLT, Nat.reduceLeDiff, Nat.reduceEqDiff, Nat.reduceDiv, Nat.reduceMod, Int.reduceToNat, Int.reduceLE, Int.reduceLT, Int.reduceBEq, Int.reduceBNe, Int.reduceNeg, Int.reduceAdd, Int.reduceSub, Int.reduceMul, reduceCtorEq, g1] | simp -dsimp (disch := omega) only [wrap_i64])); repeat (with_reducible refine sideA ?_)))
       refine WeakR.pick [] (by decide) (fun j hj => by omega) (.inl ?_) rfl
       simp [tabV, tabC, pairC, rows, ren, pickF, posOf, frzR]
     · exfalso; simp only [List.length_cons] at hPl; omega
theorem sSwarmsF (L : List WeekRow) (lim : Int) (hl : L.length ≤ 1048576) : Ctr Try.prog 6 [WeekRow.sl L, .int .i64 lim] [] (.tup [tabV (swR lim L), .bool (swB lim L)]) [] := by
 cases hb : swB lim L with
 | false =>
   have e : swR lim L = [] := by simp [swR, hb]
   rw [e]
   refine Ctr.intro Try.mixed Try.func6 rfl Try.okF6 ?_
   simp -implicitDefEqProofs -dsimp only [go_sem, Nat.reduceSub, Nat.reduceAdd, Nat.reduceMul, Nat.reduceLT, Nat.reduceLeDiff, Nat.reduceEqDiff, Nat.reduceDiv, Nat.reduceMod, Int.reduceToNat, Int.reduceLE, Int.reduceLT, Int.reduceBEq, Int.reduceBNe, Int.reduceNeg, Int.reduceAdd, Int.reduceSub, Int.reduceMul, reduceCtorEq, Try.ntmps6, Try.results6]
   (repeat ((repeat1' (first | simp -implicitDefEqProofs -dsimp only [go_sem, Nat.reduceSub, Nat.reduceAdd, Nat.reduceMul, Nat.reduceLT, Nat.reduceLeDiff, Nat.reduceEqDiff, Nat.reduceDiv, Nat.reduceMod, Int.reduceToNat, Int.reduceLE, Int.reduceLT, Int.reduceBEq, Int.reduceBNe, Int.reduceNeg, Int.reduceAdd, Int.reduceSub, Int.reduceMul, reduceCtorEq] | simp -dsimp (disch := omega) only [wrap_i64])); repeat (with_reducible refine sideA ?_)))
   (first | refine callT.at (l26Good_ok L (by omega)) ⟨leA, trivial⟩ ?_ | refine callS.at (l26Good_ok L (by omega)) ⟨leA, trivial⟩ ?_)
   (repeat ((repeat1' (first | simp -implicitDefEqProofs -dsimp only [go_sem, Nat.reduceSub, Nat.reduceAdd, Nat.reduceMul, Nat.reduceLT, Nat.reduceLeDiff, Nat.reduceEqDiff, Nat.reduceDiv, Nat.reduceMod, Int.reduceToNat, Int.reduceLE, Int.reduceLT, Int.reduceBEq, Int.reduceBNe, Int.reduceNeg, Int.reduceAdd, Int.reduceSub, Int.reduceMul, reduceCtorEq] | simp -dsimp (disch := omega) only [wrap_i64])); repeat (with_reducible refine sideA ?_)))
   cases hw : wrsB L with
   | false =>
     (repeat ((repeat1' (first | simp -implicitDefEqProofs -dsimp only [go_sem, Nat.reduceSub, Nat.reduceAdd, Nat.reduceMul, Nat.reduceLT, Nat.reduceLeDiff, Nat.reduceEqDiff, Nat.reduceDiv, Nat.reduceMod, Int.reduceToNat, Int.reduceLE, Int.reduceLT, Int.reduceBEq, Int.reduceBNe, Int.reduceNeg, Int.reduceAdd, Int.reduceSub, Int.reduceMul, reduceCtorEq, hw] | simp -dsimp (disch := omega) only [wrap_i64])); repeat (with_reducible refine sideA ?_)))
     refine WeakR.pick [] (by decide) (fun j hj => by omega) (.inl ?_) rfl
     simp [tabV, tabC, rows, ren, pickF, posOf, frzR]
   | true =>
     have hi : inB' lim 0 9999 = false := by rw [swB, hw, Bool.true_and] at hb; exact hb
     (repeat ((repeat1' (first | simp -implicitDefEqProofs -dsimp only [go_sem, Nat.reduceSub, Nat.reduceAdd, Nat.reduceMul, Nat.reduceLT, Nat.reduceLeDiff, Nat.reduceEqDiff, Nat.reduceDiv, Nat.reduceMod, Int.reduceToNat, Int.reduceLE, Int.reduceLT, Int.reduceBEq, Int.reduceBNe, Int.reduceNeg, Int.reduceAdd, Int.reduceSub, Int.reduceMul, reduceCtorEq, hw] | simp -dsimp (disch := omega) only [wrap_i64])); repeat (with_reducible refine sideA ?_)))
     (first | refine callT.at (l1In_ok lim 0 9999) ⟨leA, leA, leA, trivial⟩ ?_ | refine callS.at (l1In_ok lim 0 9999) ⟨leA, leA, leA, trivial⟩ ?_)
     (repeat ((repeat1' (first | simp -implicitDefEqProofs -dsimp only [go_sem, Nat.reduceSub, Nat.reduceAdd, Nat.reduceMul, Nat.reduceLT, Nat.reduceLeDiff, Nat.reduceEqDiff, Nat.reduceDiv, Nat.reduceMod, Int.reduceToNat, Int.reduceLE, Int.reduceLT, Int.reduceBEq, Int.reduceBNe, Int.reduceNeg, Int.reduceAdd, Int.reduceSub, Int.reduceMul, reduceCtorEq, hi] | simp -dsimp (disch := omega) only [wrap_i64])); repeat (with_reducible refine sideA ?_)))
     refine WeakR.pick [] (by decide) (fun j hj => by omega) (.inl ?_) rfl
     simp [tabV, tabC, rows, ren, pickF, posOf, frzR]
 | true =>
   have hw : wrsB L = true := by simp [swB] at hb; exact hb.1
   have hin : inB' lim 0 9999 = true := by simp [swB] at hb; exact hb.2
   have e : swR lim L = swarms lim L := by simp [swR, hb]
   obtain ⟨hv, hlen⟩ := wrsB_all hw
   rw [e]
   refine Ctr.intro Try.mixed Try.func6 rfl Try.okF6 ?_
   simp -implicitDefEqProofs -dsimp only [go_sem, Nat.reduceSub, Nat.reduceAdd, Nat.reduceMul, Nat.reduceLT, Nat.reduceLeDiff, Nat.reduceEqDiff, Nat.reduceDiv, Nat.reduceMod, Int.reduceToNat, Int.reduceLE, Int.reduceLT, Int.reduceBEq, Int.reduceBNe, Int.reduceNeg, Int.reduceAdd, Int.reduceSub, Int.reduceMul, reduceCtorEq, Try.ntmps6, Try.results6]
   (repeat ((repeat1' (first | simp -implicitDefEqProofs -dsimp only [go_sem, Nat.reduceSub, Nat.reduceAdd, Nat.reduceMul, Nat.reduceLT, Nat.reduceLeDiff, Nat.reduceEqDiff, Nat.reduceDiv, Nat.reduceMod, Int.reduceToNat, Int.reduceLE, Int.reduceLT, Int.reduceBEq, Int.reduceBNe, Int.reduceNeg, Int.reduceAdd, Int.reduceSub, Int.reduceMul, reduceCtorEq] | simp -dsimp (disch := omega) only [wrap_i64])); repeat (with_reducible refine sideA ?_)))
   (first | refine callT.at (l26Good_ok L (by omega)) ⟨leA, trivial⟩ ?_ | refine callS.at (l26Good_ok L (by omega)) ⟨leA, trivial⟩ ?_)
   (repeat ((repeat1' (first | simp -implicitDefEqProofs -dsimp only [go_sem, Nat.reduceSub, Nat.reduceAdd, Nat.reduceMul, Nat.reduceLT, Nat.reduceLeDiff, Nat.reduceEqDiff, Nat.reduceDiv, Nat.reduceMod, Int.reduceToNat, Int.reduceLE, Int.reduceLT, Int.reduceBEq, Int.reduceBNe, Int.reduceNeg, Int.reduceAdd, Int.reduceSub, Int.reduceMul, reduceCtorEq, hw] | simp -dsimp (disch := omega) only [wrap_i64])); repeat (with_reducible refine sideA ?_)))
   (first | refine callT.at (l1In_ok lim 0 9999) ⟨leA, leA, leA, trivial⟩ ?_ | refine callS.at (l1In_ok lim 0 9999) ⟨leA, leA, leA, trivial⟩ ?_)
   (repeat ((repeat1' (first | simp -implicitDefEqProofs -dsimp only [go_sem, Nat.reduceSub, Nat.reduceAdd, Nat.reduceMul, Nat.reduceLT, Nat.reduceLeDiff, Nat.reduceEqDiff, Nat.reduceDiv, Nat.reduceMod, Int.reduceToNat, Int.reduceLE, Int.reduceLT, Int.reduceBEq, Int.reduceBNe, Int.reduceNeg, Int.reduceAdd, Int.reduceSub, Int.reduceMul, reduceCtorEq, hin] | simp -dsimp (disch := omega) only [wrap_i64])); repeat (with_reducible refine sideA ?_)))
   refine LoopT.intro (fun i : Nat => i ≤ L.length) (fun i => ⟨[WeekRow.sl L, .int .i64 lim, .undef, .undef, .undef, .undef, .osl 0 0 (swarms lim (L.take i)).length 1, .int .i64 i, .undef, .undef, .undef, .undef, .undef, .undef, .undef, .undef, .undef, .undef, .undef, .undef, .undef, .undef, .undef, .undef, .undef, .undef, .undef, .undef, .undef, .undef, .undef, .undef, .undef, .undef, .undef, .undef, .undef, .undef, .undef, .undef, .undef, .undef, .undef, .undef, .undef, .undef, .undef, .undef, .undef, .undef, .undef, .undef, .undef, .undef, .undef, .undef, .undef, .undef, .undef, .undef, .undef, .undef, .undef, .undef, .undef, .undef, .undef, .undef, .undef, .undef, .undef, .undef, .undef, .undef], tabH (swarms lim (L.take i)), 0⟩) (fun i => L.length - i) 0 (Nat.zero_le _) ?_ (fun i hi => ?_)
   · refine Weak.cut (1) (by simp) (by simp) ?_ ?_
     · simp [LeC, LeV, ren, cutF, swarms]
     · simp [cutH, cutB, swarms, tabH, outC]
   have hPl := swarms_len lim L i hi
   have hstep := fun hi' => swarms_succ (lim := lim) (L := L) (i := i) hi'
   simp -implicitDefEqProofs -dsimp only [go_sem, Nat.reduceSub, Nat.reduceAdd, Nat.reduceMul, Nat.reduceLT, Nat.reduceLeDiff, Nat.reduceEqDiff, Nat.reduceDiv, Nat.reduceMod, Int.reduceToNat, Int.reduceLE, Int.reduceLT, Int.reduceBEq, Int.reduceBNe, Int.reduceNeg, Int.reduceAdd, Int.reduceSub, Int.reduceMul, reduceCtorEq]
   refine condT.split (fun g1 => ?_) (fun g1 => ?_)
   · have hi' : i < L.length := by simpa using g1
     have hr0 := rows_at WeekRow.csl hi'
     have hvr := wrB_iff.1 (hv _ (List.getElem_mem hi'))
     replace hstep := hstep hi'
     generalize swarms lim (L.take i) = Pq at hPl hstep ⊢
     generalize L[i] = r at hr0 hvr hstep
     rcases Pq with _ | ⟨p1, _ | ⟨p2, _ | ⟨p3, _ | ⟨p4, _ | ⟨p5, _ | ⟨p6, _ | ⟨p7, _ | ⟨p8, _ | ⟨p9, _ | ⟨p10, _ | ⟨p11, _ | ⟨p12, _ | ⟨p13, Q⟩⟩⟩⟩⟩⟩⟩⟩⟩⟩⟩⟩⟩
     · have hsk : r.Events ≤ lim → swS lim [] r = [] := fun h => by simp [swS, h]
       have hnw : ¬ r.Events ≤ lim → swS lim [] r = [(r.Week, r.Week)] := fun h => by simp [swS, h]
       have hz : decide ((0 : Int) < ((0 : Nat) : Int)) = false := by decide
       simp only [tabH, outC, pairC, List.length_cons, List.length_nil, List.map_cons, List.map_nil, Nat.reduceAdd, Nat.zero_add]
       (repeat ((repeat1' (first | simp -implicitDefEqProofs -dsimp only [go_sem, Nat.reduceSub, Nat.reduceAdd, Nat.reduceMul, Nat.reduceLT, Nat.reduceLeDiff, Nat.reduceEqDiff, Nat.reduceDiv, Nat.reduceMod, Int.reduceToNat, Int.reduceLE, Int.reduceLT, Int.reduceBEq, Int.reduceBNe, Int.reduceNeg, Int.reduceAdd, Int.reduceSub, Int.reduceMul, reduceCtorEq, g1, hr0, WeekRow.cs, List.drop_succ_cons, List.drop_zero] | simp -dsimp (disch := omega) only [wrap_i64])); repeat (with_reducible refine sideA ?_)))
       refine condT.split (fun g2 => ?_) (fun g2 => ?_)
       · (repeat ((repeat1' (first | simp -implicitDefEqProofs -dsimp only [go_sem, Nat.reduceSub, Nat.reduceAdd, Nat.reduceMul, Nat.reduceLT, Nat.reduceLeDiff, Nat.reduceEqDiff, Nat.reduceDiv, Nat.reduceMod, Int.reduceToNat, Int.reduceLE, Int.reduceLT, Int.reduceBEq, Int.reduceBNe, Int.reduceNeg, Int.reduceAdd, Int.reduceSub, Int.reduceMul, reduceCtorEq, g2] | simp -dsimp (disch := omega) only [wrap_i64])); repeat (with_reducible refine sideA ?_)))
         refine ⟨i + 1, hi', ?_, by omega⟩
         rw [hstep, hsk (of_decide_eq_true g2)]
         simp only [tabH, outC, pairC, List.length_cons, List.length_nil, List.map_cons, List.map_nil, Nat.reduceAdd, Nat.zero_add]
         refine Weak.pick [0] (by decide) (fun j hj => by omega) ?_ ?_
         · simp [LeG, LeC, LeV, ren, pickF, posOf]
         · simp [pickH, pickB, pickF, posOf, ren]
       · (repeat ((repeat1' (first | simp -implicitDefEqProofs -dsimp only [go_sem, Nat.reduceSub, Nat.reduceAdd, Nat.reduceMul, Nat.reduceLT, Nat.reduceLeDiff, Nat.reduceEqDiff, Nat.reduceDiv, Nat.reduceMod, Int.reduceToNat, Int.reduceLE, Int.reduceLT, Int.reduceBEq, Int.reduceBNe, Int.reduceNeg, Int.reduceAdd, Int.reduceSub, Int.reduceMul, reduceCtorEq, g2, hz] | simp -dsimp (disch := omega) only [wrap_i64])); repeat (with_reducible refine sideA ?_)))
         refine ⟨i + 1, hi', ?_, by omega⟩
         rw [hstep, hnw (of_decide_eq_false g2)]
         simp only [tabH, outC, pairC, List.length_cons, List.length_nil, List.map_cons, List.map_nil, Nat.reduceAdd, Nat.zero_add]
         refine Weak.pick [0, 1] (by decide) (fun j hj => by omega) ?_ ?_
         · simp [LeG, LeC, LeV, ren, pickF, posOf]
         · simp [pickH, pickB, pickF, posOf, ren]
     · have hsk : r.Events ≤ lim → swS lim [p1] r = [p1] := fun h => by simp [swS, h]
       have hme : ¬ r.Events ≤ lim → p1.2 = r.Week - 1 → swS lim [p1] r = [(p1.1, r.Week)] := fun h h2 => by simp [swS, h, h2]
       have hnw : ¬ r.Events ≤ lim → p1.2 ≠ r.Week - 1 → swS lim [p1] r = [p1, (r.Week, r.Week)] := fun h h2 => by simp [swS, h, h2]
       have hk : IntKind.i64.wrap (((1 : Nat) : Int) - 1) = 0 := by rw [wrap_i64 (by omega) (by omega)]; rfl
       have hz : decide ((0 : Int) < ((1 : Nat) : Int)) = true := by decide
       simp only [tabH, outC, pairC, List.length_cons, List.length_nil, List.map_cons, List.map_nil, Nat.reduceAdd, Nat.zero_add]
       (repeat ((repeat1' (first | simp -implicitDefEqProofs -dsimp only [go_sem, Nat.reduceSub, Nat.reduceAdd, Nat.reduceMul, Nat.reduceLT, Nat.reduceLeDiff, Nat.reduceEqDiff, Nat.reduceDiv, Nat.reduceMod, Int.reduceToNat, Int.reduceLE, Int.reduceLT, Int.reduceBEq, Int.reduceBNe, Int.reduceNeg, Int.reduceAdd, Int.reduceSub, Int.reduceMul, reduceCtorEq, g1, hr0, WeekRow.cs, List.drop_succ_cons, List.drop_zero] | simp -dsimp (disch := omega) only [wrap_i64])); repeat (with_reducible refine sideA ?_)))
       refine condT.split (fun g2 => ?_) (fun g2 => ?_)
       · (repeat ((repeat1' (first | simp -implicitDefEqProofs -dsimp only [go_sem, Nat.reduceSub, Nat.reduceAdd, Nat.reduceMul, Nat.reduceLT, Nat.reduceLeDiff, Nat.reduceEqDiff, Nat.reduceDiv, Nat.reduceMod, Int.reduceToNat, Int.reduceLE, Int.reduceLT, Int.reduceBEq, Int.reduceBNe, Int.reduceNeg, Int.reduceAdd, Int.reduceSub, Int.reduceMul, reduceCtorEq, g2] | simp -dsimp (disch := omega) only [wrap_i64])); repeat (with_reducible refine sideA ?_)))
         refine ⟨i + 1, hi', ?_, by omega⟩
         rw [hstep, hsk (of_decide_eq_true g2)]
         simp only [tabH, outC, pairC, List.length_cons, List.length_nil, List.map_cons, List.map_nil, Nat.reduceAdd, Nat.zero_add]
         refine Weak.pick [0, 1] (by decide) (fun j hj => by omega) ?_ ?_
         · simp [LeG, LeC, LeV, ren, pickF, posOf]
         · simp [pickH, pickB, pickF, posOf, ren]
       · (repeat ((repeat1' (first | simp -implicitDefEqProofs -dsimp only [go_sem, Nat.reduceSub, Nat.reduceAdd, Nat.reduceMul, Nat.reduceLT, Nat.reduceLeDiff, Nat.reduceEqDiff, Nat.reduceDiv, Nat.reduceMod, Int.reduceToNat, Int.reduceLE, Int.reduceLT, Int.reduceBEq, Int.reduceBNe, Int.reduceNeg, Int.reduceAdd, Int.reduceSub, Int.reduceMul, reduceCtorEq, g2, hk, hz] | simp -dsimp (disch := omega) only [wrap_i64])); repeat (with_reducible refine sideA ?_)))
         refine condT.split (fun g3 => ?_) (fun g3 => ?_)
         · have g3' : p1.2 = r.Week - 1 := by simpa using g3
           (repeat ((repeat1' (first | simp -implicitDefEqProofs -dsimp only [go_sem, Nat.reduceSub, Nat.reduceAdd, Nat.reduceMul, Nat.reduceLT, Nat.reduceLeDiff, Nat.reduceEqDiff, Nat.reduceDiv, Nat.reduceMod, Int.reduceToNat, Int.reduceLE, Int.reduceLT, Int.reduceBEq, Int.reduceBNe, Int.reduceNeg, Int.reduceAdd, Int.reduceSub, Int.reduceMul, reduceCtorEq, g3, hk] | simp -dsimp (disch := omega) only [wrap_i64])); repeat (with_reducible refine sideA ?_)))
           refine ⟨i + 1, hi', ?_, by omega⟩
           rw [hstep, hme (of_decide_eq_false g2) g3']
           simp only [tabH, outC, pairC, List.length_cons, List.length_nil, List.map_cons, List.map_nil, Nat.reduceAdd, Nat.zero_add]
           refine Weak.pick [0, 2] (by decide) (fun j hj => by omega) ?_ ?_
           · simp [LeG, LeC, LeV, ren, pickF, posOf]
           · simp [pickH, pickB, pickF, posOf, ren]
         · have g3' : p1.2 ≠ r.Week - 1 := by simpa using g3
           (repeat ((repeat1' (first | simp -implicitDefEqProofs -dsimp only [go_sem, Nat.reduceSub, Nat.reduceAdd, Nat.reduceMul, Nat.reduceLT, Nat.reduceLeDiff, Nat.reduceEqDiff, Nat.reduceDiv, Nat.reduceMod, Int.reduceToNat, Int.reduceLE, Int.reduceLT, Int.reduceBEq, Int.reduceBNe, Int.reduceNeg, Int.reduceAdd, Int.reduceSub, Int.reduceMul, reduceCtorEq, g3, hk] | simp -dsimp (disch := omega) only [wrap_i64])); repeat (with_reducible refine sideA ?_)))
           refine ⟨i + 1, hi', ?_, by omega⟩
           rw [hstep, hnw (of_decide_eq_false g2) g3']
           simp only [tabH, outC, pairC, List.length_cons, List.length_nil, List.map_cons, List.map_nil, Nat.reduceAdd, Nat.zero_add]
           refine Weak.pick [0, 1, 2] (by decide) (fun j hj => by omega) ?_ ?_
           · simp [LeG, LeC, LeV, ren, pickF, posOf]
           · simp [pickH, pickB, pickF, posOf, ren]
     · have hsk : r.Events ≤ lim → swS lim [p1, p2] r = [p1, p2] := fun h => by simp [swS, h]
       have hme : ¬ r.Events ≤ lim → p2.2 = r.Week - 1 → swS lim [p1, p2] r = [p1, (p2.1, r.Week)] := fun h h2 => by simp [swS, h, h2]
       have hnw : ¬ r.Events ≤ lim → p2.2 ≠ r.Week - 1 → swS lim [p1, p2] r = [p1, p2, (r.Week, r.Week)] := fun h h2 => by simp [swS, h, h2]
       have hk : IntKind.i64.wrap (((2 : Nat) : Int) - 1) = 1 := by rw [wrap_i64 (by omega) (by omega)]; rfl
       have hz : decide ((0 : Int) < ((2 : Nat) : Int)) = true := by decide
       simp only [tabH, outC, pairC, List.length_cons, List.length_nil, List.map_cons, List.map_nil, Nat.reduceAdd, Nat.zero_add]
       (repeat ((repeat1' (first | simp -implicitDefEqProofs -dsimp only [go_sem, Nat.reduceSub, Nat.reduceAdd, Nat.reduceMul, Nat.reduceLT, Nat.reduceLeDiff, Nat.reduceEqDiff, Nat.reduceDiv, Nat.reduceMod, Int.reduceToNat, Int.reduceLE, Int.reduceLT, Int.reduceBEq, Int.reduceBNe, Int.reduceNeg, Int.reduceAdd, Int.reduceSub, Int.reduceMul, reduceCtorEq, g1, hr0, WeekRow.cs, List.drop_succ_cons, List.drop_zero] | simp -dsimp (disch := omega) only [wrap_i64])); repeat (with_reducible refine sideA ?_)))
       refine condT.split (fun g2 => ?_) (fun g2 => ?_)
       · (repeat ((repeat1' (first | simp -implicitDefEqProofs -dsimp only [go_sem, Nat.reduceSub, Nat.reduceAdd, Nat.reduceMul, Nat.reduceLT, Nat.reduceLeDiff, Nat.reduceEqDiff, Nat.reduceDiv, Nat.reduceMod, Int.reduceToNat, Int.reduceLE, Int.reduceLT, Int.reduceBEq, Int.reduceBNe, Int.reduceNeg, Int.reduceAdd, Int.reduceSub, Int.reduceMul, reduceCtorEq, g2] | simp -dsimp (disch := omega) only [wrap_i64])); repeat (with_reducible refine sideA ?_)))
         refine ⟨i + 1, hi', ?_, by omega⟩
         rw [hstep, hsk (of_decide_eq_true g2)]
         simp only [tabH, outC, pairC, List.length_cons, List.length_nil, List.map_cons, List.map_nil, Nat.reduceAdd, Nat.zero_add]
         refine Weak.pick [0, 1, 2] (by decide) (fun j hj => by omega) ?_ ?_
         · simp [LeG, LeC, LeV, ren, pickF, posOf]
         · simp [pickH, pickB, pickF, posOf, ren]
       · (repeat ((repeat1' (first | simp -implicitDefEqProofs -dsimp only [go_sem, Nat.reduceSub, Nat.reduceAdd, Nat.reduceMul, Nat.reduceLT, Nat.reduceLeDiff, Nat.reduceEqDiff, Nat.reduceDiv, Nat.reduceMod, Int.reduceToNat, Int.reduceLE, Int.reduceLT, Int.reduceBEq, Int.reduceBNe, Int.reduceNeg, Int.reduceAdd, Int.reduceSub, Int.reduceMul, reduceCtorEq, g2, hk, hz] | simp -dsimp (disch := omega) only [wrap_i64])); repeat (with_reducible refine sideA ?_)))
         refine condT.split (fun g3 => ?_) (fun g3 => ?_)
         · have g3' : p2.2 = r.Week - 1 := by simpa using g3
           (repeat ((repeat1' (first | simp -implicitDefEqProofs -dsimp only [go_sem, Nat.reduceSub, Nat.reduceAdd, Nat.reduceMul, Nat.reduceLT, Nat.reduceLeDiff, Nat.reduceEqDiff, Nat.reduceDiv, Nat.reduceMod, Int.reduceToNat, Int.reduceLE, Int.reduceLT, Int.reduceBEq, Int.reduceBNe, Int.reduceNeg, Int.reduceAdd, Int.reduceSub, Int.reduceMul, reduceCtorEq, g3, hk] | simp -dsimp (disch := omega) only [wrap_i64])); repeat (with_reducible refine sideA ?_)))
           refine ⟨i + 1, hi', ?_, by omega⟩
           rw [hstep, hme (of_decide_eq_false g2) g3']
           simp only [tabH, outC, pairC, List.length_cons, List.length_nil, List.map_cons, List.map_nil, Nat.reduceAdd, Nat.zero_add]
           refine Weak.pick [0, 1, 3] (by decide) (fun j hj => by omega) ?_ ?_
           · simp [LeG, LeC, LeV, ren, pickF, posOf]
           · simp [pickH, pickB, pickF, posOf, ren]
         · have g3' : p2.2 ≠ r.Week - 1 := by simpa using g3
           (repeat ((repeat1' (first | simp -implicitDefEqProofs -dsimp only [go_sem, Nat.reduceSub, Nat.reduceAdd, Nat.reduceMul, Nat.reduceLT, Nat.reduceLeDiff, Nat.reduceEqDiff, Nat.reduceDiv, Nat.reduceMod, Int.reduceToNat, Int.reduceLE, Int.reduceLT, Int.reduceBEq, Int.reduceBNe, Int.reduceNeg, Int.reduceAdd, Int.reduceSub, Int.reduceMul, reduceCtorEq, g3, hk] | simp -dsimp (disch := omega) only [wrap_i64])); repeat (with_reducible refine sideA ?_)))
           refine ⟨i + 1, hi', ?_, by omega⟩
           rw [hstep, hnw (of_decide_eq_false g2) g3']
           simp only [tabH, outC, pairC, List.length_cons, List.length_nil, List.map_cons, List.map_nil, Nat.reduceAdd, Nat.zero_add]
           refine Weak.pick [0, 1, 2, 3] (by decide) (fun j hj => by omega) ?_ ?_
           · simp [LeG, LeC, LeV, ren, pickF, posOf]
           · simp [pickH, pickB, pickF, posOf, ren]
     · have hsk : r.Events ≤ lim → swS lim [p1, p2, p3] r = [p1, p2, p3] := fun h => by simp [swS, h]
       have hme : ¬ r.Events ≤ lim → p3.2 = r.Week - 1 → swS lim [p1, p2, p3] r = [p1, p2, (p3.1, r.Week)] := fun h h2 => by simp [swS, h, h2]
       have hnw : ¬ r.Events ≤ lim → p3.2 ≠ r.Week - 1 → swS lim [p1, p2, p3] r = [p1, p2, p3, (r.Week, r.Week)] := fun h h2 => by simp [swS, h, h2]
       have hk : IntKind.i64.wrap (((3 : Nat) : Int) - 1) = 2 := by rw [wrap_i64 (by omega) (by omega)]; rfl
       have hz : decide ((0 : Int) < ((3 : Nat) : Int)) = true := by decide
       simp only [tabH, outC, pairC, List.length_cons, List.length_nil, List.map_cons, List.map_nil, Nat.reduceAdd, Nat.zero_add]
       (repeat ((repeat1' (first | simp -implicitDefEqProofs -dsimp only [go_sem, Nat.reduceSub, Nat.reduceAdd, Nat.reduceMul, Nat.reduceLT, Nat.reduceLeDiff, Nat.reduceEqDiff, Nat.reduceDiv, Nat.reduceMod, Int.reduceToNat, Int.reduceLE, Int.reduceLT, Int.reduceBEq, Int.reduceBNe, Int.reduceNeg, Int.reduceAdd, Int.reduceSub, Int.reduceMul, reduceCtorEq, g1, hr0, WeekRow.cs, List.drop_succ_cons, List.drop_zero] | simp -dsimp (disch := omega) only [wrap_i64])); repeat (with_reducible refine sideA ?_)))
       refine condT.split (fun g2 => ?_) (fun g2 => ?_)
       · (repeat ((repeat1' (first | simp -implicitDefEqProofs -dsimp only [go_sem, Nat.reduceSub, Nat.reduceAdd, Nat.reduceMul, Nat.reduceLT, Nat.reduceLeDiff, Nat.reduceEqDiff, Nat.reduceDiv, Nat.reduceMod, Int.reduceToNat, Int.reduceLE, Int.reduceLT, Int.reduceBEq, Int.reduceBNe, Int.reduceNeg, Int.reduceAdd, Int.reduceSub, Int.reduceMul, reduceCtorEq, g2] | simp -dsimp (disch := omega) only [wrap_i64])); repeat (with_reducible refine sideA ?_)))
         refine ⟨i + 1, hi', ?_, by omega⟩
         rw [hstep, hsk (of_decide_eq_true g2)]
         simp only [tabH, outC, pairC, List.length_cons, List.length_nil, List.map_cons, List.map_nil, Nat.reduceAdd, Nat.zero_add]
         refine Weak.pick [0, 1, 2, 3] (by decide) (fun j hj => by omega) ?_ ?_
         · simp [LeG, LeC, LeV, ren, pickF, posOf]
         · simp [pickH, pickB, pickF, posOf, ren]
       · (repeat ((repeat1' (first | simp -implicitDefEqProofs -dsimp only [go_sem, Nat.reduceSub, Nat.reduceAdd, Nat.reduceMul, Nat.reduceLT, Nat.reduceLeDiff, Nat.reduceEqDiff, Nat.reduceDiv, Nat.reduceMod, Int.reduceToNat, Int.reduceLE, Int.reduceLT, Int.reduceBEq, Int.reduceBNe, Int.reduceNeg, Int.reduceAdd, Int.reduceSub, Int.reduceMul, reduceCtorEq, g2, hk, hz] | simp -dsimp (disch := omega) only [wrap_i64])); repeat (with_reducible refine sideA ?_)))
         refine condT.split (fun g3 => ?_) (fun g3 => ?_)
         · have g3' : p3.2 = r.Week - 1 := by simpa using g3
           (repeat ((repeat1' (first | simp -implicitDefEqProofs -dsimp only [go_sem, Nat.reduceSub, Nat.reduceAdd, Nat.reduceMul, Nat.reduceLT, Nat.reduceLeDiff, Nat.reduceEqDiff, Nat.reduceDiv, Nat.reduceMod, Int.reduceToNat, Int.reduceLE, Int.reduceLT, Int.reduceBEq, Int.reduceBNe, Int.reduceNeg, Int.reduceAdd, Int.reduceSub, Int.reduceMul, reduceCtorEq, g3, hk] | simp -dsimp (disch := omega) only [wrap_i64])); repeat (with_reducible refine sideA ?_)))
           refine ⟨i + 1, hi', ?_, by omega⟩
           rw [hstep, hme (of_decide_eq_false g2) g3']
           simp only [tabH, outC, pairC, List.length_cons, List.length_nil, List.map_cons, List.map_nil, Nat.reduceAdd, Nat.zero_add]
           refine Weak.pick [0, 1, 2, 4] (by decide) (fun j hj => by omega) ?_ ?_
           · simp [LeG, LeC, LeV, ren, pickF, posOf]
           · simp [pickH, pickB, pickF, posOf, ren]
         · have g3' : p3.2 ≠ r.Week - 1 := by simpa using g3
           (repeat ((repeat1' (first | simp -implicitDefEqProofs -dsimp only [go_sem, Nat.reduceSub, Nat.reduceAdd, Nat.reduceMul, Nat.reduceLT, Nat.reduceLeDiff, Nat.reduceEqDiff, Nat.reduceDiv, Nat.reduceMod, Int.reduceToNat, Int.reduceLE, Int.reduceLT, Int.reduceBEq, Int.reduceBNe, Int.reduceNeg, Int.reduceAdd, Int.reduceSub, Int.reduceMul, reduceCtorEq, g3, hk] | simp -dsimp (disch := omega) only [wrap_i64])); repeat (with_reducible refine sideA ?_)))
           refine ⟨i + 1, hi', ?_, by omega⟩
           rw [hstep, hnw (of_decide_eq_false g2) g3']
           simp only [tabH, outC, pairC, List.length_cons, List.length_nil, List.map_cons, List.map_nil, Nat.reduceAdd, Nat.zero_add]
           refine Weak.pick [0, 1, 2, 3, 4] (by decide) (fun j hj => by omega) ?_ ?_
           · simp [LeG, LeC, LeV, ren, pickF, posOf]
           · simp [pickH, pickB, pickF, posOf, ren]
     · have hsk : r.Events ≤ lim → swS lim [p1, p2, p3, p4] r = [p1, p2, p3, p4] := fun h => by simp [swS, h]
       have hme : ¬ r.Events ≤ lim → p4.2 = r.Week - 1 → swS lim [p1, p2, p3, p4] r = [p1, p2, p3, (p4.1, r.Week)] := fun h h2 => by simp [swS, h, h2]
       have hnw : ¬ r.Events ≤ lim → p4.2 ≠ r.Week - 1 → swS lim [p1, p2, p3, p4] r = [p1, p2, p3, p4, (r.Week, r.Week)] := fun h h2 => by simp [swS, h, h2]
       have hk : IntKind.i64.wrap (((4 : Nat) : Int) - 1) = 3 := by rw [wrap_i64 (by omega) (by omega)]; rfl
       have hz : decide ((0 : Int) < ((4 : Nat) : Int)) = true := by decide
       simp only [tabH, outC, pairC, List.length_cons, List.length_nil, List.map_cons, List.map_nil, Nat.reduceAdd, Nat.zero_add]
       (repeat ((repeat1' (first | simp -implicitDefEqProofs -dsimp only [go_sem, Nat.reduceSub, Nat.reduceAdd, Nat.reduceMul, Nat.reduceLT, Nat.reduceLeDiff, Nat.reduceEqDiff, Nat.reduceDiv, Nat.reduceMod, Int.reduceToNat, Int.reduceLE, Int.reduceLT, Int.reduceBEq, Int.reduceBNe, Int.reduceNeg, Int.reduceAdd, Int.reduceSub, Int.reduceMul, reduceCtorEq, g1, hr0, WeekRow.cs, List.drop_succ_cons, List.drop_zero] | simp -dsimp (disch := omega) only [wrap_i64])); repeat (with_reducible refine sideA ?_)))
       refine condT.split (fun g2 => ?_) (fun g2 => ?_)
       · (repeat ((repeat1' (first | simp -implicitDefEqProofs -dsimp only [go_sem, Nat.reduceSub, Nat.reduceAdd, Nat.reduceMul, Nat.reduceLT, Nat.reduceLeDiff, Nat.reduceEqDiff, Nat.reduceDiv, Nat.reduceMod, Int.reduceToNat, Int.reduceLE, Int.reduceLT, Int.reduceBEq, Int.reduceBNe, Int.reduceNeg, Int.reduceAdd, Int.reduceSub, Int.reduceMul, reduceCtorEq, g2] | simp -dsimp (disch := omega) only [wrap_i64])); repeat (with_reducible refine sideA ?_)))
         refine ⟨i + 1, hi', ?_, by omega⟩
         rw [hstep, hsk (of_decide_eq_true g2)]
         simp only [tabH, outC, pairC, List.length_cons, List.length_nil, List.map_cons, List.map_nil, Nat.reduceAdd, Nat.zero_add]
         refine Weak.pick [0, 1, 2, 3, 4] (by decide) (fun j hj => by omega) ?_ ?_
         · simp [LeG, LeC, LeV, ren, pickF, posOf]
         · simp [pickH, pickB, pickF, posOf, ren]
       · (repeat ((repeat1' (first | simp -implicitDefEqProofs -dsimp only [go_sem, Nat.reduceSub, Nat.reduceAdd, Nat.reduceMul, Nat.reduceLT, Nat.reduceLeDiff, Nat.reduceEqDiff, Nat.reduceDiv, Nat.reduceMod, Int.reduceToNat, Int.reduceLE, Int.reduceLT, Int.reduceBEq, Int.reduceBNe, Int.reduceNeg, Int.reduceAdd, Int.reduceSub, Int.reduceMul, reduceCtorEq, g2, hk, hz] | simp -dsimp (disch := omega) only [wrap_i64])); repeat (with_reducible refine sideA ?_)))
         refine condT.split (fun g3 => ?_) (fun g3 => ?_)
         · have g3' : p4.2 = r.Week - 1 := by simpa using g3
           (repeat ((repeat1' (first | simp -implicitDefEqProofs -dsimp only [go_sem, Nat.reduceSub, Nat.reduceAdd, Nat.reduceMul, Nat.reduceLT, Nat.reduceLeDiff, Nat.reduceEqDiff, Nat.reduceDiv, Nat.reduceMod, Int.reduceToNat, Int.reduceLE, Int.reduceLT, Int.reduceBEq, Int.reduceBNe, Int.reduceNeg, Int.reduceAdd, Int.reduceSub, Int.reduceMul, reduceCtorEq, g3, hk] | simp -dsimp (disch := omega) only [wrap_i64])); repeat (with_reducible refine sideA ?_)))
           refine ⟨i + 1, hi', ?_, by omega⟩
           rw [hstep, hme (of_decide_eq_false g2) g3']
           simp only [tabH, outC, pairC, List.length_cons, List.length_nil, List.map_cons, List.map_nil, Nat.reduceAdd, Nat.zero_add]
           refine Weak.pick [0, 1, 2, 3, 5] (by decide) (fun j hj => by omega) ?_ ?_
           · simp [LeG, LeC, LeV, ren, pickF, posOf]
           · simp [pickH, pickB, pickF, posOf, ren]
         · have g3' : p4.2 ≠ r.Week - 1 := by simpa using g3
           (repeat ((repeat1' (first | simp -implicitDefEqProofs -dsimp only [go_sem, Nat.reduceSub, Nat.reduceAdd, Nat.reduceMul, Nat.reduceLT, Nat.reduceLeDiff, Nat.reduceEqDiff, Nat.reduceDiv, Nat.reduceMod, Int.reduceToNat, Int.reduceLE, Int.reduceLT, Int.reduceBEq, Int.reduceBNe, Int.reduceNeg, Int.reduceAdd, Int.reduceSub, Int.reduceMul, reduceCtorEq, g3, hk] | simp -dsimp (disch := omega) only [wrap_i64])); repeat (with_reducible refine sideA ?_)))
           refine ⟨i + 1, hi', ?_, by omega⟩
           rw [hstep, hnw (of_decide_eq_false g2) g3']
           simp only [tabH, outC, pairC, List.length_cons, List.length_nil, List.map_cons, List.map_nil, Nat.reduceAdd, Nat.zero_add]
           refine Weak.pick [0, 1, 2, 3, 4, 5] (by decide) (fun j hj => by omega) ?_ ?_
           · simp [LeG, LeC, LeV, ren, pickF, posOf]
           · simp [pickH, pickB, pickF, posOf, ren]
     · have hsk : r.Events ≤ lim → swS lim [p1, p2, p3, p4, p5] r = [p1, p2, p3, p4, p5] := fun h => by simp [swS, h]
       have hme : ¬ r.Events ≤ lim → p5.2 = r.Week - 1 → swS lim [p1, p2, p3, p4, p5] r = [p1, p2, p3, p4, (p5.1, r.Week)] := fun h h2 => by simp [swS, h, h2]
       have hnw : ¬ r.Events ≤ lim → p5.2 ≠ r.Week - 1 → swS lim [p1, p2, p3, p4, p5] r = [p1, p2, p3, p4, p5, (r.Week, r.Week)] := fun h h2 => by simp [swS, h, h2]
       have hk : IntKind.i64.wrap (((5 : Nat) : Int) - 1) = 4 := by rw [wrap_i64 (by omega) (by omega)]; rfl
       have hz : decide ((0 : Int) < ((5 : Nat) : Int)) = true := by decide
       simp only [tabH, outC, pairC, List.length_cons, List.length_nil, List.map_cons, List.map_nil, Nat.reduceAdd, Nat.zero_add]
       (repeat ((repeat1' (first | simp -implicitDefEqProofs -dsimp only [go_sem, Nat.reduceSub, Nat.reduceAdd, Nat.reduceMul, Nat.reduceLT, Nat.reduceLeDiff, Nat.reduceEqDiff, Nat.reduceDiv, Nat.reduceMod, Int.reduceToNat, Int.reduceLE, Int.reduceLT, Int.reduceBEq, Int.reduceBNe, Int.reduceNeg, Int.reduceAdd, Int.reduceSub, Int.reduceMul, reduceCtorEq, g1, hr0, WeekRow.cs, List.drop_succ_cons, List.drop_zero] | simp -dsimp (disch := omega) only [wrap_i64])); repeat (with_reducible refine sideA ?_)))
       refine condT.split (fun g2 => ?_) (fun g2 => ?_)
       · (repeat ((repeat1' (first | simp -implicitDefEqProofs -dsimp only [go_sem, Nat.reduceSub, Nat.reduceAdd, Nat.reduceMul, Nat.reduceLT, Nat.reduceLeDiff, Nat.reduceEqDiff, Nat.reduceDiv, Nat.reduceMod, Int.reduceToNat, Int.reduceLE, Int.reduceLT, Int.reduceBEq, Int.reduceBNe, Int.reduceNeg, Int.reduceAdd, Int.reduceSub, Int.reduceMul, reduceCtorEq, g2] | simp -dsimp (disch := omega) only [wrap_i64])); repeat (with_reducible refine sideA ?_)))
         refine ⟨i + 1, hi', ?_, by omega⟩
         rw [hstep, hsk (of_decide_eq_true g2)]
         simp only [tabH, outC, pairC, List.length_cons, List.length_nil, List.map_cons, List.map_nil, Nat.reduceAdd, Nat.zero_add]
         refine Weak.pick [0, 1, 2, 3, 4, 5] (by decide) (fun j hj => by omega) ?_ ?_
         · simp [LeG, LeC, LeV, ren, pickF, posOf]
         · simp [pickH, pickB, pickF, posOf, ren]
       · (repeat ((repeat1' (first | simp -implicitDefEqProofs -dsimp only [go_sem, Nat.reduceSub, Nat.reduceAdd, Nat.reduceMul, Nat.reduceLT, Nat.reduceLeDiff, Nat.reduceEqDiff, Nat.reduceDiv, Nat.reduceMod, Int.reduceToNat, Int.reduceLE, Int.reduceLT, Int.reduceBEq, Int.reduceBNe, Int.reduceNeg, Int.reduceAdd, Int.reduceSub, Int.reduceMul, reduceCtorEq, g2, hk, hz] | simp -dsimp (disch := omega) only [wrap_i64])); repeat (with_reducible refine sideA ?_)))
         refine condT.split (fun g3 => ?_) (fun g3 => ?_)
         · have g3' : p5.2 = r.Week - 1 := by simpa using g3
           (repeat ((repeat1' (first | simp -implicitDefEqProofs -dsimp only [go_sem, Nat.reduceSub, Nat.reduceAdd, Nat.reduceMul, Nat.reduceLT, Nat.reduceLeDiff, Nat.reduceEqDiff, Nat.reduceDiv, Nat.reduceMod, Int.reduceToNat, Int.reduceLE, Int.reduceLT, Int.reduceBEq, Int.reduceBNe, Int.reduceNeg, Int.reduceAdd, Int.reduceSub, Int.reduceMul, reduceCtorEq, g3, hk] | simp -dsimp (disch := omega) only [wrap_i64])); repeat (with_reducible refine sideA ?_)))
           refine ⟨i + 1, hi', ?_, by omega⟩
           rw [hstep, hme (of_decide_eq_false g2) g3']
           simp only [tabH, outC, pairC, List.length_cons, List.length_nil, List.map_cons, List.map_nil, Nat.reduceAdd, Nat.zero_add]
           refine Weak.pick [0, 1, 2, 3, 4, 6] (by decide) (fun j hj => by omega) ?_ ?_
           · simp [LeG, LeC, LeV, ren, pickF, posOf]
           · simp [pickH, pickB, pickF, posOf, ren]
         · have g3' : p5.2 ≠ r.Week - 1 := by simpa using g3
           (repeat ((repeat1' (first | simp -implicitDefEqProofs -dsimp only [go_sem, Nat.reduceSub, Nat.reduceAdd, Nat.reduceMul, Nat.reduceLT, Nat.reduceLeDiff, Nat.reduceEqDiff, Nat.reduceDiv, Nat.reduceMod, Int.reduceToNat, Int.reduceLE, Int.reduceLT, Int.reduceBEq, Int.reduceBNe, Int.reduceNeg, Int.reduceAdd, Int.reduceSub, Int.reduceMul, reduceCtorEq, g3, hk] | simp -dsimp (disch := omega) only [wrap_i64])); repeat (with_reducible refine sideA ?_)))
           refine ⟨i + 1, hi', ?_, by omega⟩
           rw [hstep, hnw (of_decide_eq_false g2) g3']
           simp only [tabH, outC, pairC, List.length_cons, List.length_nil, List.map_cons, List.map_nil, Nat.reduceAdd, Nat.zero_add]
           refine Weak.pick [0, 1, 2, 3, 4, 5, 6] (by decide) (fun j hj => by omega) ?_ ?_
           · simp [LeG, LeC, LeV, ren, pickF, posOf]
           · simp [pickH, pickB, pickF, posOf, ren]
     · have hsk : r.Events ≤ lim → swS lim [p1, p2, p3, p4, p5, p6] r = [p1, p2, p3, p4, p5, p6] := fun h => by simp [swS, h]
       have hme : ¬ r.Events ≤ lim → p6.2 = r.Week - 1 → swS lim [p1, p2, p3, p4, p5, p6] r = [p1, p2, p3, p4, p5, (p6.1, r.Week)] := fun h h2 => by simp [swS, h, h2]
       have hnw : ¬ r.Events ≤ lim → p6.2 ≠ r.Week - 1 → swS lim [p1, p2, p3, p4, p5, p6] r = [p1, p2, p3, p4, p5, p6, (r.Week, r.Week)] := fun h h2 => by simp [swS, h, h2]
       have hk : IntKind.i64.wrap (((6 : Nat) : Int) - 1) = 5 := by rw [wrap_i64 (by omega) (by omega)]; rfl
       have hz : decide ((0 : Int) < ((6 : Nat) : Int)) = true := by decide
       simp only [tabH, outC, pairC, List.length_cons, List.length_nil, List.map_cons, List.map_nil, Nat.reduceAdd, Nat.zero_add]
       (repeat ((repeat1' (first | simp -implicitDefEqProofs -dsimp only [go_sem, Nat.reduceSub, Nat.reduceAdd, Nat.reduceMul, Nat.reduceLT, Nat.reduceLeDiff, Nat.reduceEqDiff, Nat.reduceDiv, Nat.reduceMod, Int.reduceToNat, Int.reduceLE, Int.reduceLT, Int.reduceBEq, Int.reduceBNe, Int.reduceNeg, Int.reduceAdd, Int.reduceSub, Int.reduceMul, reduceCtorEq, g1, hr0, WeekRow.cs, List.drop_succ_cons, List.drop_zero] | simp -dsimp (disch := omega) only [wrap_i64])); repeat (with_reducible refine sideA ?_)))
       refine condT.split (fun g2 => ?_) (fun g2 => ?_)
       · (repeat ((repeat1' (first | simp -implicitDefEqProofs -dsimp only [go_sem, Nat.reduceSub, Nat.reduceAdd, Nat.reduceMul, Nat.reduceLT, Nat.reduceLeDiff, Nat.reduceEqDiff, Nat.reduceDiv, Nat.reduceMod, Int.reduceToNat, Int.reduceLE, Int.reduceLT, Int.reduceBEq, Int.reduceBNe, Int.reduceNeg, Int.reduceAdd, Int.reduceSub, Int.reduceMul, reduceCtorEq, g2] | simp -dsimp (disch := omega) only [wrap_i64])); repeat (with_reducible refine sideA ?_)))
         refine ⟨i + 1, hi', ?_, by omega⟩
         rw [hstep, hsk (of_decide_eq_true g2)]
         simp only [tabH, outC, pairC, List.length_cons, List.length_nil, List.map_cons, List.map_nil, Nat.reduceAdd, Nat.zero_add]
         refine Weak.pick [0, 1, 2, 3, 4, 5, 6] (by decide) (fun j hj => by omega) ?_ ?_
         · simp [LeG, LeC, LeV, ren, pickF, posOf]
         · simp [pickH, pickB, pickF, posOf, ren]
       · (repeat ((repeat1' (first | simp -implicitDefEqProofs -dsimp only [go_sem, Nat.reduceSub, Nat.reduceAdd, Nat.reduceMul, Nat.reduceLT, Nat.reduceLeDiff, Nat.reduceEqDiff, Nat.reduceDiv, Nat.reduceMod, Int.reduceToNat, Int.reduceLE, Int.reduceLT, Int.reduceBEq, Int.reduceBNe, Int.reduceNeg, Int.reduceAdd, Int.reduceSub, Int.reduceMul, reduceCtorEq, g2, hk, hz] | simp -dsimp (disch := omega) only [wrap_i64])); repeat (with_reducible refine sideA ?_)))
         refine condT.split (fun g3 => ?_) (fun g3 => ?_)
         · have g3' : p6.2 = r.Week - 1 := by simpa using g3
           (repeat ((repeat1' (first | simp -implicitDefEqProofs -dsimp only [go_sem, Nat.reduceSub, Nat.reduceAdd, Nat.reduceMul, Nat.reduceLT, Nat.reduceLeDiff, Nat.reduceEqDiff, Nat.reduceDiv, Nat.reduceMod, Int.reduceToNat, Int.reduceLE, Int.reduceLT, Int.reduceBEq, Int.reduceBNe, Int.reduceNeg, Int.reduceAdd, Int.reduceSub, Int.reduceMul, reduceCtorEq, g3, hk] | simp -dsimp (disch := omega) only [wrap_i64])); repeat (with_reducible refine sideA ?_)))
           refine ⟨i + 1, hi', ?_, by omega⟩
           rw [hstep, hme (of_decide_eq_false g2) g3']
           simp only [tabH, outC, pairC, List.length_cons, List.length_nil, List.map_cons, List.map_nil, Nat.reduceAdd, Nat.zero_add]
           refine Weak.pick [0, 1, 2, 3, 4, 5, 7] (by decide) (fun j hj => by omega) ?_ ?_
           · simp [LeG, LeC, LeV, ren, pickF, posOf]
           · simp [pickH, pickB, pickF, posOf, ren]
         · have g3' : p6.2 ≠ r.Week - 1 := by simpa using g3
           (repeat ((repeat1' (first | simp -implicitDefEqProofs -dsimp only [go_sem, Nat.reduceSub, Nat.reduceAdd, Nat.reduceMul, Nat.reduceLT, Nat.reduceLeDiff, Nat.reduceEqDiff, Nat.reduceDiv, Nat.reduceMod, Int.reduceToNat, Int.reduceLE, Int.reduceLT, Int.reduceBEq, Int.reduceBNe, Int.reduceNeg, Int.reduceAdd, Int.reduceSub, Int.reduceMul, reduceCtorEq, g3, hk] | simp -dsimp (disch := omega) only [wrap_i64])); repeat (with_reducible refine sideA ?_)))
           refine ⟨i + 1, hi', ?_, by omega⟩
           rw [hstep, hnw (of_decide_eq_false g2) g3']
           simp only [tabH, outC, pairC, List.length_cons, List.length_nil, List.map_cons, List.map_nil, Nat.reduceAdd, Nat.zero_add]
           refine Weak.pick [0, 1, 2, 3, 4, 5, 6, 7] (by decide) (fun j hj => by omega) ?_ ?_
           · simp [LeG, LeC, LeV, ren, pickF, posOf]
           · simp [pickH, pickB, pickF, posOf, ren]
     · have hsk : r.Events ≤ lim → swS lim [p1, p2, p3, p4, p5, p6, p7] r = [p1, p2, p3, p4, p5, p6, p7] := fun h => by simp [swS, h]
       have hme : ¬ r.Events ≤ lim → p7.2 = r.Week - 1 → swS lim [p1, p2, p3, p4, p5, p6, p7] r = [p1, p2, p3, p4, p5, p6, (p7.1, r.Week)] := fun h h2 => by simp [swS, h, h2]
       have hnw : ¬ r.Events ≤ lim → p7.2 ≠ r.Week - 1 → swS lim [p1, p2, p3, p4, p5, p6, p7] r = [p1, p2, p3, p4, p5, p6, p7, (r.Week, r.Week)] := fun h h2 => by simp [swS, h, h2]
       have hk : IntKind.i64.wrap (((7 : Nat) : Int) - 1) = 6 := by rw [wrap_i64 (by omega) (by omega)]; rfl
       have hz : decide ((0 : Int) < ((7 : Nat) : Int)) = true := by decide
       simp only [tabH, outC, pairC, List.length_cons, List.length_nil, List.map_cons, List.map_nil, Nat.reduceAdd, Nat.zero_add]
       (repeat ((repeat1' (first | simp -implicitDefEqProofs -dsimp only [go_sem, Nat.reduceSub, Nat.reduceAdd, Nat.reduceMul, Nat.reduceLT, Nat.reduceLeDiff, Nat.reduceEqDiff, Nat.reduceDiv, Nat.reduceMod, Int.reduceToNat, Int.reduceLE, Int.reduceLT, Int.reduceBEq, Int.reduceBNe, Int.reduceNeg, Int.reduceAdd, Int.reduceSub, Int.reduceMul, reduceCtorEq, g1, hr0, WeekRow.cs, List.drop_succ_cons, List.drop_zero] | simp -dsimp (disch := omega) only [wrap_i64])); repeat (with_reducible refine sideA ?_)))
       refine condT.split (fun g2 => ?_) (fun g2 => ?_)
       · (repeat ((repeat1' (first | simp -implicitDefEqProofs -dsimp only [go_sem, Nat.reduceSub, Nat.reduceAdd, Nat.reduceMul, Nat.reduceLT, Nat.reduceLeDiff, Nat.reduceEqDiff, Nat.reduceDiv, Nat.reduceMod, Int.reduceToNat, Int.reduceLE, Int.reduceLT, Int.reduceBEq, Int.reduceBNe, Int.reduceNeg, Int.reduceAdd, Int.reduceSub, Int.reduceMul, reduceCtorEq, g2] | simp -dsimp (disch := omega) only [wrap_i64])); repeat (with_reducible refine sideA ?_)))
         refine ⟨i + 1, hi', ?_, by omega⟩
         rw [hstep, hsk (of_decide_eq_true g2)]
         simp only [tabH, outC, pairC, List.length_cons, List.length_nil, List.map_cons, List.map_nil, Nat.reduceAdd, Nat.zero_add]
         refine Weak.pick [0, 1, 2, 3, 4, 5, 6, 7] (by decide) (fun j hj => by omega) ?_ ?_
         · simp [LeG, LeC, LeV, ren, pickF, posOf]
         · simp [pickH, pickB, pickF, posOf, ren]
       · (repeat ((repeat1' (first | simp -implicitDefEqProofs -dsimp only [go_sem, Nat.reduceSub, Nat.reduceAdd, Nat.reduceMul, Nat.reduceLT, Nat.reduceLeDiff, Nat.reduceEqDiff, Nat.reduceDiv, Nat.reduceMod, Int.reduceToNat, Int.reduceLE, Int.reduceLT, Int.reduceBEq, Int.reduceBNe, Int.reduceNeg, Int.reduceAdd, Int.reduceSub, Int.reduceMul, reduceCtorEq, g2, hk, hz] | simp -dsimp (disch := omega) only [wrap_i64])); repeat (with_reducible refine sideA ?_)))
         refine condT.split (fun g3 => ?_) (fun g3 => ?_)
         · have g3' : p7.2 = r.Week - 1 := by simpa using g3
           (repeat ((repeat1' (first | simp -implicitDefEqProofs -dsimp only [go_sem, Nat.reduceSub, Nat.reduceAdd, Nat.reduceMul, Nat.reduceLT, Nat.reduceLeDiff, Nat.reduceEqDiff, Nat.reduceDiv, Nat.reduceMod, Int.reduceToNat, Int.reduceLE, Int.reduceLT, Int.reduceBEq, Int.reduceBNe, Int.reduceNeg, Int.reduceAdd, Int.reduceSub, Int.reduceMul, reduceCtorEq, g3, hk] | simp -dsimp (disch := omega) only [wrap_i64])); repeat (with_reducible refine sideA ?_)))
           refine ⟨i + 1, hi', ?_, by omega⟩
           rw [hstep, hme (of_decide_eq_false g2) g3']
           simp only [tabH, outC, pairC, List.length_cons, List.length_nil, List.map_cons, List.map_nil, Nat.reduceAdd, Nat.zero_add]
           refine Weak.pick [0, 1, 2, 3, 4, 5, 6, 8] (by decide) (fun j hj => by omega) ?_ ?_
           · simp [LeG, LeC, LeV, ren, pickF, posOf]
           · simp [pickH, pickB, pickF, posOf, ren]
         · have g3' : p7.2 ≠ r.Week - 1 := by simpa using g3
           (repeat ((repeat1' (first | simp -implicitDefEqProofs -dsimp only [go_sem, Nat.reduceSub, Nat.reduceAdd, Nat.reduceMul, Nat.reduceLT, Nat.reduceLeDiff, Nat.reduceEqDiff, Nat.reduceDiv, Nat.reduceMod, Int.reduceToNat, Int.reduceLE, Int.reduceLT, Int.reduceBEq, Int.reduceBNe, Int.reduceNeg, Int.reduceAdd, Int.reduceSub, Int.reduceMul, reduceCtorEq, g3, hk] | simp -dsimp (disch := omega) only [wrap_i64])); repeat (with_reducible refine sideA ?_)))
           refine ⟨i + 1, hi', ?_, by omega⟩
           rw [hstep, hnw (of_decide_eq_false g2) g3']
           simp only [tabH, outC, pairC, List.length_cons, List.length_nil, List.map_cons, List.map_nil, Nat.reduceAdd, Nat.zero_add]
           refine Weak.pick [0, 1, 2, 3, 4, 5, 6, 7, 8] (by decide) (fun j hj => by omega) ?_ ?_
           · simp [LeG, LeC, LeV, ren, pickF, posOf]
           · simp [pickH, pickB, pickF, posOf, ren]
     · have hsk : r.Events ≤ lim → swS lim [p1, p2, p3, p4, p5, p6, p7, p8] r = [p1, p2, p3, p4, p5, p6, p7, p8] := fun h => by simp [swS, h]
       have hme : ¬ r.Events ≤ lim → p8.2 = r.Week - 1 → swS lim [p1, p2, p3, p4, p5, p6, p7, p8] r = [p1, p2, p3, p4, p5, p6, p7, (p8.1, r.Week)] := fun h h2 => by simp [swS, h, h2]
       have hnw : ¬ r.Events ≤ lim → p8.2 ≠ r.Week - 1 → swS lim [p1, p2, p3, p4, p5, p6, p7, p8] r = [p1, p2, p3, p4, p5, p6, p7, p8, (r.Week, r.Week)] := fun h h2 => by simp [swS, h, h2]
       have hk : IntKind.i64.wrap (((8 : Nat) : Int) - 1) = 7 := by rw [wrap_i64 (by omega) (by omega)]; rfl
       have hz : decide ((0 : Int) < ((8 : Nat) : Int)) = true := by decide
       simp only [tabH, outC, pairC, List.length_cons, List.length_nil, List.map_cons, List.map_nil, Nat.reduceAdd, Nat.zero_add]
       (repeat ((repeat1' (first | simp -implicitDefEqProofs -dsimp only [go_sem, Nat.reduceSub, Nat.reduceAdd, Nat.reduceMul, Nat.reduceLT, Nat.reduceLeDiff, Nat.reduceEqDiff, Nat.reduceDiv, Nat.reduceMod, Int.reduceToNat, Int.reduceLE, Int.reduceLT, Int.reduceBEq, Int.reduceBNe, Int.reduceNeg, Int.reduceAdd, Int.reduceSub, Int.reduceMul, reduceCtorEq, g1, hr0, WeekRow.cs, List.drop_succ_cons, List.drop_zero] | simp -dsimp (disch := omega) only [wrap_i64])); repeat (with_reducible refine sideA ?_)))
       refine condT.split (fun g2 => ?_) (fun g2 => ?_)
       · (repeat ((repeat1' (first | simp -implicitDefEqProofs -dsimp only [go_sem, Nat.reduceSub, Nat.reduceAdd, Nat.reduceMul, Nat.reduceLT, Nat.reduceLeDiff, Nat.reduceEqDiff, Nat.reduceDiv, Nat.reduceMod, Int.reduceToNat, Int.reduceLE, Int.reduceLT, Int.reduceBEq, Int.reduceBNe, Int.reduceNeg, Int.reduceAdd, Int.reduceSub, Int.reduceMul, reduceCtorEq, g2] | simp -dsimp (disch := omega) only [wrap_i64])); repeat (with_reducible refine sideA ?_)))
         refine ⟨i + 1, hi', ?_, by omega⟩
         rw [hstep, hsk (of_decide_eq_true g2)]
         simp only [tabH, outC, pairC, List.length_cons, List.length_nil, List.map_cons, List.map_nil, Nat.reduceAdd, Nat.zero_add]
         refine Weak.pick [0, 1, 2, 3, 4, 5, 6, 7, 8] (by decide) (fun j hj => by omega) ?_ ?_
         · simp [LeG, LeC, LeV, ren, pickF, posOf]
         · simp [pickH, pickB, pickF, posOf, ren]
       · (repeat ((repeat1' (first | simp -implicitDefEqProofs -dsimp only [go_sem, Nat.reduceSub, Nat.reduceAdd, Nat.reduceMul, Nat.reduceLT, Nat.reduceLeDiff, Nat.reduceEqDiff, Nat.reduceDiv, Nat.reduceMod, Int.reduceToNat, Int.reduceLE, Int.reduceLT, Int.reduceBEq, Int.reduceBNe, Int.reduceNeg, Int.reduceAdd, Int.reduceSub, Int.reduceMul, reduceCtorEq, g2, hk, hz] | simp -dsimp (disch := omega) only [wrap_i64])); repeat (with_reducible refine sideA ?_)))
         refine condT.split (fun g3 => ?_) (fun g3 => ?_)
         · have g3' : p8.2 = r.Week - 1 := by simpa using g3
           (repeat ((repeat1' (first | simp -implicitDefEqProofs -dsimp only [go_sem, Nat.reduceSub, Nat.reduceAdd, Nat.reduceMul, Nat.reduceLT, Nat.reduceLeDiff, Nat.reduceEqDiff, Nat.reduceDiv, Nat.reduceMod, Int.reduceToNat, Int.reduceLE, Int.reduceLT, Int.reduceBEq, Int.reduceBNe, Int.reduceNeg, Int.reduceAdd, Int.reduceSub, Int.reduceMul, reduceCtorEq, g3, hk] | simp -dsimp (disch := omega) only [wrap_i64])); repeat (with_reducible refine sideA ?_)))
           refine ⟨i + 1, hi', ?_, by omega⟩
           rw [hstep, hme (of_decide_eq_false g2) g3']
           simp only [tabH, outC, pairC, List.length_cons, List.length_nil, List.map_cons, List.map_nil, Nat.reduceAdd, Nat.zero_add]
           refine Weak.pick [0, 1, 2, 3, 4, 5, 6, 7, 9] (by decide) (fun j hj => by omega) ?_ ?_
           · simp [LeG, LeC, LeV, ren, pickF, posOf]
           · simp [pickH, pickB, pickF, posOf, ren]
         · have g3' : p8.2 ≠ r.Week - 1 := by simpa using g3
           (repeat ((repeat1' (first | simp -implicitDefEqProofs -dsimp only [go_sem, Nat.reduceSub, Nat.reduceAdd, Nat.reduceMul, Nat.reduceLT, Nat.reduceLeDiff, Nat.reduceEqDiff, Nat.reduceDiv, Nat.reduceMod, Int.reduceToNat, Int.reduceLE, Int.reduceLT, Int.reduceBEq, Int.reduceBNe, Int.reduceNeg, Int.reduceAdd, Int.reduceSub, Int.reduceMul, reduceCtorEq, g3, hk] | simp -dsimp (disch := omega) only [wrap_i64])); repeat (with_reducible refine sideA ?_)))
           refine ⟨i + 1, hi', ?_, by omega⟩
           rw [hstep, hnw (of_decide_eq_false g2) g3']
           simp only [tabH, outC, pairC, List.length_cons, List.length_nil, List.map_cons, List.map_nil, Nat.reduceAdd, Nat.zero_add]
           refine Weak.pick [0, 1, 2, 3, 4, 5, 6, 7, 8, 9] (by decide) (fun j hj => by omega) ?_ ?_
           · simp [LeG, LeC, LeV, ren, pickF, posOf]
           · simp [pickH, pickB, pickF, posOf, ren]
     · have hsk : r.Events ≤ lim → swS lim [p1, p2, p3, p4, p5, p6, p7, p8, p9] r = [p1, p2, p3, p4, p5, p6, p7, p8, p9] := fun h => by simp [swS, h]
       have hme : ¬ r.Events ≤ lim → p9.2 = r.Week - 1 → swS lim [p1, p2, p3, p4, p5, p6, p7, p8, p9] r = [p1, p2, p3, p4, p5, p6, p7, p8, (p9.1, r.Week)] := fun h h2 => by simp [swS, h, h2]
       have hnw : ¬ r.Events ≤ lim → p9.2 ≠ r.Week - 1 → swS lim [p1, p2, p3, p4, p5, p6, p7, p8, p9] r = [p1, p2, p3, p4, p5, p6, p7, p8, p9, (r.Week, r.Week)] := fun h h2 => by simp [swS, h, h2]
       have hk : IntKind.i64.wrap (((9 : Nat) : Int) - 1) = 8 := by rw [wrap_i64 (by omega) (by omega)]; rfl
       have hz : decide ((0 : Int) < ((9 : Nat) : Int)) = true := by decide
       simp only [tabH, outC, pairC, List.length_cons, List.length_nil, List.map_cons, List.map_nil, Nat.reduceAdd, Nat.zero_add]
       (repeat ((repeat1' (first | simp -implicitDefEqProofs -dsimp only [go_sem, Nat.reduceSub, Nat.reduceAdd, Nat.reduceMul, Nat.reduceLT, Nat.reduceLeDiff, Nat.reduceEqDiff, Nat.reduceDiv, Nat.reduceMod, Int.reduceToNat, Int.reduceLE, Int.reduceLT, Int.reduceBEq, Int.reduceBNe, Int.reduceNeg, Int.reduceAdd, Int.reduceSub, Int.reduceMul, reduceCtorEq, g1, hr0, WeekRow.cs, List.drop_succ_cons, List.drop_zero] | simp -dsimp (disch := omega) only [wrap_i64])); repeat (with_reducible refine sideA ?_)))
       refine condT.split (fun g2 => ?_) (fun g2 => ?_)
       · (repeat ((repeat1' (first | simp -implicitDefEqProofs -dsimp only [go_sem, Nat.reduceSub, Nat.reduceAdd, Nat.reduceMul, Nat.reduceLT, Nat.reduceLeDiff, Nat.reduceEqDiff, Nat.reduceDiv, Nat.reduceMod, Int.reduceToNat, Int.reduceLE, Int.reduceLT, Int.reduceBEq, Int.reduceBNe, Int.reduceNeg, Int.reduceAdd, Int.reduceSub, Int.reduceMul, reduceCtorEq, g2] | simp -dsimp (disch := omega) only [wrap_i64])); repeat (with_reducible refine sideA ?_)))
         refine ⟨i + 1, hi', ?_, by omega⟩
         rw [hstep, hsk (of_decide_eq_true g2)]
         simp only [tabH, outC, pairC, List.length_cons, List.length_nil, List.map_cons, List.map_nil, Nat.reduceAdd, Nat.zero_add]
         refine Weak.pick [0, 1, 2, 3, 4, 5, 6, 7, 8, 9] (by decide) (fun j hj => by omega) ?_ ?_
         · simp [LeG, LeC, LeV, ren, pickF, posOf]
         · simp [pickH, pickB, pickF, posOf, ren]
       · (repeat ((repeat1' (first | simp -implicitDefEqProofs -dsimp only [go_sem, Nat.reduceSub, Nat.reduceAdd, Nat.reduceMul, Nat.reduceLT, Nat.reduceLeDiff, Nat.reduceEqDiff, Nat.reduceDiv, Nat.reduceMod, Int.reduceToNat, Int.reduceLE, Int.reduceLT, Int.reduceBEq, Int.reduceBNe, Int.reduceNeg, Int.reduceAdd, Int.reduceSub, Int.reduceMul, reduceCtorEq, g2, hk, hz] | simp -dsimp (disch := omega) only [wrap_i64])); repeat (with_reducible refine sideA ?_)))
         refine condT.split (fun g3 => ?_) (fun g3 => ?_)
         · have g3' : p9.2 = r.Week - 1 := by simpa using g3
           (repeat ((repeat1' (first | simp -implicitDefEqProofs -dsimp only [go_sem, Nat.reduceSub, Nat.reduceAdd, Nat.reduceMul, Nat.reduceLT, Nat.reduceLeDiff, Nat.reduceEqDiff, Nat.reduceDiv, Nat.reduceMod, Int.reduceToNat, Int.reduceLE, Int.reduceLT, Int.reduceBEq, Int.reduceBNe, Int.reduceNeg, Int.reduceAdd, Int.reduceSub, Int.reduceMul, reduceCtorEq, g3, hk] | simp -dsimp (disch := omega) only [wrap_i64])); repeat (with_reducible refine sideA ?_)))
           refine ⟨i + 1, hi', ?_, by omega⟩
           rw [hstep, hme (of_decide_eq_false g2) g3']
           simp only [tabH, outC, pairC, List.length_cons, List.length_nil, List.map_cons, List.map_nil, Nat.reduceAdd, Nat.zero_add]
           refine Weak.pick [0, 1, 2, 3, 4, 5, 6, 7, 8, 10] (by decide) (fun j hj => by omega) ?_ ?_
           · simp [LeG, LeC, LeV, ren, pickF, posOf]
           · simp [pickH, pickB, pickF, posOf, ren]
         · have g3' : p9.2 ≠ r.Week - 1 := by simpa using g3
           (repeat ((repeat1' (first | simp -implicitDefEqProofs -dsimp only [go_sem, Nat.reduceSub, Nat.reduceAdd, Nat.reduceMul, Nat.reduceLT, Nat.reduceLeDiff, Nat.reduceEqDiff, Nat.reduceDiv, Nat.reduceMod, Int.reduceToNat, Int.reduceLE, Int.reduceLT, Int.reduceBEq, Int.reduceBNe, Int.reduceNeg, Int.reduceAdd, Int.reduceSub, Int.reduceMul, reduceCtorEq, g3, hk] | simp -dsimp (disch := omega) only [wrap_i64])); repeat (with_reducible refine sideA ?_)))
           refine ⟨i + 1, hi', ?_, by omega⟩
           rw [hstep, hnw (of_decide_eq_false g2) g3']
           simp only [tabH, outC, pairC, List.length_cons, List.length_nil, List.map_cons, List.map_nil, Nat.reduceAdd, Nat.zero_add]
           refine Weak.pick [0, 1, 2, 3, 4, 5, 6, 7, 8, 9, 10] (by decide) (fun j hj => by omega) ?_ ?_
           · simp [LeG, LeC, LeV, ren, pickF, posOf]
           · simp [pickH, pickB, pickF, posOf, ren]
     · have hsk : r.Events ≤ lim → swS lim [p1, p2, p3, p4, p5, p6, p7, p8, p9, p10] r = [p1, p2, p3, p4, p5, p6, p7, p8, p9, p10] := fun h => by simp [swS, h]
       have hme : ¬ r.Events ≤ lim → p10.2 = r.Week - 1 → swS lim [p1, p2, p3, p4, p5, p6, p7, p8, p9, p10] r = [p1, p2, p3, p4, p5, p6, p7, p8, p9, (p10.1, r.Week)] := fun h h2 => by simp [swS, h, h2]
       have hnw : ¬ r.Events ≤ lim → p10.2 ≠ r.Week - 1 → swS lim [p1, p2, p3, p4, p5, p6, p7, p8, p9, p10] r = [p1, p2, p3, p4, p5, p6, p7, p8, p9, p10, (r.Week, r.Week)] := fun h h2 => by simp [swS, h, h2]
       have hk : IntKind.i64.wrap (((10 : Nat) : Int) - 1) = 9 := by rw [wrap_i64 (by omega) (by omega)]; rfl
       have hz : decide ((0 : Int) < ((10 : Nat) : Int)) = true := by decide
       simp only [tabH, outC, pairC, List.length_cons, List.length_nil, List.map_cons, List.map_nil, Nat.reduceAdd, Nat.zero_add]
       (repeat ((repeat1' (first | simp -implicitDefEqProofs -dsimp only [go_sem, Nat.reduceSub, Nat.reduceAdd, Nat.reduceMul, Nat.reduceLT, Nat.reduceLeDiff, Nat.reduceEqDiff, Nat.reduceDiv, Nat.reduceMod, Int.reduceToNat, Int.reduceLE, Int.reduceLT, Int.reduceBEq, Int.reduceBNe, Int.reduceNeg, Int.reduceAdd, Int.reduceSub, Int.reduceMul, reduceCtorEq, g1, hr0, WeekRow.cs, List.drop_succ_cons, List.drop_zero] | simp -dsimp (disch := omega) only [wrap_i64])); repeat (with_reducible refine sideA ?_)))
       refine condT.split (fun g2 => ?_) (fun g2 => ?_)
       · (repeat ((repeat1' (first | simp -implicitDefEqProofs -dsimp only [go_sem, Nat.reduceSub, Nat.reduceAdd, Nat.reduceMul, Nat.reduceLT, Nat.reduceLeDiff, Nat.reduceEqDiff, Nat.reduceDiv, Nat.reduceMod, Int.reduceToNat, Int.reduceLE, Int.reduceLT, Int.reduceBEq, Int.reduceBNe, Int.reduceNeg, Int.reduceAdd, Int.reduceSub, Int.reduceMul, reduceCtorEq, g2] | simp -dsimp (disch := omega) only [wrap_i64])); repeat (with_reducible refine sideA ?_)))
         refine ⟨i + 1, hi', ?_, by omega⟩
         rw [hstep, hsk (of_decide_eq_true g2)]
         simp only [tabH, outC, pairC, List.length_cons, List.length_nil, List.map_cons, List.map_nil, Nat.reduceAdd, Nat.zero_add]
         refine Weak.pick [0, 1, 2, 3, 4, 5, 6, 7, 8, 9, 10] (by decide) (fun j hj => by omega) ?_ ?_
         · simp [LeG, LeC, LeV, ren, pickF, posOf]
         · simp [pickH, pickB, pickF, posOf, ren]
       · (repeat ((repeat1' (first | simp -implicitDefEqProofs -dsimp only [go_sem, Nat.reduceSub, Nat.reduceAdd, Nat.reduceMul, Nat.reduceLT, Nat.reduceLeDiff, Nat.reduceEqDiff, Nat.reduceDiv, Nat.reduceMod, Int.reduceToNat, Int.reduceLE, Int.reduceLT, Int.reduceBEq, Int.reduceBNe, Int.reduceNeg, Int.reduceAdd, Int.reduceSub, Int.reduceMul, reduceCtorEq, g2, hk, hz] | simp -dsimp (disch := omega) only [wrap_i64])); repeat (with_reducible refine sideA ?_)))
         refine condT.split (fun g3 => ?_) (fun g3 => ?_)
         · have g3' : p10.2 = r.Week - 1 := by simpa using g3
           (repeat ((repeat1' (first | simp -implicitDefEqProofs -dsimp only [go_sem, Nat.reduceSub, Nat.reduceAdd, Nat.reduceMul, Nat.reduceLT, Nat.reduceLeDiff, Nat.reduceEqDiff, Nat.reduceDiv, Nat.reduceMod, Int.reduceToNat, Int.reduceLE, Int.reduceLT, Int.reduceBEq, Int.reduceBNe, Int.reduceNeg, Int.reduceAdd, Int.reduceSub, Int.reduceMul, reduceCtorEq, g3, hk] | simp -dsimp (disch := omega) only [wrap_i64])); repeat (with_reducible refine sideA ?_)))
           refine ⟨i + 1, hi', ?_, by omega⟩
           rw [hstep, hme (of_decide_eq_false g2) g3']
           simp only [tabH, outC, pairC, List.length_cons, List.length_nil, List.map_cons, List.map_nil, Nat.reduceAdd, Nat.zero_add]
           refine Weak.pick [0, 1, 2, 3, 4, 5, 6, 7, 8, 9, 11] (by decide) (fun j hj => by omega) ?_ ?_
           · simp [LeG, LeC, LeV, ren, pickF, posOf]
           · simp [pickH, pickB, pickF, posOf, ren]
         · have g3' : p10.2 ≠ r.Week - 1 := by simpa using g3
           (repeat ((repeat1' (first | simp -implicitDefEqProofs -dsimp only [go_sem, Nat.reduceSub, Nat.reduceAdd, Nat.reduceMul, Nat.reduceLT, Nat.reduceLeDiff, Nat.reduceEqDiff, Nat.reduceDiv, Nat.reduceMod, Int.reduceToNat, Int.reduceLE, Int.reduceLT, Int.reduceBEq, Int.reduceBNe, Int.reduceNeg, Int.reduceAdd, Int.reduceSub, Int.reduceMul, reduceCtorEq, g3, hk] | simp -dsimp (disch := omega) only [wrap_i64])); repeat (with_reducible refine sideA ?_)))
           refine ⟨i + 1, hi', ?_, by omega⟩
           rw [hstep, hnw (of_decide_eq_false g2) g3']
           simp only [tabH, outC, pairC, List.length_cons, List.length_nil, List.map_cons, List.map_nil, Nat.reduceAdd, Nat.zero_add]
           refine Weak.pick [0, 1, 2, 3, 4, 5, 6, 7, 8, 9, 10, 11] (by decide) (fun j hj => by omega) ?_ ?_
           · simp [LeG, LeC, LeV, ren, pickF, posOf]
           · simp [pickH, pickB, pickF, posOf, ren]
     · have hsk : r.Events ≤ lim → swS lim [p1, p2, p3, p4, p5, p6, p7, p8, p9, p10, p11] r = [p1, p2, p3, p4, p5, p6, p7, p8, p9, p10, p11] := fun h => by simp [swS, h]
       have hme : ¬ r.Events ≤ lim → p11.2 = r.Week - 1 → swS lim [p1, p2, p3, p4, p5, p6, p7, p8, p9, p10, p11] r = [p1, p2, p3, p4, p5, p6, p7, p8, p9, p10, (p11.1, r.Week)] := fun h h2 => by simp [swS, h, h2]
       have hnw : ¬ r.Events ≤ lim → p11.2 ≠ r.Week - 1 → swS lim [p1, p2, p3, p4, p5, p6, p7, p8, p9, p10, p11] r = [p1, p2, p3, p4, p5, p6, p7, p8, p9, p10, p11, (r.Week, r.Week)] := fun h h2 => by simp [swS, h, h2]
       have hk : IntKind.i64.wrap (((11 : Nat) : Int) - 1) = 10 := by rw [wrap_i64 (by omega) (by omega)]; rfl
       have hz : decide ((0 : Int) < ((11 : Nat) : Int)) = true := by decide
       simp only [tabH, outC, pairC, List.length_cons, List.length_nil, List.map_cons, List.map_nil, Nat.reduceAdd, Nat.zero_add]
       (repeat ((repeat1' (first | simp -implicitDefEqProofs -dsimp only [go_sem, Nat.reduceSub, Nat.reduceAdd, Nat.reduceMul, Nat.reduceLT, Nat.reduceLeDiff, Nat.reduceEqDiff, Nat.reduceDiv, Nat.reduceMod, Int.reduceToNat, Int.reduceLE, Int.reduceLT, Int.reduceBEq, Int.reduceBNe, Int.reduceNeg, Int.reduceAdd, Int.reduceSub, Int.reduceMul, reduceCtorEq, g1, hr0, WeekRow.cs, List.drop_succ_cons, List.drop_zero] | simp -dsimp (disch := omega) only [wrap_i64])); repeat (with_reducible refine sideA ?_)))
       refine condT.split (fun g2 => ?_) (fun g2 => ?_)
       · (repeat ((repeat1' (first | simp -implicitDefEqProofs -dsimp only [go_sem, Nat.reduceSub, Nat.reduceAdd, Nat.reduceMul, Nat.reduceLT, Nat.reduceLeDiff, Nat.reduceEqDiff, Nat.reduceDiv, Nat.reduceMod, Int.reduceToNat, Int.reduceLE, Int.reduceLT, Int.reduceBEq, Int.reduceBNe, Int.reduceNeg, Int.reduceAdd, Int.reduceSub, Int.reduceMul, reduceCtorEq, g2] | simp -dsimp (disch := omega) only [wrap_i64])); repeat (with_reducible refine sideA ?_)))
         refine ⟨i + 1, hi', ?_, by omega⟩
         rw [hstep, hsk (of_decide_eq_true g2)]
         simp only [tabH, outC, pairC, List.length_cons, List.length_nil, List.map_cons, List.map_nil, Nat.reduceAdd, Nat.zero_add]
         refine Weak.pick [0, 1, 2, 3, 4, 5, 6, 7, 8, 9, 10, 11] (by decide) (fun j hj => by omega) ?_ ?_
         · simp [LeG, LeC, LeV, ren, pickF, posOf]
         · simp [pickH, pickB, pickF, posOf, ren]
       · (repeat ((repeat1' (first | simp -implicitDefEqProofs -dsimp only [go_sem, Nat.reduceSub, Nat.reduceAdd, Nat.reduceMul, Nat.reduceLT, Nat.reduceLeDiff, Nat.reduceEqDiff, Nat.reduceDiv, Nat.reduceMod, Int.reduceToNat, Int.reduceLE, Int.reduceLT, Int.reduceBEq, Int.reduceBNe, Int.reduceNeg, Int.reduceAdd, Int.reduceSub, Int.reduceMul, reduceCtorEq, g2, hk, hz] | simp -dsimp (disch := omega) only [wrap_i64])); repeat (with_reducible refine sideA ?_)))
         refine condT.split (fun g3 => ?_) (fun g3 => ?_)
         · have g3' : p11.2 = r.Week - 1 := by simpa using g3
           (repeat ((repeat1' (first | simp -implicitDefEqProofs -dsimp only [go_sem, Nat.reduceSub, Nat.reduceAdd, Nat.reduceMul, Nat.reduceLT, Nat.reduceLeDiff, Nat.reduceEqDiff, Nat.reduceDiv, Nat.reduceMod, Int.reduceToNat, Int.reduceLE, Int.reduceLT, Int.reduceBEq, Int.reduceBNe, Int.reduceNeg, Int.reduceAdd, Int.reduceSub, Int.reduceMul, reduceCtorEq, g3, hk] | simp -dsimp (disch := omega) only [wrap_i64])); repeat (with_reducible refine sideA ?_)))
           refine ⟨i + 1, hi', ?_, by omega⟩
           rw [hstep, hme (of_decide_eq_false g2) g3']
           simp only [tabH, outC, pairC, List.length_cons, List.length_nil, List.map_cons, List.map_nil, Nat.reduceAdd, Nat.zero_add]
           refine Weak.pick [0, 1, 2, 3, 4, 5, 6, 7, 8, 9, 10, 12] (by decide) (fun j hj => by omega) ?_ ?_
           · simp [LeG, LeC, LeV, ren, pickF, posOf]
           · simp [pickH, pickB, pickF, posOf, ren]
         · have g3' : p11.2 ≠ r.Week - 1 := by simpa using g3
           (repeat ((repeat1' (first | simp -implicitDefEqProofs -dsimp only [go_sem, Nat.reduceSub, Nat.reduceAdd, Nat.reduceMul, Nat.reduceLT, Nat.reduceLeDiff, Nat.reduceEqDiff, Nat.reduceDiv, Nat.reduceMod, Int.reduceToNat, Int.reduceLE, Int.reduceLT, Int.reduceBEq, Int.reduceBNe, Int.reduceNeg, Int.reduceAdd, Int.reduceSub, Int.reduceMul, reduceCtorEq, g3, hk] | simp -dsimp (disch := omega) only [wrap_i64])); repeat (with_reducible refine sideA ?_)))
           refine ⟨i + 1, hi', ?_, by omega⟩
           rw [hstep, hnw (of_decide_eq_false g2) g3']
           simp only [tabH, outC, pairC, List.length_cons, List.length_nil, List.map_cons, List.map_nil, Nat.reduceAdd, Nat.zero_add]
           refine Weak.pick [0, 1, 2, 3, 4, 5, 6, 7, 8, 9, 10, 11, 12] (by decide) (fun j hj => by omega) ?_ ?_
           · simp [LeG, LeC, LeV, ren, pickF, posOf]
           · simp [pickH, pickB, pickF, posOf, ren]
     · have hsk : r.Events ≤ lim → swS lim [p1, p2, p3, p4, p5, p6, p7, p8, p9, p10, p11, p12] r = [p1, p2, p3, p4, p5, p6, p7, p8, p9, p10, p11, p12] := fun h => by simp [swS, h]
       have hme : ¬ r.Events ≤ lim → p12.2 = r.Week - 1 → swS lim [p1, p2, p3, p4, p5, p6, p7, p8, p9, p10, p11, p12] r = [p1, p2, p3, p4, p5, p6, p7, p8, p9, p10, p11, (p12.1, r.Week)] := fun h h2 => by simp [swS, h, h2]
       have hnw : ¬ r.Events ≤ lim → p12.2 ≠ r.Week - 1 → swS lim [p1, p2, p3, p4, p5, p6, p7, p8, p9, p10, p11, p12] r = [p1, p2, p3, p4, p5, p6, p7, p8, p9, p10, p11, p12, (r.Week, r.Week)] := fun h h2 => by simp [swS, h, h2]
       have hk : IntKind.i64.wrap (((12 : Nat) : Int) - 1) = 11 := by rw [wrap_i64 (by omega) (by omega)]; rfl
       have hz : decide ((0 : Int) < ((12 : Nat) : Int)) = true := by decide
       simp only [tabH, outC, pairC, List.length_cons, List.length_nil, List.map_cons, List.map_nil, Nat.reduceAdd, Nat.zero_add]
       (repeat ((repeat1' (first | simp -implicitDefEqProofs -dsimp only [go_sem, Nat.reduceSub, Nat.reduceAdd, Nat.reduceMul, Nat.reduceLT, Nat.reduceLeDiff, Nat.reduceEqDiff, Nat.reduceDiv, Nat.reduceMod, Int.reduceToNat, Int.reduceLE, Int.reduceLT, Int.reduceBEq, Int.reduceBNe, Int.reduceNeg, Int.reduceAdd, Int.reduceSub, Int.reduceMul, reduceCtorEq, g1, hr0, WeekRow.cs, List.drop_succ_cons, List.drop_zero] | simp -dsimp (disch := omega) only [wrap_i64])); repeat (with_reducible refine sideA ?_)))
       refine condT.split (fun g2 => ?_) (fun g2 => ?_)
       · (repeat ((repeat1' (first | simp -implicitDefEqProofs -dsimp only [go_sem, Nat.reduceSub, Nat.reduceAdd, Nat.reduceMul, Nat.reduceLT, Nat.reduceLeDiff, Nat.reduceEqDiff, Nat.reduceDiv, Nat.reduceMod, Int.reduceToNat, Int.reduceLE, Int.reduceLT, Int.reduceBEq, Int.reduceBNe, Int.reduceNeg, Int.reduceAdd, Int.reduceSub, Int.reduceMul, reduceCtorEq, g2] | simp -dsimp (disch := omega) only [wrap_i64])); repeat (with_reducible refine sideA ?_)))
         refine ⟨i + 1, hi', ?_, by omega⟩
         rw [hstep, hsk (of_decide_eq_true g2)]
         simp only [tabH, outC, pairC, List.length_cons, List.length_nil, List.map_cons, List.map_nil, Nat.reduceAdd, Nat.zero_add]
         refine Weak.pick [0, 1, 2, 3, 4, 5, 6, 7, 8, 9, 10, 11, 12] (by decide) (fun j hj => by omega) ?_ ?_
         · simp [LeG, LeC, LeV, ren, pickF, posOf]
         · simp [pickH, pickB, pickF, posOf, ren]
       · (repeat ((repeat1' (first | simp -implicitDefEqProofs -dsimp only [go_sem, Nat.reduceSub, Nat.reduceAdd, Nat.reduceMul, Nat.reduceLT, Nat.reduceLeDiff, Nat.reduceEqDiff, Nat.reduceDiv, Nat.reduceMod, Int.reduceToNat, Int.reduceLE, Int.reduceLT, Int.reduceBEq, Int.reduceBNe, Int.reduceNeg, Int.reduceAdd, Int.reduceSub, Int.reduceMul, reduceCtorEq, g2, hk, hz] | simp -dsimp (disch := omega) only [wrap_i64])); repeat (with_reducible refine sideA ?_)))
         refine condT.split (fun g3 => ?_) (fun g3 => ?_)
         · have g3' : p12.2 = r.Week - 1 := by simpa using g3
           (repeat ((repeat1' (first | simp -implicitDefEqProofs -dsimp only [go_sem, Nat.reduceSub, Nat.reduceAdd, Nat.reduceMul, Nat.reduceLT, Nat.reduceLeDiff, Nat.reduceEqDiff, Nat.reduceDiv, Nat.reduceMod, Int.reduceToNat, Int.reduceLE, Int.reduceLT, Int.reduceBEq, Int.reduceBNe, Int.reduceNeg, Int.reduceAdd, Int.reduceSub, Int.reduceMul, reduceCtorEq, g3, hk] | simp -dsimp (disch := omega) only [wrap_i64])); repeat (with_reducible refine sideA ?_)))
           refine ⟨i + 1, hi', ?_, by omega⟩
           rw [hstep, hme (of_decide_eq_false g2) g3']
           simp only [tabH, outC, pairC, List.length_cons, List.length_nil, List.map_cons, List.map_nil, Nat.reduceAdd, Nat.zero_add]
           refine Weak.pick [0, 1, 2, 3, 4, 5, 6, 7, 8, 9, 10, 11, 13] (by decide) (fun j hj => by omega) ?_ ?_
           · simp [LeG, LeC, LeV, ren, pickF, posOf]
           · simp [pickH, pickB, pickF, posOf, ren]
         · have g3' : p12.2 ≠ r.Week - 1 := by simpa using g3
           (repeat ((repeat1' (first | simp -implicitDefEqProofs -dsimp only [go_sem, Nat.reduceSub, Nat.reduceAdd, Nat.reduceMul, Nat.reduceLT, Nat.reduceLeDiff, Nat.reduceEqDiff, Nat.reduceDiv, Nat.reduceMod, Int.reduceToNat, Int.reduceLE, Int.reduceLT, Int.reduceBEq, Int.reduceBNe, Int.reduceNeg, Int.reduceAdd, Int.reduceSub, Int.reduceMul, reduceCtorEq, g3, hk] | simp -dsimp (disch := omega) only [wrap_i64])); repeat (with_reducible refine sideA ?_)))
           refine ⟨i + 1, hi', ?_, by omega⟩
           rw [hstep, hnw (of_decide_eq_false g2) g3']
           simp only [tabH, outC, pairC, List.length_cons, List.length_nil, List.map_cons, List.map_nil, Nat.reduceAdd, Nat.zero_add]
           refine Weak.pick [0, 1, 2, 3, 4, 5, 6, 7, 8, 9, 10, 11, 12, 13] (by decide) (fun j hj => by omega) ?_ ?_
           · simp [LeG, LeC, LeV, ren, pickF, posOf]
           · simp [pickH, pickB, pickF, posOf, ren]
     · exfalso; simp only [List.length_cons] at hPl; omega
   · have hi' : i = L.length := by simp at g1; omega
     subst hi'
     rw [List.take_length] at hPl ⊢
     generalize swarms lim L = Pq at hPl ⊢
     rcases Pq with _ | ⟨p1, _ | ⟨p2, _ | ⟨p3, _ | ⟨p4, _ | ⟨p5, _ | ⟨p6, _ | ⟨p7, _ | ⟨p8, _ | ⟨p9, _ | ⟨p10, _ | ⟨p11, _ | ⟨p12, _ | ⟨p13, Q⟩⟩⟩⟩⟩⟩⟩⟩⟩⟩⟩⟩⟩
     · simp only [tabH, outC, pairC, List.length_cons, List.length_nil, List.map_cons, List.map_nil, Nat.reduceAdd, Nat.zero_add]
       (repeat ((repeat1' (first | simp -implicitDefEqProofs -dsimp only [go_sem, Nat.reduceSub, Nat.reduceAdd, Nat.reduceMul, Nat.reduceLT, Nat.reduceLeDiff, Nat.reduceEqDiff, Nat.reduceDiv, Nat.reduceMod, Int.reduceToNat, Int.reduceLE, Int.reduceLT, Int.reduceBEq, Int.reduceBNe, Int.reduceNeg, Int.reduceAdd, Int.reduceSub, Int.reduceMul, reduceCtorEq, g1] | simp -dsimp (disch := omega) only [wrap_i64])); repeat (with_reducible refine sideA ?_)))
       refine WeakR.pick [] (by decide) (fun j hj => by omega) (.inl ?_) rfl
       simp [tabV, tabC, pairC, rows, ren, pickF, posOf, frzR]
     · simp only [tabH, outC, pairC, List.length_cons, List.length_nil, List.map_cons, List.map_nil, Nat.reduceAdd, Nat.zero_add]
       (repeat ((repeat1' (first | simp -implicitDefEqProofs -dsimp only [go_sem, Nat.reduceSub, Nat.reduceAdd, Nat.reduceMul, Nat.reduceLT, Nat.reduceLeDiff, Nat.reduceEqDiff, Nat.reduceDiv, Nat.reduceMod, Int.reduceToNat, Int.reduceLE, Int.reduceLT, Int.reduceBEq, Int.reduceBNe, Int.reduceNeg, Int.reduceAdd, Int.reduceSub, Int.reduceMul, reduceCtorEq, g1] | simp -dsimp (disch := omega) only [wrap_i64])); repeat (with_reducible refine sideA ?_)))
       refine WeakR.pick [] (by decide) (fun j hj => by omega) (.inl ?_) rfl
       simp [tabV, tabC, pairC, rows, ren, pickF, posOf, frzR]
     · simp only [tabH, outC, pairC, List.length_cons, List.length_nil, List.map_cons, List.map_nil, Nat.reduceAdd, Nat.zero_add]
       (repeat ((repeat1' (first | simp -implicitDefEqProofs -dsimp only [go_sem, Nat.reduceSub, Nat.reduceAdd, Nat.reduceMul, Nat.reduceLT, Nat.reduceLeDiff, Nat.reduceEqDiff, Nat.reduceDiv, Nat.reduceMod, Int.reduceToNat, Int.reduceLE, Int.reduceLT, Int.reduceBEq, Int.reduceBNe, Int.reduceNeg, Int.reduceAdd, Int.reduceSub, Int.reduceMul, reduceCtorEq, g1] | simp -dsimp (disch := omega) only [wrap_i64])); repeat (with_reducible refine sideA ?_)))
       refine WeakR.pick [] (by decide) (fun j hj => by omega) (.inl ?_) rfl
       simp [tabV, tabC, pairC, rows, ren, pickF, posOf, frzR]
     · simp only [tabH, outC, pairC, List.length_cons, List.length_nil, List.map_cons, List.map_nil, Nat.reduceAdd, Nat.zero_add]
       (repeat ((repeat1' (first | simp -implicitDefEqProofs -dsimp only [go_sem, Nat.reduceSub, Nat.reduceAdd, Nat.reduceMul, Nat.reduceLT, Nat.reduceLeDiff, Nat.reduceEqDiff, Nat.reduceDiv, Nat.reduceMod, Int.reduceToNat, Int.reduceLE, Int.reduceLT, Int.reduceBEq, Int.reduceBNe, Int.reduceNeg, Int.reduceAdd, Int.reduceSub, Int.reduceMul, reduceCtorEq, g1] | simp -dsimp (disch := omega) only [wrap_i64])); repeat (with_reducible refine sideA ?_)))
       refine WeakR.pick [] (by decide) (fun j hj => by omega) (.inl ?_) rfl
       simp [tabV, tabC, pairC, rows, ren, pickF, posOf, frzR]
     · simp only [tabH, outC, pairC, List.length_cons, List.length_nil, List.map_cons, List.map_nil, Nat.reduceAdd, Nat.zero_add]
       (repeat ((repeat1' (first | simp -implicitDefEqProofs -dsimp only [go_sem, Nat.reduceSub, Nat.reduceAdd, Nat.reduceMul, Nat.reduceLT, Nat.reduceLeDiff, Nat.reduceEqDiff, Nat.reduceDiv, Nat.reduceMod, Int.reduceToNat, Int.reduceLE, Int.reduceLT, Int.reduceBEq, Int.reduceBNe, Int.reduceNeg, Int.reduceAdd, Int.reduceSub, Int.reduceMul, reduceCtorEq, g1] | simp -dsimp (disch := omega) only [wrap_i64])); repeat (with_reducible refine sideA ?_)))
       refine WeakR.pick [] (by decide) (fun j hj => by omega) (.inl ?_) rfl
       simp [tabV, tabC, pairC, rows, ren, pickF, posOf, frzR]
     · simp only [tabH, outC, pairC, List.length_cons, List.length_nil, List.map_cons, List.map_nil, Nat.reduceAdd, Nat.zero_add]
       (repeat ((repeat1' (first | simp -implicitDefEqProofs -dsimp only [go_sem, Nat.reduceSub, Nat.reduceAdd, Nat.reduceMul, Nat.reduceLT, Nat.reduceLeDiff, Nat.reduceEqDiff, Nat.reduceDiv, Nat.reduceMod, Int.reduceToNat, Int.reduceLE, Int.reduceLT, Int.reduceBEq, Int.reduceBNe, Int.reduceNeg, Int.reduceAdd, Int.reduceSub, Int.reduceMul, reduceCtorEq, g1] | simp -dsimp (disch := omega) only [wrap_i64])); repeat (with_reducible refine sideA ?_)))
       refine WeakR.pick [] (by decide) (fun j hj => by omega) (.inl ?_) rfl
       simp [tabV, tabC, pairC, rows, ren, pickF, posOf, frzR]
     · simp only [tabH, outC, pairC, List.length_cons, List.length_nil, List.map_cons, List.map_nil, Nat.reduceAdd, Nat.zero_add]
       (repeat ((repeat1' (first | simp -implicitDefEqProofs -dsimp only [go_sem, Nat.reduceSub, Nat.reduceAdd, Nat.reduceMul, Nat.reduceLT, Nat.reduceLeDiff, Nat.reduceEqDiff, Nat.reduceDiv, Nat.reduceMod, Int.reduceToNat, Int.reduceLE, Int.reduceLT, Int.reduceBEq, Int.reduceBNe, Int.reduceNeg, Int.reduceAdd, Int.reduceSub, Int.reduceMul, reduceCtorEq, g1] | simp -dsimp (disch := omega) only [wrap_i64])); repeat (with_reducible refine sideA ?_)))
       refine WeakR.pick [] (by decide) (fun j hj => by omega) (.inl ?_) rfl
       simp [tabV, tabC, pairC, rows, ren, pickF, posOf, frzR]
     · simp only [tabH, outC, pairC, List.length_cons, List.length_nil, List.map_cons, List.map_nil, Nat.reduceAdd, Nat.zero_add]
       (repeat ((repeat1' (first | simp -implicitDefEqProofs -dsimp only [go_sem, Nat.reduceSub, Nat.reduceAdd, Nat.reduceMul, Nat.reduceLT, Nat.reduceLeDiff, Nat.reduceEqDiff, Nat.reduceDiv, Nat.reduceMod, Int.reduceToNat, Int.reduceLE, Int.reduceLT, Int.reduceBEq, Int.reduceBNe, Int.reduceNeg, Int.reduceAdd, Int.reduceSub, Int.reduceMul, reduceCtorEq, g1] | simp -dsimp (disch := omega) only [wrap_i64])); repeat (with_reducible refine sideA ?_)))
       refine WeakR.pick [] (by decide) (fun j hj => by omega) (.inl ?_) rfl
       simp [tabV, tabC, pairC, rows, ren, pickF, posOf, frzR]
     · simp only [tabH, outC, pairC, List.length_cons, List.length_nil, List.map_cons, List.map_nil, Nat.reduceAdd, Nat.zero_add]
       (repeat ((repeat1' (first | simp -implicitDefEqProofs -dsimp only [go_sem, Nat.reduceSub, Nat.reduceAdd, Nat.reduceMul, Nat.reduceLT, Nat.reduceLeDiff, Nat.reduceEqDiff, Nat.reduceDiv, Nat.reduceMod, Int.reduceToNat, Int.reduceLE, Int.reduceLT, Int.reduceBEq, Int.reduceBNe, Int.reduceNeg, Int.reduceAdd, Int.reduceSub, Int.reduceMul, reduceCtorEq, g1] | simp -dsimp (disch := omega) only [wrap_i64])); repeat (with_reducible refine sideA ?_)))
       refine WeakR.pick [] (by decide) (fun j hj => by omega) (.inl ?_) rfl
       simp [tabV, tabC, pairC, rows, ren, pickF, posOf, frzR]
     · simp only [tabH, outC, pairC, List.length_cons, List.length_nil, List.map_cons, List.map_nil, Nat.reduceAdd, Nat.zero_add]
       (repeat ((repeat1' (first | simp -implicitDefEqProofs -dsimp only [go_sem, Nat.reduceSub, Nat.reduceAdd, Nat.reduceMul, Nat.reduceLT, Nat.reduceLeDiff, Nat.reduceEqDiff, Nat.reduceDiv, Nat.reduceMod, Int.reduceToNat, Int.reduceLE, Int.reduceLT, Int.reduceBEq, Int.reduceBNe, Int.reduceNeg, Int.reduceAdd, Int.reduceSub, Int.reduceMul, reduceCtorEq, g1] | simp -dsimp (disch := omega) only [wrap_i64])); repeat (with_reducible refine sideA ?_)))
       refine WeakR.pick [] (by decide) (fun j hj => by omega) (.inl ?_) rfl
       simp [tabV, tabC, pairC, rows, ren, pickF, posOf, frzR]
     · simp only [tabH, outC, pairC, List.length_cons, List.length_nil, List.map_cons, List.map_nil, Nat.reduceAdd, Nat.zero_add]
       (repeat ((repeat1' (first | simp -implicitDefEqProofs -dsimp only [go_sem, Nat.reduceSub, Nat.reduceAdd, Nat.reduceMul, Nat.reduceLT, Nat.reduceLeDiff, Nat.reduceEqDiff, Nat.reduceDiv, Nat.reduceMod, Int.reduceToNat, Int.reduceLE, Int.reduceLT, Int.reduceBEq, Int.reduceBNe, Int.reduceNeg, Int.reduceAdd, Int.reduceSub, Int.reduceMul, reduceCtorEq, g1] | simp -dsimp (disch := omega) only [wrap_i64])); repeat (with_reducible refine sideA ?_)))
       refine WeakR.pick [] (by decide) (fun j hj => by omega) (.inl ?_) rfl
       simp [tabV, tabC, pairC, rows, ren, pickF, posOf, frzR]
     · simp only [tabH, outC, pairC, List.length_cons, List.length_nil, List.map_cons, List.map_nil, Nat.reduceAdd, Nat.zero_add]
       (repeat ((repeat1' (first | simp -implicitDefEqProofs -dsimp only [go_sem, Nat.reduceSub, Nat.reduceAdd, Nat.reduceMul, Nat.reduceLT, Nat.reduceLeDiff, Nat.reduceEqDiff, Nat.reduceDiv, Nat.reduceMod, Int.reduceToNat, Int.reduceLE, Int.reduceLT, Int.reduceBEq, Int.reduceBNe, Int.reduceNeg, Int.reduceAdd, Int.reduceSub, Int.reduceMul, reduceCtorEq, g1] | simp -dsimp (disch := omega) only [wrap_i64])); repeat (with_reducible refine sideA ?_)))
       refine WeakR.pick [] (by decide) (fun j hj => by omega) (.inl ?_) rfl
       simp [tabV, tabC, pairC, rows, ren, pickF, posOf, frzR]
     · simp only [tabH, outC, pairC, List.length_cons, List.length_nil, List.map_cons, List.map_nil, Nat.reduceAdd, Nat.zero_add]
       (repeat ((repeat1' (first | simp -implicitDefEqProofs -dsimp only [go_sem, Nat.reduceSub, Nat.reduceAdd, Nat.reduceMul, Nat.reduceLT, Nat.reduceLeDiff, Nat.reduceEqDiff, Nat.reduceDiv, Nat.reduceMod, Int.reduceToNat, Int.reduceLE, Int.reduceLT, Int.reduceBEq, Int.reduceBNe, Int.reduceNeg, Int.reduceAdd, Int.reduceSub, Int.reduceMul, reduceCtorEq, g1] | simp -dsimp (disch := omega) only [wrap_i64])); repeat (with_reducible refine sideA ?_)))
       refine WeakR.pick [] (by decide) (fun j hj => by omega) (.inl ?_) rfl
       simp [tabV, tabC, pairC, rows, ren, pickF, posOf, frzR]
     · exfalso; simp only [List.length_cons] at hPl; omega
end Go.Proofs
end
section
set_option maxRecDepth 100000
namespace Go.Proofs
open Go.Lv
def u8R (x : Int) : Prop := 0 ≤ x ∧ x ≤ 255
def ByteS.cs (x : Int) : List V := [.int .u8 x]
instance instFlatPByteS : FlatP ByteS.cs 1 := ⟨fun _ => rfl, fun _ d => by cases d <;> rfl, fun _ => rfl, fun _ => rfl⟩
theorem ByteS.csl (a : Int) : (ByteS.cs a).length = 1 := rfl
abbrev ByteS.ok (x : Int) : Prop := u8R x
abbrev ByteS.sl (L : List Int) : V := .sl L.length 1 (Go.Lv.rows ByteS.cs L)

end Go.Proofs
end
section
set_option maxRecDepth 100000
set_option maxHeartbeats 1000000
namespace Go.Proofs
open Go.Lv
structure Cur where
 a : Int
 s : Int
def Cur.cs (B : List Int) (c : Cur) : List V := [ByteS.sl B, .int .i64 c.a, .int .u64 c.s]
def CB (B : List Int) : Prop := lstR u8R B
def Cur.le (c : Cur) (k : Int) : Prop := 0 ≤ c.a ∧ c.a ≤ k
theorem Cur.ren (B : List Int) (c : Cur) (f : Nat → R) (d : Nat) : (c.cs B).map (Go.Lv.ren f d) = c.cs B := by cases d <;> simp [Cur.cs, Go.Lv.ren]
theorem lendCur {B : List Int} {c : Cur} {h : Hp} {id : Nat} (hid : h[id]? = some (some (c.cs B))) : pickH [id] h false = [some (c.cs B)] := by
 simp only [pickH, List.map_cons, List.map_nil, pickB, hid, Cur.ren]
theorem lendCur2 {α : Type} {cs : α → List V} {w : Nat} [FlatP cs w] {L : List α} {B : List Int} {c : Cur} {h : Hp} {i j : Nat} (hi : h[i]? = some (some (c.cs B))) (hj : h[j]? = some (some (rows cs L))) : pickH [i, j] h false = [some (c.cs B), some (rows cs L)] := by
 simp only [pickH, List.map_cons, List.map_nil, pickB, hi, hj, Cur.ren, map_ren_rows]
theorem growCur (B : List Int) (c c' : Cur) : grown [some (c.cs B)] [some (c'.cs B)] := ⟨⟨rfl, rfl⟩, trivial⟩
theorem growCur2 {α : Type} {cs : α → List V} {L : List α} (B : List Int) (c c' : Cur) : grown [some (c.cs B), some (rows cs L)] [some (c'.cs B), some (rows cs L)] := ⟨⟨rfl, rfl⟩, ⟨rfl, rfl⟩, trivial⟩
theorem andI_255 (x : Int) : 0 ≤ andI .u64 x 255 ∧ andI .u64 x 255 ≤ 255 := by
 have h : ∀ y : BitVec 64, (y &&& BitVec.ofInt 64 255).toNat ≤ 255 := fun y => by
   rw [BitVec.toNat_and]
   exact Nat.le_trans Nat.and_le_right (by decide)
 have hb : (BitVec.ofInt 64 x &&& BitVec.ofInt 64 255).toNat ≤ 255 := h _
 have hw : andI .u64 x 255 = (((BitVec.ofInt 64 x &&& BitVec.ofInt 64 255).toNat : Nat) : Int) := by
   unfold andI
   show IntKind.u64.wrap (((BitVec.ofInt 64 x &&& BitVec.ofInt 64 255).toNat : Nat) : Int) = _
   generalize (BitVec.ofInt 64 x &&& BitVec.ofInt 64 255).toNat = n at hb
   simp [IntKind.wrap, IntKind.bits, IntKind.signed]
   omega
 rw [hw]
 omega
def nextB (B : List Int) (c : Cur) : Int := if c.a < B.length then B.getD c.a.toNat 0 else 0
def nextS (B : List Int) (c : Cur) : Int := IntKind.u64.wrap (IntKind.u64.wrap (IntKind.u64.wrap (c.s * 6364136223846793005) + IntKind.u64.wrap (nextB B c)) + 101717)
def nextC (B : List Int) (c : Cur) : Cur := ⟨c.a + 1, nextS B c⟩
def nextV (B : List Int) (c : Cur) : Int := if c.a < B.length then nextB B c else andI .u64 (shrI .u64 (nextS B c) 40) 255
theorem nextB_bd {B : List Int} (hB : CB B) {c : Cur} (h : 0 ≤ c.a) : 0 ≤ nextB B c ∧ nextB B c ≤ 255 := by
 unfold nextB
 split
 · have hi : c.a.toNat < B.length := by omega
   have := hB.2 _ (List.getElem_mem hi)
   simpa [List.getD, hi, u8R] using this
 · omega
theorem nextV_bd {B : List Int} (hB : CB B) {c : Cur} (h : 0 ≤ c.a) : 0 ≤ nextV B c ∧ nextV B c ≤ 255 := by
 unfold nextV
 split
 · exact nextB_bd hB h
 · exact andI_255 _
theorem next_ok {B : List Int} (hB : CB B) {c : Cur} (hc : c.le 4611686018427387904) : Ctr Try.prog 51 [.ptr 0 0] [some (c.cs B)] (.int .i64 (nextV B c)) [some ((nextC B c).cs B)] := by
 obtain ⟨a, s⟩ := c
 obtain ⟨ha, hak⟩ := hc
 dsimp only at ha hak
 have hw : IntKind.i64.wrap (a + 1) = a + 1 := wrap_i64 (by omega) (by omega)
 have hbl := hB.1
 by_cases h1 : a < B.length
 · obtain ⟨i, rfl⟩ : ∃ i : Nat, a = i := ⟨a.toNat, by omega⟩
   have hi : i < B.length := by omega
   have hr := rows_at ByteS.csl hi
   obtain ⟨b0, b1⟩ : 0 ≤ B[i] ∧ B[i] ≤ 255 := by have := hB.2 _ (List.getElem_mem hi); simpa [u8R] using this
   have hwb : IntKind.i64.wrap B[i] = B[i] := wrap_i64 (by omega) (by omega)
   have hd : decide ((i : Int) < (B.length : Int)) = true := by simp; omega
   have hd2 : decide ((i : Int) + 1 ≤ (B.length : Int)) = true := by simp; omega
   have e1 : nextB B ⟨i, s⟩ = B[i] := by simp [nextB, h1, List.getD, hi]
   have e2 : nextV B ⟨i, s⟩ = B[i] := by simp [nextV, h1, e1]
   rw [nextC, nextS, e1, e2]
   refine Ctr.intro Try.mixed Try.func51 rfl Try.okF51 ?_
   simp -implicitDefEqProofs -dsimp only [go_sem, Try.ntmps51, Try.results51]
   (repeat ((repeat1' (first | simp -implicitDefEqProofs -dsimp only [go_sem, Cur.cs, hw, hd, hd2, hr, ByteS.cs, hwb] | simp -dsimp (disch := omega) only [wrap_i64])); repeat (with_reducible refine sideA ?_)))
   exact WeakR.refl _ _ _
 · have hd : decide (a < (B.length : Int)) = false := by simp; omega
   have hd2 : decide (a + 1 ≤ (B.length : Int)) = false := by simp; omega
   have e3 : nextV B ⟨a, s⟩ = andI .u64 (shrI .u64 (nextS B ⟨a, s⟩) 40) 255 := by simp [nextV, h1]
   have e4 : nextB B ⟨a, s⟩ = 0 := by simp [nextB, h1]
   rw [nextC, e3]
   rw [nextS, e4]
   obtain ⟨e1, e2⟩ := andI_255 (shrI .u64 (IntKind.u64.wrap (IntKind.u64.wrap (IntKind.u64.wrap (s * 6364136223846793005) + IntKind.u64.wrap 0) + 101717)) 40)
   generalize hq : andI .u64 (shrI .u64 (IntKind.u64.wrap (IntKind.u64.wrap (IntKind.u64.wrap (s * 6364136223846793005) + IntKind.u64.wrap 0) + 101717)) 40) 255 = q at e1 e2 ⊢
   have hwq : IntKind.i64.wrap q = q := wrap_i64 (by omega) (by omega)
   refine Ctr.intro Try.mixed Try.func51 rfl Try.okF51 ?_
   simp -implicitDefEqProofs -dsimp only [go_sem, Try.ntmps51, Try.results51]
   (repeat ((repeat1' (first | simp -implicitDefEqProofs -dsimp only [go_sem, Cur.cs, hw, hd, hd2, hq] | simp -dsimp (disch := omega) only [wrap_i64])); repeat (with_reducible refine sideA ?_)))
   exact WeakR.refl _ _ _
def pickV (B : List Int) (n : Int) (c : Cur) : Int := if n ≤ 1 then 0 else if 200 < n then (nextV B c * 256 + nextV B (nextC B c)).tmod n else (nextV B c).tmod n
def pickC (B : List Int) (n : Int) (c : Cur) : Cur := if n ≤ 1 then c else if 200 < n then nextC B (nextC B c) else nextC B c
theorem pickC_le {B : List Int} {n k : Int} {c : Cur} (h : c.le k) : (pickC B n c).le (k + 2) := by
 unfold pickC nextC Cur.le at *
 split
 · omega
 · split <;> (simp only []; omega)
theorem pickV_bd {B : List Int} (hB : CB B) {n : Int} {c : Cur} (h : 0 ≤ c.a) : 0 ≤ pickV B n c ∧ (1 ≤ n → pickV B n c < n) := by
 have h1 := nextV_bd hB h
 have h2 := nextV_bd hB (c := nextC B c) (by simp [nextC]; omega)
 unfold pickV
 split
 · omega
 · split
   · exact ⟨Int.tmod_nonneg _ (by omega), fun _ => Int.tmod_lt_of_pos _ (by omega)⟩
   · exact ⟨Int.tmod_nonneg _ (by omega), fun _ => Int.tmod_lt_of_pos _ (by omega)⟩
theorem pick_ok {B : List Int} (hB : CB B) {c : Cur} (hc : c.le 4611686018427387903) (n : Int) (hn : n ≤ 1000000000) : Ctr Try.prog 39 [.ptr 0 0, .int .i64 n] [some (c.cs B)] (.int .i64 (pickV B n c)) [some ((pickC B n c).cs B)] := by
 obtain ⟨r1, r2⟩ := nextV_bd hB hc.1
 have hc1 : (nextC B c).le 4611686018427387904 := by obtain ⟨h, h'⟩ := hc; exact ⟨by simp [nextC]; omega, by simp [nextC]; omega⟩
 obtain ⟨q1, q2⟩ := nextV_bd hB hc1.1
 have p4 := next_ok hB (c := c) ⟨hc.1, by have := hc.2; omega⟩
 have q4 := next_ok hB hc1
 by_cases h1 : n ≤ 1
 · have hd : decide (n ≤ 1) = true := by simp [h1]
   rw [pickV, pickC, if_pos h1, if_pos h1]
   refine Ctr.intro Try.mixed Try.func39 rfl Try.okF39 ?_
   simp -implicitDefEqProofs -dsimp only [go_sem, Try.ntmps39, Try.results39]
   (repeat ((repeat1' (first | simp -implicitDefEqProofs -dsimp only [go_sem, hd] | simp -dsimp (disch := omega) only [wrap_i64])); repeat (with_reducible refine sideA ?_)))
   exact WeakR.refl _ _ _
 have hd : decide (n ≤ 1) = false := by simp; omega
 by_cases h2 : 200 < n
 · have hd2 : decide (200 < n) = true := by simp [h2]
   have hw : IntKind.i64.wrap (nextV B c * 256) = nextV B c * 256 := wrap_i64 (by omega) (by omega)
   have hw2 : IntKind.i64.wrap (nextV B c * 256 + nextV B (nextC B c)) = nextV B c * 256 + nextV B (nextC B c) := wrap_i64 (by omega) (by omega)
   rw [pickV, pickC, if_neg h1, if_neg h1, if_pos h2, if_pos h2]
   refine Ctr.intro Try.mixed Try.func39 rfl Try.okF39 ?_
   simp -implicitDefEqProofs -dsimp only [go_sem, Try.ntmps39, Try.results39]
   (repeat ((repeat1' (first | simp -implicitDefEqProofs -dsimp only [go_sem, hd] | simp -dsimp (disch := omega) only [wrap_i64])); repeat (with_reducible refine sideA ?_)))
   refine callS.lend [0] false p4 (by decide) ⟨leO, trivial⟩ (lendCur rfl) (growCur B _ _) (.inl rfl) ?_
   (repeat ((repeat1' (first | simp -implicitDefEqProofs -dsimp only [go_sem, hd2, hw, Cur.ren] | simp -dsimp (disch := omega) only [wrap_i64])); repeat (with_reducible refine sideA ?_)))
   refine callS.lend [0] false q4 (by decide) ⟨leO, trivial⟩ (lendCur rfl) (growCur B _ _) (.inl rfl) ?_
   (repeat ((repeat1' (first | simp -implicitDefEqProofs -dsimp only [go_sem, hw2, Cur.ren] | simp -dsimp (disch := omega) only [wrap_i64])); repeat (with_reducible refine sideA ?_)))
   exact WeakR.refl _ _ _
 · have hd2 : decide (200 < n) = false := by simp [h2]
   rw [pickV, pickC, if_neg h1, if_neg h1, if_neg h2, if_neg h2]
   refine Ctr.intro Try.mixed Try.func39 rfl Try.okF39 ?_
   simp -implicitDefEqProofs -dsimp only [go_sem, Try.ntmps39, Try.results39]
   (repeat ((repeat1' (first | simp -implicitDefEqProofs -dsimp only [go_sem, hd] | simp -dsimp (disch := omega) only [wrap_i64])); repeat (with_reducible refine sideA ?_)))
   refine callS.lend [0] false p4 (by decide) ⟨leO, trivial⟩ (lendCur rfl) (growCur B _ _) (.inl rfl) ?_
   (repeat ((repeat1' (first | simp -implicitDefEqProofs -dsimp only [go_sem, hd2, Cur.ren] | simp -dsimp (disch := omega) only [wrap_i64])); repeat (with_reducible refine sideA ?_)))
   exact WeakR.refl _ _ _
theorem pick_call {B : List Int} (hB : CB B) {c : Cur} {k : Int} (hc : c.le k) (hk : k ≤ 4000000) (n : Int) (hn : n ≤ 1000000000) {t : List V} {h : Hp} {kk : Nat} {dst : Option Tmp} {Q : St → Prop} {x : Tag Q} {ci : Nat} (h0 : h[ci]? = some (some (c.cs B)))
   (hq : ∀ (v : Int) (c' : Cur), (0 ≤ v ∧ (1 ≤ n → v < n)) → c'.le (k + 2) → Q (afterM ⟨t, h, kk⟩ dst [ci] (.int .i64 v) [some (c'.cs B)])) : callS Try.prog ⟨t, h, kk⟩ dst (.fn (.func 39) [] []) [.ptr ci 0, .int .i64 n] Q x :=
 callS.lend [ci] false (pick_ok hB ⟨hc.1, by have := hc.2; omega⟩ n hn) (by simp) ⟨by simp [ren, pickF, posOf, LeV], leO, trivial⟩ (lendCur h0) (growCur B _ _) (.inl rfl) (hq _ _ (pickV_bd hB hc.1) (pickC_le hc))
def oneV (B : List Int) (n : Int) (c : Cur) : Bool := pickV B n c == 0
theorem one_ok {B : List Int} (hB : CB B) {c : Cur} (hc : c.le 4611686018427387903) (n : Int) (hn : n ≤ 1000000000) : Ctr Try.prog 50 [.ptr 0 0, .int .i64 n] [some (c.cs B)] (.bool (oneV B n c)) [some ((pickC B n c).cs B)] := by
 refine Ctr.intro Try.mixed Try.func50 rfl Try.okF50 ?_
 simp -implicitDefEqProofs -dsimp only [go_sem, Try.ntmps50, Try.results50]
 (repeat ((repeat1' (first | simp -implicitDefEqProofs -dsimp only [go_sem] | simp -dsimp (disch := omega) only [wrap_i64])); repeat (with_reducible refine sideA ?_)))
 refine callS.lend [0] false (pick_ok hB hc n hn) (by decide) ⟨leO, leO, trivial⟩ (lendCur rfl) (growCur B _ _) (.inl rfl) ?_
 (repeat ((repeat1' (first | simp -implicitDefEqProofs -dsimp only [go_sem, Cur.ren] | simp -dsimp (disch := omega) only [wrap_i64])); repeat (with_reducible refine sideA ?_)))
 exact WeakR.refl _ _ _
theorem one_call {B : List Int} (hB : CB B) {c : Cur} {k : Int} (hc : c.le k) (hk : k ≤ 4000000) (n : Int) (hn : n ≤ 1000000000) {t : List V} {h : Hp} {kk : Nat} {dst : Option Tmp} {Q : St → Prop} {x : Tag Q} {ci : Nat} (h0 : h[ci]? = some (some (c.cs B)))
   (hq : ∀ (v : Bool) (c' : Cur), c'.le (k + 2) → Q (afterM ⟨t, h, kk⟩ dst [ci] (.bool v) [some (c'.cs B)])) : callS Try.prog ⟨t, h, kk⟩ dst (.fn (.func 50) [] []) [.ptr ci 0, .int .i64 n] Q x :=
 callS.lend [ci] false (one_ok hB ⟨hc.1, by have := hc.2; omega⟩ n hn) (by simp) ⟨by simp [ren, pickF, posOf, LeV], leO, trivial⟩ (lendCur h0) (growCur B _ _) (.inl rfl) (hq _ _ (pickC_le hc))
def amongV (B : List Int) (K : List Int) (c : Cur) : Int := K.getD (pickV B K.length c).toNat 0
theorem amongV_mem {B : List Int} (hB : CB B) {K : List Int} (hK : 0 < K.length) {c : Cur} (h : 0 ≤ c.a) : amongV B K c ∈ K := by
 obtain ⟨h1, h2⟩ := pickV_bd hB (n := K.length) h
 have hi : (pickV B K.length c).toNat < K.length := by omega
 simp [amongV, List.getD, hi]
theorem among_ok {B : List Int} (hB : CB B) {c : Cur} (hc : c.le 4611686018427387903) (K : List Int) (hK0 : 0 < K.length) (hK : K.length ≤ 1000000000) : Ctr Try.prog 38 [.ptr 0 0, .osl 1 0 K.length 1] [some (c.cs B), some (rows IntS.cs K)] (.int .i64 (amongV B K c)) [some ((pickC B K.length c).cs B), some (rows IntS.cs K)] := by
 obtain ⟨h1, h2⟩ := pickV_bd hB (n := K.length) hc.1
 obtain ⟨i, hi'⟩ : ∃ i : Nat, pickV B K.length c = i := ⟨(pickV B K.length c).toNat, by omega⟩
 have hi : i < K.length := by omega
 have hr := rows_at IntS.csl hi
 have e : amongV B K c = K[i] := by simp [amongV, hi', List.getD, hi]
 have hp := pick_ok hB hc K.length (by omega)
 rw [hi'] at hp
 rw [e]
 refine Ctr.intro Try.mixed Try.func38 rfl Try.okF38 ?_
 simp -implicitDefEqProofs -dsimp only [go_sem, Try.ntmps38, Try.results38]
 (repeat ((repeat1' (first | simp -implicitDefEqProofs -dsimp only [go_sem] | simp -dsimp (disch := omega) only [wrap_i64])); repeat (with_reducible refine sideA ?_)))
 refine callS.lend [0] false hp (by decide) ⟨leO, leO, trivial⟩ (lendCur rfl) (growCur B _ _) (.inl rfl) ?_
 (repeat ((repeat1' (first | simp -implicitDefEqProofs -dsimp only [go_sem, Cur.ren, hr, IntS.cs] | simp -dsimp (disch := omega) only [wrap_i64])); repeat (with_reducible refine sideA ?_)))
 exact WeakR.refl _ _ _
theorem among_call {B : List Int} (hB : CB B) {c : Cur} {k : Int} (hc : c.le k) (hk : k ≤ 4000000) (K : List Int) (hK0 : 0 < K.length) (hK : K.length ≤ 1000000000) {t : List V} {h : Hp} {kk : Nat} {dst : Option Tmp} {Q : St → Prop} {x : Tag Q} {ci : Nat} (h0 : h[ci]? = some (some (c.cs B))) {i : Nat} (h1 : h[i]? = some (some (rows IntS.cs K))) (hne : (ci == i) = false)
   (hq : ∀ (v : Int) (c' : Cur), v ∈ K → c'.le (k + 2) → Q (afterM ⟨t, h, kk⟩ dst [ci, i] (.int .i64 v) [some (c'.cs B), some (rows IntS.cs K)])) : callS Try.prog ⟨t, h, kk⟩ dst (.fn (.func 38) [] []) [.ptr ci 0, .osl i 0 K.length 1] Q x := by
 have hn : ci ≠ i := by simpa using hne
 have hn' : (i == ci) = false := by simpa using Ne.symm hn
 exact callS.lend [ci, i] false (among_ok hB ⟨hc.1, by have := hc.2; omega⟩ K hK0 hK) (by simp [hn]) ⟨by simp [ren, pickF, posOf, LeV], by simp [ren, pickF, posOf, LeV, Ne.symm hn], trivial⟩ (lendCur2 h0 h1) (growCur2 B _ _) (.inl rfl) (hq _ _ (amongV_mem hB hK0 hc.1) (pickC_le hc))
end Go.Proofs
end
section
set_option maxRecDepth 100000
namespace Go.Proofs
open Go.Lv
structure QuakeRow where
 Id : Int
 Tick : Int
 X : Int
 Y : Int
 Deep : Int
 Size : Int
 Grade : Int
def QuakeRow.cs (r : QuakeRow) : List V := [.int .i64 r.Id, .int .i64 r.Tick, .int .i64 r.X, .int .i64 r.Y, .int .i64 r.Deep, .int .i64 r.Size, .int .i64 r.Grade]
def QuakeRow.v (r : QuakeRow) : V := .agg [.int .i64 r.Id, .int .i64 r.Tick, .int .i64 r.X, .int .i64 r.Y, .int .i64 r.Deep, .int .i64 r.Size, .int .i64 r.Grade]
theorem QuakeRow.csl (a : QuakeRow) : a.cs.length = 7 := rfl
instance : FlatP QuakeRow.cs 7 := ⟨fun _ => rfl, fun _ d => by cases d <;> rfl, fun _ => rfl, fun _ => rfl⟩
def QuakeRow.ok (r : QuakeRow) : Prop := i64R r.Id ∧ i64R r.Tick ∧ i64R r.X ∧ i64R r.Y ∧ i64R r.Deep ∧ i64R r.Size ∧ i64R r.Grade
abbrev QuakeRow.rows (L : List QuakeRow) : List V := Go.Lv.rows QuakeRow.cs L
abbrev QuakeRow.sl (L : List QuakeRow) : V := .sl L.length 7 (Go.Lv.rows QuakeRow.cs L)
abbrev QuakeRow.zs : List V := [.int .i64 0, .int .i64 0, .int .i64 0, .int .i64 0, .int .i64 0, .int .i64 0, .int .i64 0]
def QuakeRow.mk1 (k : Int) : QuakeRow := ⟨k, k + 1, k + 1 + 1, k + 1 + 1 + 1, k + 1 + 1 + 1 + 1, k + 1 + 1 + 1 + 1 + 1, k + 1 + 1 + 1 + 1 + 1 + 1⟩
def QuakeRow.marks (k : Int) (n : Nat) : List QuakeRow := (List.range n).map fun i : Nat => QuakeRow.mk1 (k + 7 * (i : Int))
@[simp] theorem QuakeRow.marks_len (k : Int) (n : Nat) : (QuakeRow.marks k n).length = n := by simp [QuakeRow.marks]
end Go.Proofs
end
section
set_option maxRecDepth 100000
set_option maxHeartbeats 2000000
namespace Go.Proofs
open Go.Lv
def amongNV (B : List Int) (K : List Int) (n : Nat) (c : Cur) : Int := K.getD (pickV B n c).toNat 0
theorem amongNV_mem {B : List Int} (hB : CB B) {K : List Int} {n : Nat} (hn : 0 < n) (hK : n ≤ K.length) {c : Cur} (h : 0 ≤ c.a) : amongNV B K n c ∈ K := by
 obtain ⟨h1, h2⟩ := pickV_bd hB (n := n) h
 have hi : (pickV B n c).toNat < K.length := by omega
 simp [amongNV, List.getD, hi]
theorem amongN_ok {B : List Int} (hB : CB B) {c : Cur} (hc : c.le 4611686018427387903) (K : List Int) {n : Nat} (hn : 0 < n) (hK0 : n ≤ K.length) (hK : K.length ≤ 1000000000) : Ctr Try.prog 38 [.ptr 0 0, .osl 1 0 n 1] [some (c.cs B), some (rows IntS.cs K)] (.int .i64 (amongNV B K n c)) [some ((pickC B n c).cs B), some (rows IntS.cs K)] := by
 obtain ⟨h1, h2⟩ := pickV_bd hB (n := n) hc.1
 obtain ⟨i, hi'⟩ : ∃ i : Nat, pickV B n c = i := ⟨(pickV B n c).toNat, by omega⟩
 have hi : i < K.length := by omega
 have hin : decide ((i : Int) < (n : Int)) = true := decide_eq_true (by omega)
 have hr := rows_at IntS.csl hi
 have e : amongNV B K n c = K[i] := by simp [amongNV, hi', List.getD, hi]
 have hp := pick_ok hB hc n (by omega)
 rw [hi'] at hp
 rw [e]
 refine Ctr.intro Try.mixed Try.func38 rfl Try.okF38 ?_
 simp -implicitDefEqProofs -dsimp only [go_sem, Try.ntmps38, Try.results38]
 (repeat ((repeat1' (first | simp -implicitDefEqProofs -dsimp only [go_sem] | simp -dsimp (disch := omega) only [wrap_i64])); repeat (with_reducible refine sideA ?_)))
 refine callS.lend [0] false hp (by decide) ⟨leO, leO, trivial⟩ (lendCur rfl) (growCur B _ _) (.inl rfl) ?_
 (repeat ((repeat1' (first | simp -implicitDefEqProofs -dsimp only [go_sem, Cur.ren, hr, IntS.cs] | simp -dsimp (disch := omega) only [wrap_i64])); repeat (with_reducible refine sideA ?_)))
 exact WeakR.refl _ _ _
theorem lmonoQ {c : Cur} {a b : Int} (h : c.le a) (hab : a ≤ b) : c.le b := ⟨h.1, Int.le_trans h.2 hab⟩
theorem memR {K : List Int} {v : Int} (h : v ∈ K) (hk : K.all (fun x => decide (-10000000 ≤ x ∧ x ≤ 10000000)) = true) : -10000000 ≤ v ∧ v ≤ 10000000 := by
 have := List.all_eq_true.1 hk v h
 simpa using this
theorem wrap5 {j : Nat} (h : j ≤ 2) : IntKind.i64.wrap (5 + (j : Int)) = ((5 + j : Nat) : Int) := by
 rw [wrap_i64 (by omega) (by omega)]; omega
end Go.Proofs
end
section
set_option maxRecDepth 100000
set_option maxHeartbeats 2000000
namespace Go.Proofs
open Go.Lv
def weekP1 (B : List Int) (k : Int) (r : V) (hout : Hp) : Prop := ∃ (q : WeekRow) (c : Cur), c.le k ∧ r = q.v ∧ hout = [some (c.cs B)]
theorem week_fin {B : List Int} {k : Int} {h : Hp} {a b x y d : Int} {c : Cur} (h0 : h[0]? = some (some (c.cs B))) (hc : c.le k) : RelR 1 (.agg [.int .i64 a, .int .i64 b, .int .i64 x, .int .i64 y, .int .i64 d]) h (weekP1 B k) := by
 refine ⟨_, _, ⟨⟨a, b, x, y, d⟩, c, hc, rfl, rfl⟩, WeakR.pick [0] (by decide) (fun j hj => by cases j <;> simp_all) (.inl rfl) ?_⟩
 simp only [pickH, List.map_cons, List.map_nil, pickB, h0, Cur.ren]
theorem weekRow_ok {B : List Int} (hB : CB B) {k : Int} (hk : k ≤ 900000) {c : Cur} (hc : c.le k) (week : Int) : CtrP Try.prog 49 [.ptr 0 0, .int .i64 week] [some (c.cs B)] (weekP1 B (k + 30)) := by
 have hcb : ∀ {c' : Cur} {k' : Int}, c'.le k' → k' ≤ 4000000 → c'.le 4611686018427387903 := fun h h' => ⟨h.1, by have := h.2; omega⟩
 refine CtrP.intro Try.mixed Try.func49 rfl Try.okF49 ?_
 simp -implicitDefEqProofs -dsimp only [go_sem, Try.ntmps49, Try.results49]
 (repeat ((repeat1' (first | simp -implicitDefEqProofs -dsimp only [go_sem] | simp -dsimp (disch := omega) only [wrap_i64])); repeat (with_reducible refine sideA ?_)))
 refine among_call hB hc (by omega) [0, 3, 10, 11, 40, 9999] (by simp) (by simp) rfl rfl rfl (fun vc1 c1 pvc1 hc1 => ?_)
 (repeat ((repeat1' (first | simp -implicitDefEqProofs -dsimp only [go_sem, Cur.ren, map_ren_rows] | simp -dsimp (disch := omega) only [wrap_i64])); repeat (with_reducible refine sideA ?_)))
 refine among_call hB hc1 (by omega) [0, 5, 350, 99999] (by simp) (by simp) rfl rfl rfl (fun vc2 c2 pvc2 hc2 => ?_)
 (repeat ((repeat1' (first | simp -implicitDefEqProofs -dsimp only [go_sem, Cur.ren, map_ren_rows] | simp -dsimp (disch := omega) only [wrap_i64])); repeat (with_reducible refine sideA ?_)))
 refine among_call hB hc2 (by omega) [0, 0, 1, 168, 9999] (by simp) (by simp) rfl rfl rfl (fun vc3 c3 pvc3 hc3 => ?_)
 (repeat ((repeat1' (first | simp -implicitDefEqProofs -dsimp only [go_sem, Cur.ren, map_ren_rows] | simp -dsimp (disch := omega) only [wrap_i64])); repeat (with_reducible refine sideA ?_)))
 obtain ⟨hv, hhv⟩ : ∃ hv, hv = IntKind.i64.wrap (vc1.tdiv 2) := ⟨_, rfl⟩
 have hb1 := memR pvc1 (by decide)
 rw [← hhv]
 refine among_call hB hc3 (by omega) [0, hv, vc1] (by simp) (by simp) rfl rfl rfl (fun vc4 c4 pvc4 hc4 => ?_)
 (repeat ((repeat1' (first | simp -implicitDefEqProofs -dsimp only [go_sem, Cur.ren, map_ren_rows] | simp -dsimp (disch := omega) only [wrap_i64])); repeat (with_reducible refine sideA ?_)))
 refine pick_call hB hc4 (by omega) 80 (by omega) rfl (fun vc5 c5 pvc5 hc5 => ?_)
 (repeat ((repeat1' (first | simp -implicitDefEqProofs -dsimp only [go_sem, Cur.ren, map_ren_rows] | simp -dsimp (disch := omega) only [wrap_i64])); repeat (with_reducible refine sideA ?_)))
 refine condT.split (fun h0 => ?_) (fun h0 => ?_)
 · (repeat ((repeat1' (first | simp -implicitDefEqProofs -dsimp only [go_sem, h0] | simp -dsimp (disch := omega) only [wrap_i64])); repeat (with_reducible refine sideA ?_)))
   refine among_call hB hc5 (by omega) [0, 5000, 5001] (by simp) (by simp) rfl rfl rfl (fun vc6 c6 pvc6 hc6 => ?_)
   (repeat ((repeat1' (first | simp -implicitDefEqProofs -dsimp only [go_sem, Cur.ren, map_ren_rows] | simp -dsimp (disch := omega) only [wrap_i64])); repeat (with_reducible refine sideA ?_)))
   exact week_fin rfl (lmonoQ hc6 (by omega))
 · (repeat ((repeat1' (first | simp -implicitDefEqProofs -dsimp only [go_sem, h0] | simp -dsimp (disch := omega) only [wrap_i64])); repeat (with_reducible refine sideA ?_)))
   refine condT.split (fun h1 => ?_) (fun h1 => ?_)
   · (repeat ((repeat1' (first | simp -implicitDefEqProofs -dsimp only [go_sem, h1] | simp -dsimp (disch := omega) only [wrap_i64])); repeat (with_reducible refine sideA ?_)))
     refine among_call hB hc5 (by omega) [-1, 10000] (by simp) (by simp) rfl rfl rfl (fun vc6 c6 pvc6 hc6 => ?_)
     (repeat ((repeat1' (first | simp -implicitDefEqProofs -dsimp only [go_sem, Cur.ren, map_ren_rows] | simp -dsimp (disch := omega) only [wrap_i64])); repeat (with_reducible refine sideA ?_)))
     exact week_fin rfl (lmonoQ hc6 (by omega))
   · (repeat ((repeat1' (first | simp -implicitDefEqProofs -dsimp only [go_sem, h1] | simp -dsimp (disch := omega) only [wrap_i64])); repeat (with_reducible refine sideA ?_)))
     refine condT.split (fun h2 => ?_) (fun h2 => ?_)
     · (repeat ((repeat1' (first | simp -implicitDefEqProofs -dsimp only [go_sem, h2] | simp -dsimp (disch := omega) only [wrap_i64])); repeat (with_reducible refine sideA ?_)))
       refine among_call hB hc5 (by omega) [-1, vc1 + 1] (by simp) (by simp) rfl rfl rfl (fun vc6 c6 pvc6 hc6 => ?_)
       (repeat ((repeat1' (first | simp -implicitDefEqProofs -dsimp only [go_sem, Cur.ren, map_ren_rows] | simp -dsimp (disch := omega) only [wrap_i64])); repeat (with_reducible refine sideA ?_)))
       exact week_fin rfl (lmonoQ hc6 (by omega))
     · (repeat ((repeat1' (first | simp -implicitDefEqProofs -dsimp only [go_sem, h2] | simp -dsimp (disch := omega) only [wrap_i64])); repeat (with_reducible refine sideA ?_)))
       refine condT.split (fun h3 => ?_) (fun h3 => ?_)
       · (repeat ((repeat1' (first | simp -implicitDefEqProofs -dsimp only [go_sem, h3] | simp -dsimp (disch := omega) only [wrap_i64])); repeat (with_reducible refine sideA ?_)))
         refine among_call hB hc5 (by omega) [-1, 100000] (by simp) (by simp) rfl rfl rfl (fun vc6 c6 pvc6 hc6 => ?_)
         (repeat ((repeat1' (first | simp -implicitDefEqProofs -dsimp only [go_sem, Cur.ren, map_ren_rows] | simp -dsimp (disch := omega) only [wrap_i64])); repeat (with_reducible refine sideA ?_)))
         exact week_fin rfl (lmonoQ hc6 (by omega))
       · (repeat ((repeat1' (first | simp -implicitDefEqProofs -dsimp only [go_sem, h3] | simp -dsimp (disch := omega) only [wrap_i64])); repeat (with_reducible refine sideA ?_)))
         refine condT.split (fun h4 => ?_) (fun h4 => ?_)
         · (repeat ((repeat1' (first | simp -implicitDefEqProofs -dsimp only [go_sem, h4] | simp -dsimp (disch := omega) only [wrap_i64])); repeat (with_reducible refine sideA ?_)))
           refine among_call hB hc5 (by omega) [-1, 10000] (by simp) (by simp) rfl rfl rfl (fun vc6 c6 pvc6 hc6 => ?_)
           (repeat ((repeat1' (first | simp -implicitDefEqProofs -dsimp only [go_sem, Cur.ren, map_ren_rows] | simp -dsimp (disch := omega) only [wrap_i64])); repeat (with_reducible refine sideA ?_)))
           exact week_fin rfl (lmonoQ hc6 (by omega))
         · (repeat ((repeat1' (first | simp -implicitDefEqProofs -dsimp only [go_sem, h4] | simp -dsimp (disch := omega) only [wrap_i64])); repeat (with_reducible refine sideA ?_)))
           exact week_fin rfl (lmonoQ hc5 (by omega))
def weeksP (B : List Int) (k : Int) (r : V) (hout : Hp) : Prop := ∃ (L : List WeekRow) (c : Cur), L.length ≤ 20 ∧ c.le k ∧ r = .osl 1 0 L.length 5 ∧ hout = [some (c.cs B), some (rows WeekRow.cs L)]
theorem weeks_fin {B : List Int} {k : Int} {h : Hp} {L : List WeekRow} {c : Cur} (h0 : h[0]? = some (some (c.cs B))) (h1 : h[1]? = some (some (rows WeekRow.cs L))) (hl : L.length ≤ 20) (hc : c.le k) : RelR 1 (.osl 1 0 L.length 5) h (weeksP B k) := by
 refine ⟨_, _, ⟨L, c, hl, hc, rfl, rfl⟩, WeakR.pick [0, 1] (by decide) (fun j hj => by cases j <;> simp_all) (.inl rfl) ?_⟩
 simp only [pickH, List.map_cons, List.map_nil, pickB, h0, h1, Cur.ren, map_ren_rows]
theorem quo89 {x : Int} (h : 0 ≤ x ∧ (1 ≤ (90 : Int) → x < 90)) : ∃ j : Nat, Int.tdiv x 89 = j ∧ j ≤ 1 := by
 obtain ⟨n, rfl⟩ : ∃ n : Nat, x = n := ⟨x.toNat, by omega⟩
 refine ⟨n / 89, rfl, by omega⟩
def nth (i : Nat) : List WeekRow := (List.range i).map fun n : Nat => ⟨(n : Int) + 1, n, 0, 0, 0⟩
theorem nth_len (i : Nat) : (nth i).length = i := by simp [nth]
theorem nth_succ (i : Nat) : nth (i + 1) = nth i ++ [⟨(i : Int) + 1, i, 0, 0, 0⟩] := by simp [nth, List.range_succ]
theorem weekRows_ok {B : List Int} (hB : CB B) {k : Int} (hk : k ≤ 400000) {c : Cur} (hc : c.le k) : CtrP Try.prog 37 [.ptr 0 0] [some (c.cs B)] (weeksP B (k + 1000)) := by
 have hcb : ∀ {c' : Cur} {k' : Int}, c'.le k' → k' ≤ 4000000 → c'.le 4611686018427387903 := fun h h' => ⟨h.1, by have := h.2; omega⟩
 refine CtrP.intro Try.mixed Try.func37 rfl Try.okF37 ?_
 simp -implicitDefEqProofs -dsimp only [go_sem, Try.ntmps37, Try.results37]
 (repeat ((repeat1' (first | simp -implicitDefEqProofs -dsimp only [go_sem] | simp -dsimp (disch := omega) only [wrap_i64])); repeat (with_reducible refine sideA ?_)))
 refine among_call hB hc (by omega) [1, 40, 41, 4890] (by simp) (by simp) rfl rfl rfl (fun vc1 c1 pvc1 hc1 => ?_)
 (repeat ((repeat1' (first | simp -implicitDefEqProofs -dsimp only [go_sem, Cur.ren, map_ren_rows] | simp -dsimp (disch := omega) only [wrap_i64])); repeat (with_reducible refine sideA ?_)))
 have hb1 : 0 ≤ vc1 ∧ vc1 ≤ 5000 := by
   simp only [List.mem_cons, List.not_mem_nil, or_false] at pvc1
   omega
 refine pick_call hB hc1 (by omega) 8 (by omega) rfl (fun vc2 c2 pvc2 hc2 => ?_)
 (repeat ((repeat1' (first | simp -implicitDefEqProofs -dsimp only [go_sem, Cur.ren, map_ren_rows] | simp -dsimp (disch := omega) only [wrap_i64])); repeat (with_reducible refine sideA ?_)))
 obtain ⟨n0, hn0⟩ : ∃ n : Nat, vc2 = n := ⟨vc2.toNat, by omega⟩
 subst hn0
 refine LoopT.intro (fun x : Nat × Int × List WeekRow × Cur => x.1 ≤ 8 ∧ x.2.2.1.length + x.1 ≤ 8 ∧ (-100 ≤ x.2.1 ∧ x.2.1 ≤ 10000 - 60 * (x.1 : Int)) ∧ x.2.2.2.le (k + 20 + 60 * (8 - (x.1 : Int)))) (fun x => ⟨[.ptr 0 0, .undef, .undef, .osl 1 0 x.2.2.1.length 5, .int .i64 x.2.1, .int .i64 x.1, .undef, .undef, .undef, .undef, .undef, .undef, .undef, .undef, .undef, .undef, .undef, .undef, .undef, .undef, .undef, .undef, .undef, .undef, .undef, .undef, .undef, .undef, .undef, .undef, .undef, .undef, .undef, .undef, .undef, .undef, .undef, .undef, .undef, .undef, .undef, .undef, .undef, .undef, .undef, .undef, .undef, .undef, .undef, .undef], [some (x.2.2.2.cs B), some (rows WeekRow.cs x.2.2.1)], 1⟩) (fun x => x.1) (n0, vc1, [], c2) ⟨by simp only []; omega, by simp only [List.length_nil]; omega, ⟨by simp only []; omega, by simp only []; omega⟩, lmonoQ hc2 (by omega)⟩ ?_ (fun x hx => ?_)
 · refine Weak.cut (2) (by simp) (by simp) ?_ ?_
   · simp [LeC, LeV, ren, cutF]
   · simp [cutH, cutB, Cur.ren, ren, map_ren_rows, rows_nil]
 obtain ⟨n, wk, S, c3⟩ := x
 obtain ⟨y0, y1, y2, hc3⟩ := hx
 dsimp only at y0 y1 y2 hc3
 simp -implicitDefEqProofs -dsimp only [go_sem]
 refine condT.split (fun h1 => ?_) (fun h1 => ?_)
 · have hn : 0 < n := by have := of_decide_eq_true h1; omega
   (repeat ((repeat1' (first | simp -implicitDefEqProofs -dsimp only [go_sem, h1] | simp -dsimp (disch := omega) only [wrap_i64])); repeat (with_reducible refine sideA ?_)))
   refine callS.rel [0] (weekRow_ok hB (by omega) hc3 wk) (by decide) ⟨leO, leO, trivial⟩ (lendCur rfl) rfl (fun r hout hΦ => ?_)
   obtain ⟨q, c4, hc4, rfl, rfl⟩ := hΦ
   refine ⟨⟨⟨rfl, rfl⟩, trivial⟩, ?_⟩
   have hsn : rows WeekRow.cs S ++ [.int .i64 q.Week, .int .i64 q.Events, .int .i64 q.Felt, .int .i64 q.Picks, .int .i64 q.Lost] = rows WeekRow.cs (S ++ [q]) := rows_snoc (cs := WeekRow.cs) S q
   (repeat ((repeat1' (first | simp -implicitDefEqProofs -dsimp only [go_sem, Cur.ren, WeekRow.v, map_ren_rows, hsn] | simp -dsimp (disch := omega) only [wrap_i64])); repeat (with_reducible refine sideA ?_)))
   refine among_call hB hc4 (by omega) [1, 1, 1, 2, 40] (by simp) (by simp) rfl rfl rfl (fun vc5 c5 pvc5 hc5 => ?_)
   have hb5 : 1 ≤ vc5 ∧ vc5 ≤ 40 := by
     simp only [List.mem_cons, List.not_mem_nil, or_false] at pvc5
     omega
   (repeat ((repeat1' (first | simp -implicitDefEqProofs -dsimp only [go_sem, Cur.ren, map_ren_rows] | simp -dsimp (disch := omega) only [wrap_i64])); repeat (with_reducible refine sideA ?_)))
   refine pick_call hB hc5 (by omega) 90 (by omega) rfl (fun vc6 c6 pvc6 hc6 => ?_)
   obtain ⟨j, hj, hjb⟩ := quo89 pvc6
   (repeat ((repeat1' (first | simp -implicitDefEqProofs -dsimp only [go_sem, Cur.ren, map_ren_rows, hj] | simp -dsimp (disch := omega) only [wrap_i64])); repeat (with_reducible refine sideA ?_)))
   have hn1 : ((n - 1 : Nat) : Int) = (n : Int) - 1 := by omega
   refine ⟨(n - 1, wk + vc5 - (j : Int), S ++ [q], c6), ⟨by simp only []; omega, by simp only [List.length_append, List.length_cons, List.length_nil]; omega, ⟨by simp only []; omega, by simp only []; omega⟩, lmonoQ hc6 (by omega)⟩, ?_, by simp only []; omega⟩
   refine Weak.cut (2) (by simp) (by simp) ?_ ?_
   · simp [LeC, LeV, ren, cutF, hn1]
   · simp [cutH, cutB, cutF, Cur.ren, ren, map_ren_rows]
 · (repeat ((repeat1' (first | simp -implicitDefEqProofs -dsimp only [go_sem, h1] | simp -dsimp (disch := omega) only [wrap_i64])); repeat (with_reducible refine sideA ?_)))
   refine one_call hB hc3 (by omega) 24 (by omega) rfl (fun vc4 c4 hc4 => ?_)
   (repeat ((repeat1' (first | simp -implicitDefEqProofs -dsimp only [go_sem, Cur.ren, map_ren_rows] | simp -dsimp (disch := omega) only [wrap_i64])); repeat (with_reducible refine sideA ?_)))
   refine condT.split (fun h2 => ?_) (fun h2 => ?_)
   · (repeat ((repeat1' (first | simp -implicitDefEqProofs -dsimp only [go_sem, h2] | simp -dsimp (disch := omega) only [wrap_i64])); repeat (with_reducible refine sideA ?_)))
     refine LoopT.intro (fun x : Nat × Cur => x.1 ≤ 13 ∧ x.2.le (k + 520 + 10 * (x.1 : Int))) (fun x => ⟨[.ptr 0 0, .undef, .undef, .osl 1 0 x.1 5, .undef, .undef, .int .i64 x.1, .undef, .undef, .undef, .undef, .undef, .undef, .undef, .undef, .undef, .undef, .undef, .undef, .undef, .undef, .undef, .undef, .undef, .undef, .undef, .undef, .undef, .undef, .undef, .undef, .undef, .undef, .undef, .undef, .undef, .undef, .undef, .undef, .undef, .undef, .undef, .undef, .undef, .undef, .undef, .undef, .undef, .undef, .undef], [some (x.2.cs B), some (rows WeekRow.cs (nth x.1))], 1⟩) (fun x => 13 - x.1) (0, c4) ⟨by simp only []; omega, lmonoQ hc4 (by omega)⟩ ?_ (fun x hx => ?_)
     · refine Weak.pick [0, 2] (by decide) (fun j hj => by cases j <;> simp_all) ?_ ?_
       · simp [LeG, LeC, LeV, ren, pickF, posOf]
       · simp [pickH, pickB, Cur.ren, nth, rows_nil]
     obtain ⟨i, c5⟩ := x
     obtain ⟨z0, hc5⟩ := hx
     dsimp only at z0 hc5
     (repeat ((repeat1' (first | simp -implicitDefEqProofs -dsimp only [go_sem] | simp -dsimp (disch := omega) only [wrap_i64])); repeat (with_reducible refine sideA ?_)))
     refine pick_call hB hc5 (by omega) 2 (by omega) rfl (fun vc6 c6 pvc6 hc6 => ?_)
     (repeat ((repeat1' (first | simp -implicitDefEqProofs -dsimp only [go_sem, Cur.ren, map_ren_rows] | simp -dsimp (disch := omega) only [wrap_i64])); repeat (with_reducible refine sideA ?_)))
     refine condT.split (fun h3 => ?_) (fun h3 => ?_)
     · have hi3 : i ≤ 12 := by have := of_decide_eq_true h3; omega
       have hsn : rows WeekRow.cs (nth i) ++ [.int .i64 ((i : Int) + 1), .int .i64 i, .int .i64 0, .int .i64 0, .int .i64 0] = rows WeekRow.cs (nth (i + 1)) := by
         rw [nth_succ]
         exact rows_snoc (cs := WeekRow.cs) (nth i) ⟨(i : Int) + 1, i, 0, 0, 0⟩
       have hil : (rows WeekRow.cs (nth i)).length = i * 5 := by rw [rows_len (w := 5) WeekRow.csl, nth_len]
       (repeat ((repeat1' (first | simp -implicitDefEqProofs -dsimp only [go_sem, h3, hsn, Cur.ren] | simp -dsimp (disch := omega) only [wrap_i64])); repeat (with_reducible refine sideA ?_)))
       refine ⟨(i + 1, c6), ⟨by simp only []; omega, lmonoQ hc6 (by simp only []; omega)⟩, ?_, by simp only []; omega⟩
       refine Weak.cut (2) (by simp) (by simp) ?_ ?_
       · simp [LeC, LeV, ren, cutF]
       · simp [cutH, cutB, cutF, Cur.ren, ren, map_ren_rows]
     · (repeat ((repeat1' (first | simp -implicitDefEqProofs -dsimp only [go_sem, h3] | simp -dsimp (disch := omega) only [wrap_i64])); repeat (with_reducible refine sideA ?_)))
       have := weeks_fin (B := B) (k := k + 1000) (h := [some (Cur.cs B c6), some (rows WeekRow.cs (nth i))]) (L := nth i) rfl rfl (by rw [nth_len]; omega) (lmonoQ hc6 (by omega))
       rw [nth_len] at this
       exact this
   · (repeat ((repeat1' (first | simp -implicitDefEqProofs -dsimp only [go_sem, h2, Cur.ren] | simp -dsimp (disch := omega) only [wrap_i64])); repeat (with_reducible refine sideA ?_)))
     exact weeks_fin rfl rfl (by omega) (lmonoQ hc4 (by omega))
def dWeeksP (r : V) (hout : Hp) : Prop := ∃ L : List WeekRow, L.length ≤ 20 ∧ r = WeekRow.sl L ∧ hout = []
theorem fin_weeks {h : Hp} {i : Nat} {L : List WeekRow} (hi : h[i]? = some (some (rows WeekRow.cs L))) : WeakR 0 (.osl i 0 L.length 5) h (WeekRow.sl L) [] := by
 refine WeakR.pick [] (by decide) (fun j hj => by omega) (.inl ?_) rfl
 simp [ren, pickF, posOf, frzR, hi, take_rows, map_ren_rows]
theorem drawAreWeekRows_ok {B : List Int} (hB : CB B) : CtrP Try.prog 40 [ByteS.sl B] [] dWeeksP := by
 have hcb : ∀ {c' : Cur} {k' : Int}, c'.le k' → k' ≤ 4000000 → c'.le 4611686018427387903 := fun h h' => ⟨h.1, by have := h.2; omega⟩
 obtain ⟨c, hcd⟩ : ∃ c : Cur, c = ⟨0, 0⟩ := ⟨_, rfl⟩
 have hc : c.le 0 := by rw [hcd]; exact ⟨Int.le_refl _, Int.le_refl _⟩
 have hcc : c.cs B = [ByteS.sl B, .int .i64 0, .int .u64 0] := by rw [hcd]; rfl
 refine CtrP.intro Try.mixed Try.func40 rfl Try.okF40 ?_
 simp -implicitDefEqProofs -dsimp only [go_sem, Try.ntmps40, Try.results40]
 (repeat ((repeat1' (first | simp -implicitDefEqProofs -dsimp only [go_sem, ByteS.sl] | simp -dsimp (disch := omega) only [wrap_i64])); repeat (with_reducible refine sideA ?_)))
 rw [← ByteS.sl, ← hcc]
 refine callS.rel [0] (weekRows_ok hB (by omega) hc) (by decide) ⟨leO, trivial⟩ (lendCur rfl) rfl (fun r hout hΦ => ?_)
 obtain ⟨L, c1, hL, hc1, rfl, rfl⟩ := hΦ
 refine ⟨⟨⟨rfl, rfl⟩, trivial⟩, ?_⟩
 (repeat ((repeat1' (first | simp -implicitDefEqProofs -dsimp only [go_sem, Cur.ren, map_ren_rows] | simp -dsimp (disch := omega) only [wrap_i64])); repeat (with_reducible refine sideA ?_)))
 exact ⟨_, _, ⟨L, hL, rfl, rfl⟩, fin_weeks rfl⟩
end Go.Proofs
end
section
set_option maxRecDepth 100000
set_option maxHeartbeats 2000000
namespace Go.Proofs
open Go.Lv
def dSwarmP (r : V) (hout : Hp) : Prop := ∃ (L : List WeekRow) (v : Int), L.length ≤ 20 ∧ r = .tup [WeekRow.sl L, .int .i64 v] ∧ hout = []
theorem fin_sw {h : Hp} {i : Nat} {L : List WeekRow} {a : Int} (hi : h[i]? = some (some (rows WeekRow.cs L))) : WeakR 0 (.tup [.osl i 0 L.length 5, .int .i64 a]) h (.tup [WeekRow.sl L, .int .i64 a]) [] := by
 refine WeakR.pick [] (by decide) (fun j hj => by omega) (.inl ?_) rfl
 simp [ren, pickF, posOf, frzR, hi, take_rows, map_ren_rows]
theorem quo11 {x : Int} (h : 0 ≤ x ∧ (1 ≤ (24 : Int) → x < 24)) : ∃ j : Nat, Int.tdiv x 11 = j ∧ j ≤ 2 := by
 obtain ⟨n, rfl⟩ : ∃ n : Nat, x = n := ⟨x.toNat, by omega⟩
 refine ⟨n / 11, rfl, by omega⟩
theorem drawSwarmsOf_ok {B : List Int} (hB : CB B) : CtrP Try.prog 15 [ByteS.sl B] [] dSwarmP := by
 have hcb : ∀ {c' : Cur} {k' : Int}, c'.le k' → k' ≤ 4000000 → c'.le 4611686018427387903 := fun h h' => ⟨h.1, by have := h.2; omega⟩
 obtain ⟨c, hcd⟩ : ∃ c : Cur, c = ⟨0, 0⟩ := ⟨_, rfl⟩
 have hc : c.le 0 := by rw [hcd]; exact ⟨Int.le_refl _, Int.le_refl _⟩
 have hcc : c.cs B = [ByteS.sl B, .int .i64 0, .int .u64 0] := by rw [hcd]; rfl
 refine CtrP.intro Try.mixed Try.func15 rfl Try.okF15 ?_
 simp -implicitDefEqProofs -dsimp only [go_sem, Try.ntmps15, Try.results15]
 (repeat ((repeat1' (first | simp -implicitDefEqProofs -dsimp only [go_sem, ByteS.sl] | simp -dsimp (disch := omega) only [wrap_i64])); repeat (with_reducible refine sideA ?_)))
 rw [← ByteS.sl, ← hcc]
 refine callS.rel [0] (weekRows_ok hB (by omega) hc) (by decide) ⟨leO, trivial⟩ (lendCur rfl) rfl (fun r hout hΦ => ?_)
 obtain ⟨L, c1, hL, hc1, rfl, rfl⟩ := hΦ
 refine ⟨⟨⟨rfl, rfl⟩, trivial⟩, ?_⟩
 (repeat ((repeat1' (first | simp -implicitDefEqProofs -dsimp only [go_sem, Cur.ren, map_ren_rows] | simp -dsimp (disch := omega) only [wrap_i64])); repeat (with_reducible refine sideA ?_)))
 refine pick_call hB hc1 (by omega) 24 (by omega) rfl (fun vc2 c2 pvc2 hc2 => ?_)
 obtain ⟨j1, hj1, hjb1⟩ := quo11 pvc2
 have hw1 := wrap5 hjb1
 (repeat ((repeat1' (first | simp -implicitDefEqProofs -dsimp only [go_sem, Cur.ren, map_ren_rows, hj1, hw1] | simp -dsimp (disch := omega) only [wrap_i64])); repeat (with_reducible refine sideA ?_)))
 have e1 : (5 + (j1 : Int)).toNat - 0 = 5 + j1 := by omega
 simp only [e1]
 have pc3 := amongN_ok hB (hcb hc2 (by omega)) [0, 2, 10, 39, 9999, -1, 10000] (n := (5 + j1)) (by omega) (by simp only [List.length_cons, List.length_nil]; omega) (by simp); have hc3 := pickC_le (B := B) (n := (((5 + j1) : Nat) : Int)) hc2; have pvc3 := amongNV_mem hB (K := [0, 2, 10, 39, 9999, -1, 10000]) (n := (5 + j1)) (by omega) (by simp only [List.length_cons, List.length_nil]; omega) hc2.1; generalize amongNV B [0, 2, 10, 39, 9999, -1, 10000] (5 + j1) c2 = vc3 at pc3 pvc3; generalize pickC B (((5 + j1) : Nat) : Int) c2 = c3 at pc3 hc3; (first | refine callS.lend [0, 2] false pc3 (by decide) ⟨leO, leO, trivial⟩ (lendCur2 rfl rfl) (growCur2 B _ _) (.inl rfl) ?_)
 (repeat ((repeat1' (first | simp -implicitDefEqProofs -dsimp only [go_sem, Cur.ren, map_ren_rows] | simp -dsimp (disch := omega) only [wrap_i64])); repeat (with_reducible refine sideA ?_)))
 exact ⟨_, _, ⟨L, vc3, hL, rfl, rfl⟩, fin_sw rfl⟩
theorem drawMissingWeeks_ok {B : List Int} (hB : CB B) : CtrP Try.prog 17 [ByteS.sl B] [] dWeeksP := by
 refine CtrP.intro Try.mixed Try.func17 rfl Try.okF17 ?_
 simp -implicitDefEqProofs -dsimp only [go_sem, Try.ntmps17, Try.results17]
 (repeat ((repeat1' (first | simp -implicitDefEqProofs -dsimp only [go_sem] | simp -dsimp (disch := omega) only [wrap_i64])); repeat (with_reducible refine sideA ?_)))
 refine callS.rel [] (drawAreWeekRows_ok hB) (by decide) ⟨leO, trivial⟩ rfl rfl (fun r hout hΦ => ?_)
 obtain ⟨L, hL, rfl, rfl⟩ := hΦ
 refine ⟨trivial, ?_⟩
 (repeat ((repeat1' (first | simp -implicitDefEqProofs -dsimp only [go_sem, WeekRow.sl] | simp -dsimp (disch := omega) only [wrap_i64])); repeat (with_reducible refine sideA ?_)))
 exact ⟨_, _, ⟨L, hL, rfl, rfl⟩, WeakR.drop' rfl (by simp [noOwn, rows_noOwn, WeekRow.sl])⟩
theorem drawMedianEvents_ok {B : List Int} (hB : CB B) : CtrP Try.prog 22 [ByteS.sl B] [] dWeeksP := by
 refine CtrP.intro Try.mixed Try.func22 rfl Try.okF22 ?_
 simp -implicitDefEqProofs -dsimp only [go_sem, Try.ntmps22, Try.results22]
 (repeat ((repeat1' (first | simp -implicitDefEqProofs -dsimp only [go_sem] | simp -dsimp (disch := omega) only [wrap_i64])); repeat (with_reducible refine sideA ?_)))
 refine callS.rel [] (drawAreWeekRows_ok hB) (by decide) ⟨leO, trivial⟩ rfl rfl (fun r hout hΦ => ?_)
 obtain ⟨L, hL, rfl, rfl⟩ := hΦ
 refine ⟨trivial, ?_⟩
 (repeat ((repeat1' (first | simp -implicitDefEqProofs -dsimp only [go_sem, WeekRow.sl] | simp -dsimp (disch := omega) only [wrap_i64])); repeat (with_reducible refine sideA ?_)))
 exact ⟨_, _, ⟨L, hL, rfl, rfl⟩, WeakR.drop' rfl (by simp [noOwn, rows_noOwn, WeekRow.sl])⟩
theorem drawPicksForEvent_ok {B : List Int} (hB : CB B) : CtrP Try.prog 25 [ByteS.sl B] [] dWeeksP := by
 refine CtrP.intro Try.mixed Try.func25 rfl Try.okF25 ?_
 simp -implicitDefEqProofs -dsimp only [go_sem, Try.ntmps25, Try.results25]
 (repeat ((repeat1' (first | simp -implicitDefEqProofs -dsimp only [go_sem] | simp -dsimp (disch := omega) only [wrap_i64])); repeat (with_reducible refine sideA ?_)))
 refine callS.rel [] (drawAreWeekRows_ok hB) (by decide) ⟨leO, trivial⟩ rfl rfl (fun r hout hΦ => ?_)
 obtain ⟨L, hL, rfl, rfl⟩ := hΦ
 refine ⟨trivial, ?_⟩
 (repeat ((repeat1' (first | simp -implicitDefEqProofs -dsimp only [go_sem, WeekRow.sl] | simp -dsimp (disch := omega) only [wrap_i64])); repeat (with_reducible refine sideA ?_)))
 exact ⟨_, _, ⟨L, hL, rfl, rfl⟩, WeakR.drop' rfl (by simp [noOwn, rows_noOwn, WeekRow.sl])⟩
end Go.Proofs
end
section
set_option maxRecDepth 100000
set_option maxHeartbeats 2000000
namespace Go.Proofs
open Go.Lv
theorem rBig_ok (L : List Int) : Ctr Try.prog 14 [ByteS.sl L] [] (.bool (decide (65536 < (L.length : Int)))) [] := by
 refine Ctr.intro Try.mixed Try.func14 rfl Try.okF14 ?_
 simp -implicitDefEqProofs -dsimp only [go_sem, Try.ntmps14, Try.results14]
 (repeat ((repeat1' (first | simp -implicitDefEqProofs -dsimp only [go_sem] | simp -dsimp (disch := omega) only [wrap_i64])); repeat (with_reducible refine sideA ?_)))
 exact WeakR.drop' rfl (by rfl)
theorem rInts_ok (L : List Int) (hl : L.length ≤ 1048576) : Ctr Try.prog 20 [IntS.sl L, IntS.sl L] [] (.bool true) [] := by
 refine Ctr.intro Try.mixed Try.func20 rfl Try.okF20 ?_
 simp -implicitDefEqProofs -dsimp only [go_sem, Try.ntmps20, Try.results20]
 (repeat ((repeat1' (first | simp -implicitDefEqProofs -dsimp only [go_sem] | simp -dsimp (disch := omega) only [wrap_i64])); repeat (with_reducible refine sideA ?_)))
 refine LoopT.intro (fun i : Nat => i ≤ L.length) (fun i => ⟨[IntS.sl L, IntS.sl L, .undef, .undef, .undef, .int .i64 i, .undef, .undef, .undef, .undef, .undef, .undef, .undef, .undef, .undef, .undef, .undef, .undef, .undef, .undef, .undef, .undef, .undef, .undef, .undef, .undef], [], 0⟩) (fun i => L.length - i) 0 (Nat.zero_le _) ?_ (fun i hi => ?_)
 · refine Weak.cut (0) (by simp) (by simp) ?_ ?_
   · simp [LeC, LeV, ren, cutF]
   · rfl
 simp -implicitDefEqProofs -dsimp only [go_sem]
 refine condT.split (fun h1 => ?_) (fun h1 => ?_)
 · have hi' : i < L.length := by simpa using h1
   have hr := rows_at IntS.csl hi'
   (repeat ((repeat1' (first | simp -implicitDefEqProofs -dsimp only [go_sem, h1, hr, IntS.cs] | simp -dsimp (disch := omega) only [wrap_i64])); repeat (with_reducible refine sideA ?_)))
   refine ⟨i + 1, hi', ?_, by omega⟩
   refine Weak.cut (0) (by simp) (by simp) ?_ ?_
   · simp [LeC, LeV, ren, cutF]
   · rfl
 · (repeat ((repeat1' (first | simp -implicitDefEqProofs -dsimp only [go_sem, h1] | simp -dsimp (disch := omega) only [wrap_i64])); repeat (with_reducible refine sideA ?_)))
   exact WeakR.drop' rfl (by rfl)
end Go.Proofs
end
section
set_option maxRecDepth 100000
set_option maxHeartbeats 4000000
namespace Go.Proofs
open Go.Lv
theorem rTable_ok (P : List (Int × Int)) (hl : P.length ≤ 1048576) : Ctr Try.prog 16 [tabV P, tabV P] [] (.bool true) [] := by
 refine Ctr.intro Try.mixed Try.func16 rfl Try.okF16 ?_
 simp -implicitDefEqProofs -dsimp only [go_sem, Try.ntmps16, Try.results16]
 (repeat ((repeat1' (first | simp -implicitDefEqProofs -dsimp only [go_sem, tabV] | simp -dsimp (disch := omega) only [wrap_i64])); repeat (with_reducible refine sideA ?_)))
 refine LoopT.intro (fun i : Nat => i ≤ P.length) (fun i => ⟨[tabV P, tabV P, .undef, .undef, .undef, .int .i64 i, .undef, .undef, .undef, .undef, .undef, .undef, .undef, .undef, .undef, .undef, .undef, .undef, .undef, .undef, .undef, .undef, .undef, .undef, .undef, .undef, .undef], [], 0⟩) (fun i => P.length - i) 0 (Nat.zero_le _) ?_ (fun i hi => ?_)
 · refine Weak.cut (0) (by simp) (by simp) ?_ ?_
   · simp [LeC, LeV, ren, cutF, tabV]
   · rfl
 simp -implicitDefEqProofs -dsimp only [go_sem, tabV]
 refine condT.split (fun h1 => ?_) (fun h1 => ?_)
 · have hi' : i < P.length := by simpa using h1
   have hr := rows_at (cs := tabC) (w := 1) (fun _ => rfl) hi'
   have hct : Ctr Try.prog 20 [.sl 2 1 (pairC P[i]), .sl 2 1 (pairC P[i])] [] (.bool true) [] := rInts_ok [P[i].1, P[i].2] (by simp)
   (repeat ((repeat1' (first | simp -implicitDefEqProofs -dsimp only [go_sem, h1, hr, tabC] | simp -dsimp (disch := omega) only [wrap_i64])); repeat (with_reducible refine sideA ?_)))
   (first | refine callT.at (hct) ⟨leA, leA, trivial⟩ ?_ | refine callS.at (hct) ⟨leA, leA, trivial⟩ ?_)
   (repeat ((repeat1' (first | simp -implicitDefEqProofs -dsimp only [go_sem] | simp -dsimp (disch := omega) only [wrap_i64])); repeat (with_reducible refine sideA ?_)))
   refine ⟨i + 1, hi', ?_, by omega⟩
   refine Weak.cut (0) (by simp) (by simp) ?_ ?_
   · simp [LeC, LeV, ren, cutF, tabV]
   · rfl
 · (repeat ((repeat1' (first | simp -implicitDefEqProofs -dsimp only [go_sem, h1] | simp -dsimp (disch := omega) only [wrap_i64])); repeat (with_reducible refine sideA ?_)))
   exact WeakR.drop' rfl (by rfl)
theorem rHas_ok (L : List Int) (x : Int) (hl : L.length ≤ 1048576) : Ctr Try.prog 21 [IntS.sl L, .int .i64 x] [] (.bool (L.any fun y => y == x)) [] := by
 refine Ctr.intro Try.mixed Try.func21 rfl Try.okF21 ?_
 simp -implicitDefEqProofs -dsimp only [go_sem, Try.ntmps21, Try.results21]
 refine LoopT.intro (fun i : Nat => i ≤ L.length ∧ (L.take i).any (fun y => y == x) = false) (fun i => ⟨[IntS.sl L, .int .i64 x, .undef, .undef, .undef, .int .i64 i, .undef, .undef, .undef, .undef, .undef, .undef, .undef, .undef, .undef, .undef, .undef, .undef], [], 0⟩) (fun i => L.length - i) 0 ⟨Nat.zero_le _, rfl⟩ ?_ (fun i hi => ?_)
 · refine Weak.cut (0) (by simp) (by simp) ?_ ?_
   · simp [LeC, LeV, ren, cutF]
   · rfl
 simp -implicitDefEqProofs -dsimp only [go_sem]
 refine condT.split (fun h1 => ?_) (fun h1 => ?_)
 · simp -implicitDefEqProofs -dsimp only [go_sem, h1]
   have hi' : i < L.length := by simpa using h1
   have hr := rows_at IntS.csl hi'
   (repeat ((repeat1' (first | simp -implicitDefEqProofs -dsimp only [go_sem, hr, IntS.cs] | simp -dsimp (disch := omega) only [wrap_i64])); repeat (with_reducible refine sideA ?_)))
   refine condT.split (fun h2 => ?_) (fun h2 => ?_) <;> (repeat ((repeat1' (first | simp -implicitDefEqProofs -dsimp only [go_sem, h2] | simp -dsimp (disch := omega) only [wrap_i64])); repeat (with_reducible refine sideA ?_)))
   · refine WeakR.drop' ?_ (by rfl)
     congr 1
     symm
     rw [List.any_eq_true]
     exact ⟨_, List.getElem_mem hi', h2⟩
   · refine ⟨i + 1, ⟨hi', by rw [List.take_succ_eq_append_getElem hi']; simp only [List.any_append, hi.2, List.any_cons, h2, List.any_nil, Bool.or_self]⟩, ?_, by omega⟩
     refine Weak.cut (0) (by simp) (by simp) ?_ ?_
     · simp [LeC, LeV, ren, cutF]
     · rfl
 · simp -implicitDefEqProofs -dsimp only [go_sem, h1]
   have hi' : i = L.length := by simp at h1; omega
   subst hi'
   have h2 := hi.2
   rw [List.take_length] at h2
   exact WeakR.drop' (by rw [h2]) (by rfl)
theorem medR_eq (L : List WeekRow) : ∃ (m : Int) (b : Bool), medR L = [.int .i64 m, .bool b] ∧ (b = true → L.length ≤ 12 ∧ L.length ≤ 2 * L.countP (fun x => decide (x.Events ≤ m)) ∧ L.length ≤ 2 * L.countP (fun x => decide (m ≤ x.Events))) := by
 by_cases h : wrsB L = true ∧ L ≠ []
 · refine ⟨(insSort ltI (evs L)).getD ((L.length - 1) / 2) 0, true, by rw [medR, if_pos h], fun _ => ?_⟩
   have hl : (evs L).length = L.length := by simp [evs]
   have h0 : 0 < (evs L).length := by
     rw [hl]
     exact List.length_pos_iff.2 h.2
   have := median_half h0
   rw [hl, evs, List.countP_map, List.countP_map] at this
   exact ⟨(wrsB_all h.1).2, this⟩
 · exact ⟨0, false, by rw [medR, if_neg h], fun h => by cases h⟩
theorem picksR_eq (L : List WeekRow) : ∃ (a c : Int) (b : Bool), picksR L = [.int .i64 a, .int .i64 c, .bool b] := by
 unfold picksR
 split <;> exact ⟨_, _, _, rfl⟩
theorem missR_fz (K : List WeekRow) : ∃ (M : List Int) (b : Bool), frzV IntS.cs 1 (missR K) = .tup [IntS.sl M, .bool b] ∧ M.length ≤ 100 ∧ (b = true → ∀ i (hi : i < K.length), (M.any fun y => y == K[i].Week) = false) := by
 by_cases h : wrsB K = true ∧ (missTo K (K.length - 1)).length ≤ 100
 · refine ⟨missTo K (K.length - 1), true, by rw [missR, if_pos h]; rfl, h.2, fun _ i hi => ?_⟩
   rw [List.any_eq_false]
   intro y hy
   have := missing_not (asc_of h.1) (K.length - 1) (by omega) y hy _ (List.getElem_mem hi)
   simp
   omega
 · exact ⟨[], false, by rw [missR, if_neg h]; rfl, by simp, fun h => by cases h⟩
theorem fnSwarmsLaw_ok (L : List Int) (hL : lstR ByteS.ok L) : Ctr Try.prog 4 [ByteS.sl L] [] (.bool true) [] := by
 have hB : CB L := hL
 refine Ctr.intro Try.mixed Try.func4 rfl Try.okF4 ?_
 simp -implicitDefEqProofs -dsimp only [go_sem, Try.ntmps4, Try.results4]
 (repeat ((repeat1' (first | simp -implicitDefEqProofs -dsimp only [go_sem] | simp -dsimp (disch := omega) only [wrap_i64])); repeat (with_reducible refine sideA ?_)))
 (first | refine callT.at (rBig_ok L) ⟨leA, trivial⟩ ?_ | refine callS.at (rBig_ok L) ⟨leA, trivial⟩ ?_)
 (repeat ((repeat1' (first | simp -implicitDefEqProofs -dsimp only [go_sem] | simp -dsimp (disch := omega) only [wrap_i64])); repeat (with_reducible refine sideA ?_)))
 refine condT.split (fun h1 => ?_) (fun h1 => ?_) <;> (repeat ((repeat1' (first | simp -implicitDefEqProofs -dsimp only [go_sem, h1] | simp -dsimp (disch := omega) only [wrap_i64])); repeat (with_reducible refine sideA ?_)))
 · exact WeakR.drop' rfl (by rfl)
 refine callS.rel [] (drawSwarmsOf_ok hB) (by decide) ⟨leO, trivial⟩ rfl rfl (fun r hout hΦ => ?_)
 obtain ⟨K, lim, hK, rfl, rfl⟩ := hΦ
 refine ⟨trivial, ?_⟩
 (repeat ((repeat1' (first | simp -implicitDefEqProofs -dsimp only [go_sem] | simp -dsimp (disch := omega) only [wrap_i64])); repeat (with_reducible refine sideA ?_)))
 have is := iSwarmsF K lim (by omega)
 have ss := sSwarmsF K lim (by omega)
 have hsin : swB lim K = true → ∀ i (hi : i < K.length), ((swR lim K).any fun p => decide (p.1 ≤ K[i].Week) && decide (K[i].Week ≤ p.2)) = decide (lim < K[i].Events) := fun hb i hi => by
   have eP : swR lim K = swarms lim K := by simp [swR, hb]
   have hw : wrsB K = true := by simp [swB] at hb; exact hb.1
   rw [eP]
   exact swarms_in (lim := lim) (asc_of hw) hi
 have hPl : (swR lim K).length ≤ 20 := by
   unfold swR
   split
   · have := swarms_len lim K K.length (Nat.le_refl _)
     rw [List.take_length] at this
     omega
   · simp
 generalize swB lim K = sb at is ss hsin
 generalize swR lim K = P at is ss hPl hsin
 have hvP := rTable_ok P (by omega)
 (first | refine callT.at (is) ⟨leA, leA, trivial⟩ ?_ | refine callS.at (is) ⟨leA, leA, trivial⟩ ?_)
 (repeat ((repeat1' (first | simp -implicitDefEqProofs -dsimp only [go_sem] | simp -dsimp (disch := omega) only [wrap_i64])); repeat (with_reducible refine sideA ?_)))
 (first | refine callT.at (ss) ⟨leA, leA, trivial⟩ ?_ | refine callS.at (ss) ⟨leA, leA, trivial⟩ ?_)
 (repeat ((repeat1' (first | simp -implicitDefEqProofs -dsimp only [go_sem] | simp -dsimp (disch := omega) only [wrap_i64])); repeat (with_reducible refine sideA ?_)))
 (first | refine callT.at (hvP) ⟨leA, leA, trivial⟩ ?_ | refine callS.at (hvP) ⟨leA, leA, trivial⟩ ?_)
 (repeat ((repeat1' (first | simp -implicitDefEqProofs -dsimp only [go_sem] | simp -dsimp (disch := omega) only [wrap_i64])); repeat (with_reducible refine sideA ?_)))
 refine LoopT.intro (fun i : Nat => i ≤ K.length) (fun i => ⟨[ByteS.sl L, .undef, .undef, WeekRow.sl K, .int .i64 lim, tabV P, .bool sb, .undef, .undef, .int .i64 i, .undef, .undef, .undef, .undef, .undef, .undef, .undef, .undef, .undef, .undef, .undef, .undef, .undef, .undef, .undef, .undef, .undef, .undef, .undef, .undef, .undef, .undef, .undef, .undef, .undef, .undef, .undef, .undef, .undef, .undef, .undef, .undef, .undef, .undef, .undef, .undef, .undef, .undef, .undef, .undef, .undef, .undef, .undef, .undef, .undef, .undef, .undef, .undef, .undef, .undef, .undef, .undef, .undef, .undef, .undef, .undef, .undef, .undef, .undef, .undef, .undef, .undef, .undef, .undef, .undef, .undef, .undef, .undef, .undef, .undef, .undef, .undef, .undef, .undef, .undef, .undef, .undef, .undef, .undef, .undef, .undef, .undef, .undef, .undef, .undef, .undef, .undef, .undef, .undef, .undef, .undef, .undef, .undef, .undef, .undef, .undef, .undef, .undef, .undef, .undef, .undef, .undef, .undef, .undef, .undef, .undef, .undef, .undef, .undef, .undef, .undef, .undef, .undef, .undef, .undef, .undef, .undef, .undef, .undef, .undef, .undef, .undef, .undef, .undef, .undef, .undef, .undef, .undef, .undef, .undef, .undef, .undef, .undef, .undef, .undef, .undef, .undef, .undef, .undef, .undef, .undef, .undef, .undef, .undef, .undef, .undef, .undef, .undef, .undef, .undef, .undef, .undef, .undef, .undef, .undef, .undef, .undef, .undef, .undef, .undef, .undef, .undef, .undef, .undef, .undef, .undef, .undef, .undef, .undef, .undef, .undef, .undef, .undef, .undef, .undef, .undef, .undef, .undef, .undef, .undef, .undef, .undef, .undef, .undef, .undef, .undef, .undef, .undef, .undef, .undef, .undef, .undef, .undef, .undef, .undef, .undef, .undef, .undef, .undef, .undef, .undef, .undef, .undef, .undef, .undef, .undef, .undef, .undef, .undef, .undef, .undef, .undef, .undef, .undef, .undef, .undef, .undef, .undef, .undef, .undef, .undef, .undef, .undef, .undef, .undef, .undef, .undef, .undef, .undef, .undef], [], 0⟩) (fun i => K.length - i) 0 (Nat.zero_le _) ?_ (fun i hi => ?_)
 · refine Weak.cut (0) (by simp) (by simp) ?_ ?_
   · simp [LeC, LeV, ren, cutF, WeekRow.sl, tabV]
   · rfl
 simp -implicitDefEqProofs -dsimp only [go_sem]
 refine guardT.split (fun g1 => ?_) (fun g1 => ?_)
 · have hi' : i < K.length := by simpa using g1
   cases sb
   · (repeat ((repeat1' (first | simp -implicitDefEqProofs -dsimp only [go_sem, g1] | simp -dsimp (disch := omega) only [wrap_i64])); repeat (with_reducible refine sideA ?_)))
     refine callS.rel [] (drawMissingWeeks_ok hB) (by decide) ⟨leO, trivial⟩ rfl rfl (fun r hout hΦ => ?_)
     obtain ⟨K2, hK2, rfl, rfl⟩ := hΦ
     refine ⟨trivial, ?_⟩
     (repeat ((repeat1' (first | simp -implicitDefEqProofs -dsimp only [go_sem] | simp -dsimp (disch := omega) only [wrap_i64])); repeat (with_reducible refine sideA ?_)))
     have ii := (iMissingWeeks_ok K2 (by omega)).weak (frzN _)
     have si := (sMissingWeeks_ok K2 (by omega)).weak (frzO _)
     obtain ⟨M, fb, eM, hMl, hno⟩ := missR_fz K2
     rw [eM] at ii si
     have hvM := rInts_ok M (by omega)
     (first | refine callT.at (ii) ⟨leA, trivial⟩ ?_ | refine callS.at (ii) ⟨leA, trivial⟩ ?_)
     (repeat ((repeat1' (first | simp -implicitDefEqProofs -dsimp only [go_sem] | simp -dsimp (disch := omega) only [wrap_i64])); repeat (with_reducible refine sideA ?_)))
     (first | refine callT.at (si) ⟨leA, trivial⟩ ?_ | refine callS.at (si) ⟨leA, trivial⟩ ?_)
     (repeat ((repeat1' (first | simp -implicitDefEqProofs -dsimp only [go_sem] | simp -dsimp (disch := omega) only [wrap_i64])); repeat (with_reducible refine sideA ?_)))
     (first | refine callT.at (hvM) ⟨leA, leA, trivial⟩ ?_ | refine callS.at (hvM) ⟨leA, leA, trivial⟩ ?_)
     (repeat ((repeat1' (first | simp -implicitDefEqProofs -dsimp only [go_sem] | simp -dsimp (disch := omega) only [wrap_i64])); repeat (with_reducible refine sideA ?_)))
     refine LoopT.intro (fun i : Nat => i ≤ K2.length) (fun i => ⟨[ByteS.sl L, .undef, .undef, .undef, .undef, .undef, .undef, .undef, .undef, .undef, .undef, .undef, WeekRow.sl K2, IntS.sl M, .bool fb, .undef, .undef, .int .i64 i, .undef, .undef, .undef, .undef, .undef, .undef, .undef, .undef, .undef, .undef, .undef, .undef, .undef, .undef, .undef, .undef, .undef, .undef, .undef, .undef, .undef, .undef, .undef, .undef, .undef, .undef, .undef, .undef, .undef, .undef, .undef, .undef, .undef, .undef, .undef, .undef, .undef, .undef, .undef, .undef, .undef, .undef, .undef, .undef, .undef, .undef, .undef, .undef, .undef, .undef, .undef, .undef, .undef, .undef, .undef, .undef, .undef, .undef, .undef, .undef, .undef, .undef, .undef, .undef, .undef, .undef, .undef, .undef, .undef, .undef, .undef, .undef, .undef, .undef, .undef, .undef, .undef, .undef, .undef, .undef, .undef, .undef, .undef, .undef, .undef, .undef, .undef, .undef, .undef, .undef, .undef, .undef, .undef, .undef, .undef, .undef, .undef, .undef, .undef, .undef, .undef, .undef, .undef, .undef, .undef, .undef, .undef, .undef, .undef, .undef, .undef, .undef, .undef, .undef, .undef, .undef, .undef, .undef, .undef, .undef, .undef, .undef, .undef, .undef, .undef, .undef, .undef, .undef, .undef, .undef, .undef, .undef, .undef, .undef, .undef, .undef, .undef, .undef, .undef, .undef, .undef, .undef, .undef, .undef, .undef, .undef, .undef, .undef, .undef, .undef, .undef, .undef, .undef, .undef, .undef, .undef, .undef, .undef, .undef, .undef, .undef, .undef, .undef, .undef, .undef, .undef, .undef, .undef, .undef, .undef, .undef, .undef, .undef, .undef, .undef, .undef, .undef, .undef, .undef, .undef, .undef, .undef, .undef, .undef, .undef, .undef, .undef, .undef, .undef, .undef, .undef, .undef, .undef, .undef, .undef, .undef, .undef, .undef, .undef, .undef, .undef, .undef, .undef, .undef, .undef, .undef, .undef, .undef, .undef, .undef, .undef, .undef, .undef, .undef, .undef, .undef, .undef, .undef, .undef, .undef, .undef, .undef], [], 0⟩) (fun i => K2.length - i) 0 (Nat.zero_le _) ?_ (fun i hi => ?_)
     · refine Weak.cut (0) (by simp) (by simp) ?_ ?_
       · simp [LeC, LeV, ren, cutF, WeekRow.sl, IntS.sl]
       · rfl
     simp -implicitDefEqProofs -dsimp only [go_sem]
     refine guardT.split (fun g1 => ?_) (fun g1 => ?_)
     · have hi' : i < K2.length := by simpa using g1
       cases fb with
       | false =>
         (repeat ((repeat1' (first | simp -implicitDefEqProofs -dsimp only [go_sem, g1] | simp -dsimp (disch := omega) only [wrap_i64])); repeat (with_reducible refine sideA ?_)))
         refine callS.rel [] (drawMedianEvents_ok hB) (by decide) ⟨leO, trivial⟩ rfl rfl (fun r hout hΦ => ?_)
         obtain ⟨U, hU, rfl, rfl⟩ := hΦ
         refine ⟨trivial, ?_⟩
         (repeat ((repeat1' (first | simp -implicitDefEqProofs -dsimp only [go_sem] | simp -dsimp (disch := omega) only [wrap_i64])); repeat (with_reducible refine sideA ?_)))
         have im := iMedianEvents_ok U (by omega)
         have sm := sMedianEvents_ok U (by omega)
         obtain ⟨mm, mb, em, fm⟩ := medR_eq U
         rw [em] at im sm
         (first | refine callT.at (im) ⟨leA, trivial⟩ ?_ | refine callS.at (im) ⟨leA, trivial⟩ ?_)
         (repeat ((repeat1' (first | simp -implicitDefEqProofs -dsimp only [go_sem] | simp -dsimp (disch := omega) only [wrap_i64])); repeat (with_reducible refine sideA ?_)))
         (first | refine callT.at (sm) ⟨leA, trivial⟩ ?_ | refine callS.at (sm) ⟨leA, trivial⟩ ?_)
         (repeat ((repeat1' (first | simp -implicitDefEqProofs -dsimp only [go_sem] | simp -dsimp (disch := omega) only [wrap_i64])); repeat (with_reducible refine sideA ?_)))
         have hUl : U.length ≤ 20 := hU
         refine LoopT.intro (fun i : Nat => i ≤ U.length) (fun i => ⟨[ByteS.sl L, .undef, .undef, .undef, .undef, .undef, .undef, .undef, .undef, .undef, .undef, .undef, .undef, .undef, .undef, .undef, .undef, .undef, WeekRow.sl U, .int .i64 mm, .bool mb, .undef, .undef, .int .i64 ((U.take i).countP (fun x => decide (x.Events ≤ mm)) : Nat), .int .i64 ((U.take i).countP (fun x => decide (mm ≤ x.Events)) : Nat), .int .i64 i, .undef, .undef, .undef, .undef, .undef, .undef, .undef, .undef, .undef, .undef, .undef, .undef, .undef, .undef, .undef, .undef, .undef, .undef, .undef, .undef, .undef, .undef, .undef, .undef, .undef, .undef, .undef, .undef, .undef, .undef, .undef, .undef, .undef, .undef, .undef, .undef, .undef, .undef, .undef, .undef, .undef, .undef, .undef, .undef, .undef, .undef, .undef, .undef, .undef, .undef, .undef, .undef, .undef, .undef, .undef, .undef, .undef, .undef, .undef, .undef, .undef, .undef, .undef, .undef, .undef, .undef, .undef, .undef, .undef, .undef, .undef, .undef, .undef, .undef, .undef, .undef, .undef, .undef, .undef, .undef, .undef, .undef, .undef, .undef, .undef, .undef, .undef, .undef, .undef, .undef, .undef, .undef, .undef, .undef, .undef, .undef, .undef, .undef, .undef, .undef, .undef, .undef, .undef, .undef, .undef, .undef, .undef, .undef, .undef, .undef, .undef, .undef, .undef, .undef, .undef, .undef, .undef, .undef, .undef, .undef, .undef, .undef, .undef, .undef, .undef, .undef, .undef, .undef, .undef, .undef, .undef, .undef, .undef, .undef, .undef, .undef, .undef, .undef, .undef, .undef, .undef, .undef, .undef, .undef, .undef, .undef, .undef, .undef, .undef, .undef, .undef, .undef, .undef, .undef, .undef, .undef, .undef, .undef, .undef, .undef, .undef, .undef, .undef, .undef, .undef, .undef, .undef, .undef, .undef, .undef, .undef, .undef, .undef, .undef, .undef, .undef, .undef, .undef, .undef, .undef, .undef, .undef, .undef, .undef, .undef, .undef, .undef, .undef, .undef, .undef, .undef, .undef, .undef, .undef, .undef, .undef, .undef, .undef, .undef, .undef, .undef, .undef, .undef, .undef, .undef, .undef, .undef, .undef, .undef, .undef, .undef, .undef, .undef, .undef], [], 0⟩) (fun i => U.length - i) 0 (Nat.zero_le _) ?_ (fun i hi => ?_)
         · refine Weak.cut (0) (by simp) (by simp) ?_ ?_
           · simp [LeC, LeV, ren, cutF, WeekRow.sl]
           · rfl
         have cl1 : (U.take i).countP (fun x => decide (x.Events ≤ mm)) ≤ i := Nat.le_trans List.countP_le_length (by simp; omega)
         have cl2 : (U.take i).countP (fun x => decide (mm ≤ x.Events)) ≤ i := Nat.le_trans List.countP_le_length (by simp; omega)
         simp -implicitDefEqProofs -dsimp only [go_sem]
         refine guardT.split (fun g1 => ?_) (fun g1 => ?_)
         · have hi' : i < U.length := by simpa using g1
           cases mb with
           | false =>
             (repeat ((repeat1' (first | simp -implicitDefEqProofs -dsimp only [go_sem, g1] | simp -dsimp (disch := omega) only [wrap_i64])); repeat (with_reducible refine sideA ?_)))
             refine callS.rel [] (drawPicksForEvent_ok hB) (by decide) ⟨leO, trivial⟩ rfl rfl (fun r hout hΦ => ?_)
             obtain ⟨V4, hV4, rfl, rfl⟩ := hΦ
             refine ⟨trivial, ?_⟩
             (repeat ((repeat1' (first | simp -implicitDefEqProofs -dsimp only [go_sem] | simp -dsimp (disch := omega) only [wrap_i64])); repeat (with_reducible refine sideA ?_)))
             have ip := iPicksForEvent_ok V4 (by omega)
             have sp := sPicksForEvent_ok V4 (by omega)
             obtain ⟨pa, pc, pb, ep⟩ := picksR_eq V4
             rw [ep] at ip sp
             (first | refine callT.at (ip) ⟨leA, trivial⟩ ?_ | refine callS.at (ip) ⟨leA, trivial⟩ ?_)
             (repeat ((repeat1' (first | simp -implicitDefEqProofs -dsimp only [go_sem] | simp -dsimp (disch := omega) only [wrap_i64])); repeat (with_reducible refine sideA ?_)))
             (first | refine callT.at (sp) ⟨leA, trivial⟩ ?_ | refine callS.at (sp) ⟨leA, trivial⟩ ?_)
             (repeat ((repeat1' (first | simp -implicitDefEqProofs -dsimp only [go_sem] | simp -dsimp (disch := omega) only [wrap_i64])); repeat (with_reducible refine sideA ?_)))
             exact WeakR.drop' (by simp) (by rfl)
           | true =>
             have hra := rows_at (cs := WeekRow.cs) WeekRow.csl hi'
             have n1 : (U.take (i + 1)).countP (fun x => decide (x.Events ≤ mm)) = (U.take i).countP (fun x => decide (x.Events ≤ mm)) + if decide (U[i].Events ≤ mm) = true then 1 else 0 := by
               rw [List.take_succ_eq_append_getElem hi', List.countP_append, List.countP_singleton]
             have n2 : (U.take (i + 1)).countP (fun x => decide (mm ≤ x.Events)) = (U.take i).countP (fun x => decide (mm ≤ x.Events)) + if decide (mm ≤ U[i].Events) = true then 1 else 0 := by
               rw [List.take_succ_eq_append_getElem hi', List.countP_append, List.countP_singleton]
             generalize (U.take i).countP (fun x => decide (x.Events ≤ mm)) = lo at n1 cl1 ⊢
             generalize (U.take i).countP (fun x => decide (mm ≤ x.Events)) = hg at n2 cl2 ⊢
             (repeat ((repeat1' (first | simp -implicitDefEqProofs -dsimp only [go_sem, g1, hra, WeekRow.cs, List.drop_succ_cons, List.drop_zero] | simp -dsimp (disch := omega) only [wrap_i64])); repeat (with_reducible refine sideA ?_)))
             refine condT.split (fun g2 => ?_) (fun g2 => ?_)
             · rw [if_pos g2] at n1
               (repeat ((repeat1' (first | simp -implicitDefEqProofs -dsimp only [go_sem, g2, hra, WeekRow.cs, List.drop_succ_cons, List.drop_zero] | simp -dsimp (disch := omega) only [wrap_i64])); repeat (with_reducible refine sideA ?_)))
               refine condT.split (fun g3 => ?_) (fun g3 => ?_)
               · rw [if_pos g3] at n2
                 (repeat ((repeat1' (first | simp -implicitDefEqProofs -dsimp only [go_sem, g3] | simp -dsimp (disch := omega) only [wrap_i64])); repeat (with_reducible refine sideA ?_)))
                 refine ⟨i + 1, hi', ?_, by omega⟩
                 refine Weak.cut (0) (by simp) (by simp) ?_ ?_
                 · simp [LeC, LeV, ren, cutF, n1, n2]
                 · rfl
               · rw [if_neg (by rw [g3]; decide)] at n2
                 (repeat ((repeat1' (first | simp -implicitDefEqProofs -dsimp only [go_sem, g3] | simp -dsimp (disch := omega) only [wrap_i64])); repeat (with_reducible refine sideA ?_)))
                 refine ⟨i + 1, hi', ?_, by omega⟩
                 refine Weak.cut (0) (by simp) (by simp) ?_ ?_
                 · simp [LeC, LeV, ren, cutF, n1, n2]
                 · rfl
             · rw [if_neg (by rw [g2]; decide)] at n1
               (repeat ((repeat1' (first | simp -implicitDefEqProofs -dsimp only [go_sem, g2, hra, WeekRow.cs, List.drop_succ_cons, List.drop_zero] | simp -dsimp (disch := omega) only [wrap_i64])); repeat (with_reducible refine sideA ?_)))
               refine condT.split (fun g3 => ?_) (fun g3 => ?_)
               · rw [if_pos g3] at n2
                 (repeat ((repeat1' (first | simp -implicitDefEqProofs -dsimp only [go_sem, g3] | simp -dsimp (disch := omega) only [wrap_i64])); repeat (with_reducible refine sideA ?_)))
                 refine ⟨i + 1, hi', ?_, by omega⟩
                 refine Weak.cut (0) (by simp) (by simp) ?_ ?_
                 · simp [LeC, LeV, ren, cutF, n1, n2]
                 · rfl
               · rw [if_neg (by rw [g3]; decide)] at n2
                 (repeat ((repeat1' (first | simp -implicitDefEqProofs -dsimp only [go_sem, g3] | simp -dsimp (disch := omega) only [wrap_i64])); repeat (with_reducible refine sideA ?_)))
                 refine ⟨i + 1, hi', ?_, by omega⟩
                 refine Weak.cut (0) (by simp) (by simp) ?_ ?_
                 · simp [LeC, LeV, ren, cutF, n1, n2]
                 · rfl
         have hi' : i = U.length := by simp at g1; omega
         subst hi'
         rw [List.take_length] at cl1 cl2 ⊢
         cases mb with
         | false =>
           (repeat ((repeat1' (first | simp -implicitDefEqProofs -dsimp only [go_sem, g1] | simp -dsimp (disch := omega) only [wrap_i64])); repeat (with_reducible refine sideA ?_)))
           refine callS.rel [] (drawPicksForEvent_ok hB) (by decide) ⟨leO, trivial⟩ rfl rfl (fun r hout hΦ => ?_)
           obtain ⟨V4, hV4, rfl, rfl⟩ := hΦ
           refine ⟨trivial, ?_⟩
           (repeat ((repeat1' (first | simp -implicitDefEqProofs -dsimp only [go_sem] | simp -dsimp (disch := omega) only [wrap_i64])); repeat (with_reducible refine sideA ?_)))
           have ip := iPicksForEvent_ok V4 (by omega)
           have sp := sPicksForEvent_ok V4 (by omega)
           obtain ⟨pa, pc, pb, ep⟩ := picksR_eq V4
           rw [ep] at ip sp
           (first | refine callT.at (ip) ⟨leA, trivial⟩ ?_ | refine callS.at (ip) ⟨leA, trivial⟩ ?_)
           (repeat ((repeat1' (first | simp -implicitDefEqProofs -dsimp only [go_sem] | simp -dsimp (disch := omega) only [wrap_i64])); repeat (with_reducible refine sideA ?_)))
           (first | refine callT.at (sp) ⟨leA, trivial⟩ ?_ | refine callS.at (sp) ⟨leA, trivial⟩ ?_)
           (repeat ((repeat1' (first | simp -implicitDefEqProofs -dsimp only [go_sem] | simp -dsimp (disch := omega) only [wrap_i64])); repeat (with_reducible refine sideA ?_)))
           exact WeakR.drop' (by simp) (by rfl)
         | true =>
           obtain ⟨fl, f1, f2⟩ := fm rfl
           have d1 : decide (2 * ((U.countP (fun x => decide (x.Events ≤ mm)) : Nat) : Int) < (U.length : Int)) = false := decide_eq_false (by omega)
           have d2 : decide (2 * ((U.countP (fun x => decide (mm ≤ x.Events)) : Nat) : Int) < (U.length : Int)) = false := decide_eq_false (by omega)
           generalize U.countP (fun x => decide (x.Events ≤ mm)) = lo at *
           generalize U.countP (fun x => decide (mm ≤ x.Events)) = hg at *
           (repeat ((repeat1' (first | simp -implicitDefEqProofs -dsimp only [go_sem, g1, d1, d2] | simp -dsimp (disch := omega) only [wrap_i64])); repeat (with_reducible refine sideA ?_)))
           refine callS.rel [] (drawPicksForEvent_ok hB) (by decide) ⟨leO, trivial⟩ rfl rfl (fun r hout hΦ => ?_)
           obtain ⟨V4, hV4, rfl, rfl⟩ := hΦ
           refine ⟨trivial, ?_⟩
           (repeat ((repeat1' (first | simp -implicitDefEqProofs -dsimp only [go_sem] | simp -dsimp (disch := omega) only [wrap_i64])); repeat (with_reducible refine sideA ?_)))
           have ip := iPicksForEvent_ok V4 (by omega)
           have sp := sPicksForEvent_ok V4 (by omega)
           obtain ⟨pa, pc, pb, ep⟩ := picksR_eq V4
           rw [ep] at ip sp
           (first | refine callT.at (ip) ⟨leA, trivial⟩ ?_ | refine callS.at (ip) ⟨leA, trivial⟩ ?_)
           (repeat ((repeat1' (first | simp -implicitDefEqProofs -dsimp only [go_sem] | simp -dsimp (disch := omega) only [wrap_i64])); repeat (with_reducible refine sideA ?_)))
           (first | refine callT.at (sp) ⟨leA, trivial⟩ ?_ | refine callS.at (sp) ⟨leA, trivial⟩ ?_)
           (repeat ((repeat1' (first | simp -implicitDefEqProofs -dsimp only [go_sem] | simp -dsimp (disch := omega) only [wrap_i64])); repeat (with_reducible refine sideA ?_)))
           exact WeakR.drop' (by simp) (by rfl)
       | true =>
         have hra := rows_at (cs := WeekRow.cs) WeekRow.csl hi'
         have hh := rHas_ok M K2[i].Week (by omega)
         rw [hno rfl i hi'] at hh
         (repeat ((repeat1' (first | simp -implicitDefEqProofs -dsimp only [go_sem, g1, hra, WeekRow.cs, List.drop_zero] | simp -dsimp (disch := omega) only [wrap_i64])); repeat (with_reducible refine sideA ?_)))
         (first | refine callT.at (hh) ⟨leA, leA, trivial⟩ ?_ | refine callS.at (hh) ⟨leA, leA, trivial⟩ ?_)
         (repeat ((repeat1' (first | simp -implicitDefEqProofs -dsimp only [go_sem] | simp -dsimp (disch := omega) only [wrap_i64])); repeat (with_reducible refine sideA ?_)))
         refine ⟨i + 1, hi', ?_, by omega⟩
         refine Weak.cut (0) (by simp) (by simp) ?_ ?_
         · simp [LeC, LeV, ren, cutF]
         · rfl
     (repeat ((repeat1' (first | simp -implicitDefEqProofs -dsimp only [go_sem, g1] | simp -dsimp (disch := omega) only [wrap_i64])); repeat (with_reducible refine sideA ?_)))
     refine callS.rel [] (drawMedianEvents_ok hB) (by decide) ⟨leO, trivial⟩ rfl rfl (fun r hout hΦ => ?_)
     obtain ⟨U, hU, rfl, rfl⟩ := hΦ
     refine ⟨trivial, ?_⟩
     (repeat ((repeat1' (first | simp -implicitDefEqProofs -dsimp only [go_sem] | simp -dsimp (disch := omega) only [wrap_i64])); repeat (with_reducible refine sideA ?_)))
     have im := iMedianEvents_ok U (by omega)
     have sm := sMedianEvents_ok U (by omega)
     obtain ⟨mm, mb, em, fm⟩ := medR_eq U
     rw [em] at im sm
     (first | refine callT.at (im) ⟨leA, trivial⟩ ?_ | refine callS.at (im) ⟨leA, trivial⟩ ?_)
     (repeat ((repeat1' (first | simp -implicitDefEqProofs -dsimp only [go_sem] | simp -dsimp (disch := omega) only [wrap_i64])); repeat (with_reducible refine sideA ?_)))
     (first | refine callT.at (sm) ⟨leA, trivial⟩ ?_ | refine callS.at (sm) ⟨leA, trivial⟩ ?_)
     (repeat ((repeat1' (first | simp -implicitDefEqProofs -dsimp only [go_sem] | simp -dsimp (disch := omega) only [wrap_i64])); repeat (with_reducible refine sideA ?_)))
     have hUl : U.length ≤ 20 := hU
     refine LoopT.intro (fun i : Nat => i ≤ U.length) (fun i => ⟨[ByteS.sl L, .undef, .undef, .undef, .undef, .undef, .undef, .undef, .undef, .undef, .undef, .undef, .undef, .undef, .undef, .undef, .undef, .undef, WeekRow.sl U, .int .i64 mm, .bool mb, .undef, .undef, .int .i64 ((U.take i).countP (fun x => decide (x.Events ≤ mm)) : Nat), .int .i64 ((U.take i).countP (fun x => decide (mm ≤ x.Events)) : Nat), .int .i64 i, .undef, .undef, .undef, .undef, .undef, .undef, .undef, .undef, .undef, .undef, .undef, .undef, .undef, .undef, .undef, .undef, .undef, .undef, .undef, .undef, .undef, .undef, .undef, .undef, .undef, .undef, .undef, .undef, .undef, .undef, .undef, .undef, .undef, .undef, .undef, .undef, .undef, .undef, .undef, .undef, .undef, .undef, .undef, .undef, .undef, .undef, .undef, .undef, .undef, .undef, .undef, .undef, .undef, .undef, .undef, .undef, .undef, .undef, .undef, .undef, .undef, .undef, .undef, .undef, .undef, .undef, .undef, .undef, .undef, .undef, .undef, .undef, .undef, .undef, .undef, .undef, .undef, .undef, .undef, .undef, .undef, .undef, .undef, .undef, .undef, .undef, .undef, .undef, .undef, .undef, .undef, .undef, .undef, .undef, .undef, .undef, .undef, .undef, .undef, .undef, .undef, .undef, .undef, .undef, .undef, .undef, .undef, .undef, .undef, .undef, .undef, .undef, .undef, .undef, .undef, .undef, .undef, .undef, .undef, .undef, .undef, .undef, .undef, .undef, .undef, .undef, .undef, .undef, .undef, .undef, .undef, .undef, .undef, .undef, .undef, .undef, .undef, .undef, .undef, .undef, .undef, .undef, .undef, .undef, .undef, .undef, .undef, .undef, .undef, .undef, .undef, .undef, .undef, .undef, .undef, .undef, .undef, .undef, .undef, .undef, .undef, .undef, .undef, .undef, .undef, .undef, .undef, .undef, .undef, .undef, .undef, .undef, .undef, .undef, .undef, .undef, .undef, .undef, .undef, .undef, .undef, .undef, .undef, .undef, .undef, .undef, .undef, .undef, .undef, .undef, .undef, .undef, .undef, .undef, .undef, .undef, .undef, .undef, .undef, .undef, .undef, .undef, .undef, .undef, .undef, .undef, .undef, .undef, .undef, .undef, .undef, .undef, .undef, .undef], [], 0⟩) (fun i => U.length - i) 0 (Nat.zero_le _) ?_ (fun i hi => ?_)
     · refine Weak.cut (0) (by simp) (by simp) ?_ ?_
       · simp [LeC, LeV, ren, cutF, WeekRow.sl]
       · rfl
     have cl1 : (U.take i).countP (fun x => decide (x.Events ≤ mm)) ≤ i := Nat.le_trans List.countP_le_length (by simp; omega)
     have cl2 : (U.take i).countP (fun x => decide (mm ≤ x.Events)) ≤ i := Nat.le_trans List.countP_le_length (by simp; omega)
     simp -implicitDefEqProofs -dsimp only [go_sem]
     refine guardT.split (fun g1 => ?_) (fun g1 => ?_)
     · have hi' : i < U.length := by simpa using g1
       cases mb with
       | false =>
         (repeat ((repeat1' (first | simp -implicitDefEqProofs -dsimp only [go_sem, g1] | simp -dsimp (disch := omega) only [wrap_i64])); repeat (with_reducible refine sideA ?_)))
         refine callS.rel [] (drawPicksForEvent_ok hB) (by decide) ⟨leO, trivial⟩ rfl rfl (fun r hout hΦ => ?_)
         obtain ⟨V4, hV4, rfl, rfl⟩ := hΦ
         refine ⟨trivial, ?_⟩
         (repeat ((repeat1' (first | simp -implicitDefEqProofs -dsimp only [go_sem] | simp -dsimp (disch := omega) only [wrap_i64])); repeat (with_reducible refine sideA ?_)))
         have ip := iPicksForEvent_ok V4 (by omega)
         have sp := sPicksForEvent_ok V4 (by omega)
         obtain ⟨pa, pc, pb, ep⟩ := picksR_eq V4
         rw [ep] at ip sp
         (first | refine callT.at (ip) ⟨leA, trivial⟩ ?_ | refine callS.at (ip) ⟨leA, trivial⟩ ?_)
         (repeat ((repeat1' (first | simp -implicitDefEqProofs -dsimp only [go_sem] | simp -dsimp (disch := omega) only [wrap_i64])); repeat (with_reducible refine sideA ?_)))
         (first | refine callT.at (sp) ⟨leA, trivial⟩ ?_ | refine callS.at (sp) ⟨leA, trivial⟩ ?_)
         (repeat ((repeat1' (first | simp -implicitDefEqProofs -dsimp only [go_sem] | simp -dsimp (disch := omega) only [wrap_i64])); repeat (with_reducible refine sideA ?_)))
         exact WeakR.drop' (by simp) (by rfl)
       | true =>
         have hra := rows_at (cs := WeekRow.cs) WeekRow.csl hi'
         have n1 : (U.take (i + 1)).countP (fun x => decide (x.Events ≤ mm)) = (U.take i).countP (fun x => decide (x.Events ≤ mm)) + if decide (U[i].Events ≤ mm) = true then 1 else 0 := by
           rw [List.take_succ_eq_append_getElem hi', List.countP_append, List.countP_singleton]
         have n2 : (U.take (i + 1)).countP (fun x => decide (mm ≤ x.Events)) = (U.take i).countP (fun x => decide (mm ≤ x.Events)) + if decide (mm ≤ U[i].Events) = true then 1 else 0 := by
           rw [List.take_succ_eq_append_getElem hi', List.countP_append, List.countP_singleton]
         generalize (U.take i).countP (fun x => decide (x.Events ≤ mm)) = lo at n1 cl1 ⊢
         generalize (U.take i).countP (fun x => decide (mm ≤ x.Events)) = hg at n2 cl2 ⊢
         (repeat ((repeat1' (first | simp -implicitDefEqProofs -dsimp only [go_sem, g1, hra, WeekRow.cs, List.drop_succ_cons, List.drop_zero] | simp -dsimp (disch := omega) only [wrap_i64])); repeat (with_reducible refine sideA ?_)))
         refine condT.split (fun g2 => ?_) (fun g2 => ?_)
         · rw [if_pos g2] at n1
           (repeat ((repeat1' (first | simp -implicitDefEqProofs -dsimp only [go_sem, g2, hra, WeekRow.cs, List.drop_succ_cons, List.drop_zero] | simp -dsimp (disch := omega) only [wrap_i64])); repeat (with_reducible refine sideA ?_)))
           refine condT.split (fun g3 => ?_) (fun g3 => ?_)
           · rw [if_pos g3] at n2
             (repeat ((repeat1' (first | simp -implicitDefEqProofs -dsimp only [go_sem, g3] | simp -dsimp (disch := omega) only [wrap_i64])); repeat (with_reducible refine sideA ?_)))
             refine ⟨i + 1, hi', ?_, by omega⟩
             refine Weak.cut (0) (by simp) (by simp) ?_ ?_
             · simp [LeC, LeV, ren, cutF, n1, n2]
             · rfl
           · rw [if_neg (by rw [g3]; decide)] at n2
             (repeat ((repeat1' (first | simp -implicitDefEqProofs -dsimp only [go_sem, g3] | simp -dsimp (disch := omega) only [wrap_i64])); repeat (with_reducible refine sideA ?_)))
             refine ⟨i + 1, hi', ?_, by omega⟩
             refine Weak.cut (0) (by simp) (by simp) ?_ ?_
             · simp [LeC, LeV, ren, cutF, n1, n2]
             · rfl
         · rw [if_neg (by rw [g2]; decide)] at n1
           (repeat ((repeat1' (first | simp -implicitDefEqProofs -dsimp only [go_sem, g2, hra, WeekRow.cs, List.drop_succ_cons, List.drop_zero] | simp -dsimp (disch := omega) only [wrap_i64])); repeat (with_reducible refine sideA ?_)))
           refine condT.split (fun g3 => ?_) (fun g3 => ?_)
           · rw [if_pos g3] at n2
             (repeat ((repeat1' (first | simp -implicitDefEqProofs -dsimp only [go_sem, g3] | simp -dsimp (disch := omega) only [wrap_i64])); repeat (with_reducible refine sideA ?_)))
             refine ⟨i + 1, hi', ?_, by omega⟩
             refine Weak.cut (0) (by simp) (by simp) ?_ ?_
             · simp [LeC, LeV, ren, cutF, n1, n2]
             · rfl
           · rw [if_neg (by rw [g3]; decide)] at n2
             (repeat ((repeat1' (first | simp -implicitDefEqProofs -dsimp only [go_sem, g3] | simp -dsimp (disch := omega) only [wrap_i64])); repeat (with_reducible refine sideA ?_)))
             refine ⟨i + 1, hi', ?_, by omega⟩
             refine Weak.cut (0) (by simp) (by simp) ?_ ?_
             · simp [LeC, LeV, ren, cutF, n1, n2]
             · rfl
     have hi' : i = U.length := by simp at g1; omega
     subst hi'
     rw [List.take_length] at cl1 cl2 ⊢
     cases mb with
     | false =>
       (repeat ((repeat1' (first | simp -implicitDefEqProofs -dsimp only [go_sem, g1] | simp -dsimp (disch := omega) only [wrap_i64])); repeat (with_reducible refine sideA ?_)))
       refine callS.rel [] (drawPicksForEvent_ok hB) (by decide) ⟨leO, trivial⟩ rfl rfl (fun r hout hΦ => ?_)
       obtain ⟨V4, hV4, rfl, rfl⟩ := hΦ
       refine ⟨trivial, ?_⟩
       (repeat ((repeat1' (first | simp -implicitDefEqProofs -dsimp only [go_sem] | simp -dsimp (disch := omega) only [wrap_i64])); repeat (with_reducible refine sideA ?_)))
       have ip := iPicksForEvent_ok V4 (by omega)
       have sp := sPicksForEvent_ok V4 (by omega)
       obtain ⟨pa, pc, pb, ep⟩ := picksR_eq V4
       rw [ep] at ip sp
       (first | refine callT.at (ip) ⟨leA, trivial⟩ ?_ | refine callS.at (ip) ⟨leA, trivial⟩ ?_)
       (repeat ((repeat1' (first | simp -implicitDefEqProofs -dsimp only [go_sem] | simp -dsimp (disch := omega) only [wrap_i64])); repeat (with_reducible refine sideA ?_)))
       (first | refine callT.at (sp) ⟨leA, trivial⟩ ?_ | refine callS.at (sp) ⟨leA, trivial⟩ ?_)
       (repeat ((repeat1' (first | simp -implicitDefEqProofs -dsimp only [go_sem] | simp -dsimp (disch := omega) only [wrap_i64])); repeat (with_reducible refine sideA ?_)))
       exact WeakR.drop' (by simp) (by rfl)
     | true =>
       obtain ⟨fl, f1, f2⟩ := fm rfl
       have d1 : decide (2 * ((U.countP (fun x => decide (x.Events ≤ mm)) : Nat) : Int) < (U.length : Int)) = false := decide_eq_false (by omega)
       have d2 : decide (2 * ((U.countP (fun x => decide (mm ≤ x.Events)) : Nat) : Int) < (U.length : Int)) = false := decide_eq_false (by omega)
       generalize U.countP (fun x => decide (x.Events ≤ mm)) = lo at *
       generalize U.countP (fun x => decide (mm ≤ x.Events)) = hg at *
       (repeat ((repeat1' (first | simp -implicitDefEqProofs -dsimp only [go_sem, g1, d1, d2] | simp -dsimp (disch := omega) only [wrap_i64])); repeat (with_reducible refine sideA ?_)))
       refine callS.rel [] (drawPicksForEvent_ok hB) (by decide) ⟨leO, trivial⟩ rfl rfl (fun r hout hΦ => ?_)
       obtain ⟨V4, hV4, rfl, rfl⟩ := hΦ
       refine ⟨trivial, ?_⟩
       (repeat ((repeat1' (first | simp -implicitDefEqProofs -dsimp only [go_sem] | simp -dsimp (disch := omega) only [wrap_i64])); repeat (with_reducible refine sideA ?_)))
       have ip := iPicksForEvent_ok V4 (by omega)
       have sp := sPicksForEvent_ok V4 (by omega)
       obtain ⟨pa, pc, pb, ep⟩ := picksR_eq V4
       rw [ep] at ip sp
       (first | refine callT.at (ip) ⟨leA, trivial⟩ ?_ | refine callS.at (ip) ⟨leA, trivial⟩ ?_)
       (repeat ((repeat1' (first | simp -implicitDefEqProofs -dsimp only [go_sem] | simp -dsimp (disch := omega) only [wrap_i64])); repeat (with_reducible refine sideA ?_)))
       (first | refine callT.at (sp) ⟨leA, trivial⟩ ?_ | refine callS.at (sp) ⟨leA, trivial⟩ ?_)
       (repeat ((repeat1' (first | simp -implicitDefEqProofs -dsimp only [go_sem] | simp -dsimp (disch := omega) only [wrap_i64])); repeat (with_reducible refine sideA ?_)))
       exact WeakR.drop' (by simp) (by rfl)
   have hra := rows_at (cs := WeekRow.cs) WeekRow.csl hi'
   have hsi := hsin rfl i hi'
   (repeat ((repeat1' (first | simp -implicitDefEqProofs -dsimp only [go_sem, g1] | simp -dsimp (disch := omega) only [wrap_i64])); repeat (with_reducible refine sideA ?_)))
   refine LoopT.intro (fun k : Nat => k ≤ P.length) (fun k => ⟨[ByteS.sl L, .undef, .undef, WeekRow.sl K, .int .i64 lim, tabV P, .bool true, .undef, .undef, .int .i64 i, .bool ((P.take k).any fun p => decide (p.1 ≤ K[i].Week) && decide (K[i].Week ≤ p.2)), .int .i64 k, .undef, .undef, .undef, .undef, .undef, .undef, .undef, .undef, .undef, .undef, .undef, .undef, .undef, .undef, .undef, .undef, .undef, .undef, .undef, .undef, .undef, .undef, .undef, .undef, .undef, .undef, .undef, .undef, .undef, .undef, .undef, .undef, .undef, .undef, .undef, .undef, .undef, .undef, .undef, .undef, .undef, .undef, .undef, .undef, .undef, .undef, .undef, .undef, .undef, .undef, .undef, .undef, .undef, .undef, .undef, .undef, .undef, .undef, .undef, .undef, .undef, .undef, .undef, .undef, .undef, .undef, .undef, .undef, .undef, .undef, .undef, .undef, .undef, .undef, .undef, .undef, .undef, .undef, .undef, .undef, .undef, .undef, .undef, .undef, .undef, .undef, .undef, .undef, .undef, .undef, .undef, .undef, .undef, .undef, .undef, .undef, .undef, .undef, .undef, .undef, .undef, .undef, .undef, .undef, .undef, .undef, .undef, .undef, .undef, .undef, .undef, .undef, .undef, .undef, .undef, .undef, .undef, .undef, .undef, .undef, .undef, .undef, .undef, .undef, .undef, .undef, .undef, .undef, .undef, .undef, .undef, .undef, .undef, .undef, .undef, .undef, .undef, .undef, .undef, .undef, .undef, .undef, .undef, .undef, .undef, .undef, .undef, .undef, .undef, .undef, .undef, .undef, .undef, .undef, .undef, .undef, .undef, .undef, .undef, .undef, .undef, .undef, .undef, .undef, .undef, .undef, .undef, .undef, .undef, .undef, .undef, .undef, .undef, .undef, .undef, .undef, .undef, .undef, .undef, .undef, .undef, .undef, .undef, .undef, .undef, .undef, .undef, .undef, .undef, .undef, .undef, .undef, .undef, .undef, .undef, .undef, .undef, .undef, .undef, .undef, .undef, .undef, .undef, .undef, .undef, .undef, .undef, .undef, .undef, .undef, .undef, .undef, .undef, .undef, .undef, .undef, .undef, .undef, .undef, .undef, .undef, .undef, .undef, .undef, .undef, .undef, .undef, .undef], [], 0⟩) (fun k => P.length - k) 0 (Nat.zero_le _) ?_ (fun k hk => ?_)
   · refine Weak.cut (0) (by simp) (by simp) ?_ ?_
     · simp [LeC, LeV, ren, cutF, WeekRow.sl, tabV]
     · rfl
   simp -implicitDefEqProofs -dsimp only [go_sem, tabV]
   refine condT.split (fun g2 => ?_) (fun g2 => ?_)
   · have hk' : k < P.length := by simpa using g2
     have hrP := rows_at (cs := tabC) (w := 1) (fun _ => rfl) hk'
     have hnx : ((P.take (k + 1)).any fun p => decide (p.1 ≤ K[i].Week) && decide (K[i].Week ≤ p.2)) = (((P.take k).any fun p => decide (p.1 ≤ K[i].Week) && decide (K[i].Week ≤ p.2)) || (decide (P[k].1 ≤ K[i].Week) && decide (K[i].Week ≤ P[k].2))) := by
       rw [List.take_succ_eq_append_getElem hk', List.any_append]
       simp
     generalize ((P.take k).any fun p => decide (p.1 ≤ K[i].Week) && decide (K[i].Week ≤ p.2)) = bi at hnx ⊢
     cases bi with
     | true =>
       (repeat ((repeat1' (first | simp -implicitDefEqProofs -dsimp only [go_sem, g2] | simp -dsimp (disch := omega) only [wrap_i64])); repeat (with_reducible refine sideA ?_)))
       refine ⟨k + 1, hk', ?_, by omega⟩
       refine Weak.cut (0) (by simp) (by simp) ?_ ?_
       · simp [LeC, LeV, ren, cutF, hnx, tabV]
       · rfl
     | false =>
       (repeat ((repeat1' (first | simp -implicitDefEqProofs -dsimp only [go_sem, g2, hrP, hra, tabC, pairC, WeekRow.cs, List.drop_succ_cons, List.drop_zero] | simp -dsimp (disch := omega) only [wrap_i64])); repeat (with_reducible refine sideA ?_)))
       refine guardT.split (fun g3 => ?_) (fun g3 => ?_)
       · rw [g3] at hnx
         (repeat ((repeat1' (first | simp -implicitDefEqProofs -dsimp only [go_sem, g3, hrP, hra, tabC, pairC, WeekRow.cs, List.drop_succ_cons, List.drop_zero] | simp -dsimp (disch := omega) only [wrap_i64])); repeat (with_reducible refine sideA ?_)))
         refine ⟨k + 1, hk', ?_, by omega⟩
         refine Weak.cut (0) (by simp) (by simp) ?_ ?_
         · simp [LeC, LeV, ren, cutF, hnx, tabV]
         · rfl
       · rw [g3] at hnx
         (repeat ((repeat1' (first | simp -implicitDefEqProofs -dsimp only [go_sem, g3] | simp -dsimp (disch := omega) only [wrap_i64])); repeat (with_reducible refine sideA ?_)))
         refine ⟨k + 1, hk', ?_, by omega⟩
         refine Weak.cut (0) (by simp) (by simp) ?_ ?_
         · simp [LeC, LeV, ren, cutF, hnx, tabV]
         · rfl
   have hk' : k = P.length := by simp at g2; omega
   subst hk'
   rw [List.take_length, hsi]
   (repeat ((repeat1' (first | simp -implicitDefEqProofs -dsimp only [go_sem, g2, hra, WeekRow.cs, List.drop_succ_cons, List.drop_zero] | simp -dsimp (disch := omega) only [wrap_i64])); repeat (with_reducible refine sideA ?_)))
   refine ⟨i + 1, hi', ?_, by omega⟩
   refine Weak.cut (0) (by simp) (by simp) ?_ ?_
   · simp [LeC, LeV, ren, cutF, tabV]
   · rfl
 (repeat ((repeat1' (first | simp -implicitDefEqProofs -dsimp only [go_sem, g1] | simp -dsimp (disch := omega) only [wrap_i64])); repeat (with_reducible refine sideA ?_)))
 refine callS.rel [] (drawMissingWeeks_ok hB) (by decide) ⟨leO, trivial⟩ rfl rfl (fun r hout hΦ => ?_)
 obtain ⟨K2, hK2, rfl, rfl⟩ := hΦ
 refine ⟨trivial, ?_⟩
 (repeat ((repeat1' (first | simp -implicitDefEqProofs -dsimp only [go_sem] | simp -dsimp (disch := omega) only [wrap_i64])); repeat (with_reducible refine sideA ?_)))
 have ii := (iMissingWeeks_ok K2 (by omega)).weak (frzN _)
 have si := (sMissingWeeks_ok K2 (by omega)).weak (frzO _)
 obtain ⟨M, fb, eM, hMl, hno⟩ := missR_fz K2
 rw [eM] at ii si
 have hvM := rInts_ok M (by omega)
 (first | refine callT.at (ii) ⟨leA, trivial⟩ ?_ | refine callS.at (ii) ⟨leA, trivial⟩ ?_)
 (repeat ((repeat1' (first | simp -implicitDefEqProofs -dsimp only [go_sem] | simp -dsimp (disch := omega) only [wrap_i64])); repeat (with_reducible refine sideA ?_)))
 (first | refine callT.at (si) ⟨leA, trivial⟩ ?_ | refine callS.at (si) ⟨leA, trivial⟩ ?_)
 (repeat ((repeat1' (first | simp -implicitDefEqProofs -dsimp only [go_sem] | simp -dsimp (disch := omega) only [wrap_i64])); repeat (with_reducible refine sideA ?_)))
 (first | refine callT.at (hvM) ⟨leA, leA, trivial⟩ ?_ | refine callS.at (hvM) ⟨leA, leA, trivial⟩ ?_)
 (repeat ((repeat1' (first | simp -implicitDefEqProofs -dsimp only [go_sem] | simp -dsimp (disch := omega) only [wrap_i64])); repeat (with_reducible refine sideA ?_)))
 refine LoopT.intro (fun i : Nat => i ≤ K2.length) (fun i => ⟨[ByteS.sl L, .undef, .undef, .undef, .undef, .undef, .undef, .undef, .undef, .undef, .undef, .undef, WeekRow.sl K2, IntS.sl M, .bool fb, .undef, .undef, .int .i64 i, .undef, .undef, .undef, .undef, .undef, .undef, .undef, .undef, .undef, .undef, .undef, .undef, .undef, .undef, .undef, .undef, .undef, .undef, .undef, .undef, .undef, .undef, .undef, .undef, .undef, .undef, .undef, .undef, .undef, .undef, .undef, .undef, .undef, .undef, .undef, .undef, .undef, .undef, .undef, .undef, .undef, .undef, .undef, .undef, .undef, .undef, .undef, .undef, .undef, .undef, .undef, .undef, .undef, .undef, .undef, .undef, .undef, .undef, .undef, .undef, .undef, .undef, .undef, .undef, .undef, .undef, .undef, .undef, .undef, .undef, .undef, .undef, .undef, .undef, .undef, .undef, .undef, .undef, .undef, .undef, .undef, .undef, .undef, .undef, .undef, .undef, .undef, .undef, .undef, .undef, .undef, .undef, .undef, .undef, .undef, .undef, .undef, .undef, .undef, .undef, .undef, .undef, .undef, .undef, .undef, .undef, .undef, .undef, .undef, .undef, .undef, .undef, .undef, .undef, .undef, .undef, .undef, .undef, .undef, .undef, .undef, .undef, .undef, .undef, .undef, .undef, .undef, .undef, .undef, .undef, .undef, .undef, .undef, .undef, .undef, .undef, .undef, .undef, .undef, .undef, .undef, .undef, .undef, .undef, .undef, .undef, .undef, .undef, .undef, .undef, .undef, .undef, .undef, .undef, .undef, .undef, .undef, .undef, .undef, .undef, .undef, .undef, .undef, .undef, .undef, .undef, .undef, .undef, .undef, .undef, .undef, .undef, .undef, .undef, .undef, .undef, .undef, .undef, .undef, .undef, .undef, .undef, .undef, .undef, .undef, .undef, .undef, .undef, .undef, .undef, .undef, .undef, .undef, .undef, .undef, .undef, .undef, .undef, .undef, .undef, .undef, .undef, .undef, .undef, .undef, .undef, .undef, .undef, .undef, .undef, .undef, .undef, .undef, .undef, .undef, .undef, .undef, .undef, .undef, .undef, .undef, .undef], [], 0⟩) (fun i => K2.length - i) 0 (Nat.zero_le _) ?_ (fun i hi => ?_)
 · refine Weak.cut (0) (by simp) (by simp) ?_ ?_
   · simp [LeC, LeV, ren, cutF, WeekRow.sl, IntS.sl]
   · rfl
 simp -implicitDefEqProofs -dsimp only [go_sem]
 refine guardT.split (fun g1 => ?_) (fun g1 => ?_)
 · have hi' : i < K2.length := by simpa using g1
   cases fb with
   | false =>
     (repeat ((repeat1' (first | simp -implicitDefEqProofs -dsimp only [go_sem, g1] | simp -dsimp (disch := omega) only [wrap_i64])); repeat (with_reducible refine sideA ?_)))
     refine callS.rel [] (drawMedianEvents_ok hB) (by decide) ⟨leO, trivial⟩ rfl rfl (fun r hout hΦ => ?_)
     obtain ⟨U, hU, rfl, rfl⟩ := hΦ
     refine ⟨trivial, ?_⟩
     (repeat ((repeat1' (first | simp -implicitDefEqProofs -dsimp only [go_sem] | simp -dsimp (disch := omega) only [wrap_i64])); repeat (with_reducible refine sideA ?_)))
     have im := iMedianEvents_ok U (by omega)
     have sm := sMedianEvents_ok U (by omega)
     obtain ⟨mm, mb, em, fm⟩ := medR_eq U
     rw [em] at im sm
     (first | refine callT.at (im) ⟨leA, trivial⟩ ?_ | refine callS.at (im) ⟨leA, trivial⟩ ?_)
     (repeat ((repeat1' (first | simp -implicitDefEqProofs -dsimp only [go_sem] | simp -dsimp (disch := omega) only [wrap_i64])); repeat (with_reducible refine sideA ?_)))
     (first | refine callT.at (sm) ⟨leA, trivial⟩ ?_ | refine callS.at (sm) ⟨leA, trivial⟩ ?_)
     (repeat ((repeat1' (first | simp -implicitDefEqProofs -dsimp only [go_sem] | simp -dsimp (disch := omega) only [wrap_i64])); repeat (with_reducible refine sideA ?_)))
     have hUl : U.length ≤ 20 := hU
     refine LoopT.intro (fun i : Nat => i ≤ U.length) (fun i => ⟨[ByteS.sl L, .undef, .undef, .undef, .undef, .undef, .undef, .undef, .undef, .undef, .undef, .undef, .undef, .undef, .undef, .undef, .undef, .undef, WeekRow.sl U, .int .i64 mm, .bool mb, .undef, .undef, .int .i64 ((U.take i).countP (fun x => decide (x.Events ≤ mm)) : Nat), .int .i64 ((U.take i).countP (fun x => decide (mm ≤ x.Events)) : Nat), .int .i64 i, .undef, .undef, .undef, .undef, .undef, .undef, .undef, .undef, .undef, .undef, .undef, .undef, .undef, .undef, .undef, .undef, .undef, .undef, .undef, .undef, .undef, .undef, .undef, .undef, .undef, .undef, .undef, .undef, .undef, .undef, .undef, .undef, .undef, .undef, .undef, .undef, .undef, .undef, .undef, .undef, .undef, .undef, .undef, .undef, .undef, .undef, .undef, .undef, .undef, .undef, .undef, .undef, .undef, .undef, .undef, .undef, .undef, .undef, .undef, .undef, .undef, .undef, .undef, .undef, .undef, .undef, .undef, .undef, .undef, .undef, .undef, .undef, .undef, .undef, .undef, .undef, .undef, .undef, .undef, .undef, .undef, .undef, .undef, .undef, .undef, .undef, .undef, .undef, .undef, .undef, .undef, .undef, .undef, .undef, .undef, .undef, .undef, .undef, .undef, .undef, .undef, .undef, .undef, .undef, .undef, .undef, .undef, .undef, .undef, .undef, .undef, .undef, .undef, .undef, .undef, .undef, .undef, .undef, .undef, .undef, .undef, .undef, .undef, .undef, .undef, .undef, .undef, .undef, .undef, .undef, .undef, .undef, .undef, .undef, .undef, .undef, .undef, .undef, .undef, .undef, .undef, .undef, .undef, .undef, .undef, .undef, .undef, .undef, .undef, .undef, .undef, .undef, .undef, .undef, .undef, .undef, .undef, .undef, .undef, .undef, .undef, .undef, .undef, .undef, .undef, .undef, .undef, .undef, .undef, .undef, .undef, .undef, .undef, .undef, .undef, .undef, .undef, .undef, .undef, .undef, .undef, .undef, .undef, .undef, .undef, .undef, .undef, .undef, .undef, .undef, .undef, .undef, .undef, .undef, .undef, .undef, .undef, .undef, .undef, .undef, .undef, .undef, .undef, .undef, .undef, .undef, .undef, .undef, .undef, .undef, .undef, .undef, .undef, .undef], [], 0⟩) (fun i => U.length - i) 0 (Nat.zero_le _) ?_ (fun i hi => ?_)
     · refine Weak.cut (0) (by simp) (by simp) ?_ ?_
       · simp [LeC, LeV, ren, cutF, WeekRow.sl]
       · rfl
     have cl1 : (U.take i).countP (fun x => decide (x.Events ≤ mm)) ≤ i := Nat.le_trans List.countP_le_length (by simp; omega)
     have cl2 : (U.take i).countP (fun x => decide (mm ≤ x.Events)) ≤ i := Nat.le_trans List.countP_le_length (by simp; omega)
     simp -implicitDefEqProofs -dsimp only [go_sem]
     refine guardT.split (fun g1 => ?_) (fun g1 => ?_)
     · have hi' : i < U.length := by simpa using g1
       cases mb with
       | false =>
         (repeat ((repeat1' (first | simp -implicitDefEqProofs -dsimp only [go_sem, g1] | simp -dsimp (disch := omega) only [wrap_i64])); repeat (with_reducible refine sideA ?_)))
         refine callS.rel [] (drawPicksForEvent_ok hB) (by decide) ⟨leO, trivial⟩ rfl rfl (fun r hout hΦ => ?_)
         obtain ⟨V4, hV4, rfl, rfl⟩ := hΦ
         refine ⟨trivial, ?_⟩
         (repeat ((repeat1' (first | simp -implicitDefEqProofs -dsimp only [go_sem] | simp -dsimp (disch := omega) only [wrap_i64])); repeat (with_reducible refine sideA ?_)))
         have ip := iPicksForEvent_ok V4 (by omega)
         have sp := sPicksForEvent_ok V4 (by omega)
         obtain ⟨pa, pc, pb, ep⟩ := picksR_eq V4
         rw [ep] at ip sp
         (first | refine callT.at (ip) ⟨leA, trivial⟩ ?_ | refine callS.at (ip) ⟨leA, trivial⟩ ?_)
         (repeat ((repeat1' (first | simp -implicitDefEqProofs -dsimp only [go_sem] | simp -dsimp (disch := omega) only [wrap_i64])); repeat (with_reducible refine sideA ?_)))
         (first | refine callT.at (sp) ⟨leA, trivial⟩ ?_ | refine callS.at (sp) ⟨leA, trivial⟩ ?_)
         (repeat ((repeat1' (first | simp -implicitDefEqProofs -dsimp only [go_sem] | simp -dsimp (disch := omega) only [wrap_i64])); repeat (with_reducible refine sideA ?_)))
         exact WeakR.drop' (by simp) (by rfl)
       | true =>
         have hra := rows_at (cs := WeekRow.cs) WeekRow.csl hi'
         have n1 : (U.take (i + 1)).countP (fun x => decide (x.Events ≤ mm)) = (U.take i).countP (fun x => decide (x.Events ≤ mm)) + if decide (U[i].Events ≤ mm) = true then 1 else 0 := by
           rw [List.take_succ_eq_append_getElem hi', List.countP_append, List.countP_singleton]
         have n2 : (U.take (i + 1)).countP (fun x => decide (mm ≤ x.Events)) = (U.take i).countP (fun x => decide (mm ≤ x.Events)) + if decide (mm ≤ U[i].Events) = true then 1 else 0 := by
           rw [List.take_succ_eq_append_getElem hi', List.countP_append, List.countP_singleton]
         generalize (U.take i).countP (fun x => decide (x.Events ≤ mm)) = lo at n1 cl1 ⊢
         generalize (U.take i).countP (fun x => decide (mm ≤ x.Events)) = hg at n2 cl2 ⊢
         (repeat ((repeat1' (first | simp -implicitDefEqProofs -dsimp only [go_sem, g1, hra, WeekRow.cs, List.drop_succ_cons, List.drop_zero] | simp -dsimp (disch := omega) only [wrap_i64])); repeat (with_reducible refine sideA ?_)))
         refine condT.split (fun g2 => ?_) (fun g2 => ?_)
         · rw [if_pos g2] at n1
           (repeat ((repeat1' (first | simp -implicitDefEqProofs -dsimp only [go_sem, g2, hra, WeekRow.cs, List.drop_succ_cons, List.drop_zero] | simp -dsimp (disch := omega) only [wrap_i64])); repeat (with_reducible refine sideA ?_)))
           refine condT.split (fun g3 => ?_) (fun g3 => ?_)
           · rw [if_pos g3] at n2
             (repeat ((repeat1' (first | simp -implicitDefEqProofs -dsimp only [go_sem, g3] | simp -dsimp (disch := omega) only [wrap_i64])); repeat (with_reducible refine sideA ?_)))
             refine ⟨i + 1, hi', ?_, by omega⟩
             refine Weak.cut (0) (by simp) (by simp) ?_ ?_
             · simp [LeC, LeV, ren, cutF, n1, n2]
             · rfl
           · rw [if_neg (by rw [g3]; decide)] at n2
             (repeat ((repeat1' (first | simp -implicitDefEqProofs -dsimp only [go_sem, g3] | simp -dsimp (disch := omega) only [wrap_i64])); repeat (with_reducible refine sideA ?_)))
             refine ⟨i + 1, hi', ?_, by omega⟩
             refine Weak.cut (0) (by simp) (by simp) ?_ ?_
             · simp [LeC, LeV, ren, cutF, n1, n2]
             · rfl
         · rw [if_neg (by rw [g2]; decide)] at n1
           (repeat ((repeat1' (first | simp -implicitDefEqProofs -dsimp only [go_sem, g2, hra, WeekRow.cs, List.drop_succ_cons, List.drop_zero] | simp -dsimp (disch := omega) only [wrap_i64])); repeat (with_reducible refine sideA ?_)))
           refine condT.split (fun g3 => ?_) (fun g3 => ?_)
           · rw [if_pos g3] at n2
             (repeat ((repeat1' (first | simp -implicitDefEqProofs -dsimp only [go_sem, g3] | simp -dsimp (disch := omega) only [wrap_i64])); repeat (with_reducible refine sideA ?_)))
             refine ⟨i + 1, hi', ?_, by omega⟩
             refine Weak.cut (0) (by simp) (by simp) ?_ ?_
             · simp [LeC, LeV, ren, cutF, n1, n2]
             · rfl
           · rw [if_neg (by rw [g3]; decide)] at n2
             (repeat ((repeat1' (first | simp -implicitDefEqProofs -dsimp only [go_sem, g3] | simp -dsimp (disch := omega) only [wrap_i64])); repeat (with_reducible refine sideA ?_)))
             refine ⟨i + 1, hi', ?_, by omega⟩
             refine Weak.cut (0) (by simp) (by simp) ?_ ?_
             · simp [LeC, LeV, ren, cutF, n1, n2]
             · rfl
     have hi' : i = U.length := by simp at g1; omega
     subst hi'
     rw [List.take_length] at cl1 cl2 ⊢
     cases mb with
     | false =>
       (repeat ((repeat1' (first | simp -implicitDefEqProofs -dsimp only [go_sem, g1] | simp -dsimp (disch := omega) only [wrap_i64])); repeat (with_reducible refine sideA ?_)))
       refine callS.rel [] (drawPicksForEvent_ok hB) (by decide) ⟨leO, trivial⟩ rfl rfl (fun r hout hΦ => ?_)
       obtain ⟨V4, hV4, rfl, rfl⟩ := hΦ
       refine ⟨trivial, ?_⟩
       (repeat ((repeat1' (first | simp -implicitDefEqProofs -dsimp only [go_sem] | simp -dsimp (disch := omega) only [wrap_i64])); repeat (with_reducible refine sideA ?_)))
       have ip := iPicksForEvent_ok V4 (by omega)
       have sp := sPicksForEvent_ok V4 (by omega)
       obtain ⟨pa, pc, pb, ep⟩ := picksR_eq V4
       rw [ep] at ip sp
       (first | refine callT.at (ip) ⟨leA, trivial⟩ ?_ | refine callS.at (ip) ⟨leA, trivial⟩ ?_)
       (repeat ((repeat1' (first | simp -implicitDefEqProofs -dsimp only [go_sem] | simp -dsimp (disch := omega) only [wrap_i64])); repeat (with_reducible refine sideA ?_)))
       (first | refine callT.at (sp) ⟨leA, trivial⟩ ?_ | refine callS.at (sp) ⟨leA, trivial⟩ ?_)
       (repeat ((repeat1' (first | simp -implicitDefEqProofs -dsimp only [go_sem] | simp -dsimp (disch := omega) only [wrap_i64])); repeat (with_reducible refine sideA ?_)))
       exact WeakR.drop' (by simp) (by rfl)
     | true =>
       obtain ⟨fl, f1, f2⟩ := fm rfl
       have d1 : decide (2 * ((U.countP (fun x => decide (x.Events ≤ mm)) : Nat) : Int) < (U.length : Int)) = false := decide_eq_false (by omega)
       have d2 : decide (2 * ((U.countP (fun x => decide (mm ≤ x.Events)) : Nat) : Int) < (U.length : Int)) = false := decide_eq_false (by omega)
       generalize U.countP (fun x => decide (x.Events ≤ mm)) = lo at *
       generalize U.countP (fun x => decide (mm ≤ x.Events)) = hg at *
       (repeat ((repeat1' (first | simp -implicitDefEqProofs -dsimp only [go_sem, g1, d1, d2] | simp -dsimp (disch := omega) only [wrap_i64])); repeat (with_reducible refine sideA ?_)))
       refine callS.rel [] (drawPicksForEvent_ok hB) (by decide) ⟨leO, trivial⟩ rfl rfl (fun r hout hΦ => ?_)
       obtain ⟨V4, hV4, rfl, rfl⟩ := hΦ
       refine ⟨trivial, ?_⟩
       (repeat ((repeat1' (first | simp -implicitDefEqProofs -dsimp only [go_sem] | simp -dsimp (disch := omega) only [wrap_i64])); repeat (with_reducible refine sideA ?_)))
       have ip := iPicksForEvent_ok V4 (by omega)
       have sp := sPicksForEvent_ok V4 (by omega)
       obtain ⟨pa, pc, pb, ep⟩ := picksR_eq V4
       rw [ep] at ip sp
       (first | refine callT.at (ip) ⟨leA, trivial⟩ ?_ | refine callS.at (ip) ⟨leA, trivial⟩ ?_)
       (repeat ((repeat1' (first | simp -implicitDefEqProofs -dsimp only [go_sem] | simp -dsimp (disch := omega) only [wrap_i64])); repeat (with_reducible refine sideA ?_)))
       (first | refine callT.at (sp) ⟨leA, trivial⟩ ?_ | refine callS.at (sp) ⟨leA, trivial⟩ ?_)
       (repeat ((repeat1' (first | simp -implicitDefEqProofs -dsimp only [go_sem] | simp -dsimp (disch := omega) only [wrap_i64])); repeat (with_reducible refine sideA ?_)))
       exact WeakR.drop' (by simp) (by rfl)
   | true =>
     have hra := rows_at (cs := WeekRow.cs) WeekRow.csl hi'
     have hh := rHas_ok M K2[i].Week (by omega)
     rw [hno rfl i hi'] at hh
     (repeat ((repeat1' (first | simp -implicitDefEqProofs -dsimp only [go_sem, g1, hra, WeekRow.cs, List.drop_zero] | simp -dsimp (disch := omega) only [wrap_i64])); repeat (with_reducible refine sideA ?_)))
     (first | refine callT.at (hh) ⟨leA, leA, trivial⟩ ?_ | refine callS.at (hh) ⟨leA, leA, trivial⟩ ?_)
     (repeat ((repeat1' (first | simp -implicitDefEqProofs -dsimp only [go_sem] | simp -dsimp (disch := omega) only [wrap_i64])); repeat (with_reducible refine sideA ?_)))
     refine ⟨i + 1, hi', ?_, by omega⟩
     refine Weak.cut (0) (by simp) (by simp) ?_ ?_
     · simp [LeC, LeV, ren, cutF]
     · rfl
 (repeat ((repeat1' (first | simp -implicitDefEqProofs -dsimp only [go_sem, g1] | simp -dsimp (disch := omega) only [wrap_i64])); repeat (with_reducible refine sideA ?_)))
 refine callS.rel [] (drawMedianEvents_ok hB) (by decide) ⟨leO, trivial⟩ rfl rfl (fun r hout hΦ => ?_)
 obtain ⟨U, hU, rfl, rfl⟩ := hΦ
 refine ⟨trivial, ?_⟩
 (repeat ((repeat1' (first | simp -implicitDefEqProofs -dsimp only [go_sem] | simp -dsimp (disch := omega) only [wrap_i64])); repeat (with_reducible refine sideA ?_)))
 have im := iMedianEvents_ok U (by omega)
 have sm := sMedianEvents_ok U (by omega)
 obtain ⟨mm, mb, em, fm⟩ := medR_eq U
 rw [em] at im sm
 (first | refine callT.at (im) ⟨leA, trivial⟩ ?_ | refine callS.at (im) ⟨leA, trivial⟩ ?_)
 (repeat ((repeat1' (first | simp -implicitDefEqProofs -dsimp only [go_sem] | simp -dsimp (disch := omega) only [wrap_i64])); repeat (with_reducible refine sideA ?_)))
 (first | refine callT.at (sm) ⟨leA, trivial⟩ ?_ | refine callS.at (sm) ⟨leA, trivial⟩ ?_)
 (repeat ((repeat1' (first | simp -implicitDefEqProofs -dsimp only [go_sem] | simp -dsimp (disch := omega) only [wrap_i64])); repeat (with_reducible refine sideA ?_)))
 have hUl : U.length ≤ 20 := hU
 refine LoopT.intro (fun i : Nat => i ≤ U.length) (fun i => ⟨[ByteS.sl L, .undef, .undef, .undef, .undef, .undef, .undef, .undef, .undef, .undef, .undef, .undef, .undef, .undef, .undef, .undef, .undef, .undef, WeekRow.sl U, .int .i64 mm, .bool mb, .undef, .undef, .int .i64 ((U.take i).countP (fun x => decide (x.Events ≤ mm)) : Nat), .int .i64 ((U.take i).countP (fun x => decide (mm ≤ x.Events)) : Nat), .int .i64 i, .undef, .undef, .undef, .undef, .undef, .undef, .undef, .undef, .undef, .undef, .undef, .undef, .undef, .undef, .undef, .undef, .undef, .undef, .undef, .undef, .undef, .undef, .undef, .undef, .undef, .undef, .undef, .undef, .undef, .undef, .undef, .undef, .undef, .undef, .undef, .undef, .undef, .undef, .undef, .undef, .undef, .undef, .undef, .undef, .undef, .undef, .undef, .undef, .undef, .undef, .undef, .undef, .undef, .undef, .undef, .undef, .undef, .undef, .undef, .undef, .undef, .undef, .undef, .undef, .undef, .undef, .undef, .undef, .undef, .undef, .undef, .undef, .undef, .undef, .undef, .undef, .undef, .undef, .undef, .undef, .undef, .undef, .undef, .undef, .undef, .undef, .undef, .undef, .undef, .undef, .undef, .undef, .undef, .undef, .undef, .undef, .undef, .undef, .undef, .undef, .undef, .undef, .undef, .undef, .undef, .undef, .undef, .undef, .undef, .undef, .undef, .undef, .undef, .undef, .undef, .undef, .undef, .undef, .undef, .undef, .undef, .undef, .undef, .undef, .undef, .undef, .undef, .undef, .undef, .undef, .undef, .undef, .undef, .undef, .undef, .undef, .undef, .undef, .undef, .undef, .undef, .undef, .undef, .undef, .undef, .undef, .undef, .undef, .undef, .undef, .undef, .undef, .undef, .undef, .undef, .undef, .undef, .undef, .undef, .undef, .undef, .undef, .undef, .undef, .undef, .undef, .undef, .undef, .undef, .undef, .undef, .undef, .undef, .undef, .undef, .undef, .undef, .undef, .undef, .undef, .undef, .undef, .undef, .undef, .undef, .undef, .undef, .undef, .undef, .undef, .undef, .undef, .undef, .undef, .undef, .undef, .undef, .undef, .undef, .undef, .undef, .undef, .undef, .undef, .undef, .undef, .undef, .undef, .undef, .undef, .undef, .undef, .undef, .undef], [], 0⟩) (fun i => U.length - i) 0 (Nat.zero_le _) ?_ (fun i hi => ?_)
 · refine Weak.cut (0) (by simp) (by simp) ?_ ?_
   · simp [LeC, LeV, ren, cutF, WeekRow.sl]
   · rfl
 have cl1 : (U.take i).countP (fun x => decide (x.Events ≤ mm)) ≤ i := Nat.le_trans List.countP_le_length (by simp; omega)
 have cl2 : (U.take i).countP (fun x => decide (mm ≤ x.Events)) ≤ i := Nat.le_trans List.countP_le_length (by simp; omega)
 simp -implicitDefEqProofs -dsimp only [go_sem]
 refine guardT.split (fun g1 => ?_) (fun g1 => ?_)
 · have hi' : i < U.length := by simpa using g1
   cases mb with
   | false =>
     (repeat ((repeat1' (first | simp -implicitDefEqProofs -dsimp only [go_sem, g1] | simp -dsimp (disch := omega) only [wrap_i64])); repeat (with_reducible refine sideA ?_)))
     refine callS.rel [] (drawPicksForEvent_ok hB) (by decide) ⟨leO, trivial⟩ rfl rfl (fun r hout hΦ => ?_)
     obtain ⟨V4, hV4, rfl, rfl⟩ := hΦ
     refine ⟨trivial, ?_⟩
     (repeat ((repeat1' (first | simp -implicitDefEqProofs -dsimp only [go_sem] | simp -dsimp (disch := omega) only [wrap_i64])); repeat (with_reducible refine sideA ?_)))
     have ip := iPicksForEvent_ok V4 (by omega)
     have sp := sPicksForEvent_ok V4 (by omega)
     obtain ⟨pa, pc, pb, ep⟩ := picksR_eq V4
     rw [ep] at ip sp
     (first | refine callT.at (ip) ⟨leA, trivial⟩ ?_ | refine callS.at (ip) ⟨leA, trivial⟩ ?_)
     (repeat ((repeat1' (first | simp -implicitDefEqProofs -dsimp only [go_sem] | simp -dsimp (disch := omega) only [wrap_i64])); repeat (with_reducible refine sideA ?_)))
     (first | refine callT.at (sp) ⟨leA, trivial⟩ ?_ | refine callS.at (sp) ⟨leA, trivial⟩ ?_)
     (repeat ((repeat1' (first | simp -implicitDefEqProofs -dsimp only [go_sem] | simp -dsimp (disch := omega) only [wrap_i64])); repeat (with_reducible refine sideA ?_)))
     exact WeakR.drop' (by simp) (by rfl)
   | true =>
     have hra := rows_at (cs := WeekRow.cs) WeekRow.csl hi'
     have n1 : (U.take (i + 1)).countP (fun x => decide (x.Events ≤ mm)) = (U.take i).countP (fun x => decide (x.Events ≤ mm)) + if decide (U[i].Events ≤ mm) = true then 1 else 0 := by
       rw [List.take_succ_eq_append_getElem hi', List.countP_append, List.countP_singleton]
     have n2 : (U.take (i + 1)).countP (fun x => decide (mm ≤ x.Events)) = (U.take i).countP (fun x => decide (mm ≤ x.Events)) + if decide (mm ≤ U[i].Events) = true then 1 else 0 := by
       rw [List.take_succ_eq_append_getElem hi', List.countP_append, List.countP_singleton]
     generalize (U.take i).countP (fun x => decide (x.Events ≤ mm)) = lo at n1 cl1 ⊢
     generalize (U.take i).countP (fun x => decide (mm ≤ x.Events)) = hg at n2 cl2 ⊢
     (repeat ((repeat1' (first | simp -implicitDefEqProofs -dsimp only [go_sem, g1, hra, WeekRow.cs, List.drop_succ_cons, List.drop_zero] | simp -dsimp (disch := omega) only [wrap_i64])); repeat (with_reducible refine sideA ?_)))
     refine condT.split (fun g2 => ?_) (fun g2 => ?_)
     · rw [if_pos g2] at n1
       (repeat ((repeat1' (first | simp -implicitDefEqProofs -dsimp only [go_sem, g2, hra, WeekRow.cs, List.drop_succ_cons, List.drop_zero] | simp -dsimp (disch := omega) only [wrap_i64])); repeat (with_reducible refine sideA ?_)))
       refine condT.split (fun g3 => ?_) (fun g3 => ?_)
       · rw [if_pos g3] at n2
         (repeat ((repeat1' (first | simp -implicitDefEqProofs -dsimp only [go_sem, g3] | simp -dsimp (disch := omega) only [wrap_i64])); repeat (with_reducible refine sideA ?_)))
         refine ⟨i + 1, hi', ?_, by omega⟩
         refine Weak.cut (0) (by simp) (by simp) ?_ ?_
         · simp [LeC, LeV, ren, cutF, n1, n2]
         · rfl
       · rw [if_neg (by rw [g3]; decide)] at n2
         (repeat ((repeat1' (first | simp -implicitDefEqProofs -dsimp only [go_sem, g3] | simp -dsimp (disch := omega) only [wrap_i64])); repeat (with_reducible refine sideA ?_)))
         refine ⟨i + 1, hi', ?_, by omega⟩
         refine Weak.cut (0) (by simp) (by simp) ?_ ?_
         · simp [LeC, LeV, ren, cutF, n1, n2]
         · rfl
     · rw [if_neg (by rw [g2]; decide)] at n1
       (repeat ((repeat1' (first | simp -implicitDefEqProofs -dsimp only [go_sem, g2, hra, WeekRow.cs, List.drop_succ_cons, List.drop_zero] | simp -dsimp (disch := omega) only [wrap_i64])); repeat (with_reducible refine sideA ?_)))
       refine condT.split (fun g3 => ?_) (fun g3 => ?_)
       · rw [if_pos g3] at n2
         (repeat ((repeat1' (first | simp -implicitDefEqProofs -dsimp only [go_sem, g3] | simp -dsimp (disch := omega) only [wrap_i64])); repeat (with_reducible refine sideA ?_)))
         refine ⟨i + 1, hi', ?_, by omega⟩
         refine Weak.cut (0) (by simp) (by simp) ?_ ?_
         · simp [LeC, LeV, ren, cutF, n1, n2]
         · rfl
       · rw [if_neg (by rw [g3]; decide)] at n2
         (repeat ((repeat1' (first | simp -implicitDefEqProofs -dsimp only [go_sem, g3] | simp -dsimp (disch := omega) only [wrap_i64])); repeat (with_reducible refine sideA ?_)))
         refine ⟨i + 1, hi', ?_, by omega⟩
         refine Weak.cut (0) (by simp) (by simp) ?_ ?_
         · simp [LeC, LeV, ren, cutF, n1, n2]
         · rfl
 have hi' : i = U.length := by simp at g1; omega
 subst hi'
 rw [List.take_length] at cl1 cl2 ⊢
 cases mb with
 | false =>
   (repeat ((repeat1' (first | simp -implicitDefEqProofs -dsimp only [go_sem, g1] | simp -dsimp (disch := omega) only [wrap_i64])); repeat (with_reducible refine sideA ?_)))
   refine callS.rel [] (drawPicksForEvent_ok hB) (by decide) ⟨leO, trivial⟩ rfl rfl (fun r hout hΦ => ?_)
   obtain ⟨V4, hV4, rfl, rfl⟩ := hΦ
   refine ⟨trivial, ?_⟩
   (repeat ((repeat1' (first | simp -implicitDefEqProofs -dsimp only [go_sem] | simp -dsimp (disch := omega) only [wrap_i64])); repeat (with_reducible refine sideA ?_)))
   have ip := iPicksForEvent_ok V4 (by omega)
   have sp := sPicksForEvent_ok V4 (by omega)
   obtain ⟨pa, pc, pb, ep⟩ := picksR_eq V4
   rw [ep] at ip sp
   (first | refine callT.at (ip) ⟨leA, trivial⟩ ?_ | refine callS.at (ip) ⟨leA, trivial⟩ ?_)
   (repeat ((repeat1' (first | simp -implicitDefEqProofs -dsimp only [go_sem] | simp -dsimp (disch := omega) only [wrap_i64])); repeat (with_reducible refine sideA ?_)))
   (first | refine callT.at (sp) ⟨leA, trivial⟩ ?_ | refine callS.at (sp) ⟨leA, trivial⟩ ?_)
   (repeat ((repeat1' (first | simp -implicitDefEqProofs -dsimp only [go_sem] | simp -dsimp (disch := omega) only [wrap_i64])); repeat (with_reducible refine sideA ?_)))
   exact WeakR.drop' (by simp) (by rfl)
 | true =>
   obtain ⟨fl, f1, f2⟩ := fm rfl
   have d1 : decide (2 * ((U.countP (fun x => decide (x.Events ≤ mm)) : Nat) : Int) < (U.length : Int)) = false := decide_eq_false (by omega)
   have d2 : decide (2 * ((U.countP (fun x => decide (mm ≤ x.Events)) : Nat) : Int) < (U.length : Int)) = false := decide_eq_false (by omega)
   generalize U.countP (fun x => decide (x.Events ≤ mm)) = lo at *
   generalize U.countP (fun x => decide (mm ≤ x.Events)) = hg at *
   (repeat ((repeat1' (first | simp -implicitDefEqProofs -dsimp only [go_sem, g1, d1, d2] | simp -dsimp (disch := omega) only [wrap_i64])); repeat (with_reducible refine sideA ?_)))
   refine callS.rel [] (drawPicksForEvent_ok hB) (by decide) ⟨leO, trivial⟩ rfl rfl (fun r hout hΦ => ?_)
   obtain ⟨V4, hV4, rfl, rfl⟩ := hΦ
   refine ⟨trivial, ?_⟩
   (repeat ((repeat1' (first | simp -implicitDefEqProofs -dsimp only [go_sem] | simp -dsimp (disch := omega) only [wrap_i64])); repeat (with_reducible refine sideA ?_)))
   have ip := iPicksForEvent_ok V4 (by omega)
   have sp := sPicksForEvent_ok V4 (by omega)
   obtain ⟨pa, pc, pb, ep⟩ := picksR_eq V4
   rw [ep] at ip sp
   (first | refine callT.at (ip) ⟨leA, trivial⟩ ?_ | refine callS.at (ip) ⟨leA, trivial⟩ ?_)
   (repeat ((repeat1' (first | simp -implicitDefEqProofs -dsimp only [go_sem] | simp -dsimp (disch := omega) only [wrap_i64])); repeat (with_reducible refine sideA ?_)))
   (first | refine callT.at (sp) ⟨leA, trivial⟩ ?_ | refine callS.at (sp) ⟨leA, trivial⟩ ?_)
   (repeat ((repeat1' (first | simp -implicitDefEqProofs -dsimp only [go_sem] | simp -dsimp (disch := omega) only [wrap_i64])); repeat (with_reducible refine sideA ?_)))
   exact WeakR.drop' (by simp) (by rfl)
end Go.Proofs
end
