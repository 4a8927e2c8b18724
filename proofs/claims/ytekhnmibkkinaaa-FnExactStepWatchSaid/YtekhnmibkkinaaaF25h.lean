/-
  Watches: making a step (the reference). Conditions: none.
-/
import Derived.Test.YtekhnmibkkinaaaF25g
set_option linter.unusedSimpArgs false
set_option linter.unusedVariables false
set_option maxRecDepth 100000
set_option maxHeartbeats 1000000
namespace Go.Proofs
open Go.Lv
def doneW (w : Watch) (k n v : Int) : Bool := makeB w k n v && wB (makeW w k n v)
theorem Watch.le' {h : Hp} {w : Watch} {x : V} {i0 i1 : Nat} (hx : x = w.o i0 i1) (h0 : h[i0]? = some (some (rows Post.cs w.Posts))) (h1 : h[i1]? = some (some (rows Shock.cs w.Shocks))) : LeV (ren (snapR h 3) 3 x) w.v := hx ▸ Watch.le h0 h1
theorem l25Make1_ok (w : Watch) (n v : Int) (hw : wB w = true) (hv : 1 ≤ v) (hv2 : v ≤ 9223372036854775807) : Ctr Try.prog 132 [w.v, .agg [.int .i64 1, .int .i64 n, .int .i64 v]] [] (.tup [(makeS w 1 n v).o 0 1, .bool (doneW w 1 n v)]) [some (rows Post.cs w.Posts), some (rows Shock.cs w.Shocks)] := by
  have W := wB_ok hw
  have pl := W.plen
  have sl := W.slen
  have wn := W.now
  have hw1 : IntKind.i64.wrap (1000000 - w.Now) = 1000000 - w.Now := wrap_i64 (by omega) (by omega)
  refine Ctr.intro Try.mixed Try.func132 rfl Try.okF132 ?_
  simp -implicitDefEqProofs -dsimp only [go_sem, Nat.reduceSub, Nat.reduceAdd, Nat.reduceMul, Nat.reduceLT, Nat.reduceLeDiff, Nat.reduceEqDiff, Nat.reduceDiv, Nat.reduceMod, Int.reduceToNat, Int.reduceLE, Int.reduceLT, Int.reduceBEq, Int.reduceBNe, Int.reduceNeg, Int.reduceAdd, Int.reduceSub, Int.reduceMul, reduceCtorEq, Try.ntmps132, Try.results132]
  simp -implicitDefEqProofs -dsimp only [go_sem, Nat.reduceSub, Nat.reduceAdd, Nat.reduceMul, Nat.reduceLT, Nat.reduceLeDiff, Nat.reduceEqDiff, Nat.reduceDiv, Nat.reduceMod, Int.reduceToNat, Int.reduceLE, Int.reduceLT, Int.reduceBEq, Int.reduceBNe, Int.reduceNeg, Int.reduceAdd, Int.reduceSub, Int.reduceMul, reduceCtorEq, Watch.v]
  (first | refine callT.at (l25Own_ok w (by omega) (by omega)) ⟨(by first | exact leA | exact Watch.le rfl rfl), trivial⟩ ?_ | refine callS.at (l25Own_ok w (by omega) (by omega)) ⟨(by first | exact leA | exact Watch.le rfl rfl), trivial⟩ ?_)
  (repeat ((repeat1' (first | simp -implicitDefEqProofs -dsimp only [go_sem, Nat.reduceSub, Nat.reduceAdd, Nat.reduceMul, Nat.reduceLT, Nat.reduceLeDiff, Nat.reduceEqDiff, Nat.reduceDiv, Nat.reduceMod, Int.reduceToNat, Int.reduceLE, Int.reduceLT, Int.reduceBEq, Int.reduceBNe, Int.reduceNeg, Int.reduceAdd, Int.reduceSub, Int.reduceMul, reduceCtorEq, Watch.o, hw1] | simp -implicitDefEqProofs -dsimp (disch := omega) only [wrap_i64])); repeat (with_reducible refine sideA ?_)))
  refine condT.split (fun h1 => ?_) (fun h1 => ?_)
  · (repeat ((repeat1' (first | simp -implicitDefEqProofs -dsimp only [go_sem, Nat.reduceSub, Nat.reduceAdd, Nat.reduceMul, Nat.reduceLT, Nat.reduceLeDiff, Nat.reduceEqDiff, Nat.reduceDiv, Nat.reduceMod, Int.reduceToNat, Int.reduceLE, Int.reduceLT, Int.reduceBEq, Int.reduceBNe, Int.reduceNeg, Int.reduceAdd, Int.reduceSub, Int.reduceMul, reduceCtorEq, h1] | simp -implicitDefEqProofs -dsimp (disch := omega) only [wrap_i64])); repeat (with_reducible refine sideA ?_)))
    have hm : ¬ v ≤ 1000000 - w.Now := by simp at h1; omega
    have e1 : makeS w 1 n v = w := by simp [makeS, hm]
    have e2 : doneW w 1 n v = false := by simp [doneW, makeB, hm]
    rw [e1, e2]
    refine WeakR.pick [3, 4] (by decide) (fun j hj => by omega) (.inl ?_) ?_
    · first | rfl | (simp [ren, pickF, posOf, Watch.o]; done)
    · simp only [pickH, List.map_cons, List.map_nil, pickB, List.getElem?_cons_zero, List.getElem?_cons_succ, map_ren_rows]
  · have hm : v ≤ 1000000 - w.Now := by simp at h1; omega
    have hw2 : IntKind.i64.wrap (w.Now + v) = w.Now + v := wrap_i64 (by omega) (by omega)
    have e1 : makeS w 1 n v = makeW w 1 n v := by simp [makeS, hm]
    have e3 : makeW w 1 n v = ⟨w.Now + v, w.Posts, w.Shocks, w.Next, w.Archived⟩ := by simp [makeW]
    have e2 : doneW w 1 n v = wB ⟨w.Now + v, w.Posts, w.Shocks, w.Next, w.Archived⟩ := by simp [doneW, makeB, hm, e3]
    rw [e1, e2, e3]
    (repeat ((repeat1' (first | simp -implicitDefEqProofs -dsimp only [go_sem, Nat.reduceSub, Nat.reduceAdd, Nat.reduceMul, Nat.reduceLT, Nat.reduceLeDiff, Nat.reduceEqDiff, Nat.reduceDiv, Nat.reduceMod, Int.reduceToNat, Int.reduceLE, Int.reduceLT, Int.reduceBEq, Int.reduceBNe, Int.reduceNeg, Int.reduceAdd, Int.reduceSub, Int.reduceMul, reduceCtorEq, h1, hw2] | simp -implicitDefEqProofs -dsimp (disch := omega) only [wrap_i64])); repeat (with_reducible refine sideA ?_)))
    (first | refine callT.at (l25Good_ok ⟨w.Now + v, w.Posts, w.Shocks, w.Next, w.Archived⟩ (by simp; omega) (by simp; omega)) ⟨(by first | exact leA | exact Watch.le rfl rfl), trivial⟩ ?_ | refine callS.at (l25Good_ok ⟨w.Now + v, w.Posts, w.Shocks, w.Next, w.Archived⟩ (by simp; omega) (by simp; omega)) ⟨(by first | exact leA | exact Watch.le rfl rfl), trivial⟩ ?_)
    (repeat ((repeat1' (first | simp -implicitDefEqProofs -dsimp only [go_sem, Nat.reduceSub, Nat.reduceAdd, Nat.reduceMul, Nat.reduceLT, Nat.reduceLeDiff, Nat.reduceEqDiff, Nat.reduceDiv, Nat.reduceMod, Int.reduceToNat, Int.reduceLE, Int.reduceLT, Int.reduceBEq, Int.reduceBNe, Int.reduceNeg, Int.reduceAdd, Int.reduceSub, Int.reduceMul, reduceCtorEq] | simp -implicitDefEqProofs -dsimp (disch := omega) only [wrap_i64])); repeat (with_reducible refine sideA ?_)))
    refine WeakR.pick [3, 4] (by decide) (fun j hj => by omega) (.inl ?_) ?_
    · first | rfl | (simp [ren, pickF, posOf, Watch.o]; done)
    · simp only [pickH, List.map_cons, List.map_nil, pickB, List.getElem?_cons_zero, List.getElem?_cons_succ, map_ren_rows]
theorem l25Make2_ok (w : Watch) (k n v : Int) (hk : k = 2 ∨ k = 3) (hw : wB w = true) (hs : stepWB w k n v = true) : Ctr Try.prog 132 [w.v, .agg [.int .i64 k, .int .i64 n, .int .i64 v]] [] (.tup [(makeS w k n v).o 0 1, .bool (doneW w k n v)]) [some (rows Post.cs (makeS w k n v).Posts), some (rows Shock.cs w.Shocks)] := by
  have W := wB_ok hw
  have pl := W.plen
  have sl := W.slen
  obtain ⟨i, hi, hix, hin⟩ : ∃ i, ∃ h : i < w.Posts.length, idxI (postIs n) w.Posts = (i : Int) ∧ postIs n w.Posts[i] = true := by
    have : decide (0 ≤ idxI (postIs n) w.Posts) = true := by
      rcases hk with rfl | rfl <;> simp [stepWB] at hs <;> simp [hs.1]
    exact idxI_get this
  have hp : pAt w n = i := by simp [pAt, hix]
  have e1 : makeS w k n v = ⟨w.Now, w.Posts.set i ⟨n, decide (k = 3), w.Now⟩, w.Shocks, w.Next, w.Archived⟩ := by
    rcases hk with rfl | rfl <;> simp [makeS, makeW, hp]
  have e2 : doneW w k n v = (w.Posts[i].Up != decide (k = 3) && wB ⟨w.Now, w.Posts.set i ⟨n, decide (k = 3), w.Now⟩, w.Shocks, w.Next, w.Archived⟩) := by
    rcases hk with rfl | rfl <;> simp [doneW, makeB, makeW, hp, poAt_get hi]
  have hr := rows_at Post.csl hi
  have hsp : ∀ b, splice (rows Post.cs w.Posts) (i * 3) [.int .i64 n, .bool b, .int .i64 w.Now] = rows Post.cs (w.Posts.set i ⟨n, b, w.Now⟩) := fun b => splice_row (cs := Post.cs) Post.csl hi ⟨n, b, w.Now⟩
  have hgood := l25Good_ok ⟨w.Now, w.Posts.set i ⟨n, decide (k = 3), w.Now⟩, w.Shocks, w.Next, w.Archived⟩ (by simp; omega) (by simp; omega)
  rw [e1, e2]
  have hlen : ∀ p, (w.Posts.set i p).length = w.Posts.length := fun p => by simp
  rcases hk with rfl | rfl
  · have hd : decide ((2 : Int) = 3) = false := rfl
    rw [hd] at hgood ⊢
    simp only [Watch.v, hlen] at hgood
    simp only [Watch.o, hlen]
    refine Ctr.intro Try.mixed Try.func132 rfl Try.okF132 ?_
    simp -implicitDefEqProofs -dsimp only [go_sem, Nat.reduceSub, Nat.reduceAdd, Nat.reduceMul, Nat.reduceLT, Nat.reduceLeDiff, Nat.reduceEqDiff, Nat.reduceDiv, Nat.reduceMod, Int.reduceToNat, Int.reduceLE, Int.reduceLT, Int.reduceBEq, Int.reduceBNe, Int.reduceNeg, Int.reduceAdd, Int.reduceSub, Int.reduceMul, reduceCtorEq, Try.ntmps132, Try.results132]
    simp -implicitDefEqProofs -dsimp only [go_sem, Nat.reduceSub, Nat.reduceAdd, Nat.reduceMul, Nat.reduceLT, Nat.reduceLeDiff, Nat.reduceEqDiff, Nat.reduceDiv, Nat.reduceMod, Int.reduceToNat, Int.reduceLE, Int.reduceLT, Int.reduceBEq, Int.reduceBNe, Int.reduceNeg, Int.reduceAdd, Int.reduceSub, Int.reduceMul, reduceCtorEq, Watch.v]
    (first | refine callT.at (l25Own_ok w (by omega) (by omega)) ⟨(by first | exact leA | exact Watch.le rfl rfl), trivial⟩ ?_ | refine callS.at (l25Own_ok w (by omega) (by omega)) ⟨(by first | exact leA | exact Watch.le rfl rfl), trivial⟩ ?_)
    (repeat ((repeat1' (first | simp -implicitDefEqProofs -dsimp only [go_sem, Nat.reduceSub, Nat.reduceAdd, Nat.reduceMul, Nat.reduceLT, Nat.reduceLeDiff, Nat.reduceEqDiff, Nat.reduceDiv, Nat.reduceMod, Int.reduceToNat, Int.reduceLE, Int.reduceLT, Int.reduceBEq, Int.reduceBNe, Int.reduceNeg, Int.reduceAdd, Int.reduceSub, Int.reduceMul, reduceCtorEq, Watch.o] | simp -implicitDefEqProofs -dsimp (disch := omega) only [wrap_i64])); repeat (with_reducible refine sideA ?_)))
    (first | refine callT.at (l25Post_ok w n (by omega)) ⟨(by first | exact leA | exact Watch.le rfl rfl), (by first | exact leA | exact Watch.le rfl rfl), trivial⟩ ?_ | refine callS.at (l25Post_ok w n (by omega)) ⟨(by first | exact leA | exact Watch.le rfl rfl), (by first | exact leA | exact Watch.le rfl rfl), trivial⟩ ?_)
    rw [hix]
    (repeat ((repeat1' (first | simp -implicitDefEqProofs -dsimp only [go_sem, Nat.reduceSub, Nat.reduceAdd, Nat.reduceMul, Nat.reduceLT, Nat.reduceLeDiff, Nat.reduceEqDiff, Nat.reduceDiv, Nat.reduceMod, Int.reduceToNat, Int.reduceLE, Int.reduceLT, Int.reduceBEq, Int.reduceBNe, Int.reduceNeg, Int.reduceAdd, Int.reduceSub, Int.reduceMul, reduceCtorEq, hr, Post.cs] | simp -implicitDefEqProofs -dsimp (disch := omega) only [wrap_i64])); repeat (with_reducible refine sideA ?_)))
    refine guardT.splitT (fun g => ?_) (fun g => ?_) <;> (repeat ((repeat1' (first | simp -implicitDefEqProofs -dsimp only [go_sem, Nat.reduceSub, Nat.reduceAdd, Nat.reduceMul, Nat.reduceLT, Nat.reduceLeDiff, Nat.reduceEqDiff, Nat.reduceDiv, Nat.reduceMod, Int.reduceToNat, Int.reduceLE, Int.reduceLT, Int.reduceBEq, Int.reduceBNe, Int.reduceNeg, Int.reduceAdd, Int.reduceSub, Int.reduceMul, reduceCtorEq, g, hsp, Int.toNat_natCast] | simp -implicitDefEqProofs -dsimp (disch := omega) only [wrap_i64])); repeat (with_reducible refine sideA ?_)))
    · skip
      (first | refine callT.at (hgood) ⟨(by first | exact leA | exact Watch.le rfl rfl), trivial⟩ ?_ | refine callS.at (hgood) ⟨(by first | exact leA | exact Watch.le rfl rfl), trivial⟩ ?_)
      (repeat ((repeat1' (first | simp -implicitDefEqProofs -dsimp only [go_sem, Nat.reduceSub, Nat.reduceAdd, Nat.reduceMul, Nat.reduceLT, Nat.reduceLeDiff, Nat.reduceEqDiff, Nat.reduceDiv, Nat.reduceMod, Int.reduceToNat, Int.reduceLE, Int.reduceLT, Int.reduceBEq, Int.reduceBNe, Int.reduceNeg, Int.reduceAdd, Int.reduceSub, Int.reduceMul, reduceCtorEq, g] | simp -implicitDefEqProofs -dsimp (disch := omega) only [wrap_i64])); repeat (with_reducible refine sideA ?_)))
      simp at g
      refine WeakR.pick [3, 4] (by decide) (fun j hj => by omega) (.inl ?_) ?_
      · first | rfl | (simp [ren, pickF, posOf, Watch.o, g]; done)
      · simp only [pickH, List.map_cons, List.map_nil, pickB, List.getElem?_cons_zero, List.getElem?_cons_succ, map_ren_rows]
    · skip
      simp at g
      refine WeakR.pick [3, 4] (by decide) (fun j hj => by omega) (.inl ?_) ?_
      · first | rfl | (simp [ren, pickF, posOf, Watch.o, g]; done)
      · simp only [pickH, List.map_cons, List.map_nil, pickB, List.getElem?_cons_zero, List.getElem?_cons_succ, map_ren_rows]
  · have hd : decide ((3 : Int) = 3) = true := rfl
    rw [hd] at hgood ⊢
    simp only [Watch.v, hlen] at hgood
    simp only [Watch.o, hlen]
    refine Ctr.intro Try.mixed Try.func132 rfl Try.okF132 ?_
    simp -implicitDefEqProofs -dsimp only [go_sem, Nat.reduceSub, Nat.reduceAdd, Nat.reduceMul, Nat.reduceLT, Nat.reduceLeDiff, Nat.reduceEqDiff, Nat.reduceDiv, Nat.reduceMod, Int.reduceToNat, Int.reduceLE, Int.reduceLT, Int.reduceBEq, Int.reduceBNe, Int.reduceNeg, Int.reduceAdd, Int.reduceSub, Int.reduceMul, reduceCtorEq, Try.ntmps132, Try.results132]
    simp -implicitDefEqProofs -dsimp only [go_sem, Nat.reduceSub, Nat.reduceAdd, Nat.reduceMul, Nat.reduceLT, Nat.reduceLeDiff, Nat.reduceEqDiff, Nat.reduceDiv, Nat.reduceMod, Int.reduceToNat, Int.reduceLE, Int.reduceLT, Int.reduceBEq, Int.reduceBNe, Int.reduceNeg, Int.reduceAdd, Int.reduceSub, Int.reduceMul, reduceCtorEq, Watch.v]
    (first | refine callT.at (l25Own_ok w (by omega) (by omega)) ⟨(by first | exact leA | exact Watch.le rfl rfl), trivial⟩ ?_ | refine callS.at (l25Own_ok w (by omega) (by omega)) ⟨(by first | exact leA | exact Watch.le rfl rfl), trivial⟩ ?_)
    (repeat ((repeat1' (first | simp -implicitDefEqProofs -dsimp only [go_sem, Nat.reduceSub, Nat.reduceAdd, Nat.reduceMul, Nat.reduceLT, Nat.reduceLeDiff, Nat.reduceEqDiff, Nat.reduceDiv, Nat.reduceMod, Int.reduceToNat, Int.reduceLE, Int.reduceLT, Int.reduceBEq, Int.reduceBNe, Int.reduceNeg, Int.reduceAdd, Int.reduceSub, Int.reduceMul, reduceCtorEq, Watch.o] | simp -implicitDefEqProofs -dsimp (disch := omega) only [wrap_i64])); repeat (with_reducible refine sideA ?_)))
    (first | refine callT.at (l25Post_ok w n (by omega)) ⟨(by first | exact leA | exact Watch.le rfl rfl), (by first | exact leA | exact Watch.le rfl rfl), trivial⟩ ?_ | refine callS.at (l25Post_ok w n (by omega)) ⟨(by first | exact leA | exact Watch.le rfl rfl), (by first | exact leA | exact Watch.le rfl rfl), trivial⟩ ?_)
    rw [hix]
    (repeat ((repeat1' (first | simp -implicitDefEqProofs -dsimp only [go_sem, Nat.reduceSub, Nat.reduceAdd, Nat.reduceMul, Nat.reduceLT, Nat.reduceLeDiff, Nat.reduceEqDiff, Nat.reduceDiv, Nat.reduceMod, Int.reduceToNat, Int.reduceLE, Int.reduceLT, Int.reduceBEq, Int.reduceBNe, Int.reduceNeg, Int.reduceAdd, Int.reduceSub, Int.reduceMul, reduceCtorEq, hr, Post.cs] | simp -implicitDefEqProofs -dsimp (disch := omega) only [wrap_i64])); repeat (with_reducible refine sideA ?_)))
    refine guardT.splitT (fun g => ?_) (fun g => ?_) <;> (repeat ((repeat1' (first | simp -implicitDefEqProofs -dsimp only [go_sem, Nat.reduceSub, Nat.reduceAdd, Nat.reduceMul, Nat.reduceLT, Nat.reduceLeDiff, Nat.reduceEqDiff, Nat.reduceDiv, Nat.reduceMod, Int.reduceToNat, Int.reduceLE, Int.reduceLT, Int.reduceBEq, Int.reduceBNe, Int.reduceNeg, Int.reduceAdd, Int.reduceSub, Int.reduceMul, reduceCtorEq, g, hsp, Int.toNat_natCast] | simp -implicitDefEqProofs -dsimp (disch := omega) only [wrap_i64])); repeat (with_reducible refine sideA ?_)))
    · skip
      (first | refine callT.at (hgood) ⟨(by first | exact leA | exact Watch.le rfl rfl), trivial⟩ ?_ | refine callS.at (hgood) ⟨(by first | exact leA | exact Watch.le rfl rfl), trivial⟩ ?_)
      (repeat ((repeat1' (first | simp -implicitDefEqProofs -dsimp only [go_sem, Nat.reduceSub, Nat.reduceAdd, Nat.reduceMul, Nat.reduceLT, Nat.reduceLeDiff, Nat.reduceEqDiff, Nat.reduceDiv, Nat.reduceMod, Int.reduceToNat, Int.reduceLE, Int.reduceLT, Int.reduceBEq, Int.reduceBNe, Int.reduceNeg, Int.reduceAdd, Int.reduceSub, Int.reduceMul, reduceCtorEq, g] | simp -implicitDefEqProofs -dsimp (disch := omega) only [wrap_i64])); repeat (with_reducible refine sideA ?_)))
      simp at g
      refine WeakR.pick [3, 4] (by decide) (fun j hj => by omega) (.inl ?_) ?_
      · first | rfl | (simp [ren, pickF, posOf, Watch.o, g]; done)
      · simp only [pickH, List.map_cons, List.map_nil, pickB, List.getElem?_cons_zero, List.getElem?_cons_succ, map_ren_rows]
    · skip
      simp at g
      refine WeakR.pick [3, 4] (by decide) (fun j hj => by omega) (.inl ?_) ?_
      · first | rfl | (simp [ren, pickF, posOf, Watch.o, g]; done)
      · simp only [pickH, List.map_cons, List.map_nil, pickB, List.getElem?_cons_zero, List.getElem?_cons_succ, map_ren_rows]
theorem l25Make4_ok (w : Watch) (n v : Int) (hw : wB w = true) : Ctr Try.prog 132 [w.v, .agg [.int .i64 4, .int .i64 n, .int .i64 v]] [] (.tup [(makeS w 4 n v).o 0 1, .bool (doneW w 4 n v)]) [some (rows Post.cs w.Posts), some (rows Shock.cs (makeS w 4 n v).Shocks)] := by
  have W := wB_ok hw
  have pl := W.plen
  have sl := W.slen
  have wn := W.next
  have hwn : IntKind.i64.wrap (w.Next + 1) = w.Next + 1 := wrap_i64 (by omega) (by omega)
  obtain ⟨x, hx⟩ : ∃ x : Shock, x = ⟨w.Next, 0, (upN w w.Posts.length : Int), 0, w.Now⟩ := ⟨_, rfl⟩
  have e1 : makeS w 4 n v = ⟨w.Now, w.Posts, w.Shocks ++ [x], w.Next + 1, w.Archived⟩ := by simp [makeS, makeW, hx]
  have e2 : doneW w 4 n v = wB ⟨w.Now, w.Posts, w.Shocks ++ [x], w.Next + 1, w.Archived⟩ := by simp [doneW, makeB, makeW, hx]
  have hsn : rows Shock.cs w.Shocks ++ [.int .i64 w.Next, .int .i64 0, .int .i64 (upN w w.Posts.length : Int), .int .i64 0, .int .i64 w.Now] = rows Shock.cs (w.Shocks ++ [x]) := by
    rw [hx]
    exact rows_snoc (cs := Shock.cs) w.Shocks ⟨w.Next, 0, (upN w w.Posts.length : Int), 0, w.Now⟩
  have hln : w.Shocks.length + 1 = (w.Shocks ++ [x]).length := by simp
  have hgood := l25Good_ok ⟨w.Now, w.Posts, w.Shocks ++ [x], w.Next + 1, w.Archived⟩ (by simp; omega) (by simp; omega)
  rw [e1, e2]
  refine Ctr.intro Try.mixed Try.func132 rfl Try.okF132 ?_
  simp -implicitDefEqProofs -dsimp only [go_sem, Nat.reduceSub, Nat.reduceAdd, Nat.reduceMul, Nat.reduceLT, Nat.reduceLeDiff, Nat.reduceEqDiff, Nat.reduceDiv, Nat.reduceMod, Int.reduceToNat, Int.reduceLE, Int.reduceLT, Int.reduceBEq, Int.reduceBNe, Int.reduceNeg, Int.reduceAdd, Int.reduceSub, Int.reduceMul, reduceCtorEq, Try.ntmps132, Try.results132]
  simp -implicitDefEqProofs -dsimp only [go_sem, Nat.reduceSub, Nat.reduceAdd, Nat.reduceMul, Nat.reduceLT, Nat.reduceLeDiff, Nat.reduceEqDiff, Nat.reduceDiv, Nat.reduceMod, Int.reduceToNat, Int.reduceLE, Int.reduceLT, Int.reduceBEq, Int.reduceBNe, Int.reduceNeg, Int.reduceAdd, Int.reduceSub, Int.reduceMul, reduceCtorEq, Watch.v]
  (first | refine callT.at (l25Own_ok w (by omega) (by omega)) ⟨(by first | exact leA | exact Watch.le rfl rfl), trivial⟩ ?_ | refine callS.at (l25Own_ok w (by omega) (by omega)) ⟨(by first | exact leA | exact Watch.le rfl rfl), trivial⟩ ?_)
  (repeat ((repeat1' (first | simp -implicitDefEqProofs -dsimp only [go_sem, Nat.reduceSub, Nat.reduceAdd, Nat.reduceMul, Nat.reduceLT, Nat.reduceLeDiff, Nat.reduceEqDiff, Nat.reduceDiv, Nat.reduceMod, Int.reduceToNat, Int.reduceLE, Int.reduceLT, Int.reduceBEq, Int.reduceBNe, Int.reduceNeg, Int.reduceAdd, Int.reduceSub, Int.reduceMul, reduceCtorEq, Watch.o] | simp -implicitDefEqProofs -dsimp (disch := omega) only [wrap_i64])); repeat (with_reducible refine sideA ?_)))
  (first | refine callT.at (l25Up_ok w (by omega)) ⟨(by first | exact leA | exact Watch.le rfl rfl), trivial⟩ ?_ | refine callS.at (l25Up_ok w (by omega)) ⟨(by first | exact leA | exact Watch.le rfl rfl), trivial⟩ ?_)
  (repeat ((repeat1' (first | simp -implicitDefEqProofs -dsimp only [go_sem, Nat.reduceSub, Nat.reduceAdd, Nat.reduceMul, Nat.reduceLT, Nat.reduceLeDiff, Nat.reduceEqDiff, Nat.reduceDiv, Nat.reduceMod, Int.reduceToNat, Int.reduceLE, Int.reduceLT, Int.reduceBEq, Int.reduceBNe, Int.reduceNeg, Int.reduceAdd, Int.reduceSub, Int.reduceMul, reduceCtorEq, hwn, hsn, hln] | simp -implicitDefEqProofs -dsimp (disch := omega) only [wrap_i64])); repeat (with_reducible refine sideA ?_)))
  (first | refine callT.at (hgood) ⟨(by first | exact leA | exact Watch.le rfl rfl), trivial⟩ ?_ | refine callS.at (hgood) ⟨(by first | exact leA | exact Watch.le rfl rfl), trivial⟩ ?_)
  (repeat ((repeat1' (first | simp -implicitDefEqProofs -dsimp only [go_sem, Nat.reduceSub, Nat.reduceAdd, Nat.reduceMul, Nat.reduceLT, Nat.reduceLeDiff, Nat.reduceEqDiff, Nat.reduceDiv, Nat.reduceMod, Int.reduceToNat, Int.reduceLE, Int.reduceLT, Int.reduceBEq, Int.reduceBNe, Int.reduceNeg, Int.reduceAdd, Int.reduceSub, Int.reduceMul, reduceCtorEq, hsn] | simp -implicitDefEqProofs -dsimp (disch := omega) only [wrap_i64])); repeat (with_reducible refine sideA ?_)))
  refine WeakR.pick [3, 4] (by decide) (fun j hj => by omega) (.inl ?_) ?_
  · first | rfl | (simp [ren, pickF, posOf, Watch.o]; done)
  · simp only [pickH, List.map_cons, List.map_nil, pickB, List.getElem?_cons_zero, List.getElem?_cons_succ, map_ren_rows]
theorem l25Make8_ok (w : Watch) (n v : Int) (hw : wB w = true) (hs : stepWB w 8 n v = true) : Ctr Try.prog 132 [w.v, .agg [.int .i64 8, .int .i64 n, .int .i64 v]] [] (.tup [(makeS w 8 n v).o 0 1, .bool (doneW w 8 n v)]) [some (rows Post.cs w.Posts), some (rows Shock.cs (makeS w 8 n v).Shocks)] := by
  have W := wB_ok hw
  have pl := W.plen
  have sl := W.slen
  obtain ⟨i, hi, hix, hin⟩ : ∃ i, ∃ h : i < w.Shocks.length, idxI (shockIs n) w.Shocks = (i : Int) ∧ shockIs n w.Shocks[i] = true := by
    have : decide (0 ≤ idxI (shockIs n) w.Shocks) = true := by
      simp [stepWB] at hs
      simp [hs.1]
    exact idxI_get this
  have hp : sAt w n = i := by simp [sAt, hix]
  have e1 : makeS w 8 n v = archW w i := by simp [makeS, makeW, archW, hp]
  have e2 : doneW w 8 n v = (archB w (shAt w i) && wB (archW w i)) := by simp [doneW, makeB, makeW, archW, hp]
  have hgood := l25Good_ok (archW w i) (by simp [archW]; omega) (by simp [archW]; omega)
  have harch := l25Archive_ok w i hw hi
  have e3 : (archW w i).Shocks = w.Shocks.take i ++ w.Shocks.drop (i + 1) := rfl
  rw [e1, e2, e3]
  refine Ctr.intro Try.mixed Try.func132 rfl Try.okF132 ?_
  simp -implicitDefEqProofs -dsimp only [go_sem, Nat.reduceSub, Nat.reduceAdd, Nat.reduceMul, Nat.reduceLT, Nat.reduceLeDiff, Nat.reduceEqDiff, Nat.reduceDiv, Nat.reduceMod, Int.reduceToNat, Int.reduceLE, Int.reduceLT, Int.reduceBEq, Int.reduceBNe, Int.reduceNeg, Int.reduceAdd, Int.reduceSub, Int.reduceMul, reduceCtorEq, Try.ntmps132, Try.results132]
  simp -implicitDefEqProofs -dsimp only [go_sem, Nat.reduceSub, Nat.reduceAdd, Nat.reduceMul, Nat.reduceLT, Nat.reduceLeDiff, Nat.reduceEqDiff, Nat.reduceDiv, Nat.reduceMod, Int.reduceToNat, Int.reduceLE, Int.reduceLT, Int.reduceBEq, Int.reduceBNe, Int.reduceNeg, Int.reduceAdd, Int.reduceSub, Int.reduceMul, reduceCtorEq, Watch.v]
  (first | refine callT.at (l25Own_ok w (by omega) (by omega)) ⟨(by first | exact leA | exact Watch.le rfl rfl), trivial⟩ ?_ | refine callS.at (l25Own_ok w (by omega) (by omega)) ⟨(by first | exact leA | exact Watch.le rfl rfl), trivial⟩ ?_)
  (repeat ((repeat1' (first | simp -implicitDefEqProofs -dsimp only [go_sem, Nat.reduceSub, Nat.reduceAdd, Nat.reduceMul, Nat.reduceLT, Nat.reduceLeDiff, Nat.reduceEqDiff, Nat.reduceDiv, Nat.reduceMod, Int.reduceToNat, Int.reduceLE, Int.reduceLT, Int.reduceBEq, Int.reduceBNe, Int.reduceNeg, Int.reduceAdd, Int.reduceSub, Int.reduceMul, reduceCtorEq, Watch.o] | simp -implicitDefEqProofs -dsimp (disch := omega) only [wrap_i64])); repeat (with_reducible refine sideA ?_)))
  (first | refine callT.at (l25Find_ok w n (by omega)) ⟨(by first | exact leA | exact Watch.le rfl rfl), (by first | exact leA | exact Watch.le rfl rfl), trivial⟩ ?_ | refine callS.at (l25Find_ok w n (by omega)) ⟨(by first | exact leA | exact Watch.le rfl rfl), (by first | exact leA | exact Watch.le rfl rfl), trivial⟩ ?_)
  rw [hix]
  (repeat ((repeat1' (first | simp -implicitDefEqProofs -dsimp only [go_sem, Nat.reduceSub, Nat.reduceAdd, Nat.reduceMul, Nat.reduceLT, Nat.reduceLeDiff, Nat.reduceEqDiff, Nat.reduceDiv, Nat.reduceMod, Int.reduceToNat, Int.reduceLE, Int.reduceLT, Int.reduceBEq, Int.reduceBNe, Int.reduceNeg, Int.reduceAdd, Int.reduceSub, Int.reduceMul, reduceCtorEq] | simp -implicitDefEqProofs -dsimp (disch := omega) only [wrap_i64])); repeat (with_reducible refine sideA ?_)))
  (first | refine callT.at (harch) ⟨(by first | exact leA | exact Watch.le rfl rfl), (by first | exact leA | exact Watch.le rfl rfl), trivial⟩ ?_ | refine callS.at (harch) ⟨(by first | exact leA | exact Watch.le rfl rfl), (by first | exact leA | exact Watch.le rfl rfl), trivial⟩ ?_)
  (repeat ((repeat1' (first | simp -implicitDefEqProofs -dsimp only [go_sem, Nat.reduceSub, Nat.reduceAdd, Nat.reduceMul, Nat.reduceLT, Nat.reduceLeDiff, Nat.reduceEqDiff, Nat.reduceDiv, Nat.reduceMod, Int.reduceToNat, Int.reduceLE, Int.reduceLT, Int.reduceBEq, Int.reduceBNe, Int.reduceNeg, Int.reduceAdd, Int.reduceSub, Int.reduceMul, reduceCtorEq, Watch.o] | simp -implicitDefEqProofs -dsimp (disch := omega) only [wrap_i64])); repeat (with_reducible refine sideA ?_)))
  refine guardT.splitT (fun g => ?_) (fun g => ?_) <;> (repeat ((repeat1' (first | simp -implicitDefEqProofs -dsimp only [go_sem, Nat.reduceSub, Nat.reduceAdd, Nat.reduceMul, Nat.reduceLT, Nat.reduceLeDiff, Nat.reduceEqDiff, Nat.reduceDiv, Nat.reduceMod, Int.reduceToNat, Int.reduceLE, Int.reduceLT, Int.reduceBEq, Int.reduceBNe, Int.reduceNeg, Int.reduceAdd, Int.reduceSub, Int.reduceMul, reduceCtorEq, g] | simp -implicitDefEqProofs -dsimp (disch := omega) only [wrap_i64])); repeat (with_reducible refine sideA ?_)))
  · skip
    (first | refine callT.at (hgood) ⟨(by first | exact leA | exact Watch.le rfl rfl), trivial⟩ ?_ | refine callS.at (hgood) ⟨(by first | exact leA | exact Watch.le rfl rfl), trivial⟩ ?_)
    (repeat ((repeat1' (first | simp -implicitDefEqProofs -dsimp only [go_sem, Nat.reduceSub, Nat.reduceAdd, Nat.reduceMul, Nat.reduceLT, Nat.reduceLeDiff, Nat.reduceEqDiff, Nat.reduceDiv, Nat.reduceMod, Int.reduceToNat, Int.reduceLE, Int.reduceLT, Int.reduceBEq, Int.reduceBNe, Int.reduceNeg, Int.reduceAdd, Int.reduceSub, Int.reduceMul, reduceCtorEq, g] | simp -implicitDefEqProofs -dsimp (disch := omega) only [wrap_i64])); repeat (with_reducible refine sideA ?_)))
    refine WeakR.pick [6, 7] (by decide) (fun j hj => by omega) (.inl ?_) ?_
    · first | rfl | (simp [ren, pickF, posOf, Watch.o, g, archW]; done)
    · simp only [pickH, List.map_cons, List.map_nil, pickB, List.getElem?_cons_zero, List.getElem?_cons_succ, map_ren_rows]
  · skip
    refine WeakR.pick [6, 7] (by decide) (fun j hj => by omega) (.inl ?_) ?_
    · first | rfl | (simp [ren, pickF, posOf, Watch.o, g, archW]; done)
    · simp only [pickH, List.map_cons, List.map_nil, pickB, List.getElem?_cons_zero, List.getElem?_cons_succ, map_ren_rows]
theorem l25Make5_ok (w : Watch) (k n v : Int) (hk : k = 5 ∨ k = 6 ∨ k = 7) (hw : wB w = true) (hs : stepWB w k n v = true) (hv : -100 ≤ v ∧ v ≤ 100) : Ctr Try.prog 132 [w.v, .agg [.int .i64 k, .int .i64 n, .int .i64 v]] [] (.tup [(makeS w k n v).o 0 1, .bool (doneW w k n v)]) [some (rows Post.cs w.Posts), some (rows Shock.cs (makeS w k n v).Shocks)] := by
  have W := wB_ok hw
  have pl := W.plen
  have sl := W.slen
  obtain ⟨i, hi, hix, hin⟩ : ∃ i, ∃ h : i < w.Shocks.length, idxI (shockIs n) w.Shocks = (i : Int) ∧ shockIs n w.Shocks[i] = true := by
    have : decide (0 ≤ idxI (shockIs n) w.Shocks) = true := by
      rcases hk with rfl | rfl | rfl <;> simp [stepWB] at hs <;> simp [hs]
    exact idxI_get this
  have hp : sAt w n = i := by simp [sAt, hix]
  have hsh := shAt_get hi
  have e1 : makeS w k n v = ⟨w.Now, w.Posts, w.Shocks.set i (chgX w.Shocks[i] k v), w.Next, w.Archived⟩ := by
    rcases hk with rfl | rfl | rfl <;> simp [makeS, makeW, hp, hsh]
  have e2 : doneW w k n v = (chgB w.Shocks[i] k && wB ⟨w.Now, w.Posts, w.Shocks.set i (chgX w.Shocks[i] k v), w.Next, w.Archived⟩) := by
    rcases hk with rfl | rfl | rfl <;> simp [doneW, makeB, makeW, hp, hsh]
  have hr := rows_at Shock.csl hi
  have hchg := l25Change_ok w.Next w.Now w.Shocks[i] k n v (W.shocks _ (List.getElem_mem hi)) hk hv
  have hlen : ∀ p, (w.Shocks.set i p).length = w.Shocks.length := fun p => by simp
  have hgood := l25Good_ok ⟨w.Now, w.Posts, w.Shocks.set i (chgX w.Shocks[i] k v), w.Next, w.Archived⟩ (by simp; omega) (by simp; omega)
  generalize chgX w.Shocks[i] k v = y at e1 e2 hchg hgood
  have hsp : splice (rows Shock.cs w.Shocks) (i * 5) [.int .i64 y.Number, .int .i64 y.State, .int .i64 y.Seen, .int .i64 y.Size, .int .i64 y.Tick] = rows Shock.cs (w.Shocks.set i y) := splice_row (cs := Shock.cs) Shock.csl hi y
  rw [e1, e2]
  clear e1 e2
  simp only [Watch.v, hlen] at hgood
  simp only [Watch.o, hlen]
  generalize chgB w.Shocks[i] k = b at *
  rcases hk with rfl | rfl | rfl
  · skip
    refine Ctr.intro Try.mixed Try.func132 rfl Try.okF132 ?_
    simp -implicitDefEqProofs -dsimp only [go_sem, Nat.reduceSub, Nat.reduceAdd, Nat.reduceMul, Nat.reduceLT, Nat.reduceLeDiff, Nat.reduceEqDiff, Nat.reduceDiv, Nat.reduceMod, Int.reduceToNat, Int.reduceLE, Int.reduceLT, Int.reduceBEq, Int.reduceBNe, Int.reduceNeg, Int.reduceAdd, Int.reduceSub, Int.reduceMul, reduceCtorEq, Try.ntmps132, Try.results132]
    simp -implicitDefEqProofs -dsimp only [go_sem, Nat.reduceSub, Nat.reduceAdd, Nat.reduceMul, Nat.reduceLT, Nat.reduceLeDiff, Nat.reduceEqDiff, Nat.reduceDiv, Nat.reduceMod, Int.reduceToNat, Int.reduceLE, Int.reduceLT, Int.reduceBEq, Int.reduceBNe, Int.reduceNeg, Int.reduceAdd, Int.reduceSub, Int.reduceMul, reduceCtorEq, Watch.v]
    (first | refine callT.at (l25Own_ok w (by omega) (by omega)) ⟨(by first | exact leA | exact Watch.le rfl rfl), trivial⟩ ?_ | refine callS.at (l25Own_ok w (by omega) (by omega)) ⟨(by first | exact leA | exact Watch.le rfl rfl), trivial⟩ ?_)
    (repeat ((repeat1' (first | simp -implicitDefEqProofs -dsimp only [go_sem, Nat.reduceSub, Nat.reduceAdd, Nat.reduceMul, Nat.reduceLT, Nat.reduceLeDiff, Nat.reduceEqDiff, Nat.reduceDiv, Nat.reduceMod, Int.reduceToNat, Int.reduceLE, Int.reduceLT, Int.reduceBEq, Int.reduceBNe, Int.reduceNeg, Int.reduceAdd, Int.reduceSub, Int.reduceMul, reduceCtorEq, Watch.o] | simp -implicitDefEqProofs -dsimp (disch := omega) only [wrap_i64])); repeat (with_reducible refine sideA ?_)))
    (first | refine callT.at (l25Find_ok w n (by omega)) ⟨(by first | exact leA | exact Watch.le rfl rfl), (by first | exact leA | exact Watch.le rfl rfl), trivial⟩ ?_ | refine callS.at (l25Find_ok w n (by omega)) ⟨(by first | exact leA | exact Watch.le rfl rfl), (by first | exact leA | exact Watch.le rfl rfl), trivial⟩ ?_)
    rw [hix]
    (repeat ((repeat1' (first | simp -implicitDefEqProofs -dsimp only [go_sem, Nat.reduceSub, Nat.reduceAdd, Nat.reduceMul, Nat.reduceLT, Nat.reduceLeDiff, Nat.reduceEqDiff, Nat.reduceDiv, Nat.reduceMod, Int.reduceToNat, Int.reduceLE, Int.reduceLT, Int.reduceBEq, Int.reduceBNe, Int.reduceNeg, Int.reduceAdd, Int.reduceSub, Int.reduceMul, reduceCtorEq, hr, Shock.cs] | simp -implicitDefEqProofs -dsimp (disch := omega) only [wrap_i64])); repeat (with_reducible refine sideA ?_)))
    (first | refine callT.at (hchg) ⟨(by first | exact leA | exact Watch.le rfl rfl), (by first | exact leA | exact Watch.le rfl rfl), trivial⟩ ?_ | refine callS.at (hchg) ⟨(by first | exact leA | exact Watch.le rfl rfl), (by first | exact leA | exact Watch.le rfl rfl), trivial⟩ ?_)
    (repeat ((repeat1' (first | simp -implicitDefEqProofs -dsimp only [go_sem, Nat.reduceSub, Nat.reduceAdd, Nat.reduceMul, Nat.reduceLT, Nat.reduceLeDiff, Nat.reduceEqDiff, Nat.reduceDiv, Nat.reduceMod, Int.reduceToNat, Int.reduceLE, Int.reduceLT, Int.reduceBEq, Int.reduceBNe, Int.reduceNeg, Int.reduceAdd, Int.reduceSub, Int.reduceMul, reduceCtorEq, Shock.v, hsp, Int.toNat_natCast] | simp -implicitDefEqProofs -dsimp (disch := omega) only [wrap_i64])); repeat (with_reducible refine sideA ?_)))
    refine guardT.splitT (fun g => ?_) (fun g => ?_) <;> (repeat ((repeat1' (first | simp -implicitDefEqProofs -dsimp only [go_sem, Nat.reduceSub, Nat.reduceAdd, Nat.reduceMul, Nat.reduceLT, Nat.reduceLeDiff, Nat.reduceEqDiff, Nat.reduceDiv, Nat.reduceMod, Int.reduceToNat, Int.reduceLE, Int.reduceLT, Int.reduceBEq, Int.reduceBNe, Int.reduceNeg, Int.reduceAdd, Int.reduceSub, Int.reduceMul, reduceCtorEq, g, hsp, Int.toNat_natCast] | simp -implicitDefEqProofs -dsimp (disch := omega) only [wrap_i64])); repeat (with_reducible refine sideA ?_)))
    · skip
      (first | refine callT.at (hgood) ⟨(by first | exact leA | exact Watch.le rfl rfl), trivial⟩ ?_ | refine callS.at (hgood) ⟨(by first | exact leA | exact Watch.le rfl rfl), trivial⟩ ?_)
      (repeat ((repeat1' (first | simp -implicitDefEqProofs -dsimp only [go_sem, Nat.reduceSub, Nat.reduceAdd, Nat.reduceMul, Nat.reduceLT, Nat.reduceLeDiff, Nat.reduceEqDiff, Nat.reduceDiv, Nat.reduceMod, Int.reduceToNat, Int.reduceLE, Int.reduceLT, Int.reduceBEq, Int.reduceBNe, Int.reduceNeg, Int.reduceAdd, Int.reduceSub, Int.reduceMul, reduceCtorEq, g] | simp -implicitDefEqProofs -dsimp (disch := omega) only [wrap_i64])); repeat (with_reducible refine sideA ?_)))
      refine WeakR.pick [3, 4] (by decide) (fun j hj => by omega) (.inl ?_) ?_
      · first | rfl | (simp [ren, pickF, posOf, Watch.o, g]; done)
      · simp only [pickH, List.map_cons, List.map_nil, pickB, List.getElem?_cons_zero, List.getElem?_cons_succ, map_ren_rows]
    · skip
      refine WeakR.pick [3, 4] (by decide) (fun j hj => by omega) (.inl ?_) ?_
      · first | rfl | (simp [ren, pickF, posOf, Watch.o, g]; done)
      · simp only [pickH, List.map_cons, List.map_nil, pickB, List.getElem?_cons_zero, List.getElem?_cons_succ, map_ren_rows]
  · skip
    refine Ctr.intro Try.mixed Try.func132 rfl Try.okF132 ?_
    simp -implicitDefEqProofs -dsimp only [go_sem, Nat.reduceSub, Nat.reduceAdd, Nat.reduceMul, Nat.reduceLT, Nat.reduceLeDiff, Nat.reduceEqDiff, Nat.reduceDiv, Nat.reduceMod, Int.reduceToNat, Int.reduceLE, Int.reduceLT, Int.reduceBEq, Int.reduceBNe, Int.reduceNeg, Int.reduceAdd, Int.reduceSub, Int.reduceMul, reduceCtorEq, Try.ntmps132, Try.results132]
    simp -implicitDefEqProofs -dsimp only [go_sem, Nat.reduceSub, Nat.reduceAdd, Nat.reduceMul, Nat.reduceLT, Nat.reduceLeDiff, Nat.reduceEqDiff, Nat.reduceDiv, Nat.reduceMod, Int.reduceToNat, Int.reduceLE, Int.reduceLT, Int.reduceBEq, Int.reduceBNe, Int.reduceNeg, Int.reduceAdd, Int.reduceSub, Int.reduceMul, reduceCtorEq, Watch.v]
    (first | refine callT.at (l25Own_ok w (by omega) (by omega)) ⟨(by first | exact leA | exact Watch.le rfl rfl), trivial⟩ ?_ | refine callS.at (l25Own_ok w (by omega) (by omega)) ⟨(by first | exact leA | exact Watch.le rfl rfl), trivial⟩ ?_)
    (repeat ((repeat1' (first | simp -implicitDefEqProofs -dsimp only [go_sem, Nat.reduceSub, Nat.reduceAdd, Nat.reduceMul, Nat.reduceLT, Nat.reduceLeDiff, Nat.reduceEqDiff, Nat.reduceDiv, Nat.reduceMod, Int.reduceToNat, Int.reduceLE, Int.reduceLT, Int.reduceBEq, Int.reduceBNe, Int.reduceNeg, Int.reduceAdd, Int.reduceSub, Int.reduceMul, reduceCtorEq, Watch.o] | simp -implicitDefEqProofs -dsimp (disch := omega) only [wrap_i64])); repeat (with_reducible refine sideA ?_)))
    (first | refine callT.at (l25Find_ok w n (by omega)) ⟨(by first | exact leA | exact Watch.le rfl rfl), (by first | exact leA | exact Watch.le rfl rfl), trivial⟩ ?_ | refine callS.at (l25Find_ok w n (by omega)) ⟨(by first | exact leA | exact Watch.le rfl rfl), (by first | exact leA | exact Watch.le rfl rfl), trivial⟩ ?_)
    rw [hix]
    (repeat ((repeat1' (first | simp -implicitDefEqProofs -dsimp only [go_sem, Nat.reduceSub, Nat.reduceAdd, Nat.reduceMul, Nat.reduceLT, Nat.reduceLeDiff, Nat.reduceEqDiff, Nat.reduceDiv, Nat.reduceMod, Int.reduceToNat, Int.reduceLE, Int.reduceLT, Int.reduceBEq, Int.reduceBNe, Int.reduceNeg, Int.reduceAdd, Int.reduceSub, Int.reduceMul, reduceCtorEq, hr, Shock.cs] | simp -implicitDefEqProofs -dsimp (disch := omega) only [wrap_i64])); repeat (with_reducible refine sideA ?_)))
    (first | refine callT.at (hchg) ⟨(by first | exact leA | exact Watch.le rfl rfl), (by first | exact leA | exact Watch.le rfl rfl), trivial⟩ ?_ | refine callS.at (hchg) ⟨(by first | exact leA | exact Watch.le rfl rfl), (by first | exact leA | exact Watch.le rfl rfl), trivial⟩ ?_)
    (repeat ((repeat1' (first | simp -implicitDefEqProofs -dsimp only [go_sem, Nat.reduceSub, Nat.reduceAdd, Nat.reduceMul, Nat.reduceLT, Nat.reduceLeDiff, Nat.reduceEqDiff, Nat.reduceDiv, Nat.reduceMod, Int.reduceToNat, Int.reduceLE, Int.reduceLT, Int.reduceBEq, Int.reduceBNe, Int.reduceNeg, Int.reduceAdd, Int.reduceSub, Int.reduceMul, reduceCtorEq, Shock.v, hsp, Int.toNat_natCast] | simp -implicitDefEqProofs -dsimp (disch := omega) only [wrap_i64])); repeat (with_reducible refine sideA ?_)))
    refine guardT.splitT (fun g => ?_) (fun g => ?_) <;> (repeat ((repeat1' (first | simp -implicitDefEqProofs -dsimp only [go_sem, Nat.reduceSub, Nat.reduceAdd, Nat.reduceMul, Nat.reduceLT, Nat.reduceLeDiff, Nat.reduceEqDiff, Nat.reduceDiv, Nat.reduceMod, Int.reduceToNat, Int.reduceLE, Int.reduceLT, Int.reduceBEq, Int.reduceBNe, Int.reduceNeg, Int.reduceAdd, Int.reduceSub, Int.reduceMul, reduceCtorEq, g, hsp, Int.toNat_natCast] | simp -implicitDefEqProofs -dsimp (disch := omega) only [wrap_i64])); repeat (with_reducible refine sideA ?_)))
    · skip
      (first | refine callT.at (hgood) ⟨(by first | exact leA | exact Watch.le rfl rfl), trivial⟩ ?_ | refine callS.at (hgood) ⟨(by first | exact leA | exact Watch.le rfl rfl), trivial⟩ ?_)
      (repeat ((repeat1' (first | simp -implicitDefEqProofs -dsimp only [go_sem, Nat.reduceSub, Nat.reduceAdd, Nat.reduceMul, Nat.reduceLT, Nat.reduceLeDiff, Nat.reduceEqDiff, Nat.reduceDiv, Nat.reduceMod, Int.reduceToNat, Int.reduceLE, Int.reduceLT, Int.reduceBEq, Int.reduceBNe, Int.reduceNeg, Int.reduceAdd, Int.reduceSub, Int.reduceMul, reduceCtorEq, g] | simp -implicitDefEqProofs -dsimp (disch := omega) only [wrap_i64])); repeat (with_reducible refine sideA ?_)))
      refine WeakR.pick [3, 4] (by decide) (fun j hj => by omega) (.inl ?_) ?_
      · first | rfl | (simp [ren, pickF, posOf, Watch.o, g]; done)
      · simp only [pickH, List.map_cons, List.map_nil, pickB, List.getElem?_cons_zero, List.getElem?_cons_succ, map_ren_rows]
    · skip
      refine WeakR.pick [3, 4] (by decide) (fun j hj => by omega) (.inl ?_) ?_
      · first | rfl | (simp [ren, pickF, posOf, Watch.o, g]; done)
      · simp only [pickH, List.map_cons, List.map_nil, pickB, List.getElem?_cons_zero, List.getElem?_cons_succ, map_ren_rows]
  · skip
    refine Ctr.intro Try.mixed Try.func132 rfl Try.okF132 ?_
    simp -implicitDefEqProofs -dsimp only [go_sem, Nat.reduceSub, Nat.reduceAdd, Nat.reduceMul, Nat.reduceLT, Nat.reduceLeDiff, Nat.reduceEqDiff, Nat.reduceDiv, Nat.reduceMod, Int.reduceToNat, Int.reduceLE, Int.reduceLT, Int.reduceBEq, Int.reduceBNe, Int.reduceNeg, Int.reduceAdd, Int.reduceSub, Int.reduceMul, reduceCtorEq, Try.ntmps132, Try.results132]
    simp -implicitDefEqProofs -dsimp only [go_sem, Nat.reduceSub, Nat.reduceAdd, Nat.reduceMul, Nat.reduceLT, Nat.reduceLeDiff, Nat.reduceEqDiff, Nat.reduceDiv, Nat.reduceMod, Int.reduceToNat, Int.reduceLE, Int.reduceLT, Int.reduceBEq, Int.reduceBNe, Int.reduceNeg, Int.reduceAdd, Int.reduceSub, Int.reduceMul, reduceCtorEq, Watch.v]
    (first | refine callT.at (l25Own_ok w (by omega) (by omega)) ⟨(by first | exact leA | exact Watch.le rfl rfl), trivial⟩ ?_ | refine callS.at (l25Own_ok w (by omega) (by omega)) ⟨(by first | exact leA | exact Watch.le rfl rfl), trivial⟩ ?_)
    (repeat ((repeat1' (first | simp -implicitDefEqProofs -dsimp only [go_sem, Nat.reduceSub, Nat.reduceAdd, Nat.reduceMul, Nat.reduceLT, Nat.reduceLeDiff, Nat.reduceEqDiff, Nat.reduceDiv, Nat.reduceMod, Int.reduceToNat, Int.reduceLE, Int.reduceLT, Int.reduceBEq, Int.reduceBNe, Int.reduceNeg, Int.reduceAdd, Int.reduceSub, Int.reduceMul, reduceCtorEq, Watch.o] | simp -implicitDefEqProofs -dsimp (disch := omega) only [wrap_i64])); repeat (with_reducible refine sideA ?_)))
    (first | refine callT.at (l25Find_ok w n (by omega)) ⟨(by first | exact leA | exact Watch.le rfl rfl), (by first | exact leA | exact Watch.le rfl rfl), trivial⟩ ?_ | refine callS.at (l25Find_ok w n (by omega)) ⟨(by first | exact leA | exact Watch.le rfl rfl), (by first | exact leA | exact Watch.le rfl rfl), trivial⟩ ?_)
    rw [hix]
    (repeat ((repeat1' (first | simp -implicitDefEqProofs -dsimp only [go_sem, Nat.reduceSub, Nat.reduceAdd, Nat.reduceMul, Nat.reduceLT, Nat.reduceLeDiff, Nat.reduceEqDiff, Nat.reduceDiv, Nat.reduceMod, Int.reduceToNat, Int.reduceLE, Int.reduceLT, Int.reduceBEq, Int.reduceBNe, Int.reduceNeg, Int.reduceAdd, Int.reduceSub, Int.reduceMul, reduceCtorEq, hr, Shock.cs] | simp -implicitDefEqProofs -dsimp (disch := omega) only [wrap_i64])); repeat (with_reducible refine sideA ?_)))
    (first | refine callT.at (hchg) ⟨(by first | exact leA | exact Watch.le rfl rfl), (by first | exact leA | exact Watch.le rfl rfl), trivial⟩ ?_ | refine callS.at (hchg) ⟨(by first | exact leA | exact Watch.le rfl rfl), (by first | exact leA | exact Watch.le rfl rfl), trivial⟩ ?_)
    (repeat ((repeat1' (first | simp -implicitDefEqProofs -dsimp only [go_sem, Nat.reduceSub, Nat.reduceAdd, Nat.reduceMul, Nat.reduceLT, Nat.reduceLeDiff, Nat.reduceEqDiff, Nat.reduceDiv, Nat.reduceMod, Int.reduceToNat, Int.reduceLE, Int.reduceLT, Int.reduceBEq, Int.reduceBNe, Int.reduceNeg, Int.reduceAdd, Int.reduceSub, Int.reduceMul, reduceCtorEq, Shock.v, hsp, Int.toNat_natCast] | simp -implicitDefEqProofs -dsimp (disch := omega) only [wrap_i64])); repeat (with_reducible refine sideA ?_)))
    refine guardT.splitT (fun g => ?_) (fun g => ?_) <;> (repeat ((repeat1' (first | simp -implicitDefEqProofs -dsimp only [go_sem, Nat.reduceSub, Nat.reduceAdd, Nat.reduceMul, Nat.reduceLT, Nat.reduceLeDiff, Nat.reduceEqDiff, Nat.reduceDiv, Nat.reduceMod, Int.reduceToNat, Int.reduceLE, Int.reduceLT, Int.reduceBEq, Int.reduceBNe, Int.reduceNeg, Int.reduceAdd, Int.reduceSub, Int.reduceMul, reduceCtorEq, g, hsp, Int.toNat_natCast] | simp -implicitDefEqProofs -dsimp (disch := omega) only [wrap_i64])); repeat (with_reducible refine sideA ?_)))
    · skip
      (first | refine callT.at (hgood) ⟨(by first | exact leA | exact Watch.le rfl rfl), trivial⟩ ?_ | refine callS.at (hgood) ⟨(by first | exact leA | exact Watch.le rfl rfl), trivial⟩ ?_)
      (repeat ((repeat1' (first | simp -implicitDefEqProofs -dsimp only [go_sem, Nat.reduceSub, Nat.reduceAdd, Nat.reduceMul, Nat.reduceLT, Nat.reduceLeDiff, Nat.reduceEqDiff, Nat.reduceDiv, Nat.reduceMod, Int.reduceToNat, Int.reduceLE, Int.reduceLT, Int.reduceBEq, Int.reduceBNe, Int.reduceNeg, Int.reduceAdd, Int.reduceSub, Int.reduceMul, reduceCtorEq, g] | simp -implicitDefEqProofs -dsimp (disch := omega) only [wrap_i64])); repeat (with_reducible refine sideA ?_)))
      refine WeakR.pick [3, 4] (by decide) (fun j hj => by omega) (.inl ?_) ?_
      · first | rfl | (simp [ren, pickF, posOf, Watch.o, g]; done)
      · simp only [pickH, List.map_cons, List.map_nil, pickB, List.getElem?_cons_zero, List.getElem?_cons_succ, map_ren_rows]
    · skip
      refine WeakR.pick [3, 4] (by decide) (fun j hj => by omega) (.inl ?_) ?_
      · first | rfl | (simp [ren, pickF, posOf, Watch.o, g]; done)
      · simp only [pickH, List.map_cons, List.map_nil, pickB, List.getElem?_cons_zero, List.getElem?_cons_succ, map_ren_rows]
theorem stepWB_cases {w : Watch} {k n v : Int} (h : stepWB w k n v = true) : (k = 1 ∧ 1 ≤ v) ∨ (k = 2 ∨ k = 3) ∨ k = 4 ∨ k = 8 ∨ ((k = 5 ∨ k = 6 ∨ k = 7) ∧ -100 ≤ v ∧ v ≤ 100) := by
  unfold stepWB at h
  split at h
  · rename_i hk; simp at h; exact .inl ⟨hk, h.2⟩
  split at h
  · rename_i hk; exact .inr (.inl hk)
  split at h
  · rename_i hk; exact .inr (.inr (.inl hk))
  split at h
  · rename_i hk; simp [inB'] at h; exact .inr (.inr (.inr (.inr ⟨.inl hk, by omega, by omega⟩)))
  split at h
  · rename_i hk; simp [inB'] at h; exact .inr (.inr (.inr (.inr ⟨.inr (.inl hk), by omega, by omega⟩)))
  · simp at h
    rcases h.1.1 with hk | hk
    · exact .inr (.inr (.inr (.inr ⟨.inr (.inr hk), by omega, by omega⟩)))
    · exact .inr (.inr (.inr (.inl hk)))
theorem l25Make_ok (w : Watch) (k n v : Int) (hw : wB w = true) (hs : stepWB w k n v = true) (hv : v ≤ 9223372036854775807) : Ctr Try.prog 132 [w.v, .agg [.int .i64 k, .int .i64 n, .int .i64 v]] [] (.tup [(makeS w k n v).o 0 1, .bool (doneW w k n v)]) [some (rows Post.cs (makeS w k n v).Posts), some (rows Shock.cs (makeS w k n v).Shocks)] := by
  rcases stepWB_cases hs with ⟨rfl, h1⟩ | hk | rfl | rfl | ⟨hk, h1⟩
  · have e : (makeS w 1 n v).Posts = w.Posts ∧ (makeS w 1 n v).Shocks = w.Shocks := by unfold makeS makeW; split <;> simp
    rw [e.1, e.2]
    exact l25Make1_ok w n v hw h1 hv
  · have e : (makeS w k n v).Shocks = w.Shocks := by rcases hk with rfl | rfl <;> simp [makeS, makeW]
    rw [e]
    exact l25Make2_ok w k n v hk hw hs
  · have e : (makeS w 4 n v).Posts = w.Posts := by simp [makeS, makeW]
    rw [e]
    exact l25Make4_ok w n v hw
  · have e : (makeS w 8 n v).Posts = w.Posts := by simp [makeS, makeW]
    rw [e]
    exact l25Make8_ok w n v hw hs
  · have e : (makeS w k n v).Posts = w.Posts := by rcases hk with rfl | rfl | rfl <;> simp [makeS, makeW]
    rw [e]
    exact l25Make5_ok w k n v hk hw hs h1
/-- The watch behind a step. -/
def stepW (w : Watch) (k n v : Int) : Option Watch := if wB w && stepWB w k n v && doneW w k n v then some (makeW w k n v) else none
def zeroW : V := .agg [.int .i64 0, .nilsl, .nilsl, .int .i64 0, .int .i64 0]
def stwR : Option Watch → V
  | none => .tup [zeroW, .bool false]
  | some b => .tup [b.o 0 1, .bool true]
def stwH : Option Watch → Hp
  | none => []
  | some b => [some (rows Post.cs b.Posts), some (rows Shock.cs b.Shocks)]
theorem stepW_some {w b : Watch} {k n v : Int} (h : stepW w k n v = some b) : wB w = true ∧ stepWB w k n v = true ∧ makeB w k n v = true ∧ b = makeW w k n v ∧ wB b = true := by
  unfold stepW at h
  split at h
  · rename_i h2
    simp only [Bool.and_eq_true, doneW] at h2
    simp only [Option.some.injEq] at h
    subst h
    exact ⟨h2.1.1, h2.1.2, h2.2.1, rfl, h2.2.2⟩
  · cases h
theorem makeS_done {w : Watch} {k n v : Int} (h : doneW w k n v = true) : makeS w k n v = makeW w k n v := by
  unfold makeS
  split
  · rename_i h1
    obtain ⟨rfl, h2⟩ := h1
    simp [doneW, makeB, h2] at h
  · rfl
theorem sStepWatch_ok (w : Watch) (k n v : Int) (hp : w.Posts.length ≤ 16777216) (hs : w.Shocks.length ≤ 16777216) (hv : v ≤ 9223372036854775807) : Ctr Try.prog 53 [w.v, .agg [.int .i64 k, .int .i64 n, .int .i64 v]] [] (stwR (stepW w k n v)) (stwH (stepW w k n v)) := by
  refine Ctr.intro Try.mixed Try.func53 rfl Try.okF53 ?_
  simp -implicitDefEqProofs -dsimp only [go_sem, Nat.reduceSub, Nat.reduceAdd, Nat.reduceMul, Nat.reduceLT, Nat.reduceLeDiff, Nat.reduceEqDiff, Nat.reduceDiv, Nat.reduceMod, Int.reduceToNat, Int.reduceLE, Int.reduceLT, Int.reduceBEq, Int.reduceBNe, Int.reduceNeg, Int.reduceAdd, Int.reduceSub, Int.reduceMul, reduceCtorEq, Try.ntmps53, Try.results53]
  simp -implicitDefEqProofs -dsimp only [go_sem, Nat.reduceSub, Nat.reduceAdd, Nat.reduceMul, Nat.reduceLT, Nat.reduceLeDiff, Nat.reduceEqDiff, Nat.reduceDiv, Nat.reduceMod, Int.reduceToNat, Int.reduceLE, Int.reduceLT, Int.reduceBEq, Int.reduceBNe, Int.reduceNeg, Int.reduceAdd, Int.reduceSub, Int.reduceMul, reduceCtorEq, Watch.v]
  (first | refine callT.at (l25Good_ok w (by omega) (by omega)) ⟨(by first | exact leA | exact Watch.le rfl rfl), trivial⟩ ?_ | refine callS.at (l25Good_ok w (by omega) (by omega)) ⟨(by first | exact leA | exact Watch.le rfl rfl), trivial⟩ ?_)
  have no : stepW w k n v = none → ∀ h : Hp, WeakR 0 (.tup [.agg [.int .i64 0, .nilsl, .nilsl, .int .i64 0, .int .i64 0], .bool false]) h (stwR (stepW w k n v)) (stwH (stepW w k n v)) := by
    intro e h
    rw [e]
    exact WeakR.drop' rfl (by rfl)
  cases hw : wB w with
  | false =>
    (repeat ((repeat1' (first | simp -implicitDefEqProofs -dsimp only [go_sem, Nat.reduceSub, Nat.reduceAdd, Nat.reduceMul, Nat.reduceLT, Nat.reduceLeDiff, Nat.reduceEqDiff, Nat.reduceDiv, Nat.reduceMod, Int.reduceToNat, Int.reduceLE, Int.reduceLT, Int.reduceBEq, Int.reduceBNe, Int.reduceNeg, Int.reduceAdd, Int.reduceSub, Int.reduceMul, reduceCtorEq] | simp -implicitDefEqProofs -dsimp (disch := omega) only [wrap_i64])); repeat (with_reducible refine sideA ?_)))
    exact no (by simp [stepW, hw]) _
  | true =>
    (repeat ((repeat1' (first | simp -implicitDefEqProofs -dsimp only [go_sem, Nat.reduceSub, Nat.reduceAdd, Nat.reduceMul, Nat.reduceLT, Nat.reduceLeDiff, Nat.reduceEqDiff, Nat.reduceDiv, Nat.reduceMod, Int.reduceToNat, Int.reduceLE, Int.reduceLT, Int.reduceBEq, Int.reduceBNe, Int.reduceNeg, Int.reduceAdd, Int.reduceSub, Int.reduceMul, reduceCtorEq] | simp -implicitDefEqProofs -dsimp (disch := omega) only [wrap_i64])); repeat (with_reducible refine sideA ?_)))
    (first | refine callT.at (l25Step_ok w k n v hp hs) ⟨(by first | exact leA | exact Watch.le rfl rfl), (by first | exact leA | exact Watch.le rfl rfl), trivial⟩ ?_ | refine callS.at (l25Step_ok w k n v hp hs) ⟨(by first | exact leA | exact Watch.le rfl rfl), (by first | exact leA | exact Watch.le rfl rfl), trivial⟩ ?_)
    cases hst : stepWB w k n v with
    | false =>
      (repeat ((repeat1' (first | simp -implicitDefEqProofs -dsimp only [go_sem, Nat.reduceSub, Nat.reduceAdd, Nat.reduceMul, Nat.reduceLT, Nat.reduceLeDiff, Nat.reduceEqDiff, Nat.reduceDiv, Nat.reduceMod, Int.reduceToNat, Int.reduceLE, Int.reduceLT, Int.reduceBEq, Int.reduceBNe, Int.reduceNeg, Int.reduceAdd, Int.reduceSub, Int.reduceMul, reduceCtorEq] | simp -implicitDefEqProofs -dsimp (disch := omega) only [wrap_i64])); repeat (with_reducible refine sideA ?_)))
      exact no (by simp [stepW, hst]) _
    | true =>
      (repeat ((repeat1' (first | simp -implicitDefEqProofs -dsimp only [go_sem, Nat.reduceSub, Nat.reduceAdd, Nat.reduceMul, Nat.reduceLT, Nat.reduceLeDiff, Nat.reduceEqDiff, Nat.reduceDiv, Nat.reduceMod, Int.reduceToNat, Int.reduceLE, Int.reduceLT, Int.reduceBEq, Int.reduceBNe, Int.reduceNeg, Int.reduceAdd, Int.reduceSub, Int.reduceMul, reduceCtorEq] | simp -implicitDefEqProofs -dsimp (disch := omega) only [wrap_i64])); repeat (with_reducible refine sideA ?_)))
      have hm := l25Make_ok w k n v hw hst hv
      cases hd : doneW w k n v with
      | false =>
        rw [hd] at hm
        (first | refine callT.at (hm) ⟨(by first | exact leA | exact Watch.le rfl rfl), (by first | exact leA | exact Watch.le rfl rfl), trivial⟩ ?_ | refine callS.at (hm) ⟨(by first | exact leA | exact Watch.le rfl rfl), (by first | exact leA | exact Watch.le rfl rfl), trivial⟩ ?_)
        (repeat ((repeat1' (first | simp -implicitDefEqProofs -dsimp only [go_sem, Nat.reduceSub, Nat.reduceAdd, Nat.reduceMul, Nat.reduceLT, Nat.reduceLeDiff, Nat.reduceEqDiff, Nat.reduceDiv, Nat.reduceMod, Int.reduceToNat, Int.reduceLE, Int.reduceLT, Int.reduceBEq, Int.reduceBNe, Int.reduceNeg, Int.reduceAdd, Int.reduceSub, Int.reduceMul, reduceCtorEq, Watch.o] | simp -implicitDefEqProofs -dsimp (disch := omega) only [wrap_i64])); repeat (with_reducible refine sideA ?_)))
        exact no (by simp [stepW, hd]) _
      | true =>
        rw [hd] at hm
        (first | refine callT.at (hm) ⟨(by first | exact leA | exact Watch.le rfl rfl), (by first | exact leA | exact Watch.le rfl rfl), trivial⟩ ?_ | refine callS.at (hm) ⟨(by first | exact leA | exact Watch.le rfl rfl), (by first | exact leA | exact Watch.le rfl rfl), trivial⟩ ?_)
        (repeat ((repeat1' (first | simp -implicitDefEqProofs -dsimp only [go_sem, Nat.reduceSub, Nat.reduceAdd, Nat.reduceMul, Nat.reduceLT, Nat.reduceLeDiff, Nat.reduceEqDiff, Nat.reduceDiv, Nat.reduceMod, Int.reduceToNat, Int.reduceLE, Int.reduceLT, Int.reduceBEq, Int.reduceBNe, Int.reduceNeg, Int.reduceAdd, Int.reduceSub, Int.reduceMul, reduceCtorEq, Watch.o] | simp -implicitDefEqProofs -dsimp (disch := omega) only [wrap_i64])); repeat (with_reducible refine sideA ?_)))
        have e : stepW w k n v = some (makeW w k n v) := by simp [stepW, hw, hst, hd]
        have e2 := makeS_done hd
        rw [e, ← e2, stwR, stwH]

        refine WeakR.pick [3, 4] (by decide) (fun j hj => by omega) (.inl ?_) ?_
        · first | rfl | (simp [ren, pickF, posOf, Watch.o]; done)
        · simp only [pickH, List.map_cons, List.map_nil, pickB, List.getElem?_cons_zero, List.getElem?_cons_succ, map_ren_rows]
end Go.Proofs
