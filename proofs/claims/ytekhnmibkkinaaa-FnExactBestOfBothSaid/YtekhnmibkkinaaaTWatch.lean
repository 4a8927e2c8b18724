/-
  Watch: the pure form of its values, and what the plain helpers do with it. Conditions: none.
-/
import Derived.Test.YtekhnmibkkinaaaTPost
import Derived.Test.YtekhnmibkkinaaaTShock
set_option linter.unusedSimpArgs false
set_option linter.unusedVariables false
set_option maxRecDepth 100000
namespace Go.Proofs
open Go.Lv
structure Watch where
  Now : Int
  Posts : List Post
  Shocks : List Shock
  Next : Int
  Archived : Int
def Watch.cs (r : Watch) : List V := [.int .i64 r.Now, .sl r.Posts.length 3 (Go.Lv.rows Post.cs r.Posts), .sl r.Shocks.length 5 (Go.Lv.rows Shock.cs r.Shocks), .int .i64 r.Next, .int .i64 r.Archived]
def Watch.v (r : Watch) : V := .agg [.int .i64 r.Now, .sl r.Posts.length 3 (Go.Lv.rows Post.cs r.Posts), .sl r.Shocks.length 5 (Go.Lv.rows Shock.cs r.Shocks), .int .i64 r.Next, .int .i64 r.Archived]
/-- The same, its lists in blocks of our own. -/
def Watch.o (r : Watch) (i0 i1 : Nat) : V := .agg [.int .i64 r.Now, .osl i0 0 r.Posts.length 3, .osl i1 0 r.Shocks.length 5, .int .i64 r.Next, .int .i64 r.Archived]
theorem Watch.csl (a : Watch) : a.cs.length = 5 := rfl
def Watch.ok (r : Watch) : Prop := i64R r.Now ∧ lstR Post.ok r.Posts ∧ lstR Shock.ok r.Shocks ∧ i64R r.Next ∧ i64R r.Archived
theorem Watch.le {h : Hp} {r : Watch} {i0 i1 : Nat} (h0 : h[i0]? = some (some (rows Post.cs r.Posts))) (h1 : h[i1]? = some (some (rows Shock.cs r.Shocks))) : LeV (ren (snapR h 3) 3 (r.o i0 i1)) r.v := by
  refine .inl ?_
  simp only [Watch.o, Watch.v, ren, List.map_cons, List.map_nil, snapR, h0, h1, map_ren_rows, List.drop_zero, take_rows]
theorem toWatch_ok (r : Watch) (hl0 : r.Posts.length ≤ 1048576) (hl1 : r.Shocks.length ≤ 1048576) : Ctr Try.prog 66 [r.v] [] (r.o 0 1) [some (rows Post.cs r.Posts), some (rows Shock.cs r.Shocks)] := by
  refine Ctr.intro Try.mixed Try.func66 rfl Try.okF66 ?_
  simp -implicitDefEqProofs -dsimp only [go_sem, Nat.reduceSub, Nat.reduceAdd, Nat.reduceMul, Nat.reduceLT, Nat.reduceLeDiff, Nat.reduceEqDiff, Nat.reduceDiv, Nat.reduceMod, Int.reduceToNat, Int.reduceLE, Int.reduceLT, Int.reduceBEq, Int.reduceBNe, Int.reduceNeg, Int.reduceAdd, Int.reduceSub, Int.reduceMul, reduceCtorEq, Try.ntmps66, Try.results66]
  simp -implicitDefEqProofs -dsimp only [go_sem, Nat.reduceSub, Nat.reduceAdd, Nat.reduceMul, Nat.reduceLT, Nat.reduceLeDiff, Nat.reduceEqDiff, Nat.reduceDiv, Nat.reduceMod, Int.reduceToNat, Int.reduceLE, Int.reduceLT, Int.reduceBEq, Int.reduceBNe, Int.reduceNeg, Int.reduceAdd, Int.reduceSub, Int.reduceMul, reduceCtorEq, Watch.v]
  (first | refine callT.at (toPostS_ok r.Posts hl0) ⟨.inl rfl, trivial⟩ ?_ | refine callS.at (toPostS_ok r.Posts hl0) ⟨.inl rfl, trivial⟩ ?_)
  simp -implicitDefEqProofs -dsimp only [go_sem, Nat.reduceSub, Nat.reduceAdd, Nat.reduceMul, Nat.reduceLT, Nat.reduceLeDiff, Nat.reduceEqDiff, Nat.reduceDiv, Nat.reduceMod, Int.reduceToNat, Int.reduceLE, Int.reduceLT, Int.reduceBEq, Int.reduceBNe, Int.reduceNeg, Int.reduceAdd, Int.reduceSub, Int.reduceMul, reduceCtorEq]
  (first | refine callT.at (toShockS_ok r.Shocks hl1) ⟨.inl rfl, trivial⟩ ?_ | refine callS.at (toShockS_ok r.Shocks hl1) ⟨.inl rfl, trivial⟩ ?_)
  simp -implicitDefEqProofs -dsimp only [go_sem, Nat.reduceSub, Nat.reduceAdd, Nat.reduceMul, Nat.reduceLT, Nat.reduceLeDiff, Nat.reduceEqDiff, Nat.reduceDiv, Nat.reduceMod, Int.reduceToNat, Int.reduceLE, Int.reduceLT, Int.reduceBEq, Int.reduceBNe, Int.reduceNeg, Int.reduceAdd, Int.reduceSub, Int.reduceMul, reduceCtorEq]
  refine WeakR.pick [3, 4] (by decide) (fun j hj => by omega) (.inl ?_) ?_
  · rfl
  · simp only [pickH, List.map_cons, List.map_nil, pickB, List.getElem?_cons_zero, List.getElem?_cons_succ, map_ren_rows]
theorem szWatch_ok (r : Watch) (hr : r.ok) (n : Int) (hn : 0 ≤ n) (hn2 : n ≤ 1048576) : ∃ z : Int, (z < 0 ∨ 0 ≤ z ∧ z = n - (r.Posts.length : Int) - (r.Shocks.length : Int) ∧ r.Posts.length ≤ 1048576 ∧ r.Shocks.length ≤ 1048576) ∧ Ctr Try.prog 65 [r.v, .int .i64 n] [] (.int .i64 z) [] := by
  obtain ⟨o0, o1, o2, o3, o4⟩ := hr
  by_cases c0 : n < (r.Posts.length : Int)
  · refine ⟨-1, .inl (by omega), ?_⟩
    refine Ctr.intro Try.mixed Try.func65 rfl Try.okF65 ?_
    simp -implicitDefEqProofs -dsimp only [go_sem, Nat.reduceSub, Nat.reduceAdd, Nat.reduceMul, Nat.reduceLT, Nat.reduceLeDiff, Nat.reduceEqDiff, Nat.reduceDiv, Nat.reduceMod, Int.reduceToNat, Int.reduceLE, Int.reduceLT, Int.reduceBEq, Int.reduceBNe, Int.reduceNeg, Int.reduceAdd, Int.reduceSub, Int.reduceMul, reduceCtorEq, Try.ntmps65, Try.results65]
    simp -implicitDefEqProofs -dsimp only [go_sem, Nat.reduceSub, Nat.reduceAdd, Nat.reduceMul, Nat.reduceLT, Nat.reduceLeDiff, Nat.reduceEqDiff, Nat.reduceDiv, Nat.reduceMod, Int.reduceToNat, Int.reduceLE, Int.reduceLT, Int.reduceBEq, Int.reduceBNe, Int.reduceNeg, Int.reduceAdd, Int.reduceSub, Int.reduceMul, reduceCtorEq, Watch.v]
    (first | refine callT.at (szPostS_ok r.Posts (n) o1.1 (by omega) (by omega)) ⟨.inl rfl, .inl rfl, trivial⟩ ?_ | refine callS.at (szPostS_ok r.Posts (n) o1.1 (by omega) (by omega)) ⟨.inl rfl, .inl rfl, trivial⟩ ?_)
    rw [if_pos c0]
    simp -implicitDefEqProofs -dsimp only [go_sem, Nat.reduceSub, Nat.reduceAdd, Nat.reduceMul, Nat.reduceLT, Nat.reduceLeDiff, Nat.reduceEqDiff, Nat.reduceDiv, Nat.reduceMod, Int.reduceToNat, Int.reduceLE, Int.reduceLT, Int.reduceBEq, Int.reduceBNe, Int.reduceNeg, Int.reduceAdd, Int.reduceSub, Int.reduceMul, reduceCtorEq]
    exact WeakR.drop' rfl (by rfl)
  by_cases c1 : n - (r.Posts.length : Int) < (r.Shocks.length : Int)
  · refine ⟨-1, .inl (by omega), ?_⟩
    refine Ctr.intro Try.mixed Try.func65 rfl Try.okF65 ?_
    simp -implicitDefEqProofs -dsimp only [go_sem, Nat.reduceSub, Nat.reduceAdd, Nat.reduceMul, Nat.reduceLT, Nat.reduceLeDiff, Nat.reduceEqDiff, Nat.reduceDiv, Nat.reduceMod, Int.reduceToNat, Int.reduceLE, Int.reduceLT, Int.reduceBEq, Int.reduceBNe, Int.reduceNeg, Int.reduceAdd, Int.reduceSub, Int.reduceMul, reduceCtorEq, Try.ntmps65, Try.results65]
    simp -implicitDefEqProofs -dsimp only [go_sem, Nat.reduceSub, Nat.reduceAdd, Nat.reduceMul, Nat.reduceLT, Nat.reduceLeDiff, Nat.reduceEqDiff, Nat.reduceDiv, Nat.reduceMod, Int.reduceToNat, Int.reduceLE, Int.reduceLT, Int.reduceBEq, Int.reduceBNe, Int.reduceNeg, Int.reduceAdd, Int.reduceSub, Int.reduceMul, reduceCtorEq, Watch.v]
    (first | refine callT.at (szPostS_ok r.Posts (n) o1.1 (by omega) (by omega)) ⟨.inl rfl, .inl rfl, trivial⟩ ?_ | refine callS.at (szPostS_ok r.Posts (n) o1.1 (by omega) (by omega)) ⟨.inl rfl, .inl rfl, trivial⟩ ?_)
    rw [if_neg c0]
    simp -implicitDefEqProofs -dsimp only [go_sem, Nat.reduceSub, Nat.reduceAdd, Nat.reduceMul, Nat.reduceLT, Nat.reduceLeDiff, Nat.reduceEqDiff, Nat.reduceDiv, Nat.reduceMod, Int.reduceToNat, Int.reduceLE, Int.reduceLT, Int.reduceBEq, Int.reduceBNe, Int.reduceNeg, Int.reduceAdd, Int.reduceSub, Int.reduceMul, reduceCtorEq]
    refine condT.split (fun hh => absurd hh (by simp; omega)) (fun hh => ?_)
    simp -implicitDefEqProofs -dsimp only [go_sem, Nat.reduceSub, Nat.reduceAdd, Nat.reduceMul, Nat.reduceLT, Nat.reduceLeDiff, Nat.reduceEqDiff, Nat.reduceDiv, Nat.reduceMod, Int.reduceToNat, Int.reduceLE, Int.reduceLT, Int.reduceBEq, Int.reduceBNe, Int.reduceNeg, Int.reduceAdd, Int.reduceSub, Int.reduceMul, reduceCtorEq, hh]
    (first | refine callT.at (szShockS_ok r.Shocks (n - (r.Posts.length : Int)) o2.1 (by omega) (by omega)) ⟨.inl rfl, .inl rfl, trivial⟩ ?_ | refine callS.at (szShockS_ok r.Shocks (n - (r.Posts.length : Int)) o2.1 (by omega) (by omega)) ⟨.inl rfl, .inl rfl, trivial⟩ ?_)
    rw [if_pos c1]
    simp -implicitDefEqProofs -dsimp only [go_sem, Nat.reduceSub, Nat.reduceAdd, Nat.reduceMul, Nat.reduceLT, Nat.reduceLeDiff, Nat.reduceEqDiff, Nat.reduceDiv, Nat.reduceMod, Int.reduceToNat, Int.reduceLE, Int.reduceLT, Int.reduceBEq, Int.reduceBNe, Int.reduceNeg, Int.reduceAdd, Int.reduceSub, Int.reduceMul, reduceCtorEq]
    exact WeakR.drop' rfl (by rfl)
  · refine ⟨n - (r.Posts.length : Int) - (r.Shocks.length : Int), .inr ⟨by omega, rfl, by omega, by omega⟩, ?_⟩
    refine Ctr.intro Try.mixed Try.func65 rfl Try.okF65 ?_
    simp -implicitDefEqProofs -dsimp only [go_sem, Nat.reduceSub, Nat.reduceAdd, Nat.reduceMul, Nat.reduceLT, Nat.reduceLeDiff, Nat.reduceEqDiff, Nat.reduceDiv, Nat.reduceMod, Int.reduceToNat, Int.reduceLE, Int.reduceLT, Int.reduceBEq, Int.reduceBNe, Int.reduceNeg, Int.reduceAdd, Int.reduceSub, Int.reduceMul, reduceCtorEq, Try.ntmps65, Try.results65]
    simp -implicitDefEqProofs -dsimp only [go_sem, Nat.reduceSub, Nat.reduceAdd, Nat.reduceMul, Nat.reduceLT, Nat.reduceLeDiff, Nat.reduceEqDiff, Nat.reduceDiv, Nat.reduceMod, Int.reduceToNat, Int.reduceLE, Int.reduceLT, Int.reduceBEq, Int.reduceBNe, Int.reduceNeg, Int.reduceAdd, Int.reduceSub, Int.reduceMul, reduceCtorEq, Watch.v]
    (first | refine callT.at (szPostS_ok r.Posts (n) o1.1 (by omega) (by omega)) ⟨.inl rfl, .inl rfl, trivial⟩ ?_ | refine callS.at (szPostS_ok r.Posts (n) o1.1 (by omega) (by omega)) ⟨.inl rfl, .inl rfl, trivial⟩ ?_)
    rw [if_neg c0]
    simp -implicitDefEqProofs -dsimp only [go_sem, Nat.reduceSub, Nat.reduceAdd, Nat.reduceMul, Nat.reduceLT, Nat.reduceLeDiff, Nat.reduceEqDiff, Nat.reduceDiv, Nat.reduceMod, Int.reduceToNat, Int.reduceLE, Int.reduceLT, Int.reduceBEq, Int.reduceBNe, Int.reduceNeg, Int.reduceAdd, Int.reduceSub, Int.reduceMul, reduceCtorEq]
    refine condT.split (fun hh => absurd hh (by simp; omega)) (fun hh => ?_)
    simp -implicitDefEqProofs -dsimp only [go_sem, Nat.reduceSub, Nat.reduceAdd, Nat.reduceMul, Nat.reduceLT, Nat.reduceLeDiff, Nat.reduceEqDiff, Nat.reduceDiv, Nat.reduceMod, Int.reduceToNat, Int.reduceLE, Int.reduceLT, Int.reduceBEq, Int.reduceBNe, Int.reduceNeg, Int.reduceAdd, Int.reduceSub, Int.reduceMul, reduceCtorEq, hh]
    (first | refine callT.at (szShockS_ok r.Shocks (n - (r.Posts.length : Int)) o2.1 (by omega) (by omega)) ⟨.inl rfl, .inl rfl, trivial⟩ ?_ | refine callS.at (szShockS_ok r.Shocks (n - (r.Posts.length : Int)) o2.1 (by omega) (by omega)) ⟨.inl rfl, .inl rfl, trivial⟩ ?_)
    rw [if_neg c1]
    simp -implicitDefEqProofs -dsimp only [go_sem, Nat.reduceSub, Nat.reduceAdd, Nat.reduceMul, Nat.reduceLT, Nat.reduceLeDiff, Nat.reduceEqDiff, Nat.reduceDiv, Nat.reduceMod, Int.reduceToNat, Int.reduceLE, Int.reduceLT, Int.reduceBEq, Int.reduceBNe, Int.reduceNeg, Int.reduceAdd, Int.reduceSub, Int.reduceMul, reduceCtorEq]
    refine condT.split (fun hh => absurd hh (by simp; omega)) (fun hh => ?_)
    simp -implicitDefEqProofs -dsimp only [go_sem, Nat.reduceSub, Nat.reduceAdd, Nat.reduceMul, Nat.reduceLT, Nat.reduceLeDiff, Nat.reduceEqDiff, Nat.reduceDiv, Nat.reduceMod, Int.reduceToNat, Int.reduceLE, Int.reduceLT, Int.reduceBEq, Int.reduceBNe, Int.reduceNeg, Int.reduceAdd, Int.reduceSub, Int.reduceMul, reduceCtorEq, hh]
    exact WeakR.drop' rfl (by rfl)
theorem eqWatch_ok (r : Watch) (hl0 : r.Posts.length ≤ 281474976710656) (hl1 : r.Shocks.length ≤ 281474976710656) : Ctr Try.prog 68 [r.v, r.v] [] (.bool true) [] := by
  refine Ctr.intro Try.mixed Try.func68 rfl Try.okF68 ?_
  simp -implicitDefEqProofs -dsimp only [go_sem, Nat.reduceSub, Nat.reduceAdd, Nat.reduceMul, Nat.reduceLT, Nat.reduceLeDiff, Nat.reduceEqDiff, Nat.reduceDiv, Nat.reduceMod, Int.reduceToNat, Int.reduceLE, Int.reduceLT, Int.reduceBEq, Int.reduceBNe, Int.reduceNeg, Int.reduceAdd, Int.reduceSub, Int.reduceMul, reduceCtorEq, Try.ntmps68, Try.results68]
  simp -implicitDefEqProofs -dsimp only [go_sem, Nat.reduceSub, Nat.reduceAdd, Nat.reduceMul, Nat.reduceLT, Nat.reduceLeDiff, Nat.reduceEqDiff, Nat.reduceDiv, Nat.reduceMod, Int.reduceToNat, Int.reduceLE, Int.reduceLT, Int.reduceBEq, Int.reduceBNe, Int.reduceNeg, Int.reduceAdd, Int.reduceSub, Int.reduceMul, reduceCtorEq, Watch.v]
  (first | refine callT.at (eqPostS_ok r.Posts hl0) ⟨leA, leA, trivial⟩ ?_ | refine callS.at (eqPostS_ok r.Posts hl0) ⟨leA, leA, trivial⟩ ?_)
  simp -implicitDefEqProofs -dsimp only [go_sem, Nat.reduceSub, Nat.reduceAdd, Nat.reduceMul, Nat.reduceLT, Nat.reduceLeDiff, Nat.reduceEqDiff, Nat.reduceDiv, Nat.reduceMod, Int.reduceToNat, Int.reduceLE, Int.reduceLT, Int.reduceBEq, Int.reduceBNe, Int.reduceNeg, Int.reduceAdd, Int.reduceSub, Int.reduceMul, reduceCtorEq]
  (first | refine callT.at (eqShockS_ok r.Shocks hl1) ⟨leA, leA, trivial⟩ ?_ | refine callS.at (eqShockS_ok r.Shocks hl1) ⟨leA, leA, trivial⟩ ?_)
  simp -implicitDefEqProofs -dsimp only [go_sem, Nat.reduceSub, Nat.reduceAdd, Nat.reduceMul, Nat.reduceLT, Nat.reduceLeDiff, Nat.reduceEqDiff, Nat.reduceDiv, Nat.reduceMod, Int.reduceToNat, Int.reduceLE, Int.reduceLT, Int.reduceBEq, Int.reduceBNe, Int.reduceNeg, Int.reduceAdd, Int.reduceSub, Int.reduceMul, reduceCtorEq]
  exact WeakR.drop' rfl (by rfl)
theorem markWatch_ok (r : Watch) (kk : Int) (hl0 : r.Posts.length ≤ 16777216) (hl1 : r.Shocks.length ≤ 16777216) (hk : 0 ≤ kk) (hk2 : kk ≤ 16777216) : Ctr Try.prog 69 [.agg [.int .i64 r.Now, .osl 0 0 r.Posts.length 3, .osl 1 0 r.Shocks.length 5, .int .i64 r.Next, .int .i64 r.Archived], .int .i64 kk] [some (rows Post.cs r.Posts), some (rows Shock.cs r.Shocks)] (.int .i64 (kk + 3 * (r.Posts.length : Int) + 5 * (r.Shocks.length : Int))) [some (rows Post.cs (Post.marks (kk) r.Posts.length)), some (rows Shock.cs (Shock.marks (kk + 3 * (r.Posts.length : Int)) r.Shocks.length))] := by
  refine Ctr.intro Try.mixed Try.func69 rfl Try.okF69 ?_
  simp -implicitDefEqProofs -dsimp only [go_sem, Nat.reduceSub, Nat.reduceAdd, Nat.reduceMul, Nat.reduceLT, Nat.reduceLeDiff, Nat.reduceEqDiff, Nat.reduceDiv, Nat.reduceMod, Int.reduceToNat, Int.reduceLE, Int.reduceLT, Int.reduceBEq, Int.reduceBNe, Int.reduceNeg, Int.reduceAdd, Int.reduceSub, Int.reduceMul, reduceCtorEq, Try.ntmps69, Try.results69]
  refine callS.lend [0] false ( markPostS_ok r.Posts (kk) (by omega) (by omega) (by omega)) (by decide) ⟨leO, leO, trivial⟩ lendA ( grown_one (by simp)) (.inl rfl) ?_
  simp -implicitDefEqProofs -dsimp only [go_sem, Nat.reduceSub, Nat.reduceAdd, Nat.reduceMul, Nat.reduceLT, Nat.reduceLeDiff, Nat.reduceEqDiff, Nat.reduceDiv, Nat.reduceMod, Int.reduceToNat, Int.reduceLE, Int.reduceLT, Int.reduceBEq, Int.reduceBNe, Int.reduceNeg, Int.reduceAdd, Int.reduceSub, Int.reduceMul, reduceCtorEq]
  refine callS.lend [1] false ( markShockS_ok r.Shocks (kk + 3 * (r.Posts.length : Int)) (by omega) (by omega) (by omega)) (by decide) ⟨leO, leO, trivial⟩ lendA ( grown_one (by simp)) (.inl rfl) ?_
  simp -implicitDefEqProofs -dsimp only [go_sem, Nat.reduceSub, Nat.reduceAdd, Nat.reduceMul, Nat.reduceLT, Nat.reduceLeDiff, Nat.reduceEqDiff, Nat.reduceDiv, Nat.reduceMod, Int.reduceToNat, Int.reduceLE, Int.reduceLT, Int.reduceBEq, Int.reduceBNe, Int.reduceNeg, Int.reduceAdd, Int.reduceSub, Int.reduceMul, reduceCtorEq]
  refine WeakR.pick [0, 1] (by decide) (by decide) (.inl rfl) ?_
  simp only [pickH, List.map_cons, List.map_nil, pickB, List.getElem?_cons_zero, List.getElem?_cons_succ, map_ren_rows]
theorem markWatch_on_ok (r : Watch) (kk : Int) (hl0 : r.Posts.length ≤ 16777216) (hk : 0 ≤ kk) (hk2 : kk ≤ 16777216) : Ctr Try.prog 69 [.agg [.int .i64 r.Now, .osl 0 0 r.Posts.length 3, .sl 0 5 [], .int .i64 r.Next, .int .i64 r.Archived], .int .i64 kk] [some (rows Post.cs r.Posts)] (.int .i64 (kk + 3 * (r.Posts.length : Int))) [some (rows Post.cs (Post.marks (kk) r.Posts.length))] := by
  refine Ctr.intro Try.mixed Try.func69 rfl Try.okF69 ?_
  simp -implicitDefEqProofs -dsimp only [go_sem, Nat.reduceSub, Nat.reduceAdd, Nat.reduceMul, Nat.reduceLT, Nat.reduceLeDiff, Nat.reduceEqDiff, Nat.reduceDiv, Nat.reduceMod, Int.reduceToNat, Int.reduceLE, Int.reduceLT, Int.reduceBEq, Int.reduceBNe, Int.reduceNeg, Int.reduceAdd, Int.reduceSub, Int.reduceMul, reduceCtorEq, Try.ntmps69, Try.results69]
  refine callS.lend [0] false ( markPostS_ok r.Posts (kk) (by omega) (by omega) (by omega)) (by decide) ⟨leO, leO, trivial⟩ lendA ( grown_one (by simp)) (.inl rfl) ?_
  simp -implicitDefEqProofs -dsimp only [go_sem, Nat.reduceSub, Nat.reduceAdd, Nat.reduceMul, Nat.reduceLT, Nat.reduceLeDiff, Nat.reduceEqDiff, Nat.reduceDiv, Nat.reduceMod, Int.reduceToNat, Int.reduceLE, Int.reduceLT, Int.reduceBEq, Int.reduceBNe, Int.reduceNeg, Int.reduceAdd, Int.reduceSub, Int.reduceMul, reduceCtorEq]
  (first | refine callT.at (markShockS_nil (kk + 3 * (r.Posts.length : Int))) ⟨leA, leA, trivial⟩ ?_ | refine callS.at (markShockS_nil (kk + 3 * (r.Posts.length : Int))) ⟨leA, leA, trivial⟩ ?_)
  simp -implicitDefEqProofs -dsimp only [go_sem, Nat.reduceSub, Nat.reduceAdd, Nat.reduceMul, Nat.reduceLT, Nat.reduceLeDiff, Nat.reduceEqDiff, Nat.reduceDiv, Nat.reduceMod, Int.reduceToNat, Int.reduceLE, Int.reduceLT, Int.reduceBEq, Int.reduceBNe, Int.reduceNeg, Int.reduceAdd, Int.reduceSub, Int.reduceMul, reduceCtorEq]
  refine WeakR.pick [0] (by decide) (by decide) (.inl rfl) ?_
  simp only [pickH, List.map_cons, List.map_nil, pickB, List.getElem?_cons_zero, List.getElem?_cons_succ, map_ren_rows]
theorem markWatch_no_ok (r : Watch) (kk : Int) (hl1 : r.Shocks.length ≤ 16777216) (hk : 0 ≤ kk) (hk2 : kk ≤ 16777216) : Ctr Try.prog 69 [.agg [.int .i64 r.Now, .sl 0 3 [], .osl 0 0 r.Shocks.length 5, .int .i64 r.Next, .int .i64 r.Archived], .int .i64 kk] [some (rows Shock.cs r.Shocks)] (.int .i64 (kk + 5 * (r.Shocks.length : Int))) [some (rows Shock.cs (Shock.marks (kk) r.Shocks.length))] := by
  refine Ctr.intro Try.mixed Try.func69 rfl Try.okF69 ?_
  simp -implicitDefEqProofs -dsimp only [go_sem, Nat.reduceSub, Nat.reduceAdd, Nat.reduceMul, Nat.reduceLT, Nat.reduceLeDiff, Nat.reduceEqDiff, Nat.reduceDiv, Nat.reduceMod, Int.reduceToNat, Int.reduceLE, Int.reduceLT, Int.reduceBEq, Int.reduceBNe, Int.reduceNeg, Int.reduceAdd, Int.reduceSub, Int.reduceMul, reduceCtorEq, Try.ntmps69, Try.results69]
  (first | refine callT.at (markPostS_nil (kk)) ⟨leA, leA, trivial⟩ ?_ | refine callS.at (markPostS_nil (kk)) ⟨leA, leA, trivial⟩ ?_)
  simp -implicitDefEqProofs -dsimp only [go_sem, Nat.reduceSub, Nat.reduceAdd, Nat.reduceMul, Nat.reduceLT, Nat.reduceLeDiff, Nat.reduceEqDiff, Nat.reduceDiv, Nat.reduceMod, Int.reduceToNat, Int.reduceLE, Int.reduceLT, Int.reduceBEq, Int.reduceBNe, Int.reduceNeg, Int.reduceAdd, Int.reduceSub, Int.reduceMul, reduceCtorEq]
  refine callS.lend [0] false ( markShockS_ok r.Shocks (kk) (by omega) (by omega) (by omega)) (by decide) ⟨leO, leO, trivial⟩ lendA ( grown_one (by simp)) (.inl rfl) ?_
  simp -implicitDefEqProofs -dsimp only [go_sem, Nat.reduceSub, Nat.reduceAdd, Nat.reduceMul, Nat.reduceLT, Nat.reduceLeDiff, Nat.reduceEqDiff, Nat.reduceDiv, Nat.reduceMod, Int.reduceToNat, Int.reduceLE, Int.reduceLT, Int.reduceBEq, Int.reduceBNe, Int.reduceNeg, Int.reduceAdd, Int.reduceSub, Int.reduceMul, reduceCtorEq]
  refine WeakR.pick [0] (by decide) (by decide) (.inl rfl) ?_
  simp only [pickH, List.map_cons, List.map_nil, pickB, List.getElem?_cons_zero, List.getElem?_cons_succ, map_ren_rows]
theorem markWatch_nn_ok (r : Watch) (kk : Int)  (hk : 0 ≤ kk) (hk2 : kk ≤ 16777216) : Ctr Try.prog 69 [.agg [.int .i64 r.Now, .sl 0 3 [], .sl 0 5 [], .int .i64 r.Next, .int .i64 r.Archived], .int .i64 kk] [] (.int .i64 (kk)) [] := by
  refine Ctr.intro Try.mixed Try.func69 rfl Try.okF69 ?_
  simp -implicitDefEqProofs -dsimp only [go_sem, Nat.reduceSub, Nat.reduceAdd, Nat.reduceMul, Nat.reduceLT, Nat.reduceLeDiff, Nat.reduceEqDiff, Nat.reduceDiv, Nat.reduceMod, Int.reduceToNat, Int.reduceLE, Int.reduceLT, Int.reduceBEq, Int.reduceBNe, Int.reduceNeg, Int.reduceAdd, Int.reduceSub, Int.reduceMul, reduceCtorEq, Try.ntmps69, Try.results69]
  (first | refine callT.at (markPostS_nil (kk)) ⟨leA, leA, trivial⟩ ?_ | refine callS.at (markPostS_nil (kk)) ⟨leA, leA, trivial⟩ ?_)
  simp -implicitDefEqProofs -dsimp only [go_sem, Nat.reduceSub, Nat.reduceAdd, Nat.reduceMul, Nat.reduceLT, Nat.reduceLeDiff, Nat.reduceEqDiff, Nat.reduceDiv, Nat.reduceMod, Int.reduceToNat, Int.reduceLE, Int.reduceLT, Int.reduceBEq, Int.reduceBNe, Int.reduceNeg, Int.reduceAdd, Int.reduceSub, Int.reduceMul, reduceCtorEq]
  (first | refine callT.at (markShockS_nil (kk)) ⟨leA, leA, trivial⟩ ?_ | refine callS.at (markShockS_nil (kk)) ⟨leA, leA, trivial⟩ ?_)
  simp -implicitDefEqProofs -dsimp only [go_sem, Nat.reduceSub, Nat.reduceAdd, Nat.reduceMul, Nat.reduceLT, Nat.reduceLeDiff, Nat.reduceEqDiff, Nat.reduceDiv, Nat.reduceMod, Int.reduceToNat, Int.reduceLE, Int.reduceLT, Int.reduceBEq, Int.reduceBNe, Int.reduceNeg, Int.reduceAdd, Int.reduceSub, Int.reduceMul, reduceCtorEq]
  refine WeakR.pick [] (by decide) (by decide) (.inl rfl) ?_
  simp only [pickH, List.map_cons, List.map_nil, pickB, List.getElem?_cons_zero, List.getElem?_cons_succ, map_ren_rows]
theorem heldWatch_ok (r : Watch) (n0 n1 : Nat) (kk : Int) (hn0 : n0 ≤ 16777216) (hn1 : n1 ≤ 16777216) (hk : 0 ≤ kk) (hk2 : kk ≤ 16777216) : Ctr Try.prog 70 [.agg [.int .i64 r.Now, .sl n0 3 (rows Post.cs (Post.marks (kk) n0)), .sl n1 5 (rows Shock.cs (Shock.marks (kk + 3 * (n0 : Int)) n1)), .int .i64 r.Next, .int .i64 r.Archived], .int .i64 kk] [] (.int .i64 (kk + 3 * (n0 : Int) + 5 * (n1 : Int))) [] := by
  refine Ctr.intro Try.mixed Try.func70 rfl Try.okF70 ?_
  simp -implicitDefEqProofs -dsimp only [go_sem, Nat.reduceSub, Nat.reduceAdd, Nat.reduceMul, Nat.reduceLT, Nat.reduceLeDiff, Nat.reduceEqDiff, Nat.reduceDiv, Nat.reduceMod, Int.reduceToNat, Int.reduceLE, Int.reduceLT, Int.reduceBEq, Int.reduceBNe, Int.reduceNeg, Int.reduceAdd, Int.reduceSub, Int.reduceMul, reduceCtorEq, Try.ntmps70, Try.results70]
  have c0 := heldPostS_ok n0 (kk) (by omega) (by omega) (by omega)
  simp only [Post.sl, Post.marks_len] at c0
  (first | refine callT.at (c0) ⟨leA, leA, trivial⟩ ?_ | refine callS.at (c0) ⟨leA, leA, trivial⟩ ?_)
  simp -implicitDefEqProofs -dsimp only [go_sem, Nat.reduceSub, Nat.reduceAdd, Nat.reduceMul, Nat.reduceLT, Nat.reduceLeDiff, Nat.reduceEqDiff, Nat.reduceDiv, Nat.reduceMod, Int.reduceToNat, Int.reduceLE, Int.reduceLT, Int.reduceBEq, Int.reduceBNe, Int.reduceNeg, Int.reduceAdd, Int.reduceSub, Int.reduceMul, reduceCtorEq]
  refine condT.split (fun hh => absurd hh (by simp; omega)) (fun hh => ?_)
  simp -implicitDefEqProofs -dsimp only [go_sem, Nat.reduceSub, Nat.reduceAdd, Nat.reduceMul, Nat.reduceLT, Nat.reduceLeDiff, Nat.reduceEqDiff, Nat.reduceDiv, Nat.reduceMod, Int.reduceToNat, Int.reduceLE, Int.reduceLT, Int.reduceBEq, Int.reduceBNe, Int.reduceNeg, Int.reduceAdd, Int.reduceSub, Int.reduceMul, reduceCtorEq, hh]
  have c1 := heldShockS_ok n1 (kk + 3 * (n0 : Int)) (by omega) (by omega) (by omega)
  simp only [Shock.sl, Shock.marks_len] at c1
  (first | refine callT.at (c1) ⟨leA, leA, trivial⟩ ?_ | refine callS.at (c1) ⟨leA, leA, trivial⟩ ?_)
  simp -implicitDefEqProofs -dsimp only [go_sem, Nat.reduceSub, Nat.reduceAdd, Nat.reduceMul, Nat.reduceLT, Nat.reduceLeDiff, Nat.reduceEqDiff, Nat.reduceDiv, Nat.reduceMod, Int.reduceToNat, Int.reduceLE, Int.reduceLT, Int.reduceBEq, Int.reduceBNe, Int.reduceNeg, Int.reduceAdd, Int.reduceSub, Int.reduceMul, reduceCtorEq]
  refine condT.split (fun hh => absurd hh (by simp; omega)) (fun hh => ?_)
  simp -implicitDefEqProofs -dsimp only [go_sem, Nat.reduceSub, Nat.reduceAdd, Nat.reduceMul, Nat.reduceLT, Nat.reduceLeDiff, Nat.reduceEqDiff, Nat.reduceDiv, Nat.reduceMod, Int.reduceToNat, Int.reduceLE, Int.reduceLT, Int.reduceBEq, Int.reduceBNe, Int.reduceNeg, Int.reduceAdd, Int.reduceSub, Int.reduceMul, reduceCtorEq, hh]
  exact WeakR.drop' rfl (by rfl)
end Go.Proofs
