/-
  Watches: which posts are up, how many shocks are in each state, which post is down longest. Conditions: none.
-/
import Derived.Test.YtekhnmibkkinaaaF25
import Derived.Test.YtekhnmibkkinaaaF24e
set_option linter.unusedSimpArgs false
set_option linter.unusedVariables false
set_option maxRecDepth 100000
set_option maxHeartbeats 1000000
namespace Go.Proofs
open Go.Lv
def upTo (L : List Post) (i : Nat) : List Int := ((L.take i).filter Post.Up).map Post.Station
theorem upTo_succ {L : List Post} {i : Nat} (hi : i < L.length) : upTo L (i + 1) = upTo L i ++ if L[i].Up then [L[i].Station] else [] := by
  rw [upTo, List.take_succ_eq_append_getElem hi, List.filter_append, List.map_append]
  congr 1
  cases h : L[i].Up <;> simp [h]
theorem upTo_len (L : List Post) (i : Nat) : (upTo L i).length ≤ i := by
  rw [upTo, List.length_map]
  exact Nat.le_trans (List.length_filter_le _ _) (by simp; omega)
def upR (w : Watch) : Option (List Int) := if wB w = true then some (upTo w.Posts w.Posts.length) else none
theorem watchUp_ok (w : Watch) (hp : w.Posts.length ≤ 16777216) : Ctr Try.prog 214 [w.v] [] (.osl 0 0 (upTo w.Posts w.Posts.length).length 1) [some (rows IntS.cs (upTo w.Posts w.Posts.length))] := by
  refine Ctr.intro Try.mixed Try.func214 rfl Try.okF214 ?_
  simp -implicitDefEqProofs -dsimp only [go_sem, Nat.reduceSub, Nat.reduceAdd, Nat.reduceMul, Nat.reduceLT, Nat.reduceLeDiff, Nat.reduceEqDiff, Nat.reduceDiv, Nat.reduceMod, Int.reduceToNat, Int.reduceLE, Int.reduceLT, Int.reduceBEq, Int.reduceBNe, Int.reduceNeg, Int.reduceAdd, Int.reduceSub, Int.reduceMul, reduceCtorEq, Try.ntmps214, Try.results214]
  simp -implicitDefEqProofs -dsimp only [go_sem, Nat.reduceSub, Nat.reduceAdd, Nat.reduceMul, Nat.reduceLT, Nat.reduceLeDiff, Nat.reduceEqDiff, Nat.reduceDiv, Nat.reduceMod, Int.reduceToNat, Int.reduceLE, Int.reduceLT, Int.reduceBEq, Int.reduceBNe, Int.reduceNeg, Int.reduceAdd, Int.reduceSub, Int.reduceMul, reduceCtorEq, Watch.v]
  refine LoopT.intro (fun i : Nat => i ≤ w.Posts.length) (fun i => ⟨[.undef, .undef, .undef, .osl 1 0 (upTo w.Posts i).length 1, .undef, .undef, .undef, .undef, Post.sl w.Posts, .int .i64 w.Posts.length, .int .i64 i, .undef, .undef, .undef, .undef, .undef, .undef, .undef, .undef, .undef, .undef, .undef, .undef], [some w.cs, some (rows IntS.cs (upTo w.Posts i))], 0⟩) (fun i => w.Posts.length - i) 0 (Nat.zero_le _) ?_ (fun i hi => ?_)
  · refine Weak.cut (2) (by simp) (by simp) ?_ ?_
    · simp [LeC, LeV, ren, cutF, upTo]
    · simp [cutH, cutB, ren, rows, upTo, Watch.cs]
  simp -implicitDefEqProofs -dsimp only [go_sem, Nat.reduceSub, Nat.reduceAdd, Nat.reduceMul, Nat.reduceLT, Nat.reduceLeDiff, Nat.reduceEqDiff, Nat.reduceDiv, Nat.reduceMod, Int.reduceToNat, Int.reduceLE, Int.reduceLT, Int.reduceBEq, Int.reduceBNe, Int.reduceNeg, Int.reduceAdd, Int.reduceSub, Int.reduceMul, reduceCtorEq]
  refine condT.split (fun h1 => ?_) (fun h1 => ?_)
  · simp -implicitDefEqProofs -dsimp only [go_sem, Nat.reduceSub, Nat.reduceAdd, Nat.reduceMul, Nat.reduceLT, Nat.reduceLeDiff, Nat.reduceEqDiff, Nat.reduceDiv, Nat.reduceMod, Int.reduceToNat, Int.reduceLE, Int.reduceLT, Int.reduceBEq, Int.reduceBNe, Int.reduceNeg, Int.reduceAdd, Int.reduceSub, Int.reduceMul, reduceCtorEq, h1]
    have hi' : i < w.Posts.length := by simpa using h1
    have h5 := Post.csl w.Posts[i]
    have hr := rows_at Post.csl hi'
    have hul := upTo_len w.Posts i
    (repeat ((repeat1' (first | simp -implicitDefEqProofs -dsimp only [go_sem, Nat.reduceSub, Nat.reduceAdd, Nat.reduceMul, Nat.reduceLT, Nat.reduceLeDiff, Nat.reduceEqDiff, Nat.reduceDiv, Nat.reduceMod, Int.reduceToNat, Int.reduceLE, Int.reduceLT, Int.reduceBEq, Int.reduceBNe, Int.reduceNeg, Int.reduceAdd, Int.reduceSub, Int.reduceMul, reduceCtorEq, hr, Post.cs] | simp -implicitDefEqProofs -dsimp (disch := omega) only [wrap_i64])); repeat (with_reducible refine sideA ?_)))
    refine condT.split (fun h6 => ?_) (fun h6 => ?_) <;> simp -implicitDefEqProofs -dsimp only [go_sem, Nat.reduceSub, Nat.reduceAdd, Nat.reduceMul, Nat.reduceLT, Nat.reduceLeDiff, Nat.reduceEqDiff, Nat.reduceDiv, Nat.reduceMod, Int.reduceToNat, Int.reduceLE, Int.reduceLT, Int.reduceBEq, Int.reduceBNe, Int.reduceNeg, Int.reduceAdd, Int.reduceSub, Int.reduceMul, reduceCtorEq, h6]
    · (repeat ((repeat1' (first | simp -implicitDefEqProofs -dsimp only [go_sem, Nat.reduceSub, Nat.reduceAdd, Nat.reduceMul, Nat.reduceLT, Nat.reduceLeDiff, Nat.reduceEqDiff, Nat.reduceDiv, Nat.reduceMod, Int.reduceToNat, Int.reduceLE, Int.reduceLT, Int.reduceBEq, Int.reduceBNe, Int.reduceNeg, Int.reduceAdd, Int.reduceSub, Int.reduceMul, reduceCtorEq, hr, Post.cs, Watch.cs, rows_length, Nat.mul_one, rows_cell] | simp -implicitDefEqProofs -dsimp (disch := omega) only [wrap_i64])); repeat (with_reducible refine sideA ?_)))
      refine ⟨i + 1, hi', ?_, by omega⟩
      refine Weak.cut (2) (by simp) (by simp) ?_ ?_
      · rw [upTo_succ hi', h6]
        simp [LeC, LeV, ren, cutF]
      · rw [upTo_succ hi', h6, if_pos rfl, ← rows_snoc]
        simp [cutH, cutB, map_ren_rows, killC, ren, IntS.cs, Watch.cs]
    · try (repeat1' (first | simp -implicitDefEqProofs -dsimp only [go_sem, Nat.reduceSub, Nat.reduceAdd, Nat.reduceMul, Nat.reduceLT, Nat.reduceLeDiff, Nat.reduceEqDiff, Nat.reduceDiv, Nat.reduceMod, Int.reduceToNat, Int.reduceLE, Int.reduceLT, Int.reduceBEq, Int.reduceBNe, Int.reduceNeg, Int.reduceAdd, Int.reduceSub, Int.reduceMul, reduceCtorEq] | simp -implicitDefEqProofs -dsimp (disch := omega) only [wrap_i64]))
      refine ⟨i + 1, hi', ?_, by omega⟩
      refine Weak.cut (2) (by simp) (by simp) ?_ ?_
      · rw [upTo_succ hi', h6]
        simp [LeC, LeV, ren, cutF]
      · rw [upTo_succ hi', h6]
        simp [cutH, cutB, map_ren_rows, ren, Watch.cs]
  · simp -implicitDefEqProofs -dsimp only [go_sem, Nat.reduceSub, Nat.reduceAdd, Nat.reduceMul, Nat.reduceLT, Nat.reduceLeDiff, Nat.reduceEqDiff, Nat.reduceDiv, Nat.reduceMod, Int.reduceToNat, Int.reduceLE, Int.reduceLT, Int.reduceBEq, Int.reduceBNe, Int.reduceNeg, Int.reduceAdd, Int.reduceSub, Int.reduceMul, reduceCtorEq, h1]
    have hi' : i = w.Posts.length := by simp at h1; omega
    subst hi'
    refine WeakR.pick [1] (by decide) (fun j hj => by omega) (.inl ?_) ?_
    · first | rfl | (simp [ren, pickF, posOf]; done)
    · simp only [pickH, List.map_cons, List.map_nil, pickB, List.getElem?_cons_zero, List.getElem?_cons_succ, map_ren_rows]
/-- How many shocks are in each state. -/
def statesTo (L : List Shock) : List Int := L.foldl (fun C x => bump C x.State.toNat) [0, 0, 0, 0]
theorem statesTo_succ {L : List Shock} {i : Nat} (hi : i < L.length) : statesTo (L.take (i + 1)) = bump (statesTo (L.take i)) L[i].State.toNat := by
  rw [List.take_succ_eq_append_getElem hi, statesTo, List.foldl_append]; rfl
theorem statesTo_len {L : List Shock} : ∀ i, i ≤ L.length → (statesTo (L.take i)).length = 4
  | 0, _ => by simp [statesTo]
  | i + 1, hi => by rw [statesTo_succ (by omega : i < L.length), bump_len, statesTo_len i (by omega)]
theorem statesTo_bd {L : List Shock} : ∀ i, i ≤ L.length → ∀ x ∈ statesTo (L.take i), 0 ≤ x ∧ x ≤ i
  | 0, _ => by intro x hx; simp [statesTo] at hx; omega
  | i + 1, hi => by
    intro x hx
    rw [statesTo_succ (by omega : i < L.length), bump] at hx
    have ih := statesTo_bd (L := L) i (by omega)
    rcases List.mem_or_eq_of_mem_set hx with h | h
    · have := ih x h; omega
    · subst h
      rw [List.getD_eq_getElem?_getD]
      cases h : (statesTo (L.take i))[(L[i]'(by omega)).State.toNat]? with
      | none => simp; omega
      | some y => have := ih y (List.mem_of_getElem? h); simp; omega
def statesR (w : Watch) : Option (List Int) := if wB w = true then some (statesTo w.Shocks) else none
end Go.Proofs
