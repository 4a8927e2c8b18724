/-
  QuakeRow: the pure form of its values, and what the plain helpers do with it. Conditions: none.
-/
import Derived.Test.YtekhnmibkkinaaaLvFacts
import Derived.Test.YtekhnmibkkinaaaLvR
set_option linter.unusedSimpArgs false
set_option linter.unusedVariables false
set_option maxRecDepth 100000
namespace Go.Proofs
open Go.Lv
structure QuakeRow where
  Id : Int
  Tick : Int
  X : Int
  Y : Int
  Deep : Int
  Size : Int
  Grade : Int
def QuakeRow.cs (r : QuakeRow) : List V := [.int .i64 r.Id, .int .i64 r.Tick, .int .i64 r.X, .int .i64 r.Y, .int .i64 r.Deep, .int .i64 r.Size, .int .i64 r.Grade]
def QuakeRow.v (r : QuakeRow) : V := .agg [.int .i64 r.Id, .int .i64 r.Tick, .int .i64 r.X, .int .i64 r.Y, .int .i64 r.Deep, .int .i64 r.Size, .int .i64 r.Grade]
theorem QuakeRow.csl (a : QuakeRow) : a.cs.length = 7 := rfl
theorem QuakeRow.csp (a : QuakeRow) : a.cs.all (noOwn 2) = true := rfl
instance : FlatP QuakeRow.cs 7 := ⟨fun _ => rfl, fun _ d => by cases d <;> rfl, fun _ => rfl, fun _ => rfl⟩
def QuakeRow.ok (r : QuakeRow) : Prop := i64R r.Id ∧ i64R r.Tick ∧ i64R r.X ∧ i64R r.Y ∧ i64R r.Deep ∧ i64R r.Size ∧ i64R r.Grade
abbrev QuakeRow.rows (L : List QuakeRow) : List V := Go.Lv.rows QuakeRow.cs L
abbrev QuakeRow.sl (L : List QuakeRow) : V := .sl L.length 7 (Go.Lv.rows QuakeRow.cs L)
abbrev QuakeRow.zs : List V := [.int .i64 0, .int .i64 0, .int .i64 0, .int .i64 0, .int .i64 0, .int .i64 0, .int .i64 0]
/-- What a mark writes. -/
def QuakeRow.mk1 (k : Int) : QuakeRow := ⟨k, k + 1, k + 1 + 1, k + 1 + 1 + 1, k + 1 + 1 + 1 + 1, k + 1 + 1 + 1 + 1 + 1, k + 1 + 1 + 1 + 1 + 1 + 1⟩
def QuakeRow.marks (k : Int) (n : Nat) : List QuakeRow := (List.range n).map fun i : Nat => QuakeRow.mk1 (k + 7 * (i : Int))
@[simp] theorem QuakeRow.marks_len (k : Int) (n : Nat) : (QuakeRow.marks k n).length = n := by simp [QuakeRow.marks]
theorem QuakeRow.marks_succ (k : Int) (n : Nat) : QuakeRow.marks k (n + 1) = QuakeRow.marks k n ++ [QuakeRow.mk1 (k + 7 * (n : Int))] := by simp [QuakeRow.marks, List.range_succ]
theorem QuakeRow.marks_get (k : Int) (n : Nat) {i : Nat} (hi : i < (QuakeRow.marks k n).length) : (QuakeRow.marks k n)[i] = QuakeRow.mk1 (k + 7 * (i : Int)) := by simp [QuakeRow.marks]
theorem toQuakeRow_ok (r : QuakeRow) : Ctr Try.prog 113 [r.v] [] r.v [] := by
  refine Ctr.intro Try.mixed Try.func113 rfl Try.okF113 ?_
  simp -implicitDefEqProofs -dsimp only [go_sem, Nat.reduceSub, Nat.reduceAdd, Nat.reduceMul, Nat.reduceLT, Nat.reduceLeDiff, Nat.reduceEqDiff, Nat.reduceDiv, Nat.reduceMod, Int.reduceToNat, Int.reduceLE, Int.reduceLT, Int.reduceBEq, Int.reduceBNe, Int.reduceNeg, Int.reduceAdd, Int.reduceSub, Int.reduceMul, reduceCtorEq, Try.ntmps113, Try.results113]
  simp -implicitDefEqProofs -dsimp only [go_sem, Nat.reduceSub, Nat.reduceAdd, Nat.reduceMul, Nat.reduceLT, Nat.reduceLeDiff, Nat.reduceEqDiff, Nat.reduceDiv, Nat.reduceMod, Int.reduceToNat, Int.reduceLE, Int.reduceLT, Int.reduceBEq, Int.reduceBNe, Int.reduceNeg, Int.reduceAdd, Int.reduceSub, Int.reduceMul, reduceCtorEq, QuakeRow.v]
  exact WeakR.drop' rfl rfl
theorem toQuakeRowS_ok (L : List QuakeRow) (hl : L.length ≤ 1048576) : Ctr Try.prog 39 [QuakeRow.sl L] [] (.osl 0 0 L.length 7) [some (rows QuakeRow.cs L)] := by
  refine Ctr.intro Try.mixed Try.func39 rfl Try.okF39 ?_
  simp -implicitDefEqProofs -dsimp only [go_sem, Nat.reduceSub, Nat.reduceAdd, Nat.reduceMul, Nat.reduceLT, Nat.reduceLeDiff, Nat.reduceEqDiff, Nat.reduceDiv, Nat.reduceMod, Int.reduceToNat, Int.reduceLE, Int.reduceLT, Int.reduceBEq, Int.reduceBNe, Int.reduceNeg, Int.reduceAdd, Int.reduceSub, Int.reduceMul, reduceCtorEq, Try.ntmps39, Try.results39]
  refine ⟨by omega, by omega, by omega, ?_⟩
  refine LoopT.intro (fun i : Nat => i ≤ L.length) (fun i => ⟨[QuakeRow.sl L, .undef, .undef, .osl 0 0 L.length 7, .int .i64 i, .undef, .undef, .undef, .undef, .undef, .undef, .undef, .undef, .undef, .undef, .undef, .undef, .undef, .undef, .undef, .undef, .undef, .undef], [some (filled QuakeRow.cs 7 QuakeRow.zs L i)], 0⟩) (fun i => L.length - i) 0 (Nat.zero_le _) ?_ (fun i hi => ?_)
  · refine Weak.cut (1) (by simp) (by simp) ?_ ?_
    · simp [LeC, LeV, ren, cutF]
    · rw [filled_zero]
      simp only [cutH, List.take, List.map]
      rw [cutB_rows (zrow_all rfl (by decide) _)]
  simp -implicitDefEqProofs -dsimp only [go_sem, Nat.reduceSub, Nat.reduceAdd, Nat.reduceMul, Nat.reduceLT, Nat.reduceLeDiff, Nat.reduceEqDiff, Nat.reduceDiv, Nat.reduceMod, Int.reduceToNat, Int.reduceLE, Int.reduceLT, Int.reduceBEq, Int.reduceBNe, Int.reduceNeg, Int.reduceAdd, Int.reduceSub, Int.reduceMul, reduceCtorEq]
  refine condT.split (fun h1 => ?_) (fun h1 => ?_)
  · simp -implicitDefEqProofs -dsimp only [go_sem, Nat.reduceSub, Nat.reduceAdd, Nat.reduceMul, Nat.reduceLT, Nat.reduceLeDiff, Nat.reduceEqDiff, Nat.reduceDiv, Nat.reduceMod, Int.reduceToNat, Int.reduceLE, Int.reduceLT, Int.reduceBEq, Int.reduceBNe, Int.reduceNeg, Int.reduceAdd, Int.reduceSub, Int.reduceMul, reduceCtorEq, h1]
    have hi' : i < L.length := by simpa using h1
    rw [rows_at QuakeRow.csl hi']
    refine ⟨by omega, by simp [QuakeRow.csl], ?_⟩
    (first | refine callT.at (toQuakeRow_ok L[i]) ⟨.inl rfl, trivial⟩ ?_ | refine callS.at (toQuakeRow_ok L[i]) ⟨.inl rfl, trivial⟩ ?_)
    simp -implicitDefEqProofs -dsimp only [go_sem, Nat.reduceSub, Nat.reduceAdd, Nat.reduceMul, Nat.reduceLT, Nat.reduceLeDiff, Nat.reduceEqDiff, Nat.reduceDiv, Nat.reduceMod, Int.reduceToNat, Int.reduceLE, Int.reduceLT, Int.reduceBEq, Int.reduceBNe, Int.reduceNeg, Int.reduceAdd, Int.reduceSub, Int.reduceMul, reduceCtorEq, QuakeRow.v]
    refine ⟨⟨by omega, by omega⟩, by rw [filled_len QuakeRow.csl hi]; omega, i + 1, hi', ?_, by omega⟩
    refine Weak.cut (1) (by simp) (by simp) ?_ ?_
    · rw [wrap_i64 (by omega) (by omega)]
      simp [LeC, LeV, ren, cutF]
    · have := filled_step (zs := QuakeRow.zs) QuakeRow.csl rfl hi'
      simp only [QuakeRow.cs] at this ⊢
      rw [this]
      simp only [cutH, List.take, List.map]
      rw [cutB_rows (filled_plain (by decide) rfl (fun a => by exact QuakeRow.csp a))]
  · simp -implicitDefEqProofs -dsimp only [go_sem, Nat.reduceSub, Nat.reduceAdd, Nat.reduceMul, Nat.reduceLT, Nat.reduceLeDiff, Nat.reduceEqDiff, Nat.reduceDiv, Nat.reduceMod, Int.reduceToNat, Int.reduceLE, Int.reduceLT, Int.reduceBEq, Int.reduceBNe, Int.reduceNeg, Int.reduceAdd, Int.reduceSub, Int.reduceMul, reduceCtorEq, h1]
    have hi' : i = L.length := by simp at h1; omega
    subst hi'
    rw [filled_all QuakeRow.csl (Nat.le_refl _)]
    exact WeakR.refl _ _ _
theorem szQuakeRowS_ok (L : List QuakeRow) (n : Int) (hl : L.length ≤ 9223372036854775807) (hn : 0 ≤ n) (hn2 : n ≤ 1048576) : Ctr Try.prog 37 [QuakeRow.sl L, .int .i64 n] [] (.int .i64 (if n < L.length then -1 else n - L.length)) [] := by
  refine Ctr.intro Try.mixed Try.func37 rfl Try.okF37 ?_
  simp -implicitDefEqProofs -dsimp only [go_sem, Nat.reduceSub, Nat.reduceAdd, Nat.reduceMul, Nat.reduceLT, Nat.reduceLeDiff, Nat.reduceEqDiff, Nat.reduceDiv, Nat.reduceMod, Int.reduceToNat, Int.reduceLE, Int.reduceLT, Int.reduceBEq, Int.reduceBNe, Int.reduceNeg, Int.reduceAdd, Int.reduceSub, Int.reduceMul, reduceCtorEq, Try.ntmps37, Try.results37]
  rw [wrap_i64 (by omega) (by omega)]
  refine condT.split (fun h1 => ?_) (fun h1 => ?_) <;> simp -implicitDefEqProofs -dsimp only [go_sem, Nat.reduceSub, Nat.reduceAdd, Nat.reduceMul, Nat.reduceLT, Nat.reduceLeDiff, Nat.reduceEqDiff, Nat.reduceDiv, Nat.reduceMod, Int.reduceToNat, Int.reduceLE, Int.reduceLT, Int.reduceBEq, Int.reduceBNe, Int.reduceNeg, Int.reduceAdd, Int.reduceSub, Int.reduceMul, reduceCtorEq, h1]
  · exact WeakR.of_eq (by simp at h1; rw [if_pos (by omega)])
  · exact WeakR.of_eq (by simp at h1; rw [if_neg (by omega)])
theorem eqQuakeRow_ok (r : QuakeRow) : Ctr Try.prog 122 [r.v, r.v] [] (.bool true) [] := by
  refine Ctr.intro Try.mixed Try.func122 rfl Try.okF122 ?_
  simp -implicitDefEqProofs -dsimp only [go_sem, Nat.reduceSub, Nat.reduceAdd, Nat.reduceMul, Nat.reduceLT, Nat.reduceLeDiff, Nat.reduceEqDiff, Nat.reduceDiv, Nat.reduceMod, Int.reduceToNat, Int.reduceLE, Int.reduceLT, Int.reduceBEq, Int.reduceBNe, Int.reduceNeg, Int.reduceAdd, Int.reduceSub, Int.reduceMul, reduceCtorEq, Try.ntmps122, Try.results122]
  simp -implicitDefEqProofs -dsimp only [go_sem, Nat.reduceSub, Nat.reduceAdd, Nat.reduceMul, Nat.reduceLT, Nat.reduceLeDiff, Nat.reduceEqDiff, Nat.reduceDiv, Nat.reduceMod, Int.reduceToNat, Int.reduceLE, Int.reduceLT, Int.reduceBEq, Int.reduceBNe, Int.reduceNeg, Int.reduceAdd, Int.reduceSub, Int.reduceMul, reduceCtorEq, QuakeRow.v, bne_self_eq_false, beq_self_eq_true, Bool.not_true]
  exact WeakR.drop' rfl rfl
theorem eqQuakeRowS_ok (L : List QuakeRow) (hl : L.length ≤ 281474976710656) : Ctr Try.prog 41 [QuakeRow.sl L, QuakeRow.sl L] [] (.bool true) [] := by
  refine Ctr.intro Try.mixed Try.func41 rfl Try.okF41 ?_
  simp -implicitDefEqProofs -dsimp only [go_sem, Nat.reduceSub, Nat.reduceAdd, Nat.reduceMul, Nat.reduceLT, Nat.reduceLeDiff, Nat.reduceEqDiff, Nat.reduceDiv, Nat.reduceMod, Int.reduceToNat, Int.reduceLE, Int.reduceLT, Int.reduceBEq, Int.reduceBNe, Int.reduceNeg, Int.reduceAdd, Int.reduceSub, Int.reduceMul, reduceCtorEq, Try.ntmps41, Try.results41]
  refine LoopT.intro (fun i : Nat => i ≤ L.length) (fun i => ⟨[QuakeRow.sl L, QuakeRow.sl L, .undef, .undef, .undef, .int .i64 i, .undef, .undef, .undef, .undef, .undef, .undef, .undef, .undef, .undef, .undef, .undef, .undef, .undef, .undef, .undef, .undef, .undef, .undef, .undef, .undef, .undef], [], 0⟩) (fun i => L.length - i) 0 (Nat.zero_le _) ?_ (fun i hi => ?_)
  · refine Weak.cut (0) (by simp) (by simp) ?_ ?_
    · simp [LeC, LeV, ren, cutF]
    · rfl
  simp -implicitDefEqProofs -dsimp only [go_sem, Nat.reduceSub, Nat.reduceAdd, Nat.reduceMul, Nat.reduceLT, Nat.reduceLeDiff, Nat.reduceEqDiff, Nat.reduceDiv, Nat.reduceMod, Int.reduceToNat, Int.reduceLE, Int.reduceLT, Int.reduceBEq, Int.reduceBNe, Int.reduceNeg, Int.reduceAdd, Int.reduceSub, Int.reduceMul, reduceCtorEq]
  refine condT.split (fun h1 => ?_) (fun h1 => ?_)
  · simp -implicitDefEqProofs -dsimp only [go_sem, Nat.reduceSub, Nat.reduceAdd, Nat.reduceMul, Nat.reduceLT, Nat.reduceLeDiff, Nat.reduceEqDiff, Nat.reduceDiv, Nat.reduceMod, Int.reduceToNat, Int.reduceLE, Int.reduceLT, Int.reduceBEq, Int.reduceBNe, Int.reduceNeg, Int.reduceAdd, Int.reduceSub, Int.reduceMul, reduceCtorEq, h1]
    have hi' : i < L.length := by simpa using h1
    rw [rows_at QuakeRow.csl hi']
    have h5 := QuakeRow.csl L[i]
    refine ⟨by kernel_rfl, ⟨by omega, by omega⟩, by omega, ⟨by omega, by omega⟩, by omega, ?_⟩
    (first | refine callT.at (eqQuakeRow_ok L[i]) ⟨.inl rfl, .inl rfl, trivial⟩ ?_ | refine callS.at (eqQuakeRow_ok L[i]) ⟨.inl rfl, .inl rfl, trivial⟩ ?_)
    simp -implicitDefEqProofs -dsimp only [go_sem, Nat.reduceSub, Nat.reduceAdd, Nat.reduceMul, Nat.reduceLT, Nat.reduceLeDiff, Nat.reduceEqDiff, Nat.reduceDiv, Nat.reduceMod, Int.reduceToNat, Int.reduceLE, Int.reduceLT, Int.reduceBEq, Int.reduceBNe, Int.reduceNeg, Int.reduceAdd, Int.reduceSub, Int.reduceMul, reduceCtorEq]
    refine ⟨i + 1, hi', ?_, by omega⟩
    refine Weak.cut (0) (by simp) (by simp) ?_ ?_
    · rw [wrap_i64 (by omega) (by omega)]
      simp [LeC, LeV, ren, cutF]
    · rfl
  · simp -implicitDefEqProofs -dsimp only [go_sem, Nat.reduceSub, Nat.reduceAdd, Nat.reduceMul, Nat.reduceLT, Nat.reduceLeDiff, Nat.reduceEqDiff, Nat.reduceDiv, Nat.reduceMod, Int.reduceToNat, Int.reduceLE, Int.reduceLT, Int.reduceBEq, Int.reduceBNe, Int.reduceNeg, Int.reduceAdd, Int.reduceSub, Int.reduceMul, reduceCtorEq, h1]
    exact WeakR.refl _ _ _
theorem markQuakeRowS_ok (L : List QuakeRow) (kk : Int) (hl : L.length ≤ 281474976710656) (hk : 0 ≤ kk) (hk2 : kk ≤ 281474976710656) : Ctr Try.prog 42 [.osl 0 0 L.length 7, .int .i64 kk] [some (rows QuakeRow.cs L)] (.int .i64 (kk + 7 * L.length)) [some (rows QuakeRow.cs (QuakeRow.marks kk L.length))] := by
  refine Ctr.intro Try.mixed Try.func42 rfl Try.okF42 ?_
  simp -implicitDefEqProofs -dsimp only [go_sem, Nat.reduceSub, Nat.reduceAdd, Nat.reduceMul, Nat.reduceLT, Nat.reduceLeDiff, Nat.reduceEqDiff, Nat.reduceDiv, Nat.reduceMod, Int.reduceToNat, Int.reduceLE, Int.reduceLT, Int.reduceBEq, Int.reduceBNe, Int.reduceNeg, Int.reduceAdd, Int.reduceSub, Int.reduceMul, reduceCtorEq, Try.ntmps42, Try.results42]
  refine LoopT.intro (fun i : Nat => i ≤ L.length) (fun i => ⟨[.osl 0 0 L.length 7, .int .i64 (kk + 7 * (i : Int)), .undef, .undef, .undef, .int .i64 i, .undef, .undef, .undef, .undef, .undef, .undef, .undef, .undef, .undef, .undef, .undef, .undef, .undef, .undef, .undef, .undef, .undef, .undef, .undef, .undef, .undef, .undef, .undef, .undef, .undef, .undef, .undef, .undef, .undef, .undef, .undef, .undef, .undef, .undef, .undef, .undef, .undef, .undef, .undef, .undef, .undef, .undef, .undef, .undef, .undef, .undef, .undef, .undef, .undef, .undef, .undef, .undef, .undef, .undef, .undef, .undef], [some (rows QuakeRow.cs (QuakeRow.marks kk i ++ L.drop i))], 1⟩) (fun i => L.length - i) 0 (Nat.zero_le _) ?_ (fun i hi => ?_)
  · refine Weak.cut (1) (by simp) (by simp) ?_ ?_
    · simp [LeC, LeV, ren, cutF]
    · simp only [cutH, List.take, List.map]
      rw [cutB_rows (rows_all QuakeRow.csp _)]
      simp [QuakeRow.marks]
  simp -implicitDefEqProofs -dsimp only [go_sem, Nat.reduceSub, Nat.reduceAdd, Nat.reduceMul, Nat.reduceLT, Nat.reduceLeDiff, Nat.reduceEqDiff, Nat.reduceDiv, Nat.reduceMod, Int.reduceToNat, Int.reduceLE, Int.reduceLT, Int.reduceBEq, Int.reduceBNe, Int.reduceNeg, Int.reduceAdd, Int.reduceSub, Int.reduceMul, reduceCtorEq]
  refine condT.split (fun h1 => ?_) (fun h1 => ?_)
  · simp -implicitDefEqProofs -dsimp only [go_sem, Nat.reduceSub, Nat.reduceAdd, Nat.reduceMul, Nat.reduceLT, Nat.reduceLeDiff, Nat.reduceEqDiff, Nat.reduceDiv, Nat.reduceMod, Int.reduceToNat, Int.reduceLE, Int.reduceLT, Int.reduceBEq, Int.reduceBNe, Int.reduceNeg, Int.reduceAdd, Int.reduceSub, Int.reduceMul, reduceCtorEq, h1]
    have hi' : i < L.length := by simpa using h1
    have hA : (rows QuakeRow.cs (QuakeRow.marks kk i)).length = i * 7 := by rw [rows_len QuakeRow.csl, QuakeRow.marks_len]
    have hB : rows QuakeRow.cs (QuakeRow.marks kk i ++ L.drop i) = rows QuakeRow.cs (QuakeRow.marks kk i) ++ (QuakeRow.cs L[i] ++ rows QuakeRow.cs (L.drop (i + 1))) := by
      rw [rowsOf_append, List.drop_eq_getElem_cons hi', rows_cons]
    rw [hB]
    have hsp : ∀ (M ns : List V) (j : Nat), splice (rows QuakeRow.cs (QuakeRow.marks kk i) ++ M) (i * 7 + j) ns = rows QuakeRow.cs (QuakeRow.marks kk i) ++ splice M j ns := fun M ns j => splice_mid hA
    have hsp0 : ∀ (M ns : List V), splice (rows QuakeRow.cs (QuakeRow.marks kk i) ++ M) (i * 7) ns = rows QuakeRow.cs (QuakeRow.marks kk i) ++ splice M 0 ns := fun M ns => splice_mid0 hA
    (repeat1' (first | simp -implicitDefEqProofs -dsimp only [go_sem, Nat.reduceSub, Nat.reduceAdd, Nat.reduceMul, Nat.reduceLT, Nat.reduceLeDiff, Nat.reduceEqDiff, Nat.reduceDiv, Nat.reduceMod, Int.reduceToNat, Int.reduceLE, Int.reduceLT, Int.reduceBEq, Int.reduceBNe, Int.reduceNeg, Int.reduceAdd, Int.reduceSub, Int.reduceMul, reduceCtorEq, hsp, hsp0, List.length_append, hA, QuakeRow.cs] | simp -implicitDefEqProofs -dsimp (disch := omega) only [wrap_i64]))
    repeat (with_reducible refine sideA ?_)
    refine ⟨i + 1, hi', ?_, by omega⟩
    refine Weak.cut (1) (by simp) (by simp) ?_ ?_
    · simp [LeC, LeV, ren, cutF]
      omega
    · have e : rows QuakeRow.cs (QuakeRow.marks kk (i + 1) ++ L.drop (i + 1)) = rows QuakeRow.cs (QuakeRow.marks kk i) ++ (QuakeRow.cs (QuakeRow.mk1 (kk + 7 * (i : Int))) ++ rows QuakeRow.cs (L.drop (i + 1))) := by
        rw [QuakeRow.marks_succ, List.append_assoc, rowsOf_append, rowsOf_append, rows_one]
      rw [e]
      simp only [cutH, List.take, List.map]
      rw [cutB_rows (by rw [List.all_append, rows_all QuakeRow.csp]; simp only [List.all_cons, noOwn, rows_all QuakeRow.csp, Bool.and_self])]
      simp [QuakeRow.cs, QuakeRow.mk1, Int.add_assoc]
  · simp -implicitDefEqProofs -dsimp only [go_sem, Nat.reduceSub, Nat.reduceAdd, Nat.reduceMul, Nat.reduceLT, Nat.reduceLeDiff, Nat.reduceEqDiff, Nat.reduceDiv, Nat.reduceMod, Int.reduceToNat, Int.reduceLE, Int.reduceLT, Int.reduceBEq, Int.reduceBNe, Int.reduceNeg, Int.reduceAdd, Int.reduceSub, Int.reduceMul, reduceCtorEq, h1]
    have hi' : i = L.length := by simp at h1; omega
    subst hi'
    rw [List.drop_length, List.append_nil]
    exact WeakR.of_eq (by simp)
theorem markQuakeRowS_nil (kk : Int) : Ctr Try.prog 42 [.sl 0 7 [], .int .i64 kk] [] (.int .i64 kk) [] := by
  refine Ctr.intro Try.mixed Try.func42 rfl Try.okF42 ?_
  simp -implicitDefEqProofs -dsimp only [go_sem, Nat.reduceSub, Nat.reduceAdd, Nat.reduceMul, Nat.reduceLT, Nat.reduceLeDiff, Nat.reduceEqDiff, Nat.reduceDiv, Nat.reduceMod, Int.reduceToNat, Int.reduceLE, Int.reduceLT, Int.reduceBEq, Int.reduceBNe, Int.reduceNeg, Int.reduceAdd, Int.reduceSub, Int.reduceMul, reduceCtorEq, Try.ntmps42, Try.results42]
  refine LoopT.intro (fun i : Nat => i = 0) (fun i => ⟨[.sl 0 7 [], .int .i64 kk, .undef, .undef, .undef, .int .i64 0, .undef, .undef, .undef, .undef, .undef, .undef, .undef, .undef, .undef, .undef, .undef, .undef, .undef, .undef, .undef, .undef, .undef, .undef, .undef, .undef, .undef, .undef, .undef, .undef, .undef, .undef, .undef, .undef, .undef, .undef, .undef, .undef, .undef, .undef, .undef, .undef, .undef, .undef, .undef, .undef, .undef, .undef, .undef, .undef, .undef, .undef, .undef, .undef, .undef, .undef, .undef, .undef, .undef, .undef, .undef, .undef], [], 0⟩) (fun i => 0) 0 rfl ?_ (fun i hi => ?_)
  · refine Weak.cut (0) (by simp) (by simp) ?_ ?_
    · simp [LeC, LeV, ren, cutF]
    · rfl
  simp -implicitDefEqProofs -dsimp only [go_sem, Nat.reduceSub, Nat.reduceAdd, Nat.reduceMul, Nat.reduceLT, Nat.reduceLeDiff, Nat.reduceEqDiff, Nat.reduceDiv, Nat.reduceMod, Int.reduceToNat, Int.reduceLE, Int.reduceLT, Int.reduceBEq, Int.reduceBNe, Int.reduceNeg, Int.reduceAdd, Int.reduceSub, Int.reduceMul, reduceCtorEq, Int.natCast_zero, Int.lt_irrefl, decide_false]
  exact WeakR.refl _ _ _
theorem heldQuakeRowS_ok (n : Nat) (kk : Int) (hl : n ≤ 281474976710656) (hk : 0 ≤ kk) (hk2 : kk ≤ 281474976710656) : Ctr Try.prog 43 [QuakeRow.sl (QuakeRow.marks kk n), .int .i64 kk] [] (.int .i64 (kk + 7 * n)) [] := by
  refine Ctr.intro Try.mixed Try.func43 rfl Try.okF43 ?_
  simp -implicitDefEqProofs -dsimp only [go_sem, Nat.reduceSub, Nat.reduceAdd, Nat.reduceMul, Nat.reduceLT, Nat.reduceLeDiff, Nat.reduceEqDiff, Nat.reduceDiv, Nat.reduceMod, Int.reduceToNat, Int.reduceLE, Int.reduceLT, Int.reduceBEq, Int.reduceBNe, Int.reduceNeg, Int.reduceAdd, Int.reduceSub, Int.reduceMul, reduceCtorEq, Try.ntmps43, Try.results43]
  refine LoopT.intro (fun i : Nat => i ≤ n) (fun i => ⟨[QuakeRow.sl (QuakeRow.marks kk n), .int .i64 (kk + 7 * (i : Int)), .undef, .undef, .undef, .int .i64 i, .undef, .undef, .undef, .undef, .undef, .undef, .undef, .undef, .undef, .undef, .undef, .undef, .undef, .undef, .undef, .undef, .undef, .undef, .undef, .undef, .undef, .undef, .undef, .undef, .undef, .undef, .undef, .undef, .undef, .undef, .undef, .undef, .undef, .undef, .undef, .undef, .undef, .undef, .undef, .undef, .undef, .undef, .undef, .undef, .undef, .undef, .undef, .undef, .undef, .undef, .undef, .undef, .undef, .undef, .undef, .undef, .undef, .undef, .undef, .undef, .undef, .undef, .undef, .undef, .undef, .undef, .undef, .undef, .undef, .undef], [], 0⟩) (fun i => n - i) 0 (Nat.zero_le _) ?_ (fun i hi => ?_)
  · refine Weak.cut (0) (by simp) (by simp) ?_ ?_
    · simp [LeC, LeV, ren, cutF]
    · rfl
  simp -implicitDefEqProofs -dsimp only [go_sem, Nat.reduceSub, Nat.reduceAdd, Nat.reduceMul, Nat.reduceLT, Nat.reduceLeDiff, Nat.reduceEqDiff, Nat.reduceDiv, Nat.reduceMod, Int.reduceToNat, Int.reduceLE, Int.reduceLT, Int.reduceBEq, Int.reduceBNe, Int.reduceNeg, Int.reduceAdd, Int.reduceSub, Int.reduceMul, reduceCtorEq]
  refine condT.split (fun h1 => ?_) (fun h1 => ?_)
  · simp -implicitDefEqProofs -dsimp only [go_sem, Nat.reduceSub, Nat.reduceAdd, Nat.reduceMul, Nat.reduceLT, Nat.reduceLeDiff, Nat.reduceEqDiff, Nat.reduceDiv, Nat.reduceMod, Int.reduceToNat, Int.reduceLE, Int.reduceLT, Int.reduceBEq, Int.reduceBNe, Int.reduceNeg, Int.reduceAdd, Int.reduceSub, Int.reduceMul, reduceCtorEq, h1]
    have hi' : i < n := by simpa using h1
    have hr := rows_at QuakeRow.csl (L := QuakeRow.marks kk n) (i := i) (by rw [QuakeRow.marks_len]; exact hi')
    rw [QuakeRow.marks_get] at hr
    (repeat1' (first | simp -implicitDefEqProofs -dsimp only [go_sem, Nat.reduceSub, Nat.reduceAdd, Nat.reduceMul, Nat.reduceLT, Nat.reduceLeDiff, Nat.reduceEqDiff, Nat.reduceDiv, Nat.reduceMod, Int.reduceToNat, Int.reduceLE, Int.reduceLT, Int.reduceBEq, Int.reduceBNe, Int.reduceNeg, Int.reduceAdd, Int.reduceSub, Int.reduceMul, reduceCtorEq, hr, QuakeRow.marks_len, QuakeRow.cs, QuakeRow.mk1, bne_self_eq_false, beq_self_eq_true] | simp -implicitDefEqProofs -dsimp (disch := omega) only [wrap_i64]))
    repeat (with_reducible refine sideA ?_)
    refine ⟨i + 1, hi', ?_, by omega⟩
    refine Weak.cut (0) (by simp) (by simp) ?_ ?_
    · simp [LeC, LeV, ren, cutF]
      omega
    · rfl
  · simp -implicitDefEqProofs -dsimp only [go_sem, Nat.reduceSub, Nat.reduceAdd, Nat.reduceMul, Nat.reduceLT, Nat.reduceLeDiff, Nat.reduceEqDiff, Nat.reduceDiv, Nat.reduceMod, Int.reduceToNat, Int.reduceLE, Int.reduceLT, Int.reduceBEq, Int.reduceBNe, Int.reduceNeg, Int.reduceAdd, Int.reduceSub, Int.reduceMul, reduceCtorEq, h1]
    have hi' : i = n := by simp at h1; omega
    subst hi'
    exact WeakR.of_eq (by simp)
theorem areListedQuakeRow_ok (L : List QuakeRow) (p : QuakeRow → Bool) (key : QuakeRow → Int) (most : Int) (fv fk : Nat) (vc kc : List V) (hvc : ∀ d, vc.all (noOwn d) = true) (hkc : ∀ d, kc.all (noOwn d) = true) (hv : ∀ x, Ctr Try.prog fv (QuakeRow.v x :: vc) [] (.bool (p x)) []) (hkey : ∀ x, Ctr Try.prog fk (QuakeRow.v x :: kc) [] (.int .i64 (key x)) []) (m : Nat) (hm : most = m) (hl : L.length ≤ 281474976710656) :
    Ctr Try.prog 201 [QuakeRow.sl L, .int .i64 most, .fn (.func fv) [] vc, .fn (.func fk) [] kc] [] (.bool (listedB p key m L)) [] := by
  subst hm
  refine Ctr.intro Try.mixed Try.func201 rfl Try.okF201 ?_
  simp -implicitDefEqProofs -dsimp only [go_sem, Nat.reduceSub, Nat.reduceAdd, Nat.reduceMul, Nat.reduceLT, Nat.reduceLeDiff, Nat.reduceEqDiff, Nat.reduceDiv, Nat.reduceMod, Int.reduceToNat, Int.reduceLE, Int.reduceLT, Int.reduceBEq, Int.reduceBNe, Int.reduceNeg, Int.reduceAdd, Int.reduceSub, Int.reduceMul, reduceCtorEq, Try.ntmps201, Try.results201]
  have hvc2 : ∀ f d, vc.map (ren f d) = vc := fun f d => map_ren f (hvc d)
  have hkc2 : ∀ f d, kc.map (ren f d) = kc := fun f d => map_ren f (hkc d)
  refine LoopT.intro (fun i : Nat => i ≤ L.length ∧ (List.range i).all (listedQ p key L) = true) (fun i => ⟨[QuakeRow.sl L, .int .i64 m, .fn (.func fv) [] vc, .fn (.func fk) [] kc, .undef, .undef, .undef, .undef, .undef, .undef, .undef, QuakeRow.sl L, .int .i64 L.length, .int .i64 i, .undef, .undef, .undef, .undef, .undef, .undef, .undef, .undef, .undef, .undef, .undef, .undef, .undef, .undef, .undef, .undef, .undef, .undef, .undef, .undef, .undef, .undef, .undef, .undef, .undef, .undef, .undef, .undef, .undef, .undef], [], 0⟩) (fun i => L.length - i) 0 ⟨Nat.zero_le _, rfl⟩ ?_ (fun i hi => ?_)
  · refine Weak.cut (0) (by simp) (by simp) ?_ ?_
    · simp [LeC, LeV, ren, cutF, hvc2, hkc2]
    · rfl
  simp -implicitDefEqProofs -dsimp only [go_sem, Nat.reduceSub, Nat.reduceAdd, Nat.reduceMul, Nat.reduceLT, Nat.reduceLeDiff, Nat.reduceEqDiff, Nat.reduceDiv, Nat.reduceMod, Int.reduceToNat, Int.reduceLE, Int.reduceLT, Int.reduceBEq, Int.reduceBNe, Int.reduceNeg, Int.reduceAdd, Int.reduceSub, Int.reduceMul, reduceCtorEq]
  refine condT.split (fun h1 => ?_) (fun h1 => ?_)
  · simp -implicitDefEqProofs -dsimp only [go_sem, Nat.reduceSub, Nat.reduceAdd, Nat.reduceMul, Nat.reduceLT, Nat.reduceLeDiff, Nat.reduceEqDiff, Nat.reduceDiv, Nat.reduceMod, Int.reduceToNat, Int.reduceLE, Int.reduceLT, Int.reduceBEq, Int.reduceBNe, Int.reduceNeg, Int.reduceAdd, Int.reduceSub, Int.reduceMul, reduceCtorEq, h1]
    have hi' : i < L.length := by simpa using h1
    have h5 := QuakeRow.csl L[i]
    have hr := rows_at QuakeRow.csl hi'
    (repeat1' (first | simp -implicitDefEqProofs -dsimp only [go_sem, Nat.reduceSub, Nat.reduceAdd, Nat.reduceMul, Nat.reduceLT, Nat.reduceLeDiff, Nat.reduceEqDiff, Nat.reduceDiv, Nat.reduceMod, Int.reduceToNat, Int.reduceLE, Int.reduceLT, Int.reduceBEq, Int.reduceBNe, Int.reduceNeg, Int.reduceAdd, Int.reduceSub, Int.reduceMul, reduceCtorEq, hr, QuakeRow.cs] | simp -implicitDefEqProofs -dsimp (disch := omega) only [wrap_i64]))
    repeat (with_reducible refine sideA ?_)
    refine callT.intro (hv L[i]) ⟨.inl rfl, LeL_same (hvc2 _ _)⟩ (.inl (by simp only [List.nil_append, List.cons_append, List.all_cons, hvc, Bool.and_true]; rfl)) ⟨refOk_fn (hvc 3), rfl⟩ ?_
    simp -implicitDefEqProofs -dsimp only [go_sem, Nat.reduceSub, Nat.reduceAdd, Nat.reduceMul, Nat.reduceLT, Nat.reduceLeDiff, Nat.reduceEqDiff, Nat.reduceDiv, Nat.reduceMod, Int.reduceToNat, Int.reduceLE, Int.reduceLT, Int.reduceBEq, Int.reduceBNe, Int.reduceNeg, Int.reduceAdd, Int.reduceSub, Int.reduceMul, reduceCtorEq]
    refine guardT.splitF (fun h2 => ?_) (fun h2 => ?_) <;> simp -implicitDefEqProofs -dsimp only [go_sem, Nat.reduceSub, Nat.reduceAdd, Nat.reduceMul, Nat.reduceLT, Nat.reduceLeDiff, Nat.reduceEqDiff, Nat.reduceDiv, Nat.reduceMod, Int.reduceToNat, Int.reduceLE, Int.reduceLT, Int.reduceBEq, Int.reduceBNe, Int.reduceNeg, Int.reduceAdd, Int.reduceSub, Int.reduceMul, reduceCtorEq, h2]
    · have hw : p L[i] = true := by simpa using h2
      refine guardT.splitT (fun h3 => ?_) (fun h3 => ?_) <;> simp -implicitDefEqProofs -dsimp only [go_sem, Nat.reduceSub, Nat.reduceAdd, Nat.reduceMul, Nat.reduceLT, Nat.reduceLeDiff, Nat.reduceEqDiff, Nat.reduceDiv, Nat.reduceMod, Int.reduceToNat, Int.reduceLE, Int.reduceLT, Int.reduceBEq, Int.reduceBNe, Int.reduceNeg, Int.reduceAdd, Int.reduceSub, Int.reduceMul, reduceCtorEq, h3]
      · obtain ⟨j, rfl⟩ : ∃ j, i = j + 1 := ⟨i - 1, by simp at h3; omega⟩
        have hj : j < L.length := by omega
        refine callT.intro (hkey L[j + 1]) ⟨.inl rfl, LeL_same (hkc2 _ _)⟩ (.inl (by simp only [List.nil_append, List.cons_append, List.all_cons, hkc, Bool.and_true]; rfl)) ⟨refOk_fn (hkc 3), rfl⟩ ?_
        have hw1 : IntKind.i64.wrap (((j + 1 : Nat) : Int) - 1) = (j : Int) := by rw [wrap_i64 (by omega) (by omega)]; omega
        have hr2 := rows_at QuakeRow.csl hj
        (repeat1' (first | simp -implicitDefEqProofs -dsimp only [go_sem, Nat.reduceSub, Nat.reduceAdd, Nat.reduceMul, Nat.reduceLT, Nat.reduceLeDiff, Nat.reduceEqDiff, Nat.reduceDiv, Nat.reduceMod, Int.reduceToNat, Int.reduceLE, Int.reduceLT, Int.reduceBEq, Int.reduceBNe, Int.reduceNeg, Int.reduceAdd, Int.reduceSub, Int.reduceMul, reduceCtorEq, hw1, hr2, QuakeRow.cs] | simp -implicitDefEqProofs -dsimp (disch := omega) only [wrap_i64]))
        repeat (with_reducible refine sideA ?_)
        refine callT.intro (hkey L[j]) ⟨.inl rfl, LeL_same (hkc2 _ _)⟩ (.inl (by simp only [List.nil_append, List.cons_append, List.all_cons, hkc, Bool.and_true]; rfl)) ⟨refOk_fn (hkc 3), rfl⟩ ?_
        (repeat1' (first | simp -implicitDefEqProofs -dsimp only [go_sem, Nat.reduceSub, Nat.reduceAdd, Nat.reduceMul, Nat.reduceLT, Nat.reduceLeDiff, Nat.reduceEqDiff, Nat.reduceDiv, Nat.reduceMod, Int.reduceToNat, Int.reduceLE, Int.reduceLT, Int.reduceBEq, Int.reduceBNe, Int.reduceNeg, Int.reduceAdd, Int.reduceSub, Int.reduceMul, reduceCtorEq] | simp -implicitDefEqProofs -dsimp (disch := omega) only [wrap_i64]))
        refine condT.split (fun h4 => ?_) (fun h4 => ?_) <;> simp -implicitDefEqProofs -dsimp only [go_sem, Nat.reduceSub, Nat.reduceAdd, Nat.reduceMul, Nat.reduceLT, Nat.reduceLeDiff, Nat.reduceEqDiff, Nat.reduceDiv, Nat.reduceMod, Int.reduceToNat, Int.reduceLE, Int.reduceLT, Int.reduceBEq, Int.reduceBNe, Int.reduceNeg, Int.reduceAdd, Int.reduceSub, Int.reduceMul, reduceCtorEq, h4]
        · refine WeakR.drop' ?_ rfl
          have hq : listedQ p key L (j + 1) = false := by
            rw [listedQ_succ hi', hw]
            simp at h4 ⊢
            omega
          rw [listedB_false hi' hq]
        · refine ⟨j + 1 + 1, ⟨hi', range_all_succ hi.2 (by rw [listedQ_succ hi', hw]; simp at h4 ⊢; omega)⟩, ?_, by omega⟩
          refine Weak.cut (0) (by simp) (by simp) ?_ ?_
          · rw [wrap_i64 (by omega) (by omega)]
            simp [LeC, LeV, ren, cutF, hvc2, hkc2]
          · rfl
      · have h0 : i = 0 := by simp at h3; omega
        refine ⟨i + 1, ⟨hi', range_all_succ hi.2 (by subst h0; rw [listedQ_zero hi', hw])⟩, ?_, by omega⟩
        refine Weak.cut (0) (by simp) (by simp) ?_ ?_
        · rw [wrap_i64 (by omega) (by omega)]
          simp [LeC, LeV, ren, cutF, hvc2, hkc2]
        · rfl
    · have hw : p L[i] = false := by simpa using h2
      refine WeakR.drop' ?_ rfl
      have hq : listedQ p key L i = false := by simp [listedQ, hi', hw]
      rw [listedB_false hi' hq]
  · simp -implicitDefEqProofs -dsimp only [go_sem, Nat.reduceSub, Nat.reduceAdd, Nat.reduceMul, Nat.reduceLT, Nat.reduceLeDiff, Nat.reduceEqDiff, Nat.reduceDiv, Nat.reduceMod, Int.reduceToNat, Int.reduceLE, Int.reduceLT, Int.reduceBEq, Int.reduceBNe, Int.reduceNeg, Int.reduceAdd, Int.reduceSub, Int.reduceMul, reduceCtorEq, h1]
    refine WeakR.drop' ?_ rfl
    have : i = L.length := by simp at h1; omega
    subst this
    rw [listedB, hi.2]
    simp
    try omega
theorem differQuakeRow_ok (L : List QuakeRow) (key : QuakeRow → Int) (fk : Nat) (hkey : ∀ x, Ctr Try.prog fk [QuakeRow.v x] [] (.int .i64 (key x)) []) (hl : L.length ≤ 281474976710656) :
    Ctr Try.prog 204 [QuakeRow.sl L, .fn (.func fk) [] []] [] (.bool (decide (L.map key).Nodup)) [] := by
  refine Ctr.intro Try.mixed Try.func204 rfl Try.okF204 ?_
  simp -implicitDefEqProofs -dsimp only [go_sem, Nat.reduceSub, Nat.reduceAdd, Nat.reduceMul, Nat.reduceLT, Nat.reduceLeDiff, Nat.reduceEqDiff, Nat.reduceDiv, Nat.reduceMod, Int.reduceToNat, Int.reduceLE, Int.reduceLT, Int.reduceBEq, Int.reduceBNe, Int.reduceNeg, Int.reduceAdd, Int.reduceSub, Int.reduceMul, reduceCtorEq, Try.ntmps204, Try.results204]
  refine LoopT.intro (fun i : Nat => i ≤ L.length ∧ ((L.take i).map key).Nodup) (fun i => ⟨[.undef, .fn (.func fk) [] [], .undef, .undef, .undef, .mp 0, .undef, .undef, .undef, QuakeRow.sl L, .int .i64 L.length, .int .i64 i, .undef, .undef, .undef, .undef, .undef, .undef, .undef, .undef, .undef, .undef, .undef, .undef, .undef], [some [.mb (intSet ((L.take i).map key))]], 0⟩) (fun i => L.length - i) 0 ⟨Nat.zero_le _, by simp⟩ ?_ (fun i hi => ?_)
  · refine Weak.cut (1) (by simp) (by simp) ?_ ?_
    · simp [LeC, LeV, ren, cutF]
    · simp [cutH, cutB, ren, intSet]
  simp -implicitDefEqProofs -dsimp only [go_sem, Nat.reduceSub, Nat.reduceAdd, Nat.reduceMul, Nat.reduceLT, Nat.reduceLeDiff, Nat.reduceEqDiff, Nat.reduceDiv, Nat.reduceMod, Int.reduceToNat, Int.reduceLE, Int.reduceLT, Int.reduceBEq, Int.reduceBNe, Int.reduceNeg, Int.reduceAdd, Int.reduceSub, Int.reduceMul, reduceCtorEq]
  refine condT.split (fun h1 => ?_) (fun h1 => ?_)
  · simp -implicitDefEqProofs -dsimp only [go_sem, Nat.reduceSub, Nat.reduceAdd, Nat.reduceMul, Nat.reduceLT, Nat.reduceLeDiff, Nat.reduceEqDiff, Nat.reduceDiv, Nat.reduceMod, Int.reduceToNat, Int.reduceLE, Int.reduceLT, Int.reduceBEq, Int.reduceBNe, Int.reduceNeg, Int.reduceAdd, Int.reduceSub, Int.reduceMul, reduceCtorEq, h1]
    have hi' : i < L.length := by simpa using h1
    have h5 := QuakeRow.csl L[i]
    have hr := rows_at QuakeRow.csl hi'
    have ht : (L.take (i + 1)).map key = (L.take i).map key ++ [key L[i]] := by rw [List.take_succ_eq_append_getElem hi', List.map_append]; rfl
    (repeat1' (first | simp -implicitDefEqProofs -dsimp only [go_sem, Nat.reduceSub, Nat.reduceAdd, Nat.reduceMul, Nat.reduceLT, Nat.reduceLeDiff, Nat.reduceEqDiff, Nat.reduceDiv, Nat.reduceMod, Int.reduceToNat, Int.reduceLE, Int.reduceLT, Int.reduceBEq, Int.reduceBNe, Int.reduceNeg, Int.reduceAdd, Int.reduceSub, Int.reduceMul, reduceCtorEq, hr, QuakeRow.cs] | simp -implicitDefEqProofs -dsimp (disch := omega) only [wrap_i64]))
    repeat (with_reducible refine sideA ?_)
    (first | refine callT.at (hkey L[i]) ⟨.inl rfl, trivial⟩ ?_ | refine callS.at (hkey L[i]) ⟨.inl rfl, trivial⟩ ?_)
    simp -implicitDefEqProofs -dsimp only [go_sem, Nat.reduceSub, Nat.reduceAdd, Nat.reduceMul, Nat.reduceLT, Nat.reduceLeDiff, Nat.reduceEqDiff, Nat.reduceDiv, Nat.reduceMod, Int.reduceToNat, Int.reduceLE, Int.reduceLT, Int.reduceBEq, Int.reduceBNe, Int.reduceNeg, Int.reduceAdd, Int.reduceSub, Int.reduceMul, reduceCtorEq]
    by_cases hm : key L[i] ∈ (L.take i).map key
    · obtain ⟨j, hj⟩ := intSet_has 0 hm
      simp -implicitDefEqProofs -dsimp only [go_sem, Nat.reduceSub, Nat.reduceAdd, Nat.reduceMul, Nat.reduceLT, Nat.reduceLeDiff, Nat.reduceEqDiff, Nat.reduceDiv, Nat.reduceMod, Int.reduceToNat, Int.reduceLE, Int.reduceLT, Int.reduceBEq, Int.reduceBNe, Int.reduceNeg, Int.reduceAdd, Int.reduceSub, Int.reduceMul, reduceCtorEq, hj]
      refine WeakR.drop' ?_ (by rfl)
      have : ¬ (L.map key).Nodup := by
        intro hn
        have h2 : ((L.take (i + 1)).map key).Nodup := (List.map_take ▸ hn.sublist (List.take_sublist _ _))
        rw [ht] at h2
        have := (List.nodup_append.1 h2).2.2 _ hm (key L[i]) (by simp)
        exact this rfl
      rw [decide_eq_false this]
    · have hj := intSet_not 0 hm
      simp -implicitDefEqProofs -dsimp only [go_sem, Nat.reduceSub, Nat.reduceAdd, Nat.reduceMul, Nat.reduceLT, Nat.reduceLeDiff, Nat.reduceEqDiff, Nat.reduceDiv, Nat.reduceMod, Int.reduceToNat, Int.reduceLE, Int.reduceLT, Int.reduceBEq, Int.reduceBNe, Int.reduceNeg, Int.reduceAdd, Int.reduceSub, Int.reduceMul, reduceCtorEq, hj]
      (first | refine callT.at (hkey L[i]) ⟨.inl rfl, trivial⟩ ?_ | refine callS.at (hkey L[i]) ⟨.inl rfl, trivial⟩ ?_)
      simp -implicitDefEqProofs -dsimp only [go_sem, Nat.reduceSub, Nat.reduceAdd, Nat.reduceMul, Nat.reduceLT, Nat.reduceLeDiff, Nat.reduceEqDiff, Nat.reduceDiv, Nat.reduceMod, Int.reduceToNat, Int.reduceLE, Int.reduceLT, Int.reduceBEq, Int.reduceBNe, Int.reduceNeg, Int.reduceAdd, Int.reduceSub, Int.reduceMul, reduceCtorEq, hj, intSet_put]
      refine ⟨i + 1, ⟨hi', ?_⟩, ?_, by omega⟩
      · rw [ht, List.nodup_append]
        exact ⟨hi.2, by simp, fun a ha b hb => by simp at hb; subst hb; rintro rfl; exact hm ha⟩
      refine Weak.cut (1) (by simp) (by simp) ?_ ?_
      · rw [wrap_i64 (by omega) (by omega)]
        simp [LeC, LeV, ren, cutF]
      · rw [ht]
        simp [cutH, cutB, ren]
  · simp -implicitDefEqProofs -dsimp only [go_sem, Nat.reduceSub, Nat.reduceAdd, Nat.reduceMul, Nat.reduceLT, Nat.reduceLeDiff, Nat.reduceEqDiff, Nat.reduceDiv, Nat.reduceMod, Int.reduceToNat, Int.reduceLE, Int.reduceLT, Int.reduceBEq, Int.reduceBNe, Int.reduceNeg, Int.reduceAdd, Int.reduceSub, Int.reduceMul, reduceCtorEq, h1]
    have hi' : i = L.length := by simp at h1; omega
    subst hi'
    have h2 := hi.2
    rw [List.take_length] at h2
    exact WeakR.drop' (by rw [decide_eq_true h2]) (by rfl)
end Go.Proofs
