/-
  QuakeRow: the pure form of its values, and what the plain helpers do with it. Conditions: none.
-/
import Derived.Test.YtjfjnpopjjpagaaDoorLvFacts
import Derived.Test.YtjfjnpopjjpagaaDoorLvR
set_option linter.unusedSimpArgs false
set_option linter.unusedVariables false
set_option maxRecDepth 100000
namespace Go.Proofs
open Go.Lv
structure QuakeRow where
  Id : Int
  Tick : Int
  X : Int
  Y : Int
  Deep : Int
  Size : Int
  Grade : Int
def QuakeRow.cs (r : QuakeRow) : List V := [.int .i64 r.Id, .int .i64 r.Tick, .int .i64 r.X, .int .i64 r.Y, .int .i64 r.Deep, .int .i64 r.Size, .int .i64 r.Grade]
def QuakeRow.v (r : QuakeRow) : V := .agg [.int .i64 r.Id, .int .i64 r.Tick, .int .i64 r.X, .int .i64 r.Y, .int .i64 r.Deep, .int .i64 r.Size, .int .i64 r.Grade]
theorem QuakeRow.csl (a : QuakeRow) : a.cs.length = 7 := rfl
theorem QuakeRow.csp (a : QuakeRow) : a.cs.all (noOwn 2) = true := rfl
instance : FlatP QuakeRow.cs 7 := ⟨fun _ => rfl, fun _ d => by cases d <;> rfl, fun _ => rfl, fun _ => rfl⟩
def QuakeRow.ok (r : QuakeRow) : Prop := i64R r.Id ∧ i64R r.Tick ∧ i64R r.X ∧ i64R r.Y ∧ i64R r.Deep ∧ i64R r.Size ∧ i64R r.Grade
abbrev QuakeRow.rows (L : List QuakeRow) : List V := Go.Lv.rows QuakeRow.cs L
abbrev QuakeRow.sl (L : List QuakeRow) : V := .sl L.length 7 (Go.Lv.rows QuakeRow.cs L)
abbrev QuakeRow.zs : List V := [.int .i64 0, .int .i64 0, .int .i64 0, .int .i64 0, .int .i64 0, .int .i64 0, .int .i64 0]
/-- What a mark writes. -/
def QuakeRow.mk1 (k : Int) : QuakeRow := ⟨k, k + 1, k + 1 + 1, k + 1 + 1 + 1, k + 1 + 1 + 1 + 1, k + 1 + 1 + 1 + 1 + 1, k + 1 + 1 + 1 + 1 + 1 + 1⟩
def QuakeRow.marks (k : Int) (n : Nat) : List QuakeRow := (List.range n).map fun i : Nat => QuakeRow.mk1 (k + 7 * (i : Int))
@[simp] theorem QuakeRow.marks_len (k : Int) (n : Nat) : (QuakeRow.marks k n).length = n := by simp [QuakeRow.marks]
theorem QuakeRow.marks_succ (k : Int) (n : Nat) : QuakeRow.marks k (n + 1) = QuakeRow.marks k n ++ [QuakeRow.mk1 (k + 7 * (n : Int))] := by simp [QuakeRow.marks, List.range_succ]
theorem QuakeRow.marks_get (k : Int) (n : Nat) {i : Nat} (hi : i < (QuakeRow.marks k n).length) : (QuakeRow.marks k n)[i] = QuakeRow.mk1 (k + 7 * (i : Int)) := by simp [QuakeRow.marks]
theorem toQuakeRow_ok (r : QuakeRow) : Ctr Tryd.prog 18 [r.v] [] r.v [] := by
  refine Ctr.intro Tryd.mixed Tryd.func18 rfl Tryd.okF18 ?_
  simp -implicitDefEqProofs -dsimp only [go_sem, Nat.reduceSub, Nat.reduceAdd, Nat.reduceMul, Nat.reduceLT, Nat.reduceLeDiff, Nat.reduceEqDiff, Nat.reduceDiv, Nat.reduceMod, Int.reduceToNat, Int.reduceLE, Int.reduceLT, Nat.le_refl, Int.toNat_natCast, beq_self_eq_true, bne_self_eq_false, Int.reduceBEq, Int.reduceBNe, Int.reduceNeg, Int.reduceAdd, Int.reduceSub, Int.reduceMul, decide_true, decide_false, eq_self, ne_eq, Option.some.injEq, reduceCtorEq, not_false_eq_true, Option.map_some, map_ren_rows, Tryd.ntmps18, Tryd.results18]
  simp -implicitDefEqProofs -dsimp only [go_sem, Nat.reduceSub, Nat.reduceAdd, Nat.reduceMul, Nat.reduceLT, Nat.reduceLeDiff, Nat.reduceEqDiff, Nat.reduceDiv, Nat.reduceMod, Int.reduceToNat, Int.reduceLE, Int.reduceLT, Nat.le_refl, Int.toNat_natCast, beq_self_eq_true, bne_self_eq_false, Int.reduceBEq, Int.reduceBNe, Int.reduceNeg, Int.reduceAdd, Int.reduceSub, Int.reduceMul, decide_true, decide_false, eq_self, ne_eq, Option.some.injEq, reduceCtorEq, not_false_eq_true, Option.map_some, map_ren_rows, QuakeRow.v]
  exact WeakR.drop' rfl rfl
theorem toQuakeRowS_ok (L : List QuakeRow) (hl : L.length ≤ 1048576) : Ctr Tryd.prog 7 [QuakeRow.sl L] [] (.osl 0 0 L.length 7) [some (rows QuakeRow.cs L)] := by
  refine Ctr.intro Tryd.mixed Tryd.func7 rfl Tryd.okF7 ?_
  simp -implicitDefEqProofs -dsimp only [go_sem, Nat.reduceSub, Nat.reduceAdd, Nat.reduceMul, Nat.reduceLT, Nat.reduceLeDiff, Nat.reduceEqDiff, Nat.reduceDiv, Nat.reduceMod, Int.reduceToNat, Int.reduceLE, Int.reduceLT, Nat.le_refl, Int.toNat_natCast, beq_self_eq_true, bne_self_eq_false, Int.reduceBEq, Int.reduceBNe, Int.reduceNeg, Int.reduceAdd, Int.reduceSub, Int.reduceMul, decide_true, decide_false, eq_self, ne_eq, Option.some.injEq, reduceCtorEq, not_false_eq_true, Option.map_some, map_ren_rows, Tryd.ntmps7, Tryd.results7]
  refine ⟨by omega, by omega, by omega, ?_⟩
  refine LoopT.intro (fun i : Nat => i ≤ L.length) (fun i => ⟨[QuakeRow.sl L, .undef, .undef, .osl 0 0 L.length 7, .int .i64 i, .undef, .undef, .undef, .undef, .undef, .undef, .undef, .undef, .undef, .undef, .undef, .undef, .undef, .undef, .undef, .undef, .undef, .undef], [some (filled QuakeRow.cs 7 QuakeRow.zs L i)], 0⟩) (fun i => L.length - i) 0 (Nat.zero_le _) ?_ (fun i hi => ?_)
  · refine Weak.cut (1) (by simp) (by simp) ?_ ?_
    · simp [LeC, LeV, ren, cutF]
    · rw [filled_zero]
      simp only [cutH, List.take, List.map]
      rw [cutB_rows (zrow_all rfl (by decide) _)]
  simp -implicitDefEqProofs -dsimp only [go_sem, Nat.reduceSub, Nat.reduceAdd, Nat.reduceMul, Nat.reduceLT, Nat.reduceLeDiff, Nat.reduceEqDiff, Nat.reduceDiv, Nat.reduceMod, Int.reduceToNat, Int.reduceLE, Int.reduceLT, Nat.le_refl, Int.toNat_natCast, beq_self_eq_true, bne_self_eq_false, Int.reduceBEq, Int.reduceBNe, Int.reduceNeg, Int.reduceAdd, Int.reduceSub, Int.reduceMul, decide_true, decide_false, eq_self, ne_eq, Option.some.injEq, reduceCtorEq, not_false_eq_true, Option.map_some, map_ren_rows]
  refine condT.split (fun h1 => ?_) (fun h1 => ?_)
  · simp -implicitDefEqProofs -dsimp only [go_sem, Nat.reduceSub, Nat.reduceAdd, Nat.reduceMul, Nat.reduceLT, Nat.reduceLeDiff, Nat.reduceEqDiff, Nat.reduceDiv, Nat.reduceMod, Int.reduceToNat, Int.reduceLE, Int.reduceLT, Nat.le_refl, Int.toNat_natCast, beq_self_eq_true, bne_self_eq_false, Int.reduceBEq, Int.reduceBNe, Int.reduceNeg, Int.reduceAdd, Int.reduceSub, Int.reduceMul, decide_true, decide_false, eq_self, ne_eq, Option.some.injEq, reduceCtorEq, not_false_eq_true, Option.map_some, map_ren_rows, h1]
    have hi' : i < L.length := by simpa using h1
    rw [rows_at QuakeRow.csl hi']
    refine ⟨by omega, by simp [QuakeRow.csl], ?_⟩
    (first | refine callT.intro (toQuakeRow_ok L[i]) ⟨.inl rfl, trivial⟩ (.inl rfl) (by first | exact ⟨rfl, rfl⟩ | exact ⟨rfl, by simp [refOk, noOwn, rows_noOwn]⟩ | simp [refOk, noOwn, rows_noOwn]) ?_ | refine callS.intro (toQuakeRow_ok L[i]) ⟨.inl rfl, trivial⟩ (.inl rfl) ?_)
    simp -implicitDefEqProofs -dsimp only [go_sem, Nat.reduceSub, Nat.reduceAdd, Nat.reduceMul, Nat.reduceLT, Nat.reduceLeDiff, Nat.reduceEqDiff, Nat.reduceDiv, Nat.reduceMod, Int.reduceToNat, Int.reduceLE, Int.reduceLT, Nat.le_refl, Int.toNat_natCast, beq_self_eq_true, bne_self_eq_false, Int.reduceBEq, Int.reduceBNe, Int.reduceNeg, Int.reduceAdd, Int.reduceSub, Int.reduceMul, decide_true, decide_false, eq_self, ne_eq, Option.some.injEq, reduceCtorEq, not_false_eq_true, Option.map_some, map_ren_rows, QuakeRow.v]
    refine ⟨⟨by omega, by omega⟩, by rw [filled_len QuakeRow.csl hi]; omega, i + 1, hi', ?_, by omega⟩
    refine Weak.cut (1) (by simp) (by simp) ?_ ?_
    · rw [wrap_i64 (by omega) (by omega)]
      simp [LeC, LeV, ren, cutF]
    · have := filled_step (zs := QuakeRow.zs) QuakeRow.csl rfl hi'
      simp only [QuakeRow.cs] at this ⊢
      rw [this]
      simp only [cutH, List.take, List.map]
      rw [cutB_rows (filled_plain (by decide) rfl (fun a => by exact QuakeRow.csp a))]
  · simp -implicitDefEqProofs -dsimp only [go_sem, Nat.reduceSub, Nat.reduceAdd, Nat.reduceMul, Nat.reduceLT, Nat.reduceLeDiff, Nat.reduceEqDiff, Nat.reduceDiv, Nat.reduceMod, Int.reduceToNat, Int.reduceLE, Int.reduceLT, Nat.le_refl, Int.toNat_natCast, beq_self_eq_true, bne_self_eq_false, Int.reduceBEq, Int.reduceBNe, Int.reduceNeg, Int.reduceAdd, Int.reduceSub, Int.reduceMul, decide_true, decide_false, eq_self, ne_eq, Option.some.injEq, reduceCtorEq, not_false_eq_true, Option.map_some, map_ren_rows, h1]
    have hi' : i = L.length := by simp at h1; omega
    subst hi'
    rw [filled_all QuakeRow.csl (Nat.le_refl _)]
    exact WeakR.refl _ _ _
theorem szQuakeRowS_ok (L : List QuakeRow) (n : Int) (hl : L.length ≤ 9223372036854775807) (hn : 0 ≤ n) (hn2 : n ≤ 1048576) : Ctr Tryd.prog 5 [QuakeRow.sl L, .int .i64 n] [] (.int .i64 (if n < L.length then -1 else n - L.length)) [] := by
  refine Ctr.intro Tryd.mixed Tryd.func5 rfl Tryd.okF5 ?_
  simp -implicitDefEqProofs -dsimp only [go_sem, Nat.reduceSub, Nat.reduceAdd, Nat.reduceMul, Nat.reduceLT, Nat.reduceLeDiff, Nat.reduceEqDiff, Nat.reduceDiv, Nat.reduceMod, Int.reduceToNat, Int.reduceLE, Int.reduceLT, Nat.le_refl, Int.toNat_natCast, beq_self_eq_true, bne_self_eq_false, Int.reduceBEq, Int.reduceBNe, Int.reduceNeg, Int.reduceAdd, Int.reduceSub, Int.reduceMul, decide_true, decide_false, eq_self, ne_eq, Option.some.injEq, reduceCtorEq, not_false_eq_true, Option.map_some, map_ren_rows, Tryd.ntmps5, Tryd.results5]
  rw [wrap_i64 (by omega) (by omega)]
  refine condT.split (fun h1 => ?_) (fun h1 => ?_) <;> simp -implicitDefEqProofs -dsimp only [go_sem, Nat.reduceSub, Nat.reduceAdd, Nat.reduceMul, Nat.reduceLT, Nat.reduceLeDiff, Nat.reduceEqDiff, Nat.reduceDiv, Nat.reduceMod, Int.reduceToNat, Int.reduceLE, Int.reduceLT, Nat.le_refl, Int.toNat_natCast, beq_self_eq_true, bne_self_eq_false, Int.reduceBEq, Int.reduceBNe, Int.reduceNeg, Int.reduceAdd, Int.reduceSub, Int.reduceMul, decide_true, decide_false, eq_self, ne_eq, Option.some.injEq, reduceCtorEq, not_false_eq_true, Option.map_some, map_ren_rows, h1]
  · exact WeakR.of_eq (by simp at h1; rw [if_pos (by omega)])
  · exact WeakR.of_eq (by simp at h1; rw [if_neg (by omega)])
theorem eqQuakeRow_ok (r : QuakeRow) : Ctr Tryd.prog 22 [r.v, r.v] [] (.bool true) [] := by
  refine Ctr.intro Tryd.mixed Tryd.func22 rfl Tryd.okF22 ?_
  simp -implicitDefEqProofs -dsimp only [go_sem, Nat.reduceSub, Nat.reduceAdd, Nat.reduceMul, Nat.reduceLT, Nat.reduceLeDiff, Nat.reduceEqDiff, Nat.reduceDiv, Nat.reduceMod, Int.reduceToNat, Int.reduceLE, Int.reduceLT, Nat.le_refl, Int.toNat_natCast, beq_self_eq_true, bne_self_eq_false, Int.reduceBEq, Int.reduceBNe, Int.reduceNeg, Int.reduceAdd, Int.reduceSub, Int.reduceMul, decide_true, decide_false, eq_self, ne_eq, Option.some.injEq, reduceCtorEq, not_false_eq_true, Option.map_some, map_ren_rows, Tryd.ntmps22, Tryd.results22]
  simp -implicitDefEqProofs -dsimp only [go_sem, Nat.reduceSub, Nat.reduceAdd, Nat.reduceMul, Nat.reduceLT, Nat.reduceLeDiff, Nat.reduceEqDiff, Nat.reduceDiv, Nat.reduceMod, Int.reduceToNat, Int.reduceLE, Int.reduceLT, Nat.le_refl, Int.toNat_natCast, beq_self_eq_true, bne_self_eq_false, Int.reduceBEq, Int.reduceBNe, Int.reduceNeg, Int.reduceAdd, Int.reduceSub, Int.reduceMul, decide_true, decide_false, eq_self, ne_eq, Option.some.injEq, reduceCtorEq, not_false_eq_true, Option.map_some, map_ren_rows, QuakeRow.v, bne_self_eq_false, beq_self_eq_true, Bool.not_true]
  exact WeakR.drop' rfl rfl
theorem eqQuakeRowS_ok (L : List QuakeRow) (hl : L.length ≤ 281474976710656) : Ctr Tryd.prog 9 [QuakeRow.sl L, QuakeRow.sl L] [] (.bool true) [] := by
  refine Ctr.intro Tryd.mixed Tryd.func9 rfl Tryd.okF9 ?_
  simp -implicitDefEqProofs -dsimp only [go_sem, Nat.reduceSub, Nat.reduceAdd, Nat.reduceMul, Nat.reduceLT, Nat.reduceLeDiff, Nat.reduceEqDiff, Nat.reduceDiv, Nat.reduceMod, Int.reduceToNat, Int.reduceLE, Int.reduceLT, Nat.le_refl, Int.toNat_natCast, beq_self_eq_true, bne_self_eq_false, Int.reduceBEq, Int.reduceBNe, Int.reduceNeg, Int.reduceAdd, Int.reduceSub, Int.reduceMul, decide_true, decide_false, eq_self, ne_eq, Option.some.injEq, reduceCtorEq, not_false_eq_true, Option.map_some, map_ren_rows, Tryd.ntmps9, Tryd.results9]
  refine LoopT.intro (fun i : Nat => i ≤ L.length) (fun i => ⟨[QuakeRow.sl L, QuakeRow.sl L, .undef, .undef, .undef, .int .i64 i, .undef, .undef, .undef, .undef, .undef, .undef, .undef, .undef, .undef, .undef, .undef, .undef, .undef, .undef, .undef, .undef, .undef, .undef, .undef, .undef, .undef], [], 0⟩) (fun i => L.length - i) 0 (Nat.zero_le _) ?_ (fun i hi => ?_)
  · refine Weak.cut (0) (by simp) (by simp) ?_ ?_
    · simp [LeC, LeV, ren, cutF]
    · rfl
  simp -implicitDefEqProofs -dsimp only [go_sem, Nat.reduceSub, Nat.reduceAdd, Nat.reduceMul, Nat.reduceLT, Nat.reduceLeDiff, Nat.reduceEqDiff, Nat.reduceDiv, Nat.reduceMod, Int.reduceToNat, Int.reduceLE, Int.reduceLT, Nat.le_refl, Int.toNat_natCast, beq_self_eq_true, bne_self_eq_false, Int.reduceBEq, Int.reduceBNe, Int.reduceNeg, Int.reduceAdd, Int.reduceSub, Int.reduceMul, decide_true, decide_false, eq_self, ne_eq, Option.some.injEq, reduceCtorEq, not_false_eq_true, Option.map_some, map_ren_rows]
  refine condT.split (fun h1 => ?_) (fun h1 => ?_)
  · simp -implicitDefEqProofs -dsimp only [go_sem, Nat.reduceSub, Nat.reduceAdd, Nat.reduceMul, Nat.reduceLT, Nat.reduceLeDiff, Nat.reduceEqDiff, Nat.reduceDiv, Nat.reduceMod, Int.reduceToNat, Int.reduceLE, Int.reduceLT, Nat.le_refl, Int.toNat_natCast, beq_self_eq_true, bne_self_eq_false, Int.reduceBEq, Int.reduceBNe, Int.reduceNeg, Int.reduceAdd, Int.reduceSub, Int.reduceMul, decide_true, decide_false, eq_self, ne_eq, Option.some.injEq, reduceCtorEq, not_false_eq_true, Option.map_some, map_ren_rows, h1]
    have hi' : i < L.length := by simpa using h1
    rw [rows_at QuakeRow.csl hi']
    have h5 := QuakeRow.csl L[i]
    refine ⟨by kernel_rfl, ⟨by omega, by omega⟩, by omega, ⟨by omega, by omega⟩, by omega, ?_⟩
    (first | refine callT.intro (eqQuakeRow_ok L[i]) ⟨.inl rfl, .inl rfl, trivial⟩ (.inl rfl) (by first | exact ⟨rfl, rfl⟩ | exact ⟨rfl, by simp [refOk, noOwn, rows_noOwn]⟩ | simp [refOk, noOwn, rows_noOwn]) ?_ | refine callS.intro (eqQuakeRow_ok L[i]) ⟨.inl rfl, .inl rfl, trivial⟩ (.inl rfl) ?_)
    simp -implicitDefEqProofs -dsimp only [go_sem, Nat.reduceSub, Nat.reduceAdd, Nat.reduceMul, Nat.reduceLT, Nat.reduceLeDiff, Nat.reduceEqDiff, Nat.reduceDiv, Nat.reduceMod, Int.reduceToNat, Int.reduceLE, Int.reduceLT, Nat.le_refl, Int.toNat_natCast, beq_self_eq_true, bne_self_eq_false, Int.reduceBEq, Int.reduceBNe, Int.reduceNeg, Int.reduceAdd, Int.reduceSub, Int.reduceMul, decide_true, decide_false, eq_self, ne_eq, Option.some.injEq, reduceCtorEq, not_false_eq_true, Option.map_some, map_ren_rows]
    refine ⟨i + 1, hi', ?_, by omega⟩
    refine Weak.cut (0) (by simp) (by simp) ?_ ?_
    · rw [wrap_i64 (by omega) (by omega)]
      simp [LeC, LeV, ren, cutF]
    · rfl
  · simp -implicitDefEqProofs -dsimp only [go_sem, Nat.reduceSub, Nat.reduceAdd, Nat.reduceMul, Nat.reduceLT, Nat.reduceLeDiff, Nat.reduceEqDiff, Nat.reduceDiv, Nat.reduceMod, Int.reduceToNat, Int.reduceLE, Int.reduceLT, Nat.le_refl, Int.toNat_natCast, beq_self_eq_true, bne_self_eq_false, Int.reduceBEq, Int.reduceBNe, Int.reduceNeg, Int.reduceAdd, Int.reduceSub, Int.reduceMul, decide_true, decide_false, eq_self, ne_eq, Option.some.injEq, reduceCtorEq, not_false_eq_true, Option.map_some, map_ren_rows, h1]
    exact WeakR.refl _ _ _
theorem areListedQuakeRow_ok (L : List QuakeRow) (p : QuakeRow → Bool) (key : QuakeRow → Int) (most : Int) (fv fk : Nat) (vc kc : List V) (hvc : ∀ d, vc.all (noOwn d) = true) (hkc : ∀ d, kc.all (noOwn d) = true) (hv : ∀ x, Ctr Tryd.prog fv (QuakeRow.v x :: vc) [] (.bool (p x)) []) (hkey : ∀ x, Ctr Tryd.prog fk (QuakeRow.v x :: kc) [] (.int .i64 (key x)) []) (m : Nat) (hm : most = m) (hl : L.length ≤ 281474976710656) :
    Ctr Tryd.prog 36 [QuakeRow.sl L, .int .i64 most, .fn (.func fv) [] vc, .fn (.func fk) [] kc] [] (.bool (listedB p key m L)) [] := by
  subst hm
  refine Ctr.intro Tryd.mixed Tryd.func36 rfl Tryd.okF36 ?_
  simp -implicitDefEqProofs -dsimp only [go_sem, Nat.reduceSub, Nat.reduceAdd, Nat.reduceMul, Nat.reduceLT, Nat.reduceLeDiff, Nat.reduceEqDiff, Nat.reduceDiv, Nat.reduceMod, Int.reduceToNat, Int.reduceLE, Int.reduceLT, Nat.le_refl, Int.toNat_natCast, beq_self_eq_true, bne_self_eq_false, Int.reduceBEq, Int.reduceBNe, Int.reduceNeg, Int.reduceAdd, Int.reduceSub, Int.reduceMul, decide_true, decide_false, eq_self, ne_eq, Option.some.injEq, reduceCtorEq, not_false_eq_true, Option.map_some, map_ren_rows, Tryd.ntmps36, Tryd.results36]
  have hvc2 : ∀ f d, vc.map (ren f d) = vc := fun f d => map_ren f (hvc d)
  have hkc2 : ∀ f d, kc.map (ren f d) = kc := fun f d => map_ren f (hkc d)
  refine LoopT.intro (fun i : Nat => i ≤ L.length ∧ (List.range i).all (listedQ p key L) = true) (fun i => ⟨[QuakeRow.sl L, .int .i64 m, .fn (.func fv) [] vc, .fn (.func fk) [] kc, .undef, .undef, .undef, .undef, .undef, .undef, .undef, QuakeRow.sl L, .int .i64 L.length, .int .i64 i, .undef, .undef, .undef, .undef, .undef, .undef, .undef, .undef, .undef, .undef, .undef, .undef, .undef, .undef, .undef, .undef, .undef, .undef, .undef, .undef, .undef, .undef, .undef, .undef, .undef, .undef, .undef, .undef, .undef, .undef], [], 0⟩) (fun i => L.length - i) 0 ⟨Nat.zero_le _, rfl⟩ ?_ (fun i hi => ?_)
  · refine Weak.cut (0) (by simp) (by simp) ?_ ?_
    · simp [LeC, LeV, ren, cutF, hvc2, hkc2]
    · rfl
  simp -implicitDefEqProofs -dsimp only [go_sem, Nat.reduceSub, Nat.reduceAdd, Nat.reduceMul, Nat.reduceLT, Nat.reduceLeDiff, Nat.reduceEqDiff, Nat.reduceDiv, Nat.reduceMod, Int.reduceToNat, Int.reduceLE, Int.reduceLT, Nat.le_refl, Int.toNat_natCast, beq_self_eq_true, bne_self_eq_false, Int.reduceBEq, Int.reduceBNe, Int.reduceNeg, Int.reduceAdd, Int.reduceSub, Int.reduceMul, decide_true, decide_false, eq_self, ne_eq, Option.some.injEq, reduceCtorEq, not_false_eq_true, Option.map_some, map_ren_rows]
  refine condT.split (fun h1 => ?_) (fun h1 => ?_)
  · simp -implicitDefEqProofs -dsimp only [go_sem, Nat.reduceSub, Nat.reduceAdd, Nat.reduceMul, Nat.reduceLT, Nat.reduceLeDiff, Nat.reduceEqDiff, Nat.reduceDiv, Nat.reduceMod, Int.reduceToNat, Int.reduceLE, Int.reduceLT, Nat.le_refl, Int.toNat_natCast, beq_self_eq_true, bne_self_eq_false, Int.reduceBEq, Int.reduceBNe, Int.reduceNeg, Int.reduceAdd, Int.reduceSub, Int.reduceMul, decide_true, decide_false, eq_self, ne_eq, Option.some.injEq, reduceCtorEq, not_false_eq_true, Option.map_some, map_ren_rows, h1]
    have hi' : i < L.length := by simpa using h1
    have h5 := QuakeRow.csl L[i]
    have hr := rows_at QuakeRow.csl hi'
    ((first | simp -implicitDefEqProofs -dsimp only [go_sem, Nat.reduceSub, Nat.reduceAdd, Nat.reduceMul, Nat.reduceLT, Nat.reduceLeDiff, Nat.reduceEqDiff, Nat.reduceDiv, Nat.reduceMod, Int.reduceToNat, Int.reduceLE, Int.reduceLT, Nat.le_refl, Int.toNat_natCast, beq_self_eq_true, bne_self_eq_false, Int.reduceBEq, Int.reduceBNe, Int.reduceNeg, Int.reduceAdd, Int.reduceSub, Int.reduceMul, decide_true, decide_false, eq_self, ne_eq, Option.some.injEq, reduceCtorEq, not_false_eq_true, Option.map_some, map_ren_rows, hr, QuakeRow.cs] | simp -implicitDefEqProofs -dsimp (disch := omega) only [wrap_i64]); repeat (simp -implicitDefEqProofs -dsimp (disch := omega) only [wrap_i64]; try simp -implicitDefEqProofs -dsimp only [go_sem, Nat.reduceSub, Nat.reduceAdd, Nat.reduceMul, Nat.reduceLT, Nat.reduceLeDiff, Nat.reduceEqDiff, Nat.reduceDiv, Nat.reduceMod, Int.reduceToNat, Int.reduceLE, Int.reduceLT, Nat.le_refl, Int.toNat_natCast, beq_self_eq_true, bne_self_eq_false, Int.reduceBEq, Int.reduceBNe, Int.reduceNeg, Int.reduceAdd, Int.reduceSub, Int.reduceMul, decide_true, decide_false, eq_self, ne_eq, Option.some.injEq, reduceCtorEq, not_false_eq_true, Option.map_some, map_ren_rows, hr, QuakeRow.cs]))
    repeat (with_reducible refine And.intro ?_ ?_; focus (first | omega | with_reducible rfl | (show drawOk _ = true; kernel_rfl) | (simp only [rows_length, rows_cell, List.length_append, List.length_cons, List.length_nil, List.all_append, List.all_cons, List.all_nil, isCell, Nat.mul_one, Nat.one_mul, Bool.and_self]; first | done | omega)))
    refine callT.intro (hv L[i]) ⟨.inl rfl, LeL_same (hvc2 _ _)⟩ (.inl (by simp only [List.nil_append, List.cons_append, List.all_cons, hvc, Bool.and_true]; rfl)) ⟨refOk_fn (hvc 3), rfl⟩ ?_
    simp -implicitDefEqProofs -dsimp only [go_sem, Nat.reduceSub, Nat.reduceAdd, Nat.reduceMul, Nat.reduceLT, Nat.reduceLeDiff, Nat.reduceEqDiff, Nat.reduceDiv, Nat.reduceMod, Int.reduceToNat, Int.reduceLE, Int.reduceLT, Nat.le_refl, Int.toNat_natCast, beq_self_eq_true, bne_self_eq_false, Int.reduceBEq, Int.reduceBNe, Int.reduceNeg, Int.reduceAdd, Int.reduceSub, Int.reduceMul, decide_true, decide_false, eq_self, ne_eq, Option.some.injEq, reduceCtorEq, not_false_eq_true, Option.map_some, map_ren_rows]
    refine guardT.splitF (fun h2 => ?_) (fun h2 => ?_) <;> simp -implicitDefEqProofs -dsimp only [go_sem, Nat.reduceSub, Nat.reduceAdd, Nat.reduceMul, Nat.reduceLT, Nat.reduceLeDiff, Nat.reduceEqDiff, Nat.reduceDiv, Nat.reduceMod, Int.reduceToNat, Int.reduceLE, Int.reduceLT, Nat.le_refl, Int.toNat_natCast, beq_self_eq_true, bne_self_eq_false, Int.reduceBEq, Int.reduceBNe, Int.reduceNeg, Int.reduceAdd, Int.reduceSub, Int.reduceMul, decide_true, decide_false, eq_self, ne_eq, Option.some.injEq, reduceCtorEq, not_false_eq_true, Option.map_some, map_ren_rows, h2]
    · have hw : p L[i] = true := by simpa using h2
      refine guardT.splitT (fun h3 => ?_) (fun h3 => ?_) <;> simp -implicitDefEqProofs -dsimp only [go_sem, Nat.reduceSub, Nat.reduceAdd, Nat.reduceMul, Nat.reduceLT, Nat.reduceLeDiff, Nat.reduceEqDiff, Nat.reduceDiv, Nat.reduceMod, Int.reduceToNat, Int.reduceLE, Int.reduceLT, Nat.le_refl, Int.toNat_natCast, beq_self_eq_true, bne_self_eq_false, Int.reduceBEq, Int.reduceBNe, Int.reduceNeg, Int.reduceAdd, Int.reduceSub, Int.reduceMul, decide_true, decide_false, eq_self, ne_eq, Option.some.injEq, reduceCtorEq, not_false_eq_true, Option.map_some, map_ren_rows, h3]
      · obtain ⟨j, rfl⟩ : ∃ j, i = j + 1 := ⟨i - 1, by simp at h3; omega⟩
        have hj : j < L.length := by omega
        refine callT.intro (hkey L[j + 1]) ⟨.inl rfl, LeL_same (hkc2 _ _)⟩ (.inl (by simp only [List.nil_append, List.cons_append, List.all_cons, hkc, Bool.and_true]; rfl)) ⟨refOk_fn (hkc 3), rfl⟩ ?_
        have hw1 : IntKind.i64.wrap (((j + 1 : Nat) : Int) - 1) = (j : Int) := by rw [wrap_i64 (by omega) (by omega)]; omega
        have hr2 := rows_at QuakeRow.csl hj
        ((first | simp -implicitDefEqProofs -dsimp only [go_sem, Nat.reduceSub, Nat.reduceAdd, Nat.reduceMul, Nat.reduceLT, Nat.reduceLeDiff, Nat.reduceEqDiff, Nat.reduceDiv, Nat.reduceMod, Int.reduceToNat, Int.reduceLE, Int.reduceLT, Nat.le_refl, Int.toNat_natCast, beq_self_eq_true, bne_self_eq_false, Int.reduceBEq, Int.reduceBNe, Int.reduceNeg, Int.reduceAdd, Int.reduceSub, Int.reduceMul, decide_true, decide_false, eq_self, ne_eq, Option.some.injEq, reduceCtorEq, not_false_eq_true, Option.map_some, map_ren_rows, hw1, hr2, QuakeRow.cs] | simp -implicitDefEqProofs -dsimp (disch := omega) only [wrap_i64]); repeat (simp -implicitDefEqProofs -dsimp (disch := omega) only [wrap_i64]; try simp -implicitDefEqProofs -dsimp only [go_sem, Nat.reduceSub, Nat.reduceAdd, Nat.reduceMul, Nat.reduceLT, Nat.reduceLeDiff, Nat.reduceEqDiff, Nat.reduceDiv, Nat.reduceMod, Int.reduceToNat, Int.reduceLE, Int.reduceLT, Nat.le_refl, Int.toNat_natCast, beq_self_eq_true, bne_self_eq_false, Int.reduceBEq, Int.reduceBNe, Int.reduceNeg, Int.reduceAdd, Int.reduceSub, Int.reduceMul, decide_true, decide_false, eq_self, ne_eq, Option.some.injEq, reduceCtorEq, not_false_eq_true, Option.map_some, map_ren_rows, hw1, hr2, QuakeRow.cs]))
        repeat (with_reducible refine And.intro ?_ ?_; focus (first | omega | with_reducible rfl | (show drawOk _ = true; kernel_rfl) | (simp only [rows_length, rows_cell, List.length_append, List.length_cons, List.length_nil, List.all_append, List.all_cons, List.all_nil, isCell, Nat.mul_one, Nat.one_mul, Bool.and_self]; first | done | omega)))
        refine callT.intro (hkey L[j]) ⟨.inl rfl, LeL_same (hkc2 _ _)⟩ (.inl (by simp only [List.nil_append, List.cons_append, List.all_cons, hkc, Bool.and_true]; rfl)) ⟨refOk_fn (hkc 3), rfl⟩ ?_
        ((first | simp -implicitDefEqProofs -dsimp only [go_sem, Nat.reduceSub, Nat.reduceAdd, Nat.reduceMul, Nat.reduceLT, Nat.reduceLeDiff, Nat.reduceEqDiff, Nat.reduceDiv, Nat.reduceMod, Int.reduceToNat, Int.reduceLE, Int.reduceLT, Nat.le_refl, Int.toNat_natCast, beq_self_eq_true, bne_self_eq_false, Int.reduceBEq, Int.reduceBNe, Int.reduceNeg, Int.reduceAdd, Int.reduceSub, Int.reduceMul, decide_true, decide_false, eq_self, ne_eq, Option.some.injEq, reduceCtorEq, not_false_eq_true, Option.map_some, map_ren_rows] | simp -implicitDefEqProofs -dsimp (disch := omega) only [wrap_i64]); repeat (simp -implicitDefEqProofs -dsimp (disch := omega) only [wrap_i64]; try simp -implicitDefEqProofs -dsimp only [go_sem, Nat.reduceSub, Nat.reduceAdd, Nat.reduceMul, Nat.reduceLT, Nat.reduceLeDiff, Nat.reduceEqDiff, Nat.reduceDiv, Nat.reduceMod, Int.reduceToNat, Int.reduceLE, Int.reduceLT, Nat.le_refl, Int.toNat_natCast, beq_self_eq_true, bne_self_eq_false, Int.reduceBEq, Int.reduceBNe, Int.reduceNeg, Int.reduceAdd, Int.reduceSub, Int.reduceMul, decide_true, decide_false, eq_self, ne_eq, Option.some.injEq, reduceCtorEq, not_false_eq_true, Option.map_some, map_ren_rows]))
        refine condT.split (fun h4 => ?_) (fun h4 => ?_) <;> simp -implicitDefEqProofs -dsimp only [go_sem, Nat.reduceSub, Nat.reduceAdd, Nat.reduceMul, Nat.reduceLT, Nat.reduceLeDiff, Nat.reduceEqDiff, Nat.reduceDiv, Nat.reduceMod, Int.reduceToNat, Int.reduceLE, Int.reduceLT, Nat.le_refl, Int.toNat_natCast, beq_self_eq_true, bne_self_eq_false, Int.reduceBEq, Int.reduceBNe, Int.reduceNeg, Int.reduceAdd, Int.reduceSub, Int.reduceMul, decide_true, decide_false, eq_self, ne_eq, Option.some.injEq, reduceCtorEq, not_false_eq_true, Option.map_some, map_ren_rows, h4]
        · refine WeakR.drop' ?_ rfl
          have hq : listedQ p key L (j + 1) = false := by
            rw [listedQ_succ hi', hw]
            simp at h4 ⊢
            omega
          rw [listedB_false hi' hq]
        · refine ⟨j + 1 + 1, ⟨hi', range_all_succ hi.2 (by rw [listedQ_succ hi', hw]; simp at h4 ⊢; omega)⟩, ?_, by omega⟩
          refine Weak.cut (0) (by simp) (by simp) ?_ ?_
          · rw [wrap_i64 (by omega) (by omega)]
            simp [LeC, LeV, ren, cutF, hvc2, hkc2]
          · rfl
      · have h0 : i = 0 := by simp at h3; omega
        refine ⟨i + 1, ⟨hi', range_all_succ hi.2 (by subst h0; rw [listedQ_zero hi', hw])⟩, ?_, by omega⟩
        refine Weak.cut (0) (by simp) (by simp) ?_ ?_
        · rw [wrap_i64 (by omega) (by omega)]
          simp [LeC, LeV, ren, cutF, hvc2, hkc2]
        · rfl
    · have hw : p L[i] = false := by simpa using h2
      refine WeakR.drop' ?_ rfl
      have hq : listedQ p key L i = false := by simp [listedQ, hi', hw]
      rw [listedB_false hi' hq]
  · simp -implicitDefEqProofs -dsimp only [go_sem, Nat.reduceSub, Nat.reduceAdd, Nat.reduceMul, Nat.reduceLT, Nat.reduceLeDiff, Nat.reduceEqDiff, Nat.reduceDiv, Nat.reduceMod, Int.reduceToNat, Int.reduceLE, Int.reduceLT, Nat.le_refl, Int.toNat_natCast, beq_self_eq_true, bne_self_eq_false, Int.reduceBEq, Int.reduceBNe, Int.reduceNeg, Int.reduceAdd, Int.reduceSub, Int.reduceMul, decide_true, decide_false, eq_self, ne_eq, Option.some.injEq, reduceCtorEq, not_false_eq_true, Option.map_some, map_ren_rows, h1]
    refine WeakR.drop' ?_ rfl
    have : i = L.length := by simp at h1; omega
    subst this
    rw [listedB, hi.2]
    simp
    try omega
theorem differQuakeRow_ok (L : List QuakeRow) (key : QuakeRow → Int) (fk : Nat) (hkey : ∀ x, Ctr Tryd.prog fk [QuakeRow.v x] [] (.int .i64 (key x)) []) (hl : L.length ≤ 281474976710656) :
    Ctr Tryd.prog 39 [QuakeRow.sl L, .fn (.func fk) [] []] [] (.bool (decide (L.map key).Nodup)) [] := by
  refine Ctr.intro Tryd.mixed Tryd.func39 rfl Tryd.okF39 ?_
  simp -implicitDefEqProofs -dsimp only [go_sem, Nat.reduceSub, Nat.reduceAdd, Nat.reduceMul, Nat.reduceLT, Nat.reduceLeDiff, Nat.reduceEqDiff, Nat.reduceDiv, Nat.reduceMod, Int.reduceToNat, Int.reduceLE, Int.reduceLT, Nat.le_refl, Int.toNat_natCast, beq_self_eq_true, bne_self_eq_false, Int.reduceBEq, Int.reduceBNe, Int.reduceNeg, Int.reduceAdd, Int.reduceSub, Int.reduceMul, decide_true, decide_false, eq_self, ne_eq, Option.some.injEq, reduceCtorEq, not_false_eq_true, Option.map_some, map_ren_rows, Tryd.ntmps39, Tryd.results39]
  refine LoopT.intro (fun i : Nat => i ≤ L.length ∧ ((L.take i).map key).Nodup) (fun i => ⟨[.undef, .fn (.func fk) [] [], .undef, .undef, .undef, .mp 0, .undef, .undef, .undef, QuakeRow.sl L, .int .i64 L.length, .int .i64 i, .undef, .undef, .undef, .undef, .undef, .undef, .undef, .undef, .undef, .undef, .undef, .undef, .undef], [some [.mb (intSet ((L.take i).map key))]], 0⟩) (fun i => L.length - i) 0 ⟨Nat.zero_le _, by simp⟩ ?_ (fun i hi => ?_)
  · refine Weak.cut (1) (by simp) (by simp) ?_ ?_
    · simp [LeC, LeV, ren, cutF]
    · simp [cutH, cutB, ren, intSet]
  simp -implicitDefEqProofs -dsimp only [go_sem, Nat.reduceSub, Nat.reduceAdd, Nat.reduceMul, Nat.reduceLT, Nat.reduceLeDiff, Nat.reduceEqDiff, Nat.reduceDiv, Nat.reduceMod, Int.reduceToNat, Int.reduceLE, Int.reduceLT, Nat.le_refl, Int.toNat_natCast, beq_self_eq_true, bne_self_eq_false, Int.reduceBEq, Int.reduceBNe, Int.reduceNeg, Int.reduceAdd, Int.reduceSub, Int.reduceMul, decide_true, decide_false, eq_self, ne_eq, Option.some.injEq, reduceCtorEq, not_false_eq_true, Option.map_some, map_ren_rows]
  refine condT.split (fun h1 => ?_) (fun h1 => ?_)
  · simp -implicitDefEqProofs -dsimp only [go_sem, Nat.reduceSub, Nat.reduceAdd, Nat.reduceMul, Nat.reduceLT, Nat.reduceLeDiff, Nat.reduceEqDiff, Nat.reduceDiv, Nat.reduceMod, Int.reduceToNat, Int.reduceLE, Int.reduceLT, Nat.le_refl, Int.toNat_natCast, beq_self_eq_true, bne_self_eq_false, Int.reduceBEq, Int.reduceBNe, Int.reduceNeg, Int.reduceAdd, Int.reduceSub, Int.reduceMul, decide_true, decide_false, eq_self, ne_eq, Option.some.injEq, reduceCtorEq, not_false_eq_true, Option.map_some, map_ren_rows, h1]
    have hi' : i < L.length := by simpa using h1
    have h5 := QuakeRow.csl L[i]
    have hr := rows_at QuakeRow.csl hi'
    have ht : (L.take (i + 1)).map key = (L.take i).map key ++ [key L[i]] := by rw [List.take_succ_eq_append_getElem hi', List.map_append]; rfl
    ((first | simp -implicitDefEqProofs -dsimp only [go_sem, Nat.reduceSub, Nat.reduceAdd, Nat.reduceMul, Nat.reduceLT, Nat.reduceLeDiff, Nat.reduceEqDiff, Nat.reduceDiv, Nat.reduceMod, Int.reduceToNat, Int.reduceLE, Int.reduceLT, Nat.le_refl, Int.toNat_natCast, beq_self_eq_true, bne_self_eq_false, Int.reduceBEq, Int.reduceBNe, Int.reduceNeg, Int.reduceAdd, Int.reduceSub, Int.reduceMul, decide_true, decide_false, eq_self, ne_eq, Option.some.injEq, reduceCtorEq, not_false_eq_true, Option.map_some, map_ren_rows, hr, QuakeRow.cs] | simp -implicitDefEqProofs -dsimp (disch := omega) only [wrap_i64]); repeat (simp -implicitDefEqProofs -dsimp (disch := omega) only [wrap_i64]; try simp -implicitDefEqProofs -dsimp only [go_sem, Nat.reduceSub, Nat.reduceAdd, Nat.reduceMul, Nat.reduceLT, Nat.reduceLeDiff, Nat.reduceEqDiff, Nat.reduceDiv, Nat.reduceMod, Int.reduceToNat, Int.reduceLE, Int.reduceLT, Nat.le_refl, Int.toNat_natCast, beq_self_eq_true, bne_self_eq_false, Int.reduceBEq, Int.reduceBNe, Int.reduceNeg, Int.reduceAdd, Int.reduceSub, Int.reduceMul, decide_true, decide_false, eq_self, ne_eq, Option.some.injEq, reduceCtorEq, not_false_eq_true, Option.map_some, map_ren_rows, hr, QuakeRow.cs]))
    repeat (with_reducible refine And.intro ?_ ?_; focus (first | omega | with_reducible rfl | (show drawOk _ = true; kernel_rfl) | (simp only [rows_length, rows_cell, List.length_append, List.length_cons, List.length_nil, List.all_append, List.all_cons, List.all_nil, isCell, Nat.mul_one, Nat.one_mul, Bool.and_self]; first | done | omega)))
    (first | refine callT.intro (hkey L[i]) ⟨.inl rfl, trivial⟩ (.inl rfl) (by first | exact ⟨rfl, rfl⟩ | exact ⟨rfl, by simp [refOk, noOwn, rows_noOwn]⟩ | simp [refOk, noOwn, rows_noOwn]) ?_ | refine callS.intro (hkey L[i]) ⟨.inl rfl, trivial⟩ (.inl rfl) ?_)
    simp -implicitDefEqProofs -dsimp only [go_sem, Nat.reduceSub, Nat.reduceAdd, Nat.reduceMul, Nat.reduceLT, Nat.reduceLeDiff, Nat.reduceEqDiff, Nat.reduceDiv, Nat.reduceMod, Int.reduceToNat, Int.reduceLE, Int.reduceLT, Nat.le_refl, Int.toNat_natCast, beq_self_eq_true, bne_self_eq_false, Int.reduceBEq, Int.reduceBNe, Int.reduceNeg, Int.reduceAdd, Int.reduceSub, Int.reduceMul, decide_true, decide_false, eq_self, ne_eq, Option.some.injEq, reduceCtorEq, not_false_eq_true, Option.map_some, map_ren_rows]
    by_cases hm : key L[i] ∈ (L.take i).map key
    · obtain ⟨j, hj⟩ := intSet_has 0 hm
      simp -implicitDefEqProofs -dsimp only [go_sem, Nat.reduceSub, Nat.reduceAdd, Nat.reduceMul, Nat.reduceLT, Nat.reduceLeDiff, Nat.reduceEqDiff, Nat.reduceDiv, Nat.reduceMod, Int.reduceToNat, Int.reduceLE, Int.reduceLT, Nat.le_refl, Int.toNat_natCast, beq_self_eq_true, bne_self_eq_false, Int.reduceBEq, Int.reduceBNe, Int.reduceNeg, Int.reduceAdd, Int.reduceSub, Int.reduceMul, decide_true, decide_false, eq_self, ne_eq, Option.some.injEq, reduceCtorEq, not_false_eq_true, Option.map_some, map_ren_rows, hj]
      refine WeakR.drop' ?_ (by rfl)
      have : ¬ (L.map key).Nodup := by
        intro hn
        have h2 : ((L.take (i + 1)).map key).Nodup := (List.map_take ▸ hn.sublist (List.take_sublist _ _))
        rw [ht] at h2
        have := (List.nodup_append.1 h2).2.2 _ hm (key L[i]) (by simp)
        exact this rfl
      rw [decide_eq_false this]
    · have hj := intSet_not 0 hm
      simp -implicitDefEqProofs -dsimp only [go_sem, Nat.reduceSub, Nat.reduceAdd, Nat.reduceMul, Nat.reduceLT, Nat.reduceLeDiff, Nat.reduceEqDiff, Nat.reduceDiv, Nat.reduceMod, Int.reduceToNat, Int.reduceLE, Int.reduceLT, Nat.le_refl, Int.toNat_natCast, beq_self_eq_true, bne_self_eq_false, Int.reduceBEq, Int.reduceBNe, Int.reduceNeg, Int.reduceAdd, Int.reduceSub, Int.reduceMul, decide_true, decide_false, eq_self, ne_eq, Option.some.injEq, reduceCtorEq, not_false_eq_true, Option.map_some, map_ren_rows, hj]
      (first | refine callT.intro (hkey L[i]) ⟨.inl rfl, trivial⟩ (.inl rfl) (by first | exact ⟨rfl, rfl⟩ | exact ⟨rfl, by simp [refOk, noOwn, rows_noOwn]⟩ | simp [refOk, noOwn, rows_noOwn]) ?_ | refine callS.intro (hkey L[i]) ⟨.inl rfl, trivial⟩ (.inl rfl) ?_)
      simp -implicitDefEqProofs -dsimp only [go_sem, Nat.reduceSub, Nat.reduceAdd, Nat.reduceMul, Nat.reduceLT, Nat.reduceLeDiff, Nat.reduceEqDiff, Nat.reduceDiv, Nat.reduceMod, Int.reduceToNat, Int.reduceLE, Int.reduceLT, Nat.le_refl, Int.toNat_natCast, beq_self_eq_true, bne_self_eq_false, Int.reduceBEq, Int.reduceBNe, Int.reduceNeg, Int.reduceAdd, Int.reduceSub, Int.reduceMul, decide_true, decide_false, eq_self, ne_eq, Option.some.injEq, reduceCtorEq, not_false_eq_true, Option.map_some, map_ren_rows, hj, intSet_put]
      refine ⟨i + 1, ⟨hi', ?_⟩, ?_, by omega⟩
      · rw [ht, List.nodup_append]
        exact ⟨hi.2, by simp, fun a ha b hb => by simp at hb; subst hb; rintro rfl; exact hm ha⟩
      refine Weak.cut (1) (by simp) (by simp) ?_ ?_
      · rw [wrap_i64 (by omega) (by omega)]
        simp [LeC, LeV, ren, cutF]
      · rw [ht]
        simp [cutH, cutB, ren]
  · simp -implicitDefEqProofs -dsimp only [go_sem, Nat.reduceSub, Nat.reduceAdd, Nat.reduceMul, Nat.reduceLT, Nat.reduceLeDiff, Nat.reduceEqDiff, Nat.reduceDiv, Nat.reduceMod, Int.reduceToNat, Int.reduceLE, Int.reduceLT, Nat.le_refl, Int.toNat_natCast, beq_self_eq_true, bne_self_eq_false, Int.reduceBEq, Int.reduceBNe, Int.reduceNeg, Int.reduceAdd, Int.reduceSub, Int.reduceMul, decide_true, decide_false, eq_self, ne_eq, Option.some.injEq, reduceCtorEq, not_false_eq_true, Option.map_some, map_ren_rows, h1]
    have hi' : i = L.length := by simp at h1; omega
    subst hi'
    have h2 := hi.2
    rw [List.take_length] at h2
    exact WeakR.drop' (by rw [decide_eq_true h2]) (by rfl)
end Go.Proofs
