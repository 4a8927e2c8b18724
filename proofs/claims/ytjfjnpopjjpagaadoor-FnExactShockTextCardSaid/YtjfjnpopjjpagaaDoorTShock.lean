/-
  Shock: the pure form of its values, and what the plain helpers do with it. Conditions: none.
-/
import Derived.Test.YtjfjnpopjjpagaaDoorLvFacts
import Derived.Test.YtjfjnpopjjpagaaDoorLvR
set_option linter.unusedSimpArgs false
set_option linter.unusedVariables false
set_option maxRecDepth 100000
namespace Go.Proofs
open Go.Lv
structure Shock where
  Number : Int
  State : Int
  Seen : Int
  Size : Int
  Tick : Int
def Shock.cs (r : Shock) : List V := [.int .i64 r.Number, .int .i64 r.State, .int .i64 r.Seen, .int .i64 r.Size, .int .i64 r.Tick]
def Shock.v (r : Shock) : V := .agg [.int .i64 r.Number, .int .i64 r.State, .int .i64 r.Seen, .int .i64 r.Size, .int .i64 r.Tick]
theorem Shock.csl (a : Shock) : a.cs.length = 5 := rfl
theorem Shock.csp (a : Shock) : a.cs.all (noOwn 2) = true := rfl
instance : FlatP Shock.cs 5 := ⟨fun _ => rfl, fun _ d => by cases d <;> rfl, fun _ => rfl, fun _ => rfl⟩
def Shock.ok (r : Shock) : Prop := i64R r.Number ∧ i64R r.State ∧ i64R r.Seen ∧ i64R r.Size ∧ i64R r.Tick
abbrev Shock.rows (L : List Shock) : List V := Go.Lv.rows Shock.cs L
abbrev Shock.sl (L : List Shock) : V := .sl L.length 5 (Go.Lv.rows Shock.cs L)
abbrev Shock.zs : List V := [.int .i64 0, .int .i64 0, .int .i64 0, .int .i64 0, .int .i64 0]
/-- What a mark writes. -/
def Shock.mk1 (k : Int) : Shock := ⟨k, k + 1, k + 1 + 1, k + 1 + 1 + 1, k + 1 + 1 + 1 + 1⟩
def Shock.marks (k : Int) (n : Nat) : List Shock := (List.range n).map fun i : Nat => Shock.mk1 (k + 5 * (i : Int))
@[simp] theorem Shock.marks_len (k : Int) (n : Nat) : (Shock.marks k n).length = n := by simp [Shock.marks]
theorem Shock.marks_succ (k : Int) (n : Nat) : Shock.marks k (n + 1) = Shock.marks k n ++ [Shock.mk1 (k + 5 * (n : Int))] := by simp [Shock.marks, List.range_succ]
theorem Shock.marks_get (k : Int) (n : Nat) {i : Nat} (hi : i < (Shock.marks k n).length) : (Shock.marks k n)[i] = Shock.mk1 (k + 5 * (i : Int)) := by simp [Shock.marks]
theorem toShock_ok (r : Shock) : Ctr Tryd.prog 47 [r.v] [] r.v [] := by
  refine Ctr.intro Tryd.mixed Tryd.func47 rfl Tryd.okF47 ?_
  simp -implicitDefEqProofs -dsimp only [go_sem, Nat.reduceSub, Nat.reduceAdd, Nat.reduceMul, Nat.reduceLT, Nat.reduceLeDiff, Nat.reduceEqDiff, Nat.reduceDiv, Nat.reduceMod, Int.reduceToNat, Int.reduceLE, Int.reduceLT, Nat.le_refl, Int.toNat_natCast, beq_self_eq_true, bne_self_eq_false, Int.reduceBEq, Int.reduceBNe, Int.reduceNeg, Int.reduceAdd, Int.reduceSub, Int.reduceMul, decide_true, decide_false, eq_self, ne_eq, Option.some.injEq, reduceCtorEq, not_false_eq_true, Option.map_some, map_ren_rows, Tryd.ntmps47, Tryd.results47]
  simp -implicitDefEqProofs -dsimp only [go_sem, Nat.reduceSub, Nat.reduceAdd, Nat.reduceMul, Nat.reduceLT, Nat.reduceLeDiff, Nat.reduceEqDiff, Nat.reduceDiv, Nat.reduceMod, Int.reduceToNat, Int.reduceLE, Int.reduceLT, Nat.le_refl, Int.toNat_natCast, beq_self_eq_true, bne_self_eq_false, Int.reduceBEq, Int.reduceBNe, Int.reduceNeg, Int.reduceAdd, Int.reduceSub, Int.reduceMul, decide_true, decide_false, eq_self, ne_eq, Option.some.injEq, reduceCtorEq, not_false_eq_true, Option.map_some, map_ren_rows, Shock.v]
  exact WeakR.drop' rfl rfl
theorem toShockS_ok (L : List Shock) (hl : L.length ≤ 1048576) : Ctr Tryd.prog 29 [Shock.sl L] [] (.osl 0 0 L.length 5) [some (rows Shock.cs L)] := by
  refine Ctr.intro Tryd.mixed Tryd.func29 rfl Tryd.okF29 ?_
  simp -implicitDefEqProofs -dsimp only [go_sem, Nat.reduceSub, Nat.reduceAdd, Nat.reduceMul, Nat.reduceLT, Nat.reduceLeDiff, Nat.reduceEqDiff, Nat.reduceDiv, Nat.reduceMod, Int.reduceToNat, Int.reduceLE, Int.reduceLT, Nat.le_refl, Int.toNat_natCast, beq_self_eq_true, bne_self_eq_false, Int.reduceBEq, Int.reduceBNe, Int.reduceNeg, Int.reduceAdd, Int.reduceSub, Int.reduceMul, decide_true, decide_false, eq_self, ne_eq, Option.some.injEq, reduceCtorEq, not_false_eq_true, Option.map_some, map_ren_rows, Tryd.ntmps29, Tryd.results29]
  refine ⟨by omega, by omega, by omega, ?_⟩
  refine LoopT.intro (fun i : Nat => i ≤ L.length) (fun i => ⟨[Shock.sl L, .undef, .undef, .osl 0 0 L.length 5, .int .i64 i, .undef, .undef, .undef, .undef, .undef, .undef, .undef, .undef, .undef, .undef, .undef, .undef, .undef, .undef, .undef, .undef, .undef, .undef], [some (filled Shock.cs 5 Shock.zs L i)], 0⟩) (fun i => L.length - i) 0 (Nat.zero_le _) ?_ (fun i hi => ?_)
  · refine Weak.cut (1) (by simp) (by simp) ?_ ?_
    · simp [LeC, LeV, ren, cutF]
    · rw [filled_zero]
      simp only [cutH, List.take, List.map]
      rw [cutB_rows (zrow_all rfl (by decide) _)]
  simp -implicitDefEqProofs -dsimp only [go_sem, Nat.reduceSub, Nat.reduceAdd, Nat.reduceMul, Nat.reduceLT, Nat.reduceLeDiff, Nat.reduceEqDiff, Nat.reduceDiv, Nat.reduceMod, Int.reduceToNat, Int.reduceLE, Int.reduceLT, Nat.le_refl, Int.toNat_natCast, beq_self_eq_true, bne_self_eq_false, Int.reduceBEq, Int.reduceBNe, Int.reduceNeg, Int.reduceAdd, Int.reduceSub, Int.reduceMul, decide_true, decide_false, eq_self, ne_eq, Option.some.injEq, reduceCtorEq, not_false_eq_true, Option.map_some, map_ren_rows]
  refine condT.split (fun h1 => ?_) (fun h1 => ?_)
  · simp -implicitDefEqProofs -dsimp only [go_sem, Nat.reduceSub, Nat.reduceAdd, Nat.reduceMul, Nat.reduceLT, Nat.reduceLeDiff, Nat.reduceEqDiff, Nat.reduceDiv, Nat.reduceMod, Int.reduceToNat, Int.reduceLE, Int.reduceLT, Nat.le_refl, Int.toNat_natCast, beq_self_eq_true, bne_self_eq_false, Int.reduceBEq, Int.reduceBNe, Int.reduceNeg, Int.reduceAdd, Int.reduceSub, Int.reduceMul, decide_true, decide_false, eq_self, ne_eq, Option.some.injEq, reduceCtorEq, not_false_eq_true, Option.map_some, map_ren_rows, h1]
    have hi' : i < L.length := by simpa using h1
    rw [rows_at Shock.csl hi']
    refine ⟨by omega, by simp [Shock.csl], ?_⟩
    (first | refine callT.intro (toShock_ok L[i]) ⟨.inl rfl, trivial⟩ (.inl rfl) (by first | exact ⟨rfl, rfl⟩ | exact ⟨rfl, by simp [refOk, noOwn, rows_noOwn]⟩ | simp [refOk, noOwn, rows_noOwn]) ?_ | refine callS.intro (toShock_ok L[i]) ⟨.inl rfl, trivial⟩ (.inl rfl) ?_)
    simp -implicitDefEqProofs -dsimp only [go_sem, Nat.reduceSub, Nat.reduceAdd, Nat.reduceMul, Nat.reduceLT, Nat.reduceLeDiff, Nat.reduceEqDiff, Nat.reduceDiv, Nat.reduceMod, Int.reduceToNat, Int.reduceLE, Int.reduceLT, Nat.le_refl, Int.toNat_natCast, beq_self_eq_true, bne_self_eq_false, Int.reduceBEq, Int.reduceBNe, Int.reduceNeg, Int.reduceAdd, Int.reduceSub, Int.reduceMul, decide_true, decide_false, eq_self, ne_eq, Option.some.injEq, reduceCtorEq, not_false_eq_true, Option.map_some, map_ren_rows, Shock.v]
    refine ⟨⟨by omega, by omega⟩, by rw [filled_len Shock.csl hi]; omega, i + 1, hi', ?_, by omega⟩
    refine Weak.cut (1) (by simp) (by simp) ?_ ?_
    · rw [wrap_i64 (by omega) (by omega)]
      simp [LeC, LeV, ren, cutF]
    · have := filled_step (zs := Shock.zs) Shock.csl rfl hi'
      simp only [Shock.cs] at this ⊢
      rw [this]
      simp only [cutH, List.take, List.map]
      rw [cutB_rows (filled_plain (by decide) rfl (fun a => by exact Shock.csp a))]
  · simp -implicitDefEqProofs -dsimp only [go_sem, Nat.reduceSub, Nat.reduceAdd, Nat.reduceMul, Nat.reduceLT, Nat.reduceLeDiff, Nat.reduceEqDiff, Nat.reduceDiv, Nat.reduceMod, Int.reduceToNat, Int.reduceLE, Int.reduceLT, Nat.le_refl, Int.toNat_natCast, beq_self_eq_true, bne_self_eq_false, Int.reduceBEq, Int.reduceBNe, Int.reduceNeg, Int.reduceAdd, Int.reduceSub, Int.reduceMul, decide_true, decide_false, eq_self, ne_eq, Option.some.injEq, reduceCtorEq, not_false_eq_true, Option.map_some, map_ren_rows, h1]
    have hi' : i = L.length := by simp at h1; omega
    subst hi'
    rw [filled_all Shock.csl (Nat.le_refl _)]
    exact WeakR.refl _ _ _
theorem szShockS_ok (L : List Shock) (n : Int) (hl : L.length ≤ 9223372036854775807) (hn : 0 ≤ n) (hn2 : n ≤ 1048576) : Ctr Tryd.prog 24 [Shock.sl L, .int .i64 n] [] (.int .i64 (if n < L.length then -1 else n - L.length)) [] := by
  refine Ctr.intro Tryd.mixed Tryd.func24 rfl Tryd.okF24 ?_
  simp -implicitDefEqProofs -dsimp only [go_sem, Nat.reduceSub, Nat.reduceAdd, Nat.reduceMul, Nat.reduceLT, Nat.reduceLeDiff, Nat.reduceEqDiff, Nat.reduceDiv, Nat.reduceMod, Int.reduceToNat, Int.reduceLE, Int.reduceLT, Nat.le_refl, Int.toNat_natCast, beq_self_eq_true, bne_self_eq_false, Int.reduceBEq, Int.reduceBNe, Int.reduceNeg, Int.reduceAdd, Int.reduceSub, Int.reduceMul, decide_true, decide_false, eq_self, ne_eq, Option.some.injEq, reduceCtorEq, not_false_eq_true, Option.map_some, map_ren_rows, Tryd.ntmps24, Tryd.results24]
  rw [wrap_i64 (by omega) (by omega)]
  refine condT.split (fun h1 => ?_) (fun h1 => ?_) <;> simp -implicitDefEqProofs -dsimp only [go_sem, Nat.reduceSub, Nat.reduceAdd, Nat.reduceMul, Nat.reduceLT, Nat.reduceLeDiff, Nat.reduceEqDiff, Nat.reduceDiv, Nat.reduceMod, Int.reduceToNat, Int.reduceLE, Int.reduceLT, Nat.le_refl, Int.toNat_natCast, beq_self_eq_true, bne_self_eq_false, Int.reduceBEq, Int.reduceBNe, Int.reduceNeg, Int.reduceAdd, Int.reduceSub, Int.reduceMul, decide_true, decide_false, eq_self, ne_eq, Option.some.injEq, reduceCtorEq, not_false_eq_true, Option.map_some, map_ren_rows, h1]
  · exact WeakR.of_eq (by simp at h1; rw [if_pos (by omega)])
  · exact WeakR.of_eq (by simp at h1; rw [if_neg (by omega)])
theorem eqShock_ok (r : Shock) : Ctr Tryd.prog 61 [r.v, r.v] [] (.bool true) [] := by
  refine Ctr.intro Tryd.mixed Tryd.func61 rfl Tryd.okF61 ?_
  simp -implicitDefEqProofs -dsimp only [go_sem, Nat.reduceSub, Nat.reduceAdd, Nat.reduceMul, Nat.reduceLT, Nat.reduceLeDiff, Nat.reduceEqDiff, Nat.reduceDiv, Nat.reduceMod, Int.reduceToNat, Int.reduceLE, Int.reduceLT, Nat.le_refl, Int.toNat_natCast, beq_self_eq_true, bne_self_eq_false, Int.reduceBEq, Int.reduceBNe, Int.reduceNeg, Int.reduceAdd, Int.reduceSub, Int.reduceMul, decide_true, decide_false, eq_self, ne_eq, Option.some.injEq, reduceCtorEq, not_false_eq_true, Option.map_some, map_ren_rows, Tryd.ntmps61, Tryd.results61]
  simp -implicitDefEqProofs -dsimp only [go_sem, Nat.reduceSub, Nat.reduceAdd, Nat.reduceMul, Nat.reduceLT, Nat.reduceLeDiff, Nat.reduceEqDiff, Nat.reduceDiv, Nat.reduceMod, Int.reduceToNat, Int.reduceLE, Int.reduceLT, Nat.le_refl, Int.toNat_natCast, beq_self_eq_true, bne_self_eq_false, Int.reduceBEq, Int.reduceBNe, Int.reduceNeg, Int.reduceAdd, Int.reduceSub, Int.reduceMul, decide_true, decide_false, eq_self, ne_eq, Option.some.injEq, reduceCtorEq, not_false_eq_true, Option.map_some, map_ren_rows, Shock.v, bne_self_eq_false, beq_self_eq_true, Bool.not_true]
  exact WeakR.drop' rfl rfl
theorem eqShockS_ok (L : List Shock) (hl : L.length ≤ 281474976710656) : Ctr Tryd.prog 34 [Shock.sl L, Shock.sl L] [] (.bool true) [] := by
  refine Ctr.intro Tryd.mixed Tryd.func34 rfl Tryd.okF34 ?_
  simp -implicitDefEqProofs -dsimp only [go_sem, Nat.reduceSub, Nat.reduceAdd, Nat.reduceMul, Nat.reduceLT, Nat.reduceLeDiff, Nat.reduceEqDiff, Nat.reduceDiv, Nat.reduceMod, Int.reduceToNat, Int.reduceLE, Int.reduceLT, Nat.le_refl, Int.toNat_natCast, beq_self_eq_true, bne_self_eq_false, Int.reduceBEq, Int.reduceBNe, Int.reduceNeg, Int.reduceAdd, Int.reduceSub, Int.reduceMul, decide_true, decide_false, eq_self, ne_eq, Option.some.injEq, reduceCtorEq, not_false_eq_true, Option.map_some, map_ren_rows, Tryd.ntmps34, Tryd.results34]
  refine LoopT.intro (fun i : Nat => i ≤ L.length) (fun i => ⟨[Shock.sl L, Shock.sl L, .undef, .undef, .undef, .int .i64 i, .undef, .undef, .undef, .undef, .undef, .undef, .undef, .undef, .undef, .undef, .undef, .undef, .undef, .undef, .undef, .undef, .undef, .undef, .undef, .undef, .undef], [], 0⟩) (fun i => L.length - i) 0 (Nat.zero_le _) ?_ (fun i hi => ?_)
  · refine Weak.cut (0) (by simp) (by simp) ?_ ?_
    · simp [LeC, LeV, ren, cutF]
    · rfl
  simp -implicitDefEqProofs -dsimp only [go_sem, Nat.reduceSub, Nat.reduceAdd, Nat.reduceMul, Nat.reduceLT, Nat.reduceLeDiff, Nat.reduceEqDiff, Nat.reduceDiv, Nat.reduceMod, Int.reduceToNat, Int.reduceLE, Int.reduceLT, Nat.le_refl, Int.toNat_natCast, beq_self_eq_true, bne_self_eq_false, Int.reduceBEq, Int.reduceBNe, Int.reduceNeg, Int.reduceAdd, Int.reduceSub, Int.reduceMul, decide_true, decide_false, eq_self, ne_eq, Option.some.injEq, reduceCtorEq, not_false_eq_true, Option.map_some, map_ren_rows]
  refine condT.split (fun h1 => ?_) (fun h1 => ?_)
  · simp -implicitDefEqProofs -dsimp only [go_sem, Nat.reduceSub, Nat.reduceAdd, Nat.reduceMul, Nat.reduceLT, Nat.reduceLeDiff, Nat.reduceEqDiff, Nat.reduceDiv, Nat.reduceMod, Int.reduceToNat, Int.reduceLE, Int.reduceLT, Nat.le_refl, Int.toNat_natCast, beq_self_eq_true, bne_self_eq_false, Int.reduceBEq, Int.reduceBNe, Int.reduceNeg, Int.reduceAdd, Int.reduceSub, Int.reduceMul, decide_true, decide_false, eq_self, ne_eq, Option.some.injEq, reduceCtorEq, not_false_eq_true, Option.map_some, map_ren_rows, h1]
    have hi' : i < L.length := by simpa using h1
    rw [rows_at Shock.csl hi']
    have h5 := Shock.csl L[i]
    refine ⟨by kernel_rfl, ⟨by omega, by omega⟩, by omega, ⟨by omega, by omega⟩, by omega, ?_⟩
    (first | refine callT.intro (eqShock_ok L[i]) ⟨.inl rfl, .inl rfl, trivial⟩ (.inl rfl) (by first | exact ⟨rfl, rfl⟩ | exact ⟨rfl, by simp [refOk, noOwn, rows_noOwn]⟩ | simp [refOk, noOwn, rows_noOwn]) ?_ | refine callS.intro (eqShock_ok L[i]) ⟨.inl rfl, .inl rfl, trivial⟩ (.inl rfl) ?_)
    simp -implicitDefEqProofs -dsimp only [go_sem, Nat.reduceSub, Nat.reduceAdd, Nat.reduceMul, Nat.reduceLT, Nat.reduceLeDiff, Nat.reduceEqDiff, Nat.reduceDiv, Nat.reduceMod, Int.reduceToNat, Int.reduceLE, Int.reduceLT, Nat.le_refl, Int.toNat_natCast, beq_self_eq_true, bne_self_eq_false, Int.reduceBEq, Int.reduceBNe, Int.reduceNeg, Int.reduceAdd, Int.reduceSub, Int.reduceMul, decide_true, decide_false, eq_self, ne_eq, Option.some.injEq, reduceCtorEq, not_false_eq_true, Option.map_some, map_ren_rows]
    refine ⟨i + 1, hi', ?_, by omega⟩
    refine Weak.cut (0) (by simp) (by simp) ?_ ?_
    · rw [wrap_i64 (by omega) (by omega)]
      simp [LeC, LeV, ren, cutF]
    · rfl
  · simp -implicitDefEqProofs -dsimp only [go_sem, Nat.reduceSub, Nat.reduceAdd, Nat.reduceMul, Nat.reduceLT, Nat.reduceLeDiff, Nat.reduceEqDiff, Nat.reduceDiv, Nat.reduceMod, Int.reduceToNat, Int.reduceLE, Int.reduceLT, Nat.le_refl, Int.toNat_natCast, beq_self_eq_true, bne_self_eq_false, Int.reduceBEq, Int.reduceBNe, Int.reduceNeg, Int.reduceAdd, Int.reduceSub, Int.reduceMul, decide_true, decide_false, eq_self, ne_eq, Option.some.injEq, reduceCtorEq, not_false_eq_true, Option.map_some, map_ren_rows, h1]
    exact WeakR.refl _ _ _
theorem areListedShock_ok (L : List Shock) (p : Shock → Bool) (key : Shock → Int) (most : Int) (fv fk : Nat) (vc kc : List V) (hvc : ∀ d, vc.all (noOwn d) = true) (hkc : ∀ d, kc.all (noOwn d) = true) (hv : ∀ x, Ctr Tryd.prog fv (Shock.v x :: vc) [] (.bool (p x)) []) (hkey : ∀ x, Ctr Tryd.prog fk (Shock.v x :: kc) [] (.int .i64 (key x)) []) (m : Nat) (hm : most = m) (hl : L.length ≤ 281474976710656) :
    Ctr Tryd.prog 58 [Shock.sl L, .int .i64 most, .fn (.func fv) [] vc, .fn (.func fk) [] kc] [] (.bool (listedB p key m L)) [] := by
  subst hm
  refine Ctr.intro Tryd.mixed Tryd.func58 rfl Tryd.okF58 ?_
  simp -implicitDefEqProofs -dsimp only [go_sem, Nat.reduceSub, Nat.reduceAdd, Nat.reduceMul, Nat.reduceLT, Nat.reduceLeDiff, Nat.reduceEqDiff, Nat.reduceDiv, Nat.reduceMod, Int.reduceToNat, Int.reduceLE, Int.reduceLT, Nat.le_refl, Int.toNat_natCast, beq_self_eq_true, bne_self_eq_false, Int.reduceBEq, Int.reduceBNe, Int.reduceNeg, Int.reduceAdd, Int.reduceSub, Int.reduceMul, decide_true, decide_false, eq_self, ne_eq, Option.some.injEq, reduceCtorEq, not_false_eq_true, Option.map_some, map_ren_rows, Tryd.ntmps58, Tryd.results58]
  have hvc2 : ∀ f d, vc.map (ren f d) = vc := fun f d => map_ren f (hvc d)
  have hkc2 : ∀ f d, kc.map (ren f d) = kc := fun f d => map_ren f (hkc d)
  refine LoopT.intro (fun i : Nat => i ≤ L.length ∧ (List.range i).all (listedQ p key L) = true) (fun i => ⟨[Shock.sl L, .int .i64 m, .fn (.func fv) [] vc, .fn (.func fk) [] kc, .undef, .undef, .undef, .undef, .undef, .undef, .undef, Shock.sl L, .int .i64 L.length, .int .i64 i, .undef, .undef, .undef, .undef, .undef, .undef, .undef, .undef, .undef, .undef, .undef, .undef, .undef, .undef, .undef, .undef, .undef, .undef, .undef, .undef, .undef, .undef, .undef, .undef, .undef, .undef, .undef, .undef, .undef, .undef], [], 0⟩) (fun i => L.length - i) 0 ⟨Nat.zero_le _, rfl⟩ ?_ (fun i hi => ?_)
  · refine Weak.cut (0) (by simp) (by simp) ?_ ?_
    · simp [LeC, LeV, ren, cutF, hvc2, hkc2]
    · rfl
  simp -implicitDefEqProofs -dsimp only [go_sem, Nat.reduceSub, Nat.reduceAdd, Nat.reduceMul, Nat.reduceLT, Nat.reduceLeDiff, Nat.reduceEqDiff, Nat.reduceDiv, Nat.reduceMod, Int.reduceToNat, Int.reduceLE, Int.reduceLT, Nat.le_refl, Int.toNat_natCast, beq_self_eq_true, bne_self_eq_false, Int.reduceBEq, Int.reduceBNe, Int.reduceNeg, Int.reduceAdd, Int.reduceSub, Int.reduceMul, decide_true, decide_false, eq_self, ne_eq, Option.some.injEq, reduceCtorEq, not_false_eq_true, Option.map_some, map_ren_rows]
  refine condT.split (fun h1 => ?_) (fun h1 => ?_)
  · simp -implicitDefEqProofs -dsimp only [go_sem, Nat.reduceSub, Nat.reduceAdd, Nat.reduceMul, Nat.reduceLT, Nat.reduceLeDiff, Nat.reduceEqDiff, Nat.reduceDiv, Nat.reduceMod, Int.reduceToNat, Int.reduceLE, Int.reduceLT, Nat.le_refl, Int.toNat_natCast, beq_self_eq_true, bne_self_eq_false, Int.reduceBEq, Int.reduceBNe, Int.reduceNeg, Int.reduceAdd, Int.reduceSub, Int.reduceMul, decide_true, decide_false, eq_self, ne_eq, Option.some.injEq, reduceCtorEq, not_false_eq_true, Option.map_some, map_ren_rows, h1]
    have hi' : i < L.length := by simpa using h1
    have h5 := Shock.csl L[i]
    have hr := rows_at Shock.csl hi'
    ((first | simp -implicitDefEqProofs -dsimp only [go_sem, Nat.reduceSub, Nat.reduceAdd, Nat.reduceMul, Nat.reduceLT, Nat.reduceLeDiff, Nat.reduceEqDiff, Nat.reduceDiv, Nat.reduceMod, Int.reduceToNat, Int.reduceLE, Int.reduceLT, Nat.le_refl, Int.toNat_natCast, beq_self_eq_true, bne_self_eq_false, Int.reduceBEq, Int.reduceBNe, Int.reduceNeg, Int.reduceAdd, Int.reduceSub, Int.reduceMul, decide_true, decide_false, eq_self, ne_eq, Option.some.injEq, reduceCtorEq, not_false_eq_true, Option.map_some, map_ren_rows, hr, Shock.cs] | simp -implicitDefEqProofs -dsimp (disch := omega) only [wrap_i64]); repeat (simp -implicitDefEqProofs -dsimp (disch := omega) only [wrap_i64]; try simp -implicitDefEqProofs -dsimp only [go_sem, Nat.reduceSub, Nat.reduceAdd, Nat.reduceMul, Nat.reduceLT, Nat.reduceLeDiff, Nat.reduceEqDiff, Nat.reduceDiv, Nat.reduceMod, Int.reduceToNat, Int.reduceLE, Int.reduceLT, Nat.le_refl, Int.toNat_natCast, beq_self_eq_true, bne_self_eq_false, Int.reduceBEq, Int.reduceBNe, Int.reduceNeg, Int.reduceAdd, Int.reduceSub, Int.reduceMul, decide_true, decide_false, eq_self, ne_eq, Option.some.injEq, reduceCtorEq, not_false_eq_true, Option.map_some, map_ren_rows, hr, Shock.cs]))
    repeat (with_reducible refine And.intro ?_ ?_; focus (first | omega | with_reducible rfl | (show drawOk _ = true; kernel_rfl) | (simp only [rows_length, rows_cell, List.length_append, List.length_cons, List.length_nil, List.all_append, List.all_cons, List.all_nil, isCell, Nat.mul_one, Nat.one_mul, Bool.and_self]; first | done | omega)))
    refine callT.intro (hv L[i]) ⟨.inl rfl, LeL_same (hvc2 _ _)⟩ (.inl (by simp only [List.nil_append, List.cons_append, List.all_cons, hvc, Bool.and_true]; rfl)) ⟨refOk_fn (hvc 3), rfl⟩ ?_
    simp -implicitDefEqProofs -dsimp only [go_sem, Nat.reduceSub, Nat.reduceAdd, Nat.reduceMul, Nat.reduceLT, Nat.reduceLeDiff, Nat.reduceEqDiff, Nat.reduceDiv, Nat.reduceMod, Int.reduceToNat, Int.reduceLE, Int.reduceLT, Nat.le_refl, Int.toNat_natCast, beq_self_eq_true, bne_self_eq_false, Int.reduceBEq, Int.reduceBNe, Int.reduceNeg, Int.reduceAdd, Int.reduceSub, Int.reduceMul, decide_true, decide_false, eq_self, ne_eq, Option.some.injEq, reduceCtorEq, not_false_eq_true, Option.map_some, map_ren_rows]
    refine guardT.splitF (fun h2 => ?_) (fun h2 => ?_) <;> simp -implicitDefEqProofs -dsimp only [go_sem, Nat.reduceSub, Nat.reduceAdd, Nat.reduceMul, Nat.reduceLT, Nat.reduceLeDiff, Nat.reduceEqDiff, Nat.reduceDiv, Nat.reduceMod, Int.reduceToNat, Int.reduceLE, Int.reduceLT, Nat.le_refl, Int.toNat_natCast, beq_self_eq_true, bne_self_eq_false, Int.reduceBEq, Int.reduceBNe, Int.reduceNeg, Int.reduceAdd, Int.reduceSub, Int.reduceMul, decide_true, decide_false, eq_self, ne_eq, Option.some.injEq, reduceCtorEq, not_false_eq_true, Option.map_some, map_ren_rows, h2]
    · have hw : p L[i] = true := by simpa using h2
      refine guardT.splitT (fun h3 => ?_) (fun h3 => ?_) <;> simp -implicitDefEqProofs -dsimp only [go_sem, Nat.reduceSub, Nat.reduceAdd, Nat.reduceMul, Nat.reduceLT, Nat.reduceLeDiff, Nat.reduceEqDiff, Nat.reduceDiv, Nat.reduceMod, Int.reduceToNat, Int.reduceLE, Int.reduceLT, Nat.le_refl, Int.toNat_natCast, beq_self_eq_true, bne_self_eq_false, Int.reduceBEq, Int.reduceBNe, Int.reduceNeg, Int.reduceAdd, Int.reduceSub, Int.reduceMul, decide_true, decide_false, eq_self, ne_eq, Option.some.injEq, reduceCtorEq, not_false_eq_true, Option.map_some, map_ren_rows, h3]
      · obtain ⟨j, rfl⟩ : ∃ j, i = j + 1 := ⟨i - 1, by simp at h3; omega⟩
        have hj : j < L.length := by omega
        refine callT.intro (hkey L[j + 1]) ⟨.inl rfl, LeL_same (hkc2 _ _)⟩ (.inl (by simp only [List.nil_append, List.cons_append, List.all_cons, hkc, Bool.and_true]; rfl)) ⟨refOk_fn (hkc 3), rfl⟩ ?_
        have hw1 : IntKind.i64.wrap (((j + 1 : Nat) : Int) - 1) = (j : Int) := by rw [wrap_i64 (by omega) (by omega)]; omega
        have hr2 := rows_at Shock.csl hj
        ((first | simp -implicitDefEqProofs -dsimp only [go_sem, Nat.reduceSub, Nat.reduceAdd, Nat.reduceMul, Nat.reduceLT, Nat.reduceLeDiff, Nat.reduceEqDiff, Nat.reduceDiv, Nat.reduceMod, Int.reduceToNat, Int.reduceLE, Int.reduceLT, Nat.le_refl, Int.toNat_natCast, beq_self_eq_true, bne_self_eq_false, Int.reduceBEq, Int.reduceBNe, Int.reduceNeg, Int.reduceAdd, Int.reduceSub, Int.reduceMul, decide_true, decide_false, eq_self, ne_eq, Option.some.injEq, reduceCtorEq, not_false_eq_true, Option.map_some, map_ren_rows, hw1, hr2, Shock.cs] | simp -implicitDefEqProofs -dsimp (disch := omega) only [wrap_i64]); repeat (simp -implicitDefEqProofs -dsimp (disch := omega) only [wrap_i64]; try simp -implicitDefEqProofs -dsimp only [go_sem, Nat.reduceSub, Nat.reduceAdd, Nat.reduceMul, Nat.reduceLT, Nat.reduceLeDiff, Nat.reduceEqDiff, Nat.reduceDiv, Nat.reduceMod, Int.reduceToNat, Int.reduceLE, Int.reduceLT, Nat.le_refl, Int.toNat_natCast, beq_self_eq_true, bne_self_eq_false, Int.reduceBEq, Int.reduceBNe, Int.reduceNeg, Int.reduceAdd, Int.reduceSub, Int.reduceMul, decide_true, decide_false, eq_self, ne_eq, Option.some.injEq, reduceCtorEq, not_false_eq_true, Option.map_some, map_ren_rows, hw1, hr2, Shock.cs]))
        repeat (with_reducible refine And.intro ?_ ?_; focus (first | omega | with_reducible rfl | (show drawOk _ = true; kernel_rfl) | (simp only [rows_length, rows_cell, List.length_append, List.length_cons, List.length_nil, List.all_append, List.all_cons, List.all_nil, isCell, Nat.mul_one, Nat.one_mul, Bool.and_self]; first | done | omega)))
        refine callT.intro (hkey L[j]) ⟨.inl rfl, LeL_same (hkc2 _ _)⟩ (.inl (by simp only [List.nil_append, List.cons_append, List.all_cons, hkc, Bool.and_true]; rfl)) ⟨refOk_fn (hkc 3), rfl⟩ ?_
        ((first | simp -implicitDefEqProofs -dsimp only [go_sem, Nat.reduceSub, Nat.reduceAdd, Nat.reduceMul, Nat.reduceLT, Nat.reduceLeDiff, Nat.reduceEqDiff, Nat.reduceDiv, Nat.reduceMod, Int.reduceToNat, Int.reduceLE, Int.reduceLT, Nat.le_refl, Int.toNat_natCast, beq_self_eq_true, bne_self_eq_false, Int.reduceBEq, Int.reduceBNe, Int.reduceNeg, Int.reduceAdd, Int.reduceSub, Int.reduceMul, decide_true, decide_false, eq_self, ne_eq, Option.some.injEq, reduceCtorEq, not_false_eq_true, Option.map_some, map_ren_rows] | simp -implicitDefEqProofs -dsimp (disch := omega) only [wrap_i64]); repeat (simp -implicitDefEqProofs -dsimp (disch := omega) only [wrap_i64]; try simp -implicitDefEqProofs -dsimp only [go_sem, Nat.reduceSub, Nat.reduceAdd, Nat.reduceMul, Nat.reduceLT, Nat.reduceLeDiff, Nat.reduceEqDiff, Nat.reduceDiv, Nat.reduceMod, Int.reduceToNat, Int.reduceLE, Int.reduceLT, Nat.le_refl, Int.toNat_natCast, beq_self_eq_true, bne_self_eq_false, Int.reduceBEq, Int.reduceBNe, Int.reduceNeg, Int.reduceAdd, Int.reduceSub, Int.reduceMul, decide_true, decide_false, eq_self, ne_eq, Option.some.injEq, reduceCtorEq, not_false_eq_true, Option.map_some, map_ren_rows]))
        refine condT.split (fun h4 => ?_) (fun h4 => ?_) <;> simp -implicitDefEqProofs -dsimp only [go_sem, Nat.reduceSub, Nat.reduceAdd, Nat.reduceMul, Nat.reduceLT, Nat.reduceLeDiff, Nat.reduceEqDiff, Nat.reduceDiv, Nat.reduceMod, Int.reduceToNat, Int.reduceLE, Int.reduceLT, Nat.le_refl, Int.toNat_natCast, beq_self_eq_true, bne_self_eq_false, Int.reduceBEq, Int.reduceBNe, Int.reduceNeg, Int.reduceAdd, Int.reduceSub, Int.reduceMul, decide_true, decide_false, eq_self, ne_eq, Option.some.injEq, reduceCtorEq, not_false_eq_true, Option.map_some, map_ren_rows, h4]
        · refine WeakR.drop' ?_ rfl
          have hq : listedQ p key L (j + 1) = false := by
            rw [listedQ_succ hi', hw]
            simp at h4 ⊢
            omega
          rw [listedB_false hi' hq]
        · refine ⟨j + 1 + 1, ⟨hi', range_all_succ hi.2 (by rw [listedQ_succ hi', hw]; simp at h4 ⊢; omega)⟩, ?_, by omega⟩
          refine Weak.cut (0) (by simp) (by simp) ?_ ?_
          · rw [wrap_i64 (by omega) (by omega)]
            simp [LeC, LeV, ren, cutF, hvc2, hkc2]
          · rfl
      · have h0 : i = 0 := by simp at h3; omega
        refine ⟨i + 1, ⟨hi', range_all_succ hi.2 (by subst h0; rw [listedQ_zero hi', hw])⟩, ?_, by omega⟩
        refine Weak.cut (0) (by simp) (by simp) ?_ ?_
        · rw [wrap_i64 (by omega) (by omega)]
          simp [LeC, LeV, ren, cutF, hvc2, hkc2]
        · rfl
    · have hw : p L[i] = false := by simpa using h2
      refine WeakR.drop' ?_ rfl
      have hq : listedQ p key L i = false := by simp [listedQ, hi', hw]
      rw [listedB_false hi' hq]
  · simp -implicitDefEqProofs -dsimp only [go_sem, Nat.reduceSub, Nat.reduceAdd, Nat.reduceMul, Nat.reduceLT, Nat.reduceLeDiff, Nat.reduceEqDiff, Nat.reduceDiv, Nat.reduceMod, Int.reduceToNat, Int.reduceLE, Int.reduceLT, Nat.le_refl, Int.toNat_natCast, beq_self_eq_true, bne_self_eq_false, Int.reduceBEq, Int.reduceBNe, Int.reduceNeg, Int.reduceAdd, Int.reduceSub, Int.reduceMul, decide_true, decide_false, eq_self, ne_eq, Option.some.injEq, reduceCtorEq, not_false_eq_true, Option.map_some, map_ren_rows, h1]
    refine WeakR.drop' ?_ rfl
    have : i = L.length := by simp at h1; omega
    subst this
    rw [listedB, hi.2]
    simp
    try omega
end Go.Proofs
