/-
  A part of the proof: texts put together by a program of the prover. Conditions: none.
-/
import Derived.Test.YtfnlgojocgdmcaaDoorZFormatConsole5
import Derived.Lib.AppendIntMem
import Derived.ProofKit
import Derived.Deep.Slices
set_option linter.unusedSimpArgs false
set_option linter.unusedVariables false
section
set_option linter.unusedSimpArgs false
set_option linter.unusedVariables false
set_option maxRecDepth 100000
namespace Go.Proofs
open Go.Lv
theorem tab_pow10 {w : World} {av : Nat → Prop} (h : GL w av) : Lib.TabIs Tryd.prog w "internal/strconv.uint64pow10" .u64 Lib.pow10Tab := by
  obtain ⟨_, T, fr, h2⟩ := h _ (List.mem_singleton.2 rfl)
  have hg : Tryd.prog.globalNamed "internal/strconv.uint64pow10" = some 1 := by kernel_rfl
  unfold Lib.TabIs World.var?
  rw [hg, Option.bind_some, h2]
  rfl
theorem gl_of_tab {W : World} (h : Lib.TabIs Tryd.prog W "internal/strconv.uint64pow10" .u64 Lib.pow10Tab) : GL W (fun _ => False) := by
  intro p hp
  have hp' := List.mem_singleton.1 hp
  subst hp'
  have hg : Tryd.prog.globalNamed "internal/strconv.uint64pow10" = some 1 := by kernel_rfl
  unfold Lib.TabIs World.var? at h
  rw [hg, Option.bind_some] at h
  dsimp only at h ⊢
  split at h
  · rename_i cs T fr hc
    refine ⟨fun h => h, T, fr, ?_⟩
    rw [hc]
    simp only [Option.some.injEq] at h
    subst h
    rfl
  · cases h
theorem itoaLib_ok (n : Int) (hn : i64R n) : Ctr Tryd.prog 44 [.int .i64 n] [] (.str (num n)) [] := by
  refine ⟨Tryd.okF44, fun w vs m av hH hav hgl hsz ha => ?_⟩
  obtain ⟨v, rfl⟩ : ∃ v, vs = #[v] := by
    match vs, hsz with
    | ⟨[v]⟩, _ => exact ⟨v, rfl⟩
  have h0 := ha 0 (by simp)
  simp only [List.getElem_cons_zero] at h0
  have hv : v = .int .i64 n := by
    have := rv_int h0
    simpa using this
  subst hv
  refine (Tryd.strconv_Itoa n hn.1 hn.2 w (tab_pow10 hgl)).mono ?_
  rintro e w' ⟨rfl, k, os, rfl⟩
  refine ⟨_, m, rfl, ?_, ⟨fun i j ci cj h => by simp at h, fun id cs h => by simp at h, fun id cs h => by simp at h⟩, .str _, fun id cs h => by simp at h⟩
  have hb : ∀ g, g < w.heap.size → (Sort.grow (w.drewN k) os).heap[g]? = w.heap[g]? := fun g hg => Lib.heap_grow_old w k os g hg
  exact ⟨rfl, rfl, rfl, Lib.size_grow w k os, fun g hg _ => hb g hg, fun g hg => Nat.le_of_eq (rowSize_of_block (hb g hg)).symm⟩
theorem itoa_ok (n : Int) (hn : i64R n) : Ctr Tryd.prog 66 [.int .i64 n] [] (.str (num n)) [] := by
  refine Ctr.intro Tryd.mixed Tryd.func66 rfl Tryd.okF66 ?_
  simp -implicitDefEqProofs -dsimp only [go_sem, Nat.reduceSub, Nat.reduceAdd, Nat.reduceMul, Nat.reduceLT, Nat.reduceLeDiff, Nat.reduceEqDiff, Nat.reduceDiv, Nat.reduceMod, Int.reduceToNat, Int.reduceLE, Int.reduceLT, Int.reduceBEq, Int.reduceBNe, Int.reduceNeg, Int.reduceAdd, Int.reduceSub, Int.reduceMul, reduceCtorEq, Tryd.ntmps66, Tryd.results66]
  (first | refine callT.at (itoaLib_ok n hn) ⟨leA, trivial⟩ ?_ | refine callS.at (itoaLib_ok n hn) ⟨leA, trivial⟩ ?_)
  simp -implicitDefEqProofs -dsimp only [go_sem, Nat.reduceSub, Nat.reduceAdd, Nat.reduceMul, Nat.reduceLT, Nat.reduceLeDiff, Nat.reduceEqDiff, Nat.reduceDiv, Nat.reduceMod, Int.reduceToNat, Int.reduceLE, Int.reduceLT, Int.reduceBEq, Int.reduceBNe, Int.reduceNeg, Int.reduceAdd, Int.reduceSub, Int.reduceMul, reduceCtorEq]
  exact WeakR.drop' rfl (by rfl)
theorem l1Num_nat : ∀ (k u : Nat), u < k → u ≤ 9223372036854775807 → Ctr Tryd.prog 64 [.int .i64 u] [] (.str (num u)) [] := by
  intro k
  induction k with
  | zero => intro u h; omega
  | succ k ih =>
    intro u hu hb
    refine Ctr.intro Tryd.mixed Tryd.func64 rfl Tryd.okF64 ?_
    simp -implicitDefEqProofs -dsimp only [go_sem, Nat.reduceSub, Nat.reduceAdd, Nat.reduceMul, Nat.reduceLT, Nat.reduceLeDiff, Nat.reduceEqDiff, Nat.reduceDiv, Nat.reduceMod, Int.reduceToNat, Int.reduceLE, Int.reduceLT, Int.reduceBEq, Int.reduceBNe, Int.reduceNeg, Int.reduceAdd, Int.reduceSub, Int.reduceMul, reduceCtorEq, Tryd.ntmps64, Tryd.results64]
    refine condT.split (fun h => absurd h (by simp)) (fun h => ?_)
    simp -implicitDefEqProofs -dsimp only [go_sem, Nat.reduceSub, Nat.reduceAdd, Nat.reduceMul, Nat.reduceLT, Nat.reduceLeDiff, Nat.reduceEqDiff, Nat.reduceDiv, Nat.reduceMod, Int.reduceToNat, Int.reduceLE, Int.reduceLT, Int.reduceBEq, Int.reduceBNe, Int.reduceNeg, Int.reduceAdd, Int.reduceSub, Int.reduceMul, reduceCtorEq, h]
    refine condT.split (fun h2 => ?_) (fun h2 => ?_)
    · have hlt : u < 10 := by simp at h2; omega
      (repeat ((repeat1' (first | simp -implicitDefEqProofs -dsimp only [go_sem, Nat.reduceSub, Nat.reduceAdd, Nat.reduceMul, Nat.reduceLT, Nat.reduceLeDiff, Nat.reduceEqDiff, Nat.reduceDiv, Nat.reduceMod, Int.reduceToNat, Int.reduceLE, Int.reduceLT, Int.reduceBEq, Int.reduceBNe, Int.reduceNeg, Int.reduceAdd, Int.reduceSub, Int.reduceMul, reduceCtorEq, h2] | simp -implicitDefEqProofs -dsimp (disch := omega) only [wrap_i64])); repeat (with_reducible refine sideA ?_)))
      have e : ((u : Int) + 1).toNat = u + 1 := by omega
      have e2 : ((#[48, 49, 50, 51, 52, 53, 54, 55, 56, 57] : Array UInt8).size : Int) = 10 := rfl
      rw [e, e2]
      refine ⟨⟨by omega, by omega, by omega⟩, WeakR.drop' ?_ (by rfl)⟩
      rw [num_one hlt, digits]
    · have hge : ¬ u < 10 := by simp at h2; omega
      have t1 : Int.tdiv (u : Int) 10 = ((u / 10 : Nat) : Int) := rfl
      have t2 : Int.tmod (u : Int) 10 = ((u % 10 : Nat) : Int) := rfl
      (repeat ((repeat1' (first | simp -implicitDefEqProofs -dsimp only [go_sem, Nat.reduceSub, Nat.reduceAdd, Nat.reduceMul, Nat.reduceLT, Nat.reduceLeDiff, Nat.reduceEqDiff, Nat.reduceDiv, Nat.reduceMod, Int.reduceToNat, Int.reduceLE, Int.reduceLT, Int.reduceBEq, Int.reduceBNe, Int.reduceNeg, Int.reduceAdd, Int.reduceSub, Int.reduceMul, reduceCtorEq, h2, t1, t2] | simp -implicitDefEqProofs -dsimp (disch := omega) only [wrap_i64])); repeat (with_reducible refine sideA ?_)))
      (first | refine callT.at (ih (u / 10) (by omega) (by omega)) ⟨leA, trivial⟩ ?_ | refine callS.at (ih (u / 10) (by omega) (by omega)) ⟨leA, trivial⟩ ?_)
      have e : (((u % 10 : Nat) : Int) + 1).toNat = u % 10 + 1 := by omega
      have e2 : ((#[48, 49, 50, 51, 52, 53, 54, 55, 56, 57] : Array UInt8).size : Int) = 10 := rfl
      have hs := num_size' (n := ((u / 10 : Nat) : Int)) (by omega) (by omega)
      have hd : ({ data := #[48, 49, 50, 51, 52, 53, 54, 55, 56, 57] } : ByteArray).extract (u % 10) (u % 10 + 1) = ⟨#[UInt8.ofNat (48 + u % 10)]⟩ := digit_at (u % 10) (by omega)
      (repeat ((repeat1' (first | simp -implicitDefEqProofs -dsimp only [go_sem, Nat.reduceSub, Nat.reduceAdd, Nat.reduceMul, Nat.reduceLT, Nat.reduceLeDiff, Nat.reduceEqDiff, Nat.reduceDiv, Nat.reduceMod, Int.reduceToNat, Int.reduceLE, Int.reduceLT, Int.reduceBEq, Int.reduceBNe, Int.reduceNeg, Int.reduceAdd, Int.reduceSub, Int.reduceMul, reduceCtorEq, e, e2, hd, ba_size] | simp -implicitDefEqProofs -dsimp (disch := omega) only [wrap_i64])); repeat (with_reducible refine sideA ?_)))
      refine ⟨by simp only [List.size_toArray, List.length_cons, List.length_nil]; omega, WeakR.drop' ?_ (by rfl)⟩
      rw [num_more hge, digit_at (u % 10) (by omega)]
theorem l1Num_ok (n : Int) (h0 : -9223372036854775807 ≤ n) (h1 : n ≤ 9223372036854775807) : Ctr Tryd.prog 64 [.int .i64 n] [] (.str (num n)) [] := by
  rcases Int.lt_or_le n 0 with hn | hn
  · obtain ⟨u, rfl⟩ : ∃ u : Nat, n = -(u : Int) := ⟨n.natAbs, by omega⟩
    refine Ctr.intro Tryd.mixed Tryd.func64 rfl Tryd.okF64 ?_
    simp -implicitDefEqProofs -dsimp only [go_sem, Nat.reduceSub, Nat.reduceAdd, Nat.reduceMul, Nat.reduceLT, Nat.reduceLeDiff, Nat.reduceEqDiff, Nat.reduceDiv, Nat.reduceMod, Int.reduceToNat, Int.reduceLE, Int.reduceLT, Int.reduceBEq, Int.reduceBNe, Int.reduceNeg, Int.reduceAdd, Int.reduceSub, Int.reduceMul, reduceCtorEq, Tryd.ntmps64, Tryd.results64]
    refine condT.split (fun h => ?_) (fun h => absurd h (by simp; omega))
    have e : IntKind.i64.wrap (0 - -(u : Int)) = (u : Int) := by rw [wrap_i64 (by omega) (by omega)]; omega
    simp -implicitDefEqProofs -dsimp only [go_sem, Nat.reduceSub, Nat.reduceAdd, Nat.reduceMul, Nat.reduceLT, Nat.reduceLeDiff, Nat.reduceEqDiff, Nat.reduceDiv, Nat.reduceMod, Int.reduceToNat, Int.reduceLE, Int.reduceLT, Int.reduceBEq, Int.reduceBNe, Int.reduceNeg, Int.reduceAdd, Int.reduceSub, Int.reduceMul, reduceCtorEq, h, e]
    (first | refine callT.at (l1Num_nat (u + 1) u (by omega) (by omega)) ⟨leA, trivial⟩ ?_ | refine callS.at (l1Num_nat (u + 1) u (by omega) (by omega)) ⟨leA, trivial⟩ ?_)
    have hs := num_size' (n := (u : Int)) (by omega) (by omega)
    simp -implicitDefEqProofs -dsimp only [go_sem, Nat.reduceSub, Nat.reduceAdd, Nat.reduceMul, Nat.reduceLT, Nat.reduceLeDiff, Nat.reduceEqDiff, Nat.reduceDiv, Nat.reduceMod, Int.reduceToNat, Int.reduceLE, Int.reduceLT, Int.reduceBEq, Int.reduceBNe, Int.reduceNeg, Int.reduceAdd, Int.reduceSub, Int.reduceMul, reduceCtorEq, ba_size]
    refine ⟨by simp; omega, WeakR.drop' ?_ (by rfl)⟩
    rw [num_neg (by omega)]
  · obtain ⟨u, rfl⟩ : ∃ u : Nat, n = u := ⟨n.toNat, by omega⟩
    exact l1Num_nat (u + 1) u (by omega) (by omega)
end Go.Proofs
end
section
set_option linter.unusedSimpArgs false
set_option linter.unusedVariables false
set_option maxRecDepth 100000
set_option maxHeartbeats 1000000
namespace Go.Proofs
open Go.Lv
theorem allS_app (p : UInt8 → Bool) (a b : ByteArray) : allS p (a ++ b) = (allS p a && allS p b) := by
  simp [allS, ByteArray.data_append]
theorem num_plain : ∀ (n u : Nat), u < n → allS (fun b => !(b == 35)) (num u) = true
  | 0, u, h => by omega
  | n + 1, u, h => by
    have one : ∀ d, d < 10 → allS (fun b => !(b == 35)) (digits.extract d (d + 1)) = true := by
      intro d hd
      rw [digit_at d hd]
      match d, hd with
      | 0, _ => decide
      | 1, _ => decide
      | 2, _ => decide
      | 3, _ => decide
      | 4, _ => decide
      | 5, _ => decide
      | 6, _ => decide
      | 7, _ => decide
      | 8, _ => decide
      | 9, _ => decide
    by_cases c : u < 10
    · rw [num_one c]; exact one u c
    · rw [num_more c, allS_app, num_plain n (u / 10) (by omega), one (u % 10) (by omega)]; rfl
def ckStep (h : Int) (b : UInt8) : Int := (41 * h + b.toNat + 1) % 999979
def ckTo (s : ByteArray) (i : Nat) : Int := (s.data.toList.take i).foldl ckStep 7
def ckS (s : ByteArray) : Int := ckTo s s.size
theorem ckTo_succ {s : ByteArray} {i : Nat} (h : i < s.size) : ckTo s (i + 1) = ckStep (ckTo s i) (s[i]'h) := by
  have hl : i < s.data.toList.length := h
  rw [ckTo, List.take_succ_eq_append_getElem hl, List.foldl_append, ← ba_get s h]; rfl
theorem ckTo_bd (s : ByteArray) : ∀ i, i ≤ s.size → 0 ≤ ckTo s i ∧ ckTo s i < 999979
  | 0, _ => by simp [ckTo]
  | i + 1, h => by
    rw [ckTo_succ (by omega : i < s.size), ckStep]
    omega
theorem ckS_bd (s : ByteArray) : 0 ≤ ckS s ∧ ckS s < 999979 := ckTo_bd s s.size (Nat.le_refl _)
theorem ck_tmod {h : Int} {b : UInt8} (h0 : 0 ≤ h) : (41 * h + b.toNat + 1).tmod 999979 = ckStep h b := by
  rw [ckStep, Int.tmod_eq_emod_of_nonneg (by omega)]
theorem checksum_ok (s : ByteArray) (hs : s.size ≤ 4000) : Ctr Tryd.prog 69 [.str s] [] (.tup [.int .i64 (ckS s), .bool true]) [] := by
  refine Ctr.intro Tryd.mixed Tryd.func69 rfl Tryd.okF69 ?_
  simp -implicitDefEqProofs -dsimp only [go_sem, Nat.reduceSub, Nat.reduceAdd, Nat.reduceMul, Nat.reduceLT, Nat.reduceLeDiff, Nat.reduceEqDiff, Nat.reduceDiv, Nat.reduceMod, Int.reduceToNat, Int.reduceLE, Int.reduceLT, Int.reduceBEq, Int.reduceBNe, Int.reduceNeg, Int.reduceAdd, Int.reduceSub, Int.reduceMul, reduceCtorEq, Tryd.ntmps69, Tryd.results69]
  have c0 : decide ((4000 : Int) < s.size) = false := decide_eq_false (by omega)
  simp -implicitDefEqProofs -dsimp only [go_sem, Nat.reduceSub, Nat.reduceAdd, Nat.reduceMul, Nat.reduceLT, Nat.reduceLeDiff, Nat.reduceEqDiff, Nat.reduceDiv, Nat.reduceMod, Int.reduceToNat, Int.reduceLE, Int.reduceLT, Int.reduceBEq, Int.reduceBNe, Int.reduceNeg, Int.reduceAdd, Int.reduceSub, Int.reduceMul, reduceCtorEq, c0]
  refine LoopT.intro (fun i : Nat => i ≤ s.size) (fun i => ⟨[.str s, .undef, .undef, .undef, .int .i64 (ckTo s i), .undef, .undef, .undef, .undef, .undef, .int .i64 s.size, .int .i64 i, .undef, .undef, .undef, .undef, .undef, .undef, .undef, .undef, .undef, .undef, .undef, .undef, .undef], [], 0⟩) (fun i => s.size - i) 0 (Nat.zero_le _) ?_ (fun i hi => ?_)
  · refine Weak.cut (0) (by simp) (by simp) ?_ ?_
    · simp [LeC, LeV, ren, cutF, ckTo]
    · rfl
  simp -implicitDefEqProofs -dsimp only [go_sem, Nat.reduceSub, Nat.reduceAdd, Nat.reduceMul, Nat.reduceLT, Nat.reduceLeDiff, Nat.reduceEqDiff, Nat.reduceDiv, Nat.reduceMod, Int.reduceToNat, Int.reduceLE, Int.reduceLT, Int.reduceBEq, Int.reduceBNe, Int.reduceNeg, Int.reduceAdd, Int.reduceSub, Int.reduceMul, reduceCtorEq]
  refine condT.split (fun h1 => ?_) (fun h1 => ?_)
  · simp -implicitDefEqProofs -dsimp only [go_sem, Nat.reduceSub, Nat.reduceAdd, Nat.reduceMul, Nat.reduceLT, Nat.reduceLeDiff, Nat.reduceEqDiff, Nat.reduceDiv, Nat.reduceMod, Int.reduceToNat, Int.reduceLE, Int.reduceLT, Int.reduceBEq, Int.reduceBNe, Int.reduceNeg, Int.reduceAdd, Int.reduceSub, Int.reduceMul, reduceCtorEq, h1]
    have hi' : i < s.size := by simpa using h1
    have hu := UInt8.toNat_lt (s[i]'hi')
    have hbd := ckTo_bd s i hi
    have hw1 : IntKind.i64.wrap ((s[i]'hi').toNat : Int) = ((s[i]'hi').toNat : Int) := wrap_i64 (by omega) (by omega)
    have hw2 : IntKind.i64.wrap (41 * ckTo s i) = 41 * ckTo s i := wrap_i64 (by omega) (by omega)
    have hw3 : IntKind.i64.wrap (41 * ckTo s i + ((s[i]'hi').toNat : Int)) = 41 * ckTo s i + ((s[i]'hi').toNat : Int) := wrap_i64 (by omega) (by omega)
    have hw4 : IntKind.i64.wrap (41 * ckTo s i + ((s[i]'hi').toNat : Int) + 1) = 41 * ckTo s i + ((s[i]'hi').toNat : Int) + 1 := wrap_i64 (by omega) (by omega)
    have hq := ck_tmod (b := s[i]'hi') hbd.1
    refine ⟨⟨by omega, hi'⟩, ?_⟩
    try (repeat1' (first | simp -implicitDefEqProofs -dsimp only [go_sem, Nat.reduceSub, Nat.reduceAdd, Nat.reduceMul, Nat.reduceLT, Nat.reduceLeDiff, Nat.reduceEqDiff, Nat.reduceDiv, Nat.reduceMod, Int.reduceToNat, Int.reduceLE, Int.reduceLT, Int.reduceBEq, Int.reduceBNe, Int.reduceNeg, Int.reduceAdd, Int.reduceSub, Int.reduceMul, reduceCtorEq, hw1, hw2, hw3, hw4, hq] | simp -implicitDefEqProofs -dsimp (disch := omega) only [wrap_i64]))
    repeat (with_reducible refine And.intro ?_ ?_; focus (first | omega | with_reducible rfl | (show drawOk _ = true; kernel_rfl) | (simp only [rows_length, rows_cell, List.length_append, List.length_cons, List.length_nil, List.all_append, List.all_cons, List.all_nil, isCell, Nat.mul_one, Nat.one_mul, Bool.and_self]; first | done | omega) | (simp only [ByteArray.size_append, ba_size, List.size_toArray, List.length_cons, List.length_nil]; omega)))
    refine ⟨i + 1, hi', ?_, by omega⟩
    refine Weak.cut (0) (by simp) (by simp) ?_ ?_
    · rw [ckTo_succ hi']
      try rw [wrap_i64 (by omega) (by omega)]
      simp [LeC, LeV, ren, cutF]
    · rfl
  · simp -implicitDefEqProofs -dsimp only [go_sem, Nat.reduceSub, Nat.reduceAdd, Nat.reduceMul, Nat.reduceLT, Nat.reduceLeDiff, Nat.reduceEqDiff, Nat.reduceDiv, Nat.reduceMod, Int.reduceToNat, Int.reduceLE, Int.reduceLT, Int.reduceBEq, Int.reduceBNe, Int.reduceNeg, Int.reduceAdd, Int.reduceSub, Int.reduceMul, reduceCtorEq, h1]
    have hi' : i = s.size := by simp at h1; omega
    subst hi'
    exact WeakR.drop' rfl (by rfl)
theorem l1Sum_ok (s : ByteArray) (hs : s.size ≤ 4000) : Ctr Tryd.prog 98 [.str s] [] (.int .i64 (ckS s)) [] := by
  refine Ctr.intro Tryd.mixed Tryd.func98 rfl Tryd.okF98 ?_
  simp -implicitDefEqProofs -dsimp only [go_sem, Nat.reduceSub, Nat.reduceAdd, Nat.reduceMul, Nat.reduceLT, Nat.reduceLeDiff, Nat.reduceEqDiff, Nat.reduceDiv, Nat.reduceMod, Int.reduceToNat, Int.reduceLE, Int.reduceLT, Int.reduceBEq, Int.reduceBNe, Int.reduceNeg, Int.reduceAdd, Int.reduceSub, Int.reduceMul, reduceCtorEq, Tryd.ntmps98, Tryd.results98]
  refine LoopT.intro (fun i : Nat => i ≤ s.size) (fun i => ⟨[.str s, .undef, .undef, .int .i64 (ckTo s i), .int .i64 i, .undef, .undef, .undef, .undef, .undef, .undef, .undef, .undef, .undef, .undef, .undef, .undef, .undef, .undef, .undef, .undef], [], 0⟩) (fun i => s.size - i) 0 (Nat.zero_le _) ?_ (fun i hi => ?_)
  · refine Weak.cut (0) (by simp) (by simp) ?_ ?_
    · simp [LeC, LeV, ren, cutF, ckTo]
    · rfl
  simp -implicitDefEqProofs -dsimp only [go_sem, Nat.reduceSub, Nat.reduceAdd, Nat.reduceMul, Nat.reduceLT, Nat.reduceLeDiff, Nat.reduceEqDiff, Nat.reduceDiv, Nat.reduceMod, Int.reduceToNat, Int.reduceLE, Int.reduceLT, Int.reduceBEq, Int.reduceBNe, Int.reduceNeg, Int.reduceAdd, Int.reduceSub, Int.reduceMul, reduceCtorEq]
  refine condT.split (fun h1 => ?_) (fun h1 => ?_)
  · simp -implicitDefEqProofs -dsimp only [go_sem, Nat.reduceSub, Nat.reduceAdd, Nat.reduceMul, Nat.reduceLT, Nat.reduceLeDiff, Nat.reduceEqDiff, Nat.reduceDiv, Nat.reduceMod, Int.reduceToNat, Int.reduceLE, Int.reduceLT, Int.reduceBEq, Int.reduceBNe, Int.reduceNeg, Int.reduceAdd, Int.reduceSub, Int.reduceMul, reduceCtorEq, h1]
    have hi' : i < s.size := by simpa using h1
    have hu := UInt8.toNat_lt (s[i]'hi')
    have hbd := ckTo_bd s i hi
    have hw1 : IntKind.i64.wrap ((s[i]'hi').toNat : Int) = ((s[i]'hi').toNat : Int) := wrap_i64 (by omega) (by omega)
    have hw2 : IntKind.i64.wrap (41 * ckTo s i) = 41 * ckTo s i := wrap_i64 (by omega) (by omega)
    have hw3 : IntKind.i64.wrap (41 * ckTo s i + ((s[i]'hi').toNat : Int)) = 41 * ckTo s i + ((s[i]'hi').toNat : Int) := wrap_i64 (by omega) (by omega)
    have hw4 : IntKind.i64.wrap (41 * ckTo s i + ((s[i]'hi').toNat : Int) + 1) = 41 * ckTo s i + ((s[i]'hi').toNat : Int) + 1 := wrap_i64 (by omega) (by omega)
    have hq := ck_tmod (b := s[i]'hi') hbd.1
    refine ⟨⟨by omega, hi'⟩, ?_⟩
    try (repeat1' (first | simp -implicitDefEqProofs -dsimp only [go_sem, Nat.reduceSub, Nat.reduceAdd, Nat.reduceMul, Nat.reduceLT, Nat.reduceLeDiff, Nat.reduceEqDiff, Nat.reduceDiv, Nat.reduceMod, Int.reduceToNat, Int.reduceLE, Int.reduceLT, Int.reduceBEq, Int.reduceBNe, Int.reduceNeg, Int.reduceAdd, Int.reduceSub, Int.reduceMul, reduceCtorEq, hw1, hw2, hw3, hw4, hq] | simp -implicitDefEqProofs -dsimp (disch := omega) only [wrap_i64]))
    repeat (with_reducible refine And.intro ?_ ?_; focus (first | omega | with_reducible rfl | (show drawOk _ = true; kernel_rfl) | (simp only [rows_length, rows_cell, List.length_append, List.length_cons, List.length_nil, List.all_append, List.all_cons, List.all_nil, isCell, Nat.mul_one, Nat.one_mul, Bool.and_self]; first | done | omega) | (simp only [ByteArray.size_append, ba_size, List.size_toArray, List.length_cons, List.length_nil]; omega)))
    refine ⟨i + 1, hi', ?_, by omega⟩
    refine Weak.cut (0) (by simp) (by simp) ?_ ?_
    · rw [ckTo_succ hi']
      try rw [wrap_i64 (by omega) (by omega)]
      simp [LeC, LeV, ren, cutF]
    · rfl
  · simp -implicitDefEqProofs -dsimp only [go_sem, Nat.reduceSub, Nat.reduceAdd, Nat.reduceMul, Nat.reduceLT, Nat.reduceLeDiff, Nat.reduceEqDiff, Nat.reduceDiv, Nat.reduceMod, Int.reduceToNat, Int.reduceLE, Int.reduceLT, Int.reduceBEq, Int.reduceBNe, Int.reduceNeg, Int.reduceAdd, Int.reduceSub, Int.reduceMul, reduceCtorEq, h1]
    have hi' : i = s.size := by simp at h1; omega
    subst hi'
    exact WeakR.drop' rfl (by rfl)
/-- A text with its checksum. -/
def sealS (s : ByteArray) : ByteArray := (s ++ ⟨#[35]⟩) ++ num (ckS s)
theorem ckS_size (s : ByteArray) : (num (ckS s)).size ≤ 21 := by
  have := ckS_bd s
  exact num_size' (by omega) (by omega)
theorem sealS_size (s : ByteArray) : (sealS s).size ≤ s.size + 22 := by
  have := ckS_size s
  unfold sealS
  simp only [ByteArray.size_append, ba_size, List.size_toArray, List.length_cons, List.length_nil]; omega
theorem l1Seal_ok (s : ByteArray) (hs : s.size ≤ 4000) : Ctr Tryd.prog 73 [.str s] [] (.str (sealS s)) [] := by
  have hc := ckS_bd s
  have hz := ckS_size s
  refine Ctr.intro Tryd.mixed Tryd.func73 rfl Tryd.okF73 ?_
  simp -implicitDefEqProofs -dsimp only [go_sem, Nat.reduceSub, Nat.reduceAdd, Nat.reduceMul, Nat.reduceLT, Nat.reduceLeDiff, Nat.reduceEqDiff, Nat.reduceDiv, Nat.reduceMod, Int.reduceToNat, Int.reduceLE, Int.reduceLT, Int.reduceBEq, Int.reduceBNe, Int.reduceNeg, Int.reduceAdd, Int.reduceSub, Int.reduceMul, reduceCtorEq, Tryd.ntmps73, Tryd.results73]
  repeat (first | ((first | refine callT.at (l1Sum_ok s hs) ⟨leA, trivial⟩ ?_ | refine callS.at (l1Sum_ok s hs) ⟨leA, trivial⟩ ?_); simp -implicitDefEqProofs -dsimp only [go_sem, Nat.reduceSub, Nat.reduceAdd, Nat.reduceMul, Nat.reduceLT, Nat.reduceLeDiff, Nat.reduceEqDiff, Nat.reduceDiv, Nat.reduceMod, Int.reduceToNat, Int.reduceLE, Int.reduceLT, Int.reduceBEq, Int.reduceBNe, Int.reduceNeg, Int.reduceAdd, Int.reduceSub, Int.reduceMul, reduceCtorEq]) | ((first | refine callT.at (l1Num_ok (ckS s) (by omega) (by omega)) ⟨leA, trivial⟩ ?_ | refine callS.at (l1Num_ok (ckS s) (by omega) (by omega)) ⟨leA, trivial⟩ ?_); simp -implicitDefEqProofs -dsimp only [go_sem, Nat.reduceSub, Nat.reduceAdd, Nat.reduceMul, Nat.reduceLT, Nat.reduceLeDiff, Nat.reduceEqDiff, Nat.reduceDiv, Nat.reduceMod, Int.reduceToNat, Int.reduceLE, Int.reduceLT, Int.reduceBEq, Int.reduceBNe, Int.reduceNeg, Int.reduceAdd, Int.reduceSub, Int.reduceMul, reduceCtorEq]) | (with_reducible refine And.intro (by first | omega | (show drawOk _ = true; kernel_rfl) | (simp only [ByteArray.size_append, ba_size, List.size_toArray, List.length_cons, List.length_nil]; omega)) ?_; try (repeat1' (first | simp -implicitDefEqProofs -dsimp only [go_sem, Nat.reduceSub, Nat.reduceAdd, Nat.reduceMul, Nat.reduceLT, Nat.reduceLeDiff, Nat.reduceEqDiff, Nat.reduceDiv, Nat.reduceMod, Int.reduceToNat, Int.reduceLE, Int.reduceLT, Int.reduceBEq, Int.reduceBNe, Int.reduceNeg, Int.reduceAdd, Int.reduceSub, Int.reduceMul, reduceCtorEq] | simp -implicitDefEqProofs -dsimp (disch := omega) only [wrap_i64]))))
  exact WeakR.drop' rfl (by rfl)
theorem appendChecksum_ok (s : ByteArray) (hs : s.size ≤ 1000) (hp : allS (fun b => !(b == 35)) s = true) : Ctr Tryd.prog 43 [.str s] [] (.tup [.str (sealS s), .bool true]) [] := by
  have hc := ckS_bd s
  have hz := ckS_size s
  have hss := sealS_size s
  have hno : decide (0 ≤ Lib.indexByte s.data.toList 35) = false := by
    rw [indexByte_all]
    show (!(allS (fun b => !(b == 35)) s)) = false
    rw [hp]; rfl
  have hlong : decide ((4000 : Int) < ((sealS s).size : Int)) = false := decide_eq_false (by omega)
  refine Ctr.intro Tryd.mixed Tryd.func43 rfl Tryd.okF43 ?_
  simp -implicitDefEqProofs -dsimp only [go_sem, Nat.reduceSub, Nat.reduceAdd, Nat.reduceMul, Nat.reduceLT, Nat.reduceLeDiff, Nat.reduceEqDiff, Nat.reduceDiv, Nat.reduceMod, Int.reduceToNat, Int.reduceLE, Int.reduceLT, Int.reduceBEq, Int.reduceBNe, Int.reduceNeg, Int.reduceAdd, Int.reduceSub, Int.reduceMul, reduceCtorEq, Tryd.ntmps43, Tryd.results43]
  repeat (first | ((first | refine callT.at (checksum_ok s (by omega)) ⟨leA, trivial⟩ ?_ | refine callS.at (checksum_ok s (by omega)) ⟨leA, trivial⟩ ?_); simp -implicitDefEqProofs -dsimp only [go_sem, Nat.reduceSub, Nat.reduceAdd, Nat.reduceMul, Nat.reduceLT, Nat.reduceLeDiff, Nat.reduceEqDiff, Nat.reduceDiv, Nat.reduceMod, Int.reduceToNat, Int.reduceLE, Int.reduceLT, Int.reduceBEq, Int.reduceBNe, Int.reduceNeg, Int.reduceAdd, Int.reduceSub, Int.reduceMul, reduceCtorEq]) | ((first | refine callT.at (itoaLib_ok (ckS s) ⟨by omega, by omega⟩) ⟨leA, trivial⟩ ?_ | refine callS.at (itoaLib_ok (ckS s) ⟨by omega, by omega⟩) ⟨leA, trivial⟩ ?_); simp -implicitDefEqProofs -dsimp only [go_sem, Nat.reduceSub, Nat.reduceAdd, Nat.reduceMul, Nat.reduceLT, Nat.reduceLeDiff, Nat.reduceEqDiff, Nat.reduceDiv, Nat.reduceMod, Int.reduceToNat, Int.reduceLE, Int.reduceLT, Int.reduceBEq, Int.reduceBNe, Int.reduceNeg, Int.reduceAdd, Int.reduceSub, Int.reduceMul, reduceCtorEq]) | (with_reducible refine And.intro (by first | omega | (show drawOk _ = true; kernel_rfl) | (simp only [ByteArray.size_append, ba_size, List.size_toArray, List.length_cons, List.length_nil]; omega)) ?_; try (repeat1' (first | simp -implicitDefEqProofs -dsimp only [go_sem, Nat.reduceSub, Nat.reduceAdd, Nat.reduceMul, Nat.reduceLT, Nat.reduceLeDiff, Nat.reduceEqDiff, Nat.reduceDiv, Nat.reduceMod, Int.reduceToNat, Int.reduceLE, Int.reduceLT, Int.reduceBEq, Int.reduceBNe, Int.reduceNeg, Int.reduceAdd, Int.reduceSub, Int.reduceMul, reduceCtorEq] | simp -implicitDefEqProofs -dsimp (disch := omega) only [wrap_i64]))))
  (first | refine callT.at (containsOne_ok s 35) ⟨leA, leA, trivial⟩ ?_ | refine callS.at (containsOne_ok s 35) ⟨leA, leA, trivial⟩ ?_)
  have e : (s ++ (⟨#[35]⟩ : ByteArray)) ++ num (ckS s) = sealS s := rfl
  rw [e]
  simp -implicitDefEqProofs -dsimp only [go_sem, Nat.reduceSub, Nat.reduceAdd, Nat.reduceMul, Nat.reduceLT, Nat.reduceLeDiff, Nat.reduceEqDiff, Nat.reduceDiv, Nat.reduceMod, Int.reduceToNat, Int.reduceLE, Int.reduceLT, Int.reduceBEq, Int.reduceBNe, Int.reduceNeg, Int.reduceAdd, Int.reduceSub, Int.reduceMul, reduceCtorEq, hno, hlong]
  exact WeakR.drop' rfl (by rfl)
/-- What is sealed of a record. -/
def recText (k : Int) (e : LogRecord) : ByteArray := (((num k ++ ⟨#[32]⟩) ++ e.Command) ++ ⟨#[64]⟩) ++ e.Reply
def recLine (k : Int) (e : LogRecord) : ByteArray := sealS (recText k e) ++ ⟨#[10]⟩
theorem recB_ok {e : LogRecord} (h : recB e = true) : e.Command.size ≤ 160 ∧ e.Reply.size ≤ 200 ∧ allS (fun b => plainByte b && !(b == 64)) e.Command = true ∧ allS plainByte e.Reply = true ∧ 1 ≤ e.Command.size := by
  simp [recB] at h
  exact ⟨h.1.1.2, h.2.1, h.1.2, h.2.2, h.1.1.1⟩
theorem recText_size {k : Int} {e : LogRecord} (hk : 0 ≤ k ∧ k ≤ 59) (h : recB e = true) : (recText k e).size ≤ 400 := by
  have := recB_ok h
  have := num_size' (n := k) (by omega) (by omega)
  unfold recText
  simp only [ByteArray.size_append, ba_size, List.size_toArray, List.length_cons, List.length_nil]; omega
theorem allS_mono {p q : UInt8 → Bool} {s : ByteArray} (h : allS p s = true) (hpq : ∀ b, p b = true → q b = true) : allS q s = true :=
  List.all_eq_true.2 fun x hx => hpq x (List.all_eq_true.1 h x hx)
theorem recText_plain {k : Int} {e : LogRecord} (hk : 0 ≤ k ∧ k ≤ 59) (h : recB e = true) : allS (fun b => !(b == 35)) (recText k e) = true := by
  obtain ⟨_, _, h3, h4, _⟩ := recB_ok h
  obtain ⟨u, rfl⟩ := Int.eq_ofNat_of_zero_le hk.1
  have n1 : allS (fun b => !(b == 35)) (num (u : Int)) = true := num_plain (u + 1) u (by omega)
  have c1 : allS (fun b => !(b == 35)) e.Command = true := allS_mono h3 (fun b hb => by simp [plainByte] at hb ⊢; exact hb.1.2)
  have c2 : allS (fun b => !(b == 35)) e.Reply = true := allS_mono h4 (fun b hb => by simp [plainByte] at hb ⊢; exact hb.2)
  unfold recText
  simp only [allS_app, n1, c1, c2, Bool.true_and, Bool.and_true]
  rfl
def encR (k : Int) (e : LogRecord) : List V := if inB' k 0 59 = true ∧ recB e = true then [.str (recLine k e), .bool true] else [.str ⟨#[]⟩, .bool false]
theorem iEncodeRecord_ok (k : Int) (e : LogRecord) (hc : e.Command.size ≤ 281474976710656) (hr : e.Reply.size ≤ 281474976710656) : Ctr Tryd.prog 15 [.int .i64 k, e.v] [] (.tup (encR k e)) [] := by
  refine Ctr.intro Tryd.mixed Tryd.func15 rfl Tryd.okF15 ?_
  simp -implicitDefEqProofs -dsimp only [go_sem, Nat.reduceSub, Nat.reduceAdd, Nat.reduceMul, Nat.reduceLT, Nat.reduceLeDiff, Nat.reduceEqDiff, Nat.reduceDiv, Nat.reduceMod, Int.reduceToNat, Int.reduceLE, Int.reduceLT, Int.reduceBEq, Int.reduceBNe, Int.reduceNeg, Int.reduceAdd, Int.reduceSub, Int.reduceMul, reduceCtorEq, Tryd.ntmps15, Tryd.results15]
  simp -implicitDefEqProofs -dsimp only [go_sem, Nat.reduceSub, Nat.reduceAdd, Nat.reduceMul, Nat.reduceLT, Nat.reduceLeDiff, Nat.reduceEqDiff, Nat.reduceDiv, Nat.reduceMod, Int.reduceToNat, Int.reduceLE, Int.reduceLT, Int.reduceBEq, Int.reduceBNe, Int.reduceNeg, Int.reduceAdd, Int.reduceSub, Int.reduceMul, reduceCtorEq, LogRecord.v]
  (first | refine callT.at (in_ok k 0 59) ⟨leA, leA, leA, trivial⟩ ?_ | refine callS.at (in_ok k 0 59) ⟨leA, leA, leA, trivial⟩ ?_)
  simp -implicitDefEqProofs -dsimp only [go_sem, Nat.reduceSub, Nat.reduceAdd, Nat.reduceMul, Nat.reduceLT, Nat.reduceLeDiff, Nat.reduceEqDiff, Nat.reduceDiv, Nat.reduceMod, Int.reduceToNat, Int.reduceLE, Int.reduceLT, Int.reduceBEq, Int.reduceBNe, Int.reduceNeg, Int.reduceAdd, Int.reduceSub, Int.reduceMul, reduceCtorEq]
  refine guardT.splitF (fun g1 => ?_) (fun g1 => ?_) <;> simp -implicitDefEqProofs -dsimp only [go_sem, Nat.reduceSub, Nat.reduceAdd, Nat.reduceMul, Nat.reduceLT, Nat.reduceLeDiff, Nat.reduceEqDiff, Nat.reduceDiv, Nat.reduceMod, Int.reduceToNat, Int.reduceLE, Int.reduceLT, Int.reduceBEq, Int.reduceBNe, Int.reduceNeg, Int.reduceAdd, Int.reduceSub, Int.reduceMul, reduceCtorEq, g1]
  rotate_left
  · exact WeakR.drop' (by rw [encR, if_neg (by simp at g1; simp [g1])]) (by rfl)
  (first | refine callT.at (iIsValidRecord_ok e hc hr) ⟨leA, trivial⟩ ?_ | refine callS.at (iIsValidRecord_ok e hc hr) ⟨leA, trivial⟩ ?_)
  simp -implicitDefEqProofs -dsimp only [go_sem, Nat.reduceSub, Nat.reduceAdd, Nat.reduceMul, Nat.reduceLT, Nat.reduceLeDiff, Nat.reduceEqDiff, Nat.reduceDiv, Nat.reduceMod, Int.reduceToNat, Int.reduceLE, Int.reduceLT, Int.reduceBEq, Int.reduceBNe, Int.reduceNeg, Int.reduceAdd, Int.reduceSub, Int.reduceMul, reduceCtorEq]
  refine condT.split (fun g2 => ?_) (fun g2 => ?_) <;> simp -implicitDefEqProofs -dsimp only [go_sem, Nat.reduceSub, Nat.reduceAdd, Nat.reduceMul, Nat.reduceLT, Nat.reduceLeDiff, Nat.reduceEqDiff, Nat.reduceDiv, Nat.reduceMod, Int.reduceToNat, Int.reduceLE, Int.reduceLT, Int.reduceBEq, Int.reduceBNe, Int.reduceNeg, Int.reduceAdd, Int.reduceSub, Int.reduceMul, reduceCtorEq, g2]
  · exact WeakR.drop' (by rw [encR, if_neg (by simp at g2; simp [g2])]) (by rfl)
  have hk : inB' k 0 59 = true := by simpa using g1
  have he : recB e = true := by simpa using g2
  have hk' := inB'_iff.1 hk
  have z1 := num_size' (n := k) (by omega) (by omega)
  have z2 := recB_ok he
  have z3 := recText_size hk' he
  have z4 := sealS_size (recText k e)
  have e1 : (((num k ++ (⟨#[32]⟩ : ByteArray)) ++ e.Command) ++ (⟨#[64]⟩ : ByteArray)) ++ e.Reply = recText k e := rfl
  repeat (first | ((first | refine callT.at (itoaLib_ok k ⟨by omega, by omega⟩) ⟨leA, trivial⟩ ?_ | refine callS.at (itoaLib_ok k ⟨by omega, by omega⟩) ⟨leA, trivial⟩ ?_); simp -implicitDefEqProofs -dsimp only [go_sem, Nat.reduceSub, Nat.reduceAdd, Nat.reduceMul, Nat.reduceLT, Nat.reduceLeDiff, Nat.reduceEqDiff, Nat.reduceDiv, Nat.reduceMod, Int.reduceToNat, Int.reduceLE, Int.reduceLT, Int.reduceBEq, Int.reduceBNe, Int.reduceNeg, Int.reduceAdd, Int.reduceSub, Int.reduceMul, reduceCtorEq]) | (with_reducible refine And.intro (by first | omega | (show drawOk _ = true; kernel_rfl) | (simp only [ByteArray.size_append, ba_size, List.size_toArray, List.length_cons, List.length_nil]; omega)) ?_; try (repeat1' (first | simp -implicitDefEqProofs -dsimp only [go_sem, Nat.reduceSub, Nat.reduceAdd, Nat.reduceMul, Nat.reduceLT, Nat.reduceLeDiff, Nat.reduceEqDiff, Nat.reduceDiv, Nat.reduceMod, Int.reduceToNat, Int.reduceLE, Int.reduceLT, Int.reduceBEq, Int.reduceBNe, Int.reduceNeg, Int.reduceAdd, Int.reduceSub, Int.reduceMul, reduceCtorEq] | simp -implicitDefEqProofs -dsimp (disch := omega) only [wrap_i64]))))
  rw [e1]
  repeat (first | ((first | refine callT.at (appendChecksum_ok (recText k e) (by omega) (recText_plain hk' he)) ⟨leA, trivial⟩ ?_ | refine callS.at (appendChecksum_ok (recText k e) (by omega) (recText_plain hk' he)) ⟨leA, trivial⟩ ?_); simp -implicitDefEqProofs -dsimp only [go_sem, Nat.reduceSub, Nat.reduceAdd, Nat.reduceMul, Nat.reduceLT, Nat.reduceLeDiff, Nat.reduceEqDiff, Nat.reduceDiv, Nat.reduceMod, Int.reduceToNat, Int.reduceLE, Int.reduceLT, Int.reduceBEq, Int.reduceBNe, Int.reduceNeg, Int.reduceAdd, Int.reduceSub, Int.reduceMul, reduceCtorEq]) | (with_reducible refine And.intro (by first | omega | (show drawOk _ = true; kernel_rfl) | (simp only [ByteArray.size_append, ba_size, List.size_toArray, List.length_cons, List.length_nil]; omega)) ?_; try (repeat1' (first | simp -implicitDefEqProofs -dsimp only [go_sem, Nat.reduceSub, Nat.reduceAdd, Nat.reduceMul, Nat.reduceLT, Nat.reduceLeDiff, Nat.reduceEqDiff, Nat.reduceDiv, Nat.reduceMod, Int.reduceToNat, Int.reduceLE, Int.reduceLT, Int.reduceBEq, Int.reduceBNe, Int.reduceNeg, Int.reduceAdd, Int.reduceSub, Int.reduceMul, reduceCtorEq] | simp -implicitDefEqProofs -dsimp (disch := omega) only [wrap_i64]))))
  exact WeakR.drop' (by rw [encR, if_pos ⟨hk, he⟩]; rfl) (by rfl)
theorem l27Line_ok (k : Int) (e : LogRecord) (hk : 0 ≤ k ∧ k ≤ 59) (he : recB e = true) : Ctr Tryd.prog 46 [.int .i64 k, e.v] [] (.str (recLine k e)) [] := by
  have z1 := num_size' (n := k) (by omega) (by omega)
  have z2 := recB_ok he
  have z3 := recText_size hk he
  have z4 := sealS_size (recText k e)
  have e1 : (((num k ++ (⟨#[32]⟩ : ByteArray)) ++ e.Command) ++ (⟨#[64]⟩ : ByteArray)) ++ e.Reply = recText k e := rfl
  refine Ctr.intro Tryd.mixed Tryd.func46 rfl Tryd.okF46 ?_
  simp -implicitDefEqProofs -dsimp only [go_sem, Nat.reduceSub, Nat.reduceAdd, Nat.reduceMul, Nat.reduceLT, Nat.reduceLeDiff, Nat.reduceEqDiff, Nat.reduceDiv, Nat.reduceMod, Int.reduceToNat, Int.reduceLE, Int.reduceLT, Int.reduceBEq, Int.reduceBNe, Int.reduceNeg, Int.reduceAdd, Int.reduceSub, Int.reduceMul, reduceCtorEq, Tryd.ntmps46, Tryd.results46]
  simp -implicitDefEqProofs -dsimp only [go_sem, Nat.reduceSub, Nat.reduceAdd, Nat.reduceMul, Nat.reduceLT, Nat.reduceLeDiff, Nat.reduceEqDiff, Nat.reduceDiv, Nat.reduceMod, Int.reduceToNat, Int.reduceLE, Int.reduceLT, Int.reduceBEq, Int.reduceBNe, Int.reduceNeg, Int.reduceAdd, Int.reduceSub, Int.reduceMul, reduceCtorEq, LogRecord.v]
  repeat (first | ((first | refine callT.at (l1Num_ok k (by omega) (by omega)) ⟨leA, trivial⟩ ?_ | refine callS.at (l1Num_ok k (by omega) (by omega)) ⟨leA, trivial⟩ ?_); simp -implicitDefEqProofs -dsimp only [go_sem, Nat.reduceSub, Nat.reduceAdd, Nat.reduceMul, Nat.reduceLT, Nat.reduceLeDiff, Nat.reduceEqDiff, Nat.reduceDiv, Nat.reduceMod, Int.reduceToNat, Int.reduceLE, Int.reduceLT, Int.reduceBEq, Int.reduceBNe, Int.reduceNeg, Int.reduceAdd, Int.reduceSub, Int.reduceMul, reduceCtorEq]) | (with_reducible refine And.intro (by first | omega | (show drawOk _ = true; kernel_rfl) | (simp only [ByteArray.size_append, ba_size, List.size_toArray, List.length_cons, List.length_nil]; omega)) ?_; try (repeat1' (first | simp -implicitDefEqProofs -dsimp only [go_sem, Nat.reduceSub, Nat.reduceAdd, Nat.reduceMul, Nat.reduceLT, Nat.reduceLeDiff, Nat.reduceEqDiff, Nat.reduceDiv, Nat.reduceMod, Int.reduceToNat, Int.reduceLE, Int.reduceLT, Int.reduceBEq, Int.reduceBNe, Int.reduceNeg, Int.reduceAdd, Int.reduceSub, Int.reduceMul, reduceCtorEq] | simp -implicitDefEqProofs -dsimp (disch := omega) only [wrap_i64]))))
  rw [e1]
  repeat (first | ((first | refine callT.at (l1Seal_ok (recText k e) (by omega)) ⟨leA, trivial⟩ ?_ | refine callS.at (l1Seal_ok (recText k e) (by omega)) ⟨leA, trivial⟩ ?_); simp -implicitDefEqProofs -dsimp only [go_sem, Nat.reduceSub, Nat.reduceAdd, Nat.reduceMul, Nat.reduceLT, Nat.reduceLeDiff, Nat.reduceEqDiff, Nat.reduceDiv, Nat.reduceMod, Int.reduceToNat, Int.reduceLE, Int.reduceLT, Int.reduceBEq, Int.reduceBNe, Int.reduceNeg, Int.reduceAdd, Int.reduceSub, Int.reduceMul, reduceCtorEq]) | (with_reducible refine And.intro (by first | omega | (show drawOk _ = true; kernel_rfl) | (simp only [ByteArray.size_append, ba_size, List.size_toArray, List.length_cons, List.length_nil]; omega)) ?_; try (repeat1' (first | simp -implicitDefEqProofs -dsimp only [go_sem, Nat.reduceSub, Nat.reduceAdd, Nat.reduceMul, Nat.reduceLT, Nat.reduceLeDiff, Nat.reduceEqDiff, Nat.reduceDiv, Nat.reduceMod, Int.reduceToNat, Int.reduceLE, Int.reduceLT, Int.reduceBEq, Int.reduceBNe, Int.reduceNeg, Int.reduceAdd, Int.reduceSub, Int.reduceMul, reduceCtorEq] | simp -implicitDefEqProofs -dsimp (disch := omega) only [wrap_i64]))))
  exact WeakR.drop' rfl (by rfl)
end Go.Proofs
end
section
set_option linter.unusedSimpArgs false
set_option linter.unusedVariables false
set_option maxRecDepth 100000
namespace Go.Proofs
open Go.Lv
def StringS.cs (x : ByteArray) : List V := [.str x]
instance : FlatP StringS.cs 1 := ⟨fun _ => rfl, fun _ d => by cases d <;> rfl, fun _ => rfl, fun _ => rfl⟩
theorem StringS.csl (a : ByteArray) : (StringS.cs a).length = 1 := rfl
theorem StringS.csp (a : ByteArray) : (StringS.cs a).all (noOwn 2) = true := rfl
abbrev StringS.ok (x : ByteArray) : Prop := strR x
abbrev StringS.sl (L : List ByteArray) : V := .sl L.length 1 (Go.Lv.rows StringS.cs L)
abbrev StringS.zs : List V := [.str ByteArray.empty]
abbrev StringS.v (x : ByteArray) : V := .str x
end Go.Proofs
end
section
set_option linter.unusedSimpArgs false
set_option linter.unusedVariables false
set_option maxRecDepth 100000
set_option maxHeartbeats 1000000
namespace Go.Proofs
open Go.Lv
theorem ba_ext {a b : ByteArray} (h : a.data.toList = b.data.toList) : a = b := by
  apply ByteArray.ext
  exact Array.toList_inj.1 h
theorem ba_app (a b : ByteArray) : (a ++ b).data.toList = a.data.toList ++ b.data.toList := by simp [ByteArray.data_append]
theorem ba_ext_list (s : ByteArray) (a b : Nat) : (s.extract a b).data.toList = (s.data.toList.take b).drop a := by
  rw [ByteArray.data_extract, Array.toList_extract, List.extract_eq_take_drop, List.drop_take]
def idx (c : UInt8) (s : ByteArray) : Int := Lib.indexByte s.data.toList c
def fnd (c : UInt8) (s : ByteArray) : Bool := decide (0 ≤ idx c s)
def bef (c : UInt8) (s : ByteArray) : ByteArray := if 0 ≤ idx c s then s.extract 0 (idx c s).toNat else s
def aft (c : UInt8) (s : ByteArray) : ByteArray := if 0 ≤ idx c s then s.extract ((idx c s).toNat + 1) s.size else ⟨#[]⟩
theorem ib_app {c : UInt8} : ∀ {x : List UInt8} (y : List UInt8), (x.all fun b => !(b == c)) = true → Lib.indexByte (x ++ c :: y) c = x.length
  | [], y, _ => by simp [Lib.indexByte]
  | a :: x, y, h => by
    simp only [List.all_cons, Bool.and_eq_true] at h
    have hf : (a == c) = false := by simpa using h.1
    rw [List.cons_append, Lib.indexByte, hf, ib_app y h.2]
    have : ((x.length : Int) == -1) = false := by simp
    simp [this]
theorem ib_none {c : UInt8} : ∀ {x : List UInt8}, (x.all fun b => !(b == c)) = true → Lib.indexByte x c = -1
  | [], _ => rfl
  | a :: x, h => by
    simp only [List.all_cons, Bool.and_eq_true] at h
    have hf : (a == c) = false := by simpa using h.1
    rw [Lib.indexByte, hf, ib_none h.2]
    rfl
theorem ib_find {c : UInt8} : ∀ {l : List UInt8}, 0 ≤ Lib.indexByte l c → ∃ x y, l = x ++ c :: y ∧ (x.all fun b => !(b == c)) = true
  | [], h => by simp [Lib.indexByte] at h
  | a :: l, h => by
    by_cases e : a = c
    · exact ⟨[], l, by simp [e], rfl⟩
    · have hf : (a == c) = false := by simpa using e
      rw [Lib.indexByte, hf] at h
      by_cases e2 : Lib.indexByte l c = -1
      · simp [e2] at h
      · have hg := Lib.indexByte_ge l c
        obtain ⟨x, y, h1, h2⟩ := ib_find (l := l) (c := c) (by omega)
        refine ⟨a :: x, y, by rw [h1]; rfl, ?_⟩
        rw [List.all_cons, hf, h2]; rfl
def noB (c : UInt8) (s : ByteArray) : Bool := allS (fun b => !(b == c)) s
theorem cut_at {c : UInt8} {x y : ByteArray} (h : noB c x = true) : idx c (x ++ (⟨#[c]⟩ ++ y)) = x.size ∧ bef c (x ++ (⟨#[c]⟩ ++ y)) = x ∧ aft c (x ++ (⟨#[c]⟩ ++ y)) = y ∧ fnd c (x ++ (⟨#[c]⟩ ++ y)) = true := by
  have e : (x ++ (⟨#[c]⟩ ++ y)).data.toList = x.data.toList ++ c :: y.data.toList := by rw [ba_app, ba_app]; rfl
  have hi : idx c (x ++ (⟨#[c]⟩ ++ y)) = x.size := by
    rw [idx, e, ib_app _ h, ba_len]
  have hp : (0 : Int) ≤ x.size := by omega
  refine ⟨hi, ?_, ?_, ?_⟩
  · rw [bef, hi, if_pos hp]
    apply ba_ext
    rw [ba_ext_list, e, Int.toNat_natCast, List.drop_zero]
    exact List.take_left' (ba_len x)
  · rw [aft, hi, if_pos hp]
    apply ba_ext
    have hl : (x ++ (⟨#[c]⟩ ++ y)).size = (x ++ (⟨#[c]⟩ ++ y)).data.toList.length := rfl
    rw [ba_ext_list, Int.toNat_natCast, hl, List.take_length, e]
    have e2 : x.data.toList ++ c :: y.data.toList = (x.data.toList ++ [c]) ++ y.data.toList := by simp
    rw [e2]
    exact List.drop_left' (by rw [List.length_append, ba_len]; rfl)
  · rw [fnd, hi]; exact decide_eq_true hp
theorem cut_none {c : UInt8} {x : ByteArray} (h : noB c x = true) : idx c x = -1 ∧ bef c x = x ∧ aft c x = ⟨#[]⟩ ∧ fnd c x = false := by
  have hi : idx c x = -1 := ib_none h
  refine ⟨hi, ?_, ?_, ?_⟩
  · rw [bef, hi]; rfl
  · rw [aft, hi]; rfl
  · rw [fnd, hi]; rfl
theorem cut_find {c : UInt8} {s : ByteArray} (h : fnd c s = true) : ∃ x y, s = x ++ (⟨#[c]⟩ ++ y) ∧ noB c x = true := by
  obtain ⟨x, y, h1, h2⟩ := ib_find (of_decide_eq_true h)
  refine ⟨⟨x.toArray⟩, ⟨y.toArray⟩, ?_, ?_⟩
  · apply ba_ext
    rw [ba_app, ba_app, h1]
    simp
  · unfold noB allS; simpa using h2
theorem idx_le (c : UInt8) (s : ByteArray) : -1 ≤ idx c s ∧ idx c s < s.size := by
  refine ⟨Lib.indexByte_ge _ _, ?_⟩
  by_cases h : 0 ≤ idx c s
  · obtain ⟨x, y, e, hx⟩ := cut_find (c := c) (s := s) (decide_eq_true h)
    rw [e, (cut_at hx).1]
    simp only [ByteArray.size_append]
    have : (⟨#[c]⟩ : ByteArray).size = 1 := rfl
    omega
  · omega
theorem bef_size (c : UInt8) (s : ByteArray) : (bef c s).size ≤ s.size := by
  have := idx_le c s
  unfold bef; split
  · rw [ByteArray.size_extract]; omega
  · exact Nat.le_refl _
theorem aft_size (c : UInt8) (s : ByteArray) : (aft c s).size ≤ s.size := by
  unfold aft; split
  · rw [ByteArray.size_extract]; omega
  · exact Nat.zero_le _
theorem indexOne_ok (s : ByteArray) (c : UInt8) : Ctr Tryd.prog 104 [.str s, .str ⟨#[c]⟩] [] (.int .i64 (idx c s)) [] := by
  refine ⟨Tryd.okF104, fun w vs m av hH hav hgl hsz ha => ?_⟩
  obtain ⟨v, u, rfl⟩ : ∃ v u, vs = #[v, u] := by
    match vs, hsz with
    | ⟨[v, u]⟩, _ => exact ⟨v, u, rfl⟩
  have h0 := ha 0 (by simp)
  have h1 := ha 1 (by simp)
  simp only [List.getElem_cons_zero, List.getElem_cons_succ] at h0 h1
  obtain rfl : v = .string s := by
    simp at h0; cases h0; rfl
  obtain rfl : u = .string ⟨#[c]⟩ := by
    simp at h1; cases h1; rfl
  refine (Tryd.stringslite_Index_one s c w).mono ?_
  rintro e w' ⟨rfl, rfl⟩
  exact ⟨_, m, rfl, Ext.refl _ _, ⟨fun i j ci cj h => by simp at h, fun id cs h => by simp at h, fun id cs h => by simp at h⟩, .int _ _, fun id cs h => by simp at h⟩
theorem liteCut_ok (s : ByteArray) (c : UInt8) (hs : s.size ≤ 281474976710656) : Ctr Tryd.prog 115 [.str s, .str ⟨#[c]⟩] [] (.tup [.str (bef c s), .str (aft c s), .bool (fnd c s)]) [] := by
  have hi := idx_le c s
  refine Ctr.intro Tryd.mixed Tryd.func115 rfl Tryd.okF115 ?_
  simp -implicitDefEqProofs -dsimp only [go_sem, Nat.reduceSub, Nat.reduceAdd, Nat.reduceMul, Nat.reduceLT, Nat.reduceLeDiff, Nat.reduceEqDiff, Nat.reduceDiv, Nat.reduceMod, Int.reduceToNat, Int.reduceLE, Int.reduceLT, Int.reduceBEq, Int.reduceBNe, Int.reduceNeg, Int.reduceAdd, Int.reduceSub, Int.reduceMul, reduceCtorEq, Tryd.ntmps115, Tryd.results115]
  (first | refine callT.at (indexOne_ok s c) ⟨leA, leA, trivial⟩ ?_ | refine callS.at (indexOne_ok s c) ⟨leA, leA, trivial⟩ ?_)
  simp -implicitDefEqProofs -dsimp only [go_sem, Nat.reduceSub, Nat.reduceAdd, Nat.reduceMul, Nat.reduceLT, Nat.reduceLeDiff, Nat.reduceEqDiff, Nat.reduceDiv, Nat.reduceMod, Int.reduceToNat, Int.reduceLE, Int.reduceLT, Int.reduceBEq, Int.reduceBNe, Int.reduceNeg, Int.reduceAdd, Int.reduceSub, Int.reduceMul, reduceCtorEq]
  refine condT.split (fun h1 => ?_) (fun h1 => ?_) <;> simp -implicitDefEqProofs -dsimp only [go_sem, Nat.reduceSub, Nat.reduceAdd, Nat.reduceMul, Nat.reduceLT, Nat.reduceLeDiff, Nat.reduceEqDiff, Nat.reduceDiv, Nat.reduceMod, Int.reduceToNat, Int.reduceLE, Int.reduceLT, Int.reduceBEq, Int.reduceBNe, Int.reduceNeg, Int.reduceAdd, Int.reduceSub, Int.reduceMul, reduceCtorEq, h1]
  · have h1' := of_decide_eq_true h1
    repeat (with_reducible refine sideA ?_)
    have e1 : ((#[c] : Array UInt8).size : Int) = 1 := rfl
    have e2 : (idx c s + 1).toNat = (idx c s).toNat + 1 := by omega
    rw [e1, wrap_i64 (by omega) (by omega), e2]
    refine ⟨⟨by omega, by omega⟩, WeakR.drop' ?_ (by rfl)⟩
    rw [bef, aft, fnd, if_pos h1', if_pos h1', h1]
  · have h1' := of_decide_eq_false h1
    exact WeakR.drop' (by rw [bef, aft, fnd, if_neg h1', if_neg h1', h1]) (by rfl)
theorem cut_ok (s : ByteArray) (c : UInt8) (hs : s.size ≤ 281474976710656) : Ctr Tryd.prog 99 [.str s, .str ⟨#[c]⟩] [] (.tup [.str (bef c s), .str (aft c s), .bool (fnd c s)]) [] := by
  refine Ctr.intro Tryd.mixed Tryd.func99 rfl Tryd.okF99 ?_
  simp -implicitDefEqProofs -dsimp only [go_sem, Nat.reduceSub, Nat.reduceAdd, Nat.reduceMul, Nat.reduceLT, Nat.reduceLeDiff, Nat.reduceEqDiff, Nat.reduceDiv, Nat.reduceMod, Int.reduceToNat, Int.reduceLE, Int.reduceLT, Int.reduceBEq, Int.reduceBNe, Int.reduceNeg, Int.reduceAdd, Int.reduceSub, Int.reduceMul, reduceCtorEq, Tryd.ntmps99, Tryd.results99]
  (first | refine callT.at (liteCut_ok s c hs) ⟨leA, leA, trivial⟩ ?_ | refine callS.at (liteCut_ok s c hs) ⟨leA, leA, trivial⟩ ?_)
  simp -implicitDefEqProofs -dsimp only [go_sem, Nat.reduceSub, Nat.reduceAdd, Nat.reduceMul, Nat.reduceLT, Nat.reduceLeDiff, Nat.reduceEqDiff, Nat.reduceDiv, Nat.reduceMod, Int.reduceToNat, Int.reduceLE, Int.reduceLT, Int.reduceBEq, Int.reduceBNe, Int.reduceNeg, Int.reduceAdd, Int.reduceSub, Int.reduceMul, reduceCtorEq]
  exact WeakR.drop' rfl (by rfl)
/-- The pieces, and where the next begins, after i bytes. -/
def splTo (c : UInt8) (s : ByteArray) : Nat → List ByteArray × Nat
  | 0 => ([], 0)
  | i + 1 => if h : i < s.size then (if (s[i]'h == c) = true then ((splTo c s i).1 ++ [s.extract (splTo c s i).2 i], i + 1) else splTo c s i) else splTo c s i
theorem splTo_yes {c : UInt8} {s : ByteArray} {i : Nat} (h : i < s.size) (hc : (s[i]'h == c) = true) : splTo c s (i + 1) = ((splTo c s i).1 ++ [s.extract (splTo c s i).2 i], i + 1) := by
  rw [splTo, dif_pos h, if_pos hc]
theorem splTo_no {c : UInt8} {s : ByteArray} {i : Nat} (h : i < s.size) (hc : (s[i]'h == c) = false) : splTo c s (i + 1) = splTo c s i := by
  rw [splTo, dif_pos h, if_neg (by simp [hc])]
theorem splTo_bd (c : UInt8) (s : ByteArray) : ∀ i, i ≤ s.size → (splTo c s i).2 ≤ i ∧ (splTo c s i).1.length ≤ i
  | 0, _ => by simp [splTo]
  | i + 1, h => by
    have ih := splTo_bd c s i (by omega)
    have hi : i < s.size := by omega
    cases hc : (s[i]'hi == c) with
    | true => rw [splTo_yes hi hc]; simp; omega
    | false => rw [splTo_no hi hc]; omega
def splS (c : UInt8) (s : ByteArray) : List ByteArray := (splTo c s s.size).1 ++ [s.extract (splTo c s s.size).2 s.size]
theorem idx_first {c : UInt8} {s : ByteArray} {i : Nat} (h : i < s.size) (h0 : allTo (fun b => !(b == c)) s i = true) (hc : (s[i]'h == c) = true) : idx c s = i := by
  have hl : i < s.data.toList.length := h
  have e : s.data.toList = s.data.toList.take i ++ c :: s.data.toList.drop (i + 1) := by
    have : s.data.toList[i] = c := by rw [ba_get s h]; simpa using hc
    rw [← this, ← List.drop_eq_getElem_cons hl, List.take_append_drop]
  rw [idx, e, ib_app _ h0]
  simp
  omega
theorem spl_first (c : UInt8) (s : ByteArray) : ∀ i, i ≤ s.size → (allTo (fun b => !(b == c)) s i = true → splTo c s i = ([], 0)) ∧ (allTo (fun b => !(b == c)) s i = false → fnd c s = true ∧ ∃ l, (splTo c s i).1 = bef c s :: l)
  | 0, _ => ⟨fun _ => rfl, fun h => by simp [allTo] at h⟩
  | i + 1, h => by
    have hi : i < s.size := by omega
    obtain ⟨h1, h2⟩ := spl_first c s i (by omega)
    cases hc : (s[i]'hi == c) with
    | true =>
      rw [splTo_yes hi hc, allTo_succ hi]
      refine ⟨fun g => by simp [hc] at g, fun _ => ?_⟩
      cases ha : allTo (fun b => !(b == c)) s i with
      | true =>
        have hx := idx_first hi ha hc
        refine ⟨by rw [fnd, hx]; exact decide_eq_true (by omega), [], ?_⟩
        rw [h1 ha, bef, hx, if_pos (by omega)]
        simp
      | false =>
        obtain ⟨g1, l, g2⟩ := h2 ha
        refine ⟨g1, l ++ [s.extract (splTo c s i).2 i], ?_⟩
        rw [g2]; rfl
    | false =>
      rw [splTo_no hi hc, allTo_succ hi]
      have e : (allTo (fun b => !(b == c)) s i && !(s[i]'hi == c)) = allTo (fun b => !(b == c)) s i := by rw [hc]; simp
      rw [e]
      exact ⟨h1, h2⟩
theorem splS_spec (c : UInt8) (s : ByteArray) : ∃ l, splS c s = bef c s :: l ∧ (l = [] ↔ fnd c s = false) := by
  obtain ⟨h1, h2⟩ := spl_first c s s.size (Nat.le_refl _)
  rw [allTo_end] at h1 h2
  cases ha : allS (fun b => !(b == c)) s with
  | true =>
    obtain ⟨_, g2, _, g4⟩ := cut_none (c := c) (x := s) ha
    refine ⟨[], ?_, by simp [g4]⟩
    rw [splS, h1 ha, g2]
    simp
  | false =>
    obtain ⟨g1, l, g2⟩ := h2 ha
    refine ⟨l ++ [s.extract (splTo c s s.size).2 s.size], by rw [splS, g2]; rfl, ?_⟩
    rw [g1]
    simp
theorem l1Split_ok (s : ByteArray) (c : UInt8) (hs : s.size ≤ 16777216) : Ctr Tryd.prog 77 [.str s, .int .u8 c.toNat] [] (.osl 0 0 (splS c s).length 1) [some (rows StringS.cs (splS c s))] := by
  refine Ctr.intro Tryd.mixed Tryd.func77 rfl Tryd.okF77 ?_
  simp -implicitDefEqProofs -dsimp only [go_sem, Nat.reduceSub, Nat.reduceAdd, Nat.reduceMul, Nat.reduceLT, Nat.reduceLeDiff, Nat.reduceEqDiff, Nat.reduceDiv, Nat.reduceMod, Int.reduceToNat, Int.reduceLE, Int.reduceLT, Int.reduceBEq, Int.reduceBNe, Int.reduceNeg, Int.reduceAdd, Int.reduceSub, Int.reduceMul, reduceCtorEq, Tryd.ntmps77, Tryd.results77]
  refine LoopT.intro (fun i : Nat => i ≤ s.size) (fun i => ⟨[.str s, .int .u8 c.toNat, .undef, .undef, .undef, .osl 0 0 (splTo c s i).1.length 1, .int .i64 (splTo c s i).2, .int .i64 i, .undef, .undef, .undef, .undef, .undef, .undef, .undef, .undef, .undef, .undef, .undef, .undef, .undef, .undef, .undef, .undef, .undef, .undef, .undef, .undef, .undef, .undef, .undef, .undef, .undef, .undef, .undef], [some (rows StringS.cs (splTo c s i).1)], 0⟩) (fun i => s.size - i) 0 (Nat.zero_le _) ?_ (fun i hi => ?_)
  · refine Weak.cut (1) (by simp) (by simp) ?_ ?_
    · simp [LeC, LeV, ren, cutF, splTo]
    · simp [cutH, cutB, splTo, rows]
  have hbd := splTo_bd c s i hi
  simp -implicitDefEqProofs -dsimp only [go_sem, Nat.reduceSub, Nat.reduceAdd, Nat.reduceMul, Nat.reduceLT, Nat.reduceLeDiff, Nat.reduceEqDiff, Nat.reduceDiv, Nat.reduceMod, Int.reduceToNat, Int.reduceLE, Int.reduceLT, Int.reduceBEq, Int.reduceBNe, Int.reduceNeg, Int.reduceAdd, Int.reduceSub, Int.reduceMul, reduceCtorEq]
  refine condT.split (fun h1 => ?_) (fun h1 => ?_)
  · simp -implicitDefEqProofs -dsimp only [go_sem, Nat.reduceSub, Nat.reduceAdd, Nat.reduceMul, Nat.reduceLT, Nat.reduceLeDiff, Nat.reduceEqDiff, Nat.reduceDiv, Nat.reduceMod, Int.reduceToNat, Int.reduceLE, Int.reduceLT, Int.reduceBEq, Int.reduceBNe, Int.reduceNeg, Int.reduceAdd, Int.reduceSub, Int.reduceMul, reduceCtorEq, h1]
    have hi' : i < s.size := by simpa using h1
    refine ⟨⟨by omega, hi'⟩, ?_⟩
    have hbb : ((s[i]'hi') == c) = (((s[i]'hi').toNat : Int) == (c.toNat : Int)) := by
      rw [Bool.eq_iff_iff]; simp only [beq_iff_eq]
      constructor
      · intro g; rw [g]
      · intro g; exact UInt8.toNat_inj.1 (by omega)
    refine condT.split (fun h2 => ?_) (fun h2 => ?_) <;> simp -implicitDefEqProofs -dsimp only [go_sem, Nat.reduceSub, Nat.reduceAdd, Nat.reduceMul, Nat.reduceLT, Nat.reduceLeDiff, Nat.reduceEqDiff, Nat.reduceDiv, Nat.reduceMod, Int.reduceToNat, Int.reduceLE, Int.reduceLT, Int.reduceBEq, Int.reduceBNe, Int.reduceNeg, Int.reduceAdd, Int.reduceSub, Int.reduceMul, reduceCtorEq, h2]
    · (repeat ((repeat1' (first | simp -implicitDefEqProofs -dsimp only [go_sem, Nat.reduceSub, Nat.reduceAdd, Nat.reduceMul, Nat.reduceLT, Nat.reduceLeDiff, Nat.reduceEqDiff, Nat.reduceDiv, Nat.reduceMod, Int.reduceToNat, Int.reduceLE, Int.reduceLT, Int.reduceBEq, Int.reduceBNe, Int.reduceNeg, Int.reduceAdd, Int.reduceSub, Int.reduceMul, reduceCtorEq, rows_length, rows_cell, Nat.mul_one] | simp -implicitDefEqProofs -dsimp (disch := omega) only [wrap_i64])); repeat (with_reducible refine sideA ?_)))
      refine ⟨i + 1, hi', ?_, by omega⟩
      refine Weak.cut (1) (by simp) (by simp) ?_ ?_
      · rw [splTo_yes hi' (by rw [hbb]; exact h2)]
        simp [LeC, LeV, ren, cutF]
      · rw [splTo_yes hi' (by rw [hbb]; exact h2), ← rows_snoc]
        simp [cutH, cutB, ren, cutF, map_ren_rows, killC, StringS.cs]
    · try (repeat1' (first | simp -implicitDefEqProofs -dsimp only [go_sem, Nat.reduceSub, Nat.reduceAdd, Nat.reduceMul, Nat.reduceLT, Nat.reduceLeDiff, Nat.reduceEqDiff, Nat.reduceDiv, Nat.reduceMod, Int.reduceToNat, Int.reduceLE, Int.reduceLT, Int.reduceBEq, Int.reduceBNe, Int.reduceNeg, Int.reduceAdd, Int.reduceSub, Int.reduceMul, reduceCtorEq] | simp -implicitDefEqProofs -dsimp (disch := omega) only [wrap_i64]))
      refine ⟨i + 1, hi', ?_, by omega⟩
      refine Weak.cut (1) (by simp) (by simp) ?_ ?_
      · rw [splTo_no hi' (by rw [hbb]; exact h2)]
        simp [LeC, LeV, ren, cutF]
      · rw [splTo_no hi' (by rw [hbb]; exact h2)]
        simp [cutH, cutB, map_ren_rows]
  · simp -implicitDefEqProofs -dsimp only [go_sem, Nat.reduceSub, Nat.reduceAdd, Nat.reduceMul, Nat.reduceLT, Nat.reduceLeDiff, Nat.reduceEqDiff, Nat.reduceDiv, Nat.reduceMod, Int.reduceToNat, Int.reduceLE, Int.reduceLT, Int.reduceBEq, Int.reduceBNe, Int.reduceNeg, Int.reduceAdd, Int.reduceSub, Int.reduceMul, reduceCtorEq, h1]
    have hi' : i = s.size := by simp at h1; omega
    subst hi'
    (repeat ((repeat1' (first | simp -implicitDefEqProofs -dsimp only [go_sem, Nat.reduceSub, Nat.reduceAdd, Nat.reduceMul, Nat.reduceLT, Nat.reduceLeDiff, Nat.reduceEqDiff, Nat.reduceDiv, Nat.reduceMod, Int.reduceToNat, Int.reduceLE, Int.reduceLT, Int.reduceBEq, Int.reduceBNe, Int.reduceNeg, Int.reduceAdd, Int.reduceSub, Int.reduceMul, reduceCtorEq, rows_length, rows_cell, Nat.mul_one] | simp -implicitDefEqProofs -dsimp (disch := omega) only [wrap_i64])); repeat (with_reducible refine sideA ?_)))
    have hl : (splS c s).length = (splTo c s s.size).1.length + 1 := by simp [splS]
    rw [hl]
    refine WeakR.pick [0] (by decide) (fun j hj => by omega) (.inl ?_) ?_
    · rfl
    · simp only [pickH, List.map_cons, List.map_nil, pickB, List.getElem?_cons_zero, splS, ← rows_snoc]
      simp [ren, pickF, posOf, map_ren_rows, StringS.cs, killC]
end Go.Proofs
end
section
set_option linter.unusedSimpArgs false
set_option linter.unusedVariables false
set_option maxRecDepth 100000
set_option maxHeartbeats 1000000
namespace Go.Proofs
open Go.Lv
theorem num_noB (c : UInt8) (hc : c.toNat < 48) : ∀ (n u : Nat), u < n → noB c (num u) = true
  | 0, u, h => by omega
  | n + 1, u, h => by
    have one : ∀ d, d < 10 → noB c (digits.extract d (d + 1)) = true := by
      intro d hd
      rw [digit_at d hd]
      have hne : (UInt8.ofNat (48 + d) == c) = false := by
        rw [beq_eq_false_iff_ne]
        intro e
        have h1 : (UInt8.ofNat (48 + d)).toNat = c.toNat := by rw [e]
        rw [UInt8.toNat_ofNat'] at h1
        omega
      show (!(UInt8.ofNat (48 + d) == c) && true) = true
      rw [hne]; rfl
    by_cases h1 : u < 10
    · rw [num_one h1]; exact one u h1
    · rw [num_more h1, noB, allS_app]
      have g1 := num_noB c hc n (u / 10) (by omega)
      have g2 := one (u % 10) (by omega)
      unfold noB at g1 g2
      rw [g1, g2]; rfl
def parseI (line : ByteArray) : LogRecord := ⟨bef 64 (aft 32 (bef 35 line)), aft 64 (aft 32 (bef 35 line))⟩
theorem seal_eq (s : ByteArray) : sealS s = s ++ (⟨#[35]⟩ ++ num (ckS s)) := by rw [sealS, ByteArray.append_assoc]
theorem text_eq (k : Int) (e : LogRecord) : recText k e = num k ++ (⟨#[32]⟩ ++ (e.Command ++ (⟨#[64]⟩ ++ e.Reply))) := by
  simp only [recText, ByteArray.append_assoc]
theorem cmd_noB {e : LogRecord} (h : recB e = true) : noB 64 e.Command = true :=
  allS_mono (recB_ok h).2.2.1 (fun b hb => by simp at hb ⊢; exact hb.2)
theorem text_bef {k : Int} {e : LogRecord} (hk : 0 ≤ k ∧ k ≤ 59) (h : recB e = true) : bef 35 (sealS (recText k e)) = recText k e := by
  rw [seal_eq]
  exact (cut_at (recText_plain hk h)).2.1
theorem parseI_ok {k : Int} {e : LogRecord} (hk : 0 ≤ k ∧ k ≤ 59) (h : recB e = true) : parseI (sealS (recText k e)) = e := by
  obtain ⟨u, rfl⟩ := Int.eq_ofNat_of_zero_le hk.1
  have n1 : noB 32 (num (u : Int)) = true := num_noB 32 (by decide) (u + 1) u (by omega)
  have a1 : aft 32 (recText u e) = e.Command ++ (⟨#[64]⟩ ++ e.Reply) := by
    rw [text_eq]; exact (cut_at n1).2.2.1
  have c := cut_at (y := e.Reply) (cmd_noB h)
  rw [parseI, text_bef hk h, a1, c.2.1, c.2.2.1]
def decE (k : Int) (line : ByteArray) : Option LogRecord := if inB' k 0 59 = true ∧ recB (parseI line) = true ∧ sealS (recText k (parseI line)) = line then some (parseI line) else none
theorem decE_some {k : Int} {line : ByteArray} {e : LogRecord} : decE k line = some e ↔ (0 ≤ k ∧ k ≤ 59) ∧ recB e = true ∧ sealS (recText k e) = line := by
  unfold decE
  constructor
  · intro g
    split at g
    · rename_i c
      simp only [Option.some.injEq] at g
      subst g
      exact ⟨inB'_iff.1 c.1, c.2.1, c.2.2⟩
    · cases g
  · rintro ⟨hk, he, rfl⟩
    rw [parseI_ok hk he, if_pos ⟨inB'_iff.2 hk, he, rfl⟩]
theorem decE_none {k : Int} {line : ByteArray} (h : ∀ e, ¬ ((0 ≤ k ∧ k ≤ 59) ∧ recB e = true ∧ sealS (recText k e) = line)) : decE k line = none := by
  cases g : decE k line with
  | none => rfl
  | some e => exact absurd (decE_some.1 g) (h e)
theorem append_right_inj {a b c : ByteArray} (h : a ++ c = b ++ c) : a = b := by
  apply ba_ext
  have := congrArg (fun x : ByteArray => x.data.toList) h
  simp only [ba_app] at this
  exact List.append_cancel_right this
theorem ba_beq (a b : ByteArray) : (a.toList == b.toList) = decide (a = b) := by
  rw [ba_list, ba_list, Bool.eq_iff_iff]
  simp only [beq_iff_eq, decide_eq_true_eq]
  exact ⟨fun h => ba_ext h, fun h => by rw [h]⟩
def decL (k : Int) (s : ByteArray) : Option (LogRecord × Nat) := if fnd 10 s = true then (decE k (bef 10 s)).map fun e => (e, (bef 10 s).size + 1) else none
/-- The reference's parse of what stands behind the number. -/
def parseR (k : Int) (line R : ByteArray) : LogRecord × Bool :=
  if (bef 64 R).size = R.size then (⟨⟨#[]⟩, ⟨#[]⟩⟩, false)
  else (⟨bef 64 R, R.extract ((bef 64 R).size + 1) R.size⟩, recB ⟨bef 64 R, R.extract ((bef 64 R).size + 1) R.size⟩ && decide (recLine k ⟨bef 64 R, R.extract ((bef 64 R).size + 1) R.size⟩ = line ++ ⟨#[10]⟩))
def parseS (k : Int) (line : ByteArray) : LogRecord × Bool :=
  if (bef 35 line).size < (num k ++ (⟨#[32]⟩ : ByteArray)).size ∨ ¬ (bef 35 line).extract 0 (num k ++ (⟨#[32]⟩ : ByteArray)).size = num k ++ (⟨#[32]⟩ : ByteArray) then (⟨⟨#[]⟩, ⟨#[]⟩⟩, false)
  else parseR k line ((bef 35 line).extract (num k ++ (⟨#[32]⟩ : ByteArray)).size (bef 35 line).size)
theorem parseS_some {k : Int} {line : ByteArray} (hk : 0 ≤ k ∧ k ≤ 59) (h : (parseS k line).2 = true) : decE k line = some (parseS k line).1 := by
  unfold parseS at h ⊢
  split
  · rename_i c; rw [if_pos c] at h; cases h
  · rename_i c
    rw [if_neg c] at h
    unfold parseR at h ⊢
    split
    · rename_i c2; rw [if_pos c2] at h; cases h
    · rename_i c2
      rw [if_neg c2] at h
      simp only [Bool.and_eq_true, decide_eq_true_eq] at h
      exact decE_some.2 ⟨hk, h.1, append_right_inj h.2⟩
theorem ext_left (a b : ByteArray) : (a ++ b).extract 0 a.size = a := by
  apply ba_ext
  rw [ba_ext_list, ba_app, List.drop_zero]
  exact List.take_left' (ba_len a)
theorem ext_right (a b : ByteArray) : (a ++ b).extract a.size (a ++ b).size = b := by
  apply ba_ext
  have hl : (a ++ b).size = (a ++ b).data.toList.length := rfl
  rw [ba_ext_list, hl, List.take_length, ba_app]
  exact List.drop_left' (ba_len a)
theorem parseS_of {k : Int} {line : ByteArray} {e : LogRecord} (h : decE k line = some e) : parseS k line = (e, true) := by
  obtain ⟨hk, he, hl⟩ := decE_some.1 h
  have ht : bef 35 line = (num k ++ (⟨#[32]⟩ : ByteArray)) ++ (e.Command ++ (⟨#[64]⟩ ++ e.Reply)) := by
    rw [← hl, text_bef hk he, text_eq]
    simp only [ByteArray.append_assoc]
  have hs : ((num k ++ (⟨#[32]⟩ : ByteArray)) ++ (e.Command ++ (⟨#[64]⟩ ++ e.Reply))).size = (num k ++ (⟨#[32]⟩ : ByteArray)).size + (e.Command ++ (⟨#[64]⟩ ++ e.Reply)).size := ByteArray.size_append
  have c := cut_at (y := e.Reply) (cmd_noB he)
  have hz : (e.Command ++ ((⟨#[64]⟩ : ByteArray) ++ e.Reply)).size = e.Command.size + (1 + e.Reply.size) := by
    rw [ByteArray.size_append, ByteArray.size_append]; rfl
  have hx : (e.Command ++ ((⟨#[64]⟩ : ByteArray) ++ e.Reply)).extract (e.Command.size + 1) (e.Command ++ ((⟨#[64]⟩ : ByteArray) ++ e.Reply)).size = e.Reply := by
    have h2 := ext_right (e.Command ++ (⟨#[64]⟩ : ByteArray)) e.Reply
    have h3 : (e.Command ++ (⟨#[64]⟩ : ByteArray)).size = e.Command.size + 1 := by rw [ByteArray.size_append]; rfl
    rw [h3, ByteArray.append_assoc] at h2
    exact h2
  have ee : (⟨e.Command, e.Reply⟩ : LogRecord) = e := rfl
  unfold parseS
  rw [ht, ext_left, ext_right, if_neg (by rw [hs]; simp), parseR, c.2.1, if_neg (by rw [hz]; omega), hx, ee, he]
  have hr : recLine k e = line ++ ⟨#[10]⟩ := by rw [recLine, hl]
  rw [hr]
  simp
/-- The records at the beginning of a text, and where the next would begin, after n rounds. -/
def rdN (s : ByteArray) : Nat → List LogRecord × Nat
  | 0 => ([], 0)
  | n + 1 => match decL (rdN s n).1.length (s.extract (rdN s n).2 s.size) with
    | some r => ((rdN s n).1 ++ [r.1], (rdN s n).2 + r.2)
    | none => rdN s n
theorem rdN_some {s : ByteArray} {n : Nat} {r : LogRecord × Nat} (h : decL (rdN s n).1.length (s.extract (rdN s n).2 s.size) = some r) : rdN s (n + 1) = ((rdN s n).1 ++ [r.1], (rdN s n).2 + r.2) := by rw [rdN, h]
theorem rdN_none {s : ByteArray} {n : Nat} (h : decL (rdN s n).1.length (s.extract (rdN s n).2 s.size) = none) : rdN s (n + 1) = rdN s n := by rw [rdN, h]
theorem rdN_stuck {s : ByteArray} {n : Nat} (h : decL (rdN s n).1.length (s.extract (rdN s n).2 s.size) = none) : ∀ m, rdN s (n + m) = rdN s n
  | 0 => rfl
  | m + 1 => by
    have ih := rdN_stuck h m
    rw [← Nat.add_assoc, rdN_none (by rw [ih]; exact h), ih]
theorem fnd_size {c : UInt8} {s : ByteArray} (h : fnd c s = true) : (bef c s).size + 1 ≤ s.size := by
  obtain ⟨x, y, e, hx⟩ := cut_find h
  have h1 := (cut_at (y := y) hx).2.1
  have h2 : (x ++ ((⟨#[c]⟩ : ByteArray) ++ y)).size = x.size + (1 + y.size) := by rw [ByteArray.size_append, ByteArray.size_append]; rfl
  rw [e, h1, h2]; omega
theorem decL_some {k : Int} {s : ByteArray} {r : LogRecord × Nat} (h : decL k s = some r) : fnd 10 s = true ∧ decE k (bef 10 s) = some r.1 ∧ r.2 = (bef 10 s).size + 1 := by
  unfold decL at h
  split at h
  · rename_i c
    cases g : decE k (bef 10 s) with
    | none => rw [g] at h; cases h
    | some e =>
      rw [g] at h
      simp only [Option.map_some, Option.some.injEq] at h
      subst h
      exact ⟨c, rfl, rfl⟩
  · cases h
theorem decL_size {k : Int} {s : ByteArray} {r : LogRecord × Nat} (h : decL k s = some r) : 1 ≤ r.2 ∧ r.2 ≤ s.size ∧ r.2 ≤ 423 := by
  obtain ⟨h1, h2, h3⟩ := decL_some h
  have := fnd_size h1
  obtain ⟨hk, he, hl⟩ := decE_some.1 h2
  have g1 := recText_size hk he
  have g2 := sealS_size (recText k r.1)
  rw [hl] at g2
  omega
theorem rdN_bd (s : ByteArray) : ∀ n, (rdN s n).2 ≤ s.size ∧ (rdN s n).2 ≤ 423 * (rdN s n).1.length ∧ (rdN s n).1.length ≤ n
  | 0 => by simp [rdN]
  | n + 1 => by
    have ih := rdN_bd s n
    cases h : decL (rdN s n).1.length (s.extract (rdN s n).2 s.size) with
    | none => rw [rdN_none h]; omega
    | some r =>
      have hz := decL_size h
      rw [ByteArray.size_extract] at hz
      rw [rdN_some h]
      simp only [List.length_append, List.length_singleton]
      omega
theorem decL_k {k : Int} {s : ByteArray} {r : LogRecord × Nat} (h : decL k s = some r) : 0 ≤ k ∧ k ≤ 59 := (decE_some.1 (decL_some h).2.1).1
theorem rdN_60 (s : ByteArray) : ∀ n, (rdN s n).1.length ≤ 60
  | 0 => by simp [rdN]
  | n + 1 => by
    have ih := rdN_60 s n
    cases h : decL (rdN s n).1.length (s.extract (rdN s n).2 s.size) with
    | none => rw [rdN_none h]; exact ih
    | some r =>
      have hz := decL_k h
      rw [rdN_some h]
      simp only [List.length_append, List.length_singleton]
      omega
def recsOf (s : ByteArray) : List LogRecord := (rdN s 60).1
def atOf (s : ByteArray) : Nat := (rdN s 60).2
/-- At the first round that finds nothing. -/
theorem rdN_done {s : ByteArray} {i : Nat} (hl : (rdN s i).1.length = i) (h : decL i (s.extract (rdN s i).2 s.size) = none) : rdN s 60 = rdN s i := by
  have h60 := rdN_60 s i
  have := rdN_stuck (s := s) (n := i) (by rw [hl]; exact h) (60 - i)
  rw [← this]
  congr 1; omega
theorem rdN_len {s : ByteArray} : ∀ {i j : Nat}, (rdN s i).1.length = i → j ≤ i → (rdN s j).1.length = j
  | 0, j, _, hj => by have : j = 0 := by omega
                      subst this; rfl
  | i + 1, j, h, hj => by
    by_cases e : j = i + 1
    · subst e; exact h
    · refine rdN_len (i := i) ?_ (by omega)
      have hb := (rdN_bd s i).2.2
      cases g : decL (rdN s i).1.length (s.extract (rdN s i).2 s.size) with
      | none => rw [rdN_none g] at h; omega
      | some r => rw [rdN_some g] at h; simp at h; exact h
def endsTo (s : ByteArray) (i : Nat) : List Int := (List.range i).map fun j => ((rdN s (j + 1)).2 : Int)
theorem endsTo_succ (s : ByteArray) (i : Nat) : endsTo s (i + 1) = endsTo s i ++ [((rdN s (i + 1)).2 : Int)] := by simp [endsTo, List.range_succ]
theorem endsTo_len (s : ByteArray) (i : Nat) : (endsTo s i).length = i := by simp [endsTo]
end Go.Proofs
end
section
set_option linter.unusedSimpArgs false
set_option linter.unusedVariables false
set_option maxRecDepth 100000
namespace Go.Proofs
open Go.Lv
def IntS.cs (x : Int) : List V := [.int .i64 x]
instance : FlatP IntS.cs 1 := ⟨fun _ => rfl, fun _ d => by cases d <;> rfl, fun _ => rfl, fun _ => rfl⟩
theorem IntS.csl (a : Int) : (IntS.cs a).length = 1 := rfl
theorem IntS.csp (a : Int) : (IntS.cs a).all (noOwn 2) = true := rfl
abbrev IntS.ok (x : Int) : Prop := i64R x
abbrev IntS.sl (L : List Int) : V := .sl L.length 1 (Go.Lv.rows IntS.cs L)
abbrev IntS.zs : List V := [.int .i64 0]
def IntS.marks (k : Int) (n : Nat) : List Int := (List.range n).map fun i : Nat => k + (i : Int)
@[simp] theorem IntS.marks_len (k : Int) (n : Nat) : (IntS.marks k n).length = n := by simp [IntS.marks]
abbrev IntS.v (x : Int) : V := .int .i64 x
end Go.Proofs
end
section
set_option linter.unusedSimpArgs false
set_option linter.unusedVariables false
set_option maxRecDepth 100000
set_option maxHeartbeats 2000000
namespace Go.Proofs
open Go.Lv
def decV : Option (LogRecord × Nat) → V
  | some r => .tup [r.1.v, .int .i64 r.2, .bool true]
  | none => .tup [.agg [.str ⟨#[]⟩, .str ⟨#[]⟩], .int .i64 0, .bool false]
theorem decode_ok (k : Int) (s : ByteArray) (hs : s.size ≤ 16777216) : Ctr Tryd.prog 76 [.int .i64 k, .str s] [] (decV (decL k s)) [] := by
  have z1 := bef_size 10 s
  have z2 := bef_size 35 (bef 10 s)
  have z3 := aft_size 32 (bef 35 (bef 10 s))
  have z4 := bef_size 64 (aft 32 (bef 35 (bef 10 s)))
  have z5 := aft_size 64 (aft 32 (bef 35 (bef 10 s)))
  refine Ctr.intro Tryd.mixed Tryd.func76 rfl Tryd.okF76 ?_
  simp -implicitDefEqProofs -dsimp only [go_sem, Nat.reduceSub, Nat.reduceAdd, Nat.reduceMul, Nat.reduceLT, Nat.reduceLeDiff, Nat.reduceEqDiff, Nat.reduceDiv, Nat.reduceMod, Int.reduceToNat, Int.reduceLE, Int.reduceLT, Int.reduceBEq, Int.reduceBNe, Int.reduceNeg, Int.reduceAdd, Int.reduceSub, Int.reduceMul, reduceCtorEq, Tryd.ntmps76, Tryd.results76]
  repeat (with_reducible refine And.intro ?_ ?_; focus (first | omega | with_reducible rfl | (show drawOk _ = true; kernel_rfl) | (simp only [rows_length, rows_cell, List.length_append, List.length_cons, List.length_nil, List.all_append, List.all_cons, List.all_nil, isCell, Nat.mul_one, Nat.one_mul, Bool.and_self]; first | done | omega) | (simp only [ByteArray.size_append, ba_size, List.size_toArray, List.length_cons, List.length_nil]; omega)))
  (first | refine callT.at (cut_ok s 10 (by omega)) ⟨leA, leA, trivial⟩ ?_ | refine callS.at (cut_ok s 10 (by omega)) ⟨leA, leA, trivial⟩ ?_)
  simp -implicitDefEqProofs -dsimp only [go_sem, Nat.reduceSub, Nat.reduceAdd, Nat.reduceMul, Nat.reduceLT, Nat.reduceLeDiff, Nat.reduceEqDiff, Nat.reduceDiv, Nat.reduceMod, Int.reduceToNat, Int.reduceLE, Int.reduceLT, Int.reduceBEq, Int.reduceBNe, Int.reduceNeg, Int.reduceAdd, Int.reduceSub, Int.reduceMul, reduceCtorEq]
  have no : decL k s = none → ∀ h, WeakR 0 (.tup [.agg [.str ByteArray.empty, .str ByteArray.empty], .int .i64 0, .bool false]) h (decV (decL k s)) [] := fun e h => WeakR.drop' (by rw [e]; rfl) (by rfl)
  cases hf : fnd 10 s with
  | false =>
    have hn : decL k s = none := by rw [decL, hf]; rfl
    simp -implicitDefEqProofs -dsimp only [go_sem, Nat.reduceSub, Nat.reduceAdd, Nat.reduceMul, Nat.reduceLT, Nat.reduceLeDiff, Nat.reduceEqDiff, Nat.reduceDiv, Nat.reduceMod, Int.reduceToNat, Int.reduceLE, Int.reduceLT, Int.reduceBEq, Int.reduceBNe, Int.reduceNeg, Int.reduceAdd, Int.reduceSub, Int.reduceMul, reduceCtorEq, hf, Bool.not_false]
    repeat (with_reducible refine And.intro ?_ ?_; focus (first | omega | with_reducible rfl | (show drawOk _ = true; kernel_rfl) | (simp only [rows_length, rows_cell, List.length_append, List.length_cons, List.length_nil, List.all_append, List.all_cons, List.all_nil, isCell, Nat.mul_one, Nat.one_mul, Bool.and_self]; first | done | omega) | (simp only [ByteArray.size_append, ba_size, List.size_toArray, List.length_cons, List.length_nil]; omega)))
    exact no hn _
  | true =>
    have hd : decL k s = (decE k (bef 10 s)).map fun e => (e, (bef 10 s).size + 1) := by rw [decL, if_pos hf]
    have hsz := fnd_size hf
    simp -implicitDefEqProofs -dsimp only [go_sem, Nat.reduceSub, Nat.reduceAdd, Nat.reduceMul, Nat.reduceLT, Nat.reduceLeDiff, Nat.reduceEqDiff, Nat.reduceDiv, Nat.reduceMod, Int.reduceToNat, Int.reduceLE, Int.reduceLT, Int.reduceBEq, Int.reduceBNe, Int.reduceNeg, Int.reduceAdd, Int.reduceSub, Int.reduceMul, reduceCtorEq, hf, Bool.not_true]
    refine condT.split (fun g1 => ?_) (fun g1 => ?_) <;> (repeat ((repeat1' (first | simp -implicitDefEqProofs -dsimp only [go_sem, Nat.reduceSub, Nat.reduceAdd, Nat.reduceMul, Nat.reduceLT, Nat.reduceLeDiff, Nat.reduceEqDiff, Nat.reduceDiv, Nat.reduceMod, Int.reduceToNat, Int.reduceLE, Int.reduceLT, Int.reduceBEq, Int.reduceBNe, Int.reduceNeg, Int.reduceAdd, Int.reduceSub, Int.reduceMul, reduceCtorEq, g1] | simp -implicitDefEqProofs -dsimp (disch := omega) only [wrap_i64])); repeat (with_reducible refine And.intro ?_ ?_; focus (first | omega | with_reducible rfl | (show drawOk _ = true; kernel_rfl) | (simp only [rows_length, rows_cell, List.length_append, List.length_cons, List.length_nil, List.all_append, List.all_cons, List.all_nil, isCell, Nat.mul_one, Nat.one_mul, Bool.and_self]; first | done | omega) | (simp only [ByteArray.size_append, ba_size, List.size_toArray, List.length_cons, List.length_nil]; omega)))))
    · refine no ?_ _
      rw [hd, decE_none]
      · rfl
      · rintro e ⟨hk, he, hl⟩
        have := recText_size hk he
        have := sealS_size (recText k e)
        rw [hl] at this
        simp at g1
        omega
    (first | refine callT.at (cut_ok (bef 10 s) 35 (by omega)) ⟨leA, leA, trivial⟩ ?_ | refine callS.at (cut_ok (bef 10 s) 35 (by omega)) ⟨leA, leA, trivial⟩ ?_)
    simp -implicitDefEqProofs -dsimp only [go_sem, Nat.reduceSub, Nat.reduceAdd, Nat.reduceMul, Nat.reduceLT, Nat.reduceLeDiff, Nat.reduceEqDiff, Nat.reduceDiv, Nat.reduceMod, Int.reduceToNat, Int.reduceLE, Int.reduceLT, Int.reduceBEq, Int.reduceBNe, Int.reduceNeg, Int.reduceAdd, Int.reduceSub, Int.reduceMul, reduceCtorEq]
    (first | refine callT.at (cut_ok (bef 35 (bef 10 s)) 32 (by omega)) ⟨leA, leA, trivial⟩ ?_ | refine callS.at (cut_ok (bef 35 (bef 10 s)) 32 (by omega)) ⟨leA, leA, trivial⟩ ?_)
    simp -implicitDefEqProofs -dsimp only [go_sem, Nat.reduceSub, Nat.reduceAdd, Nat.reduceMul, Nat.reduceLT, Nat.reduceLeDiff, Nat.reduceEqDiff, Nat.reduceDiv, Nat.reduceMod, Int.reduceToNat, Int.reduceLE, Int.reduceLT, Int.reduceBEq, Int.reduceBNe, Int.reduceNeg, Int.reduceAdd, Int.reduceSub, Int.reduceMul, reduceCtorEq]
    (first | refine callT.at (cut_ok (aft 32 (bef 35 (bef 10 s))) 64 (by omega)) ⟨leA, leA, trivial⟩ ?_ | refine callS.at (cut_ok (aft 32 (bef 35 (bef 10 s))) 64 (by omega)) ⟨leA, leA, trivial⟩ ?_)
    (repeat ((repeat1' (first | simp -implicitDefEqProofs -dsimp only [go_sem, Nat.reduceSub, Nat.reduceAdd, Nat.reduceMul, Nat.reduceLT, Nat.reduceLeDiff, Nat.reduceEqDiff, Nat.reduceDiv, Nat.reduceMod, Int.reduceToNat, Int.reduceLE, Int.reduceLT, Int.reduceBEq, Int.reduceBNe, Int.reduceNeg, Int.reduceAdd, Int.reduceSub, Int.reduceMul, reduceCtorEq] | simp -implicitDefEqProofs -dsimp (disch := omega) only [wrap_i64])); repeat (with_reducible refine And.intro ?_ ?_; focus (first | omega | with_reducible rfl | (show drawOk _ = true; kernel_rfl) | (simp only [rows_length, rows_cell, List.length_append, List.length_cons, List.length_nil, List.all_append, List.all_cons, List.all_nil, isCell, Nat.mul_one, Nat.one_mul, Bool.and_self]; first | done | omega) | (simp only [ByteArray.size_append, ba_size, List.size_toArray, List.length_cons, List.length_nil]; omega)))))
    have hE := iEncodeRecord_ok k (parseI (bef 10 s)) (by show (bef 64 _).size ≤ _; omega) (by show (aft 64 _).size ≤ _; omega)
    have pc : (parseI (bef 10 s)).Command = bef 64 (aft 32 (bef 35 (bef 10 s))) := rfl
    have pr : (parseI (bef 10 s)).Reply = aft 64 (aft 32 (bef 35 (bef 10 s))) := rfl
    by_cases hc : inB' k 0 59 = true ∧ recB (parseI (bef 10 s)) = true
    · rw [encR, if_pos hc] at hE
      have t1 := recText_size (inB'_iff.1 hc.1) hc.2
      have t2 := sealS_size (recText k (parseI (bef 10 s)))
      have t3 : (recLine k (parseI (bef 10 s))).size = (sealS (recText k (parseI (bef 10 s)))).size + 1 := by rw [recLine, ByteArray.size_append]; rfl
      (first | refine callT.at (hE) ⟨leA, leA, trivial⟩ ?_ | refine callS.at (hE) ⟨leA, leA, trivial⟩ ?_)
      (repeat ((repeat1' (first | simp -implicitDefEqProofs -dsimp only [go_sem, Nat.reduceSub, Nat.reduceAdd, Nat.reduceMul, Nat.reduceLT, Nat.reduceLeDiff, Nat.reduceEqDiff, Nat.reduceDiv, Nat.reduceMod, Int.reduceToNat, Int.reduceLE, Int.reduceLT, Int.reduceBEq, Int.reduceBNe, Int.reduceNeg, Int.reduceAdd, Int.reduceSub, Int.reduceMul, reduceCtorEq, ba_beq] | simp -implicitDefEqProofs -dsimp (disch := omega) only [wrap_i64])); repeat (with_reducible refine And.intro ?_ ?_; focus (first | omega | with_reducible rfl | (show drawOk _ = true; kernel_rfl) | (simp only [rows_length, rows_cell, List.length_append, List.length_cons, List.length_nil, List.all_append, List.all_cons, List.all_nil, isCell, Nat.mul_one, Nat.one_mul, Bool.and_self]; first | done | omega) | (simp only [ByteArray.size_append, ba_size, List.size_toArray, List.length_cons, List.length_nil]; omega)))))
      by_cases hq : recLine k (parseI (bef 10 s)) = bef 10 s ++ ⟨#[10]⟩
      · have hdq : decide (recLine k (parseI (bef 10 s)) = bef 10 s ++ (⟨#[10]⟩ : ByteArray)) = true := decide_eq_true hq
        have hs' : decE k (bef 10 s) = some (parseI (bef 10 s)) := decE_some.2 ⟨inB'_iff.1 hc.1, hc.2, append_right_inj hq⟩
        (repeat ((repeat1' (first | simp -implicitDefEqProofs -dsimp only [go_sem, Nat.reduceSub, Nat.reduceAdd, Nat.reduceMul, Nat.reduceLT, Nat.reduceLeDiff, Nat.reduceEqDiff, Nat.reduceDiv, Nat.reduceMod, Int.reduceToNat, Int.reduceLE, Int.reduceLT, Int.reduceBEq, Int.reduceBNe, Int.reduceNeg, Int.reduceAdd, Int.reduceSub, Int.reduceMul, reduceCtorEq, hdq, Bool.not_true] | simp -implicitDefEqProofs -dsimp (disch := omega) only [wrap_i64])); repeat (with_reducible refine And.intro ?_ ?_; focus (first | omega | with_reducible rfl | (show drawOk _ = true; kernel_rfl) | (simp only [rows_length, rows_cell, List.length_append, List.length_cons, List.length_nil, List.all_append, List.all_cons, List.all_nil, isCell, Nat.mul_one, Nat.one_mul, Bool.and_self]; first | done | omega) | (simp only [ByteArray.size_append, ba_size, List.size_toArray, List.length_cons, List.length_nil]; omega)))))
        refine WeakR.drop' ?_ (by rfl)
        rw [hd, hs']
        simp only [Option.map_some, decV, LogRecord.v, pc, pr]
        rfl
      · have hdq : decide (recLine k (parseI (bef 10 s)) = bef 10 s ++ (⟨#[10]⟩ : ByteArray)) = false := decide_eq_false hq
        have hn : decL k s = none := by
          rw [hd, decE_none]
          · rfl
          · rintro e ⟨hk, he, hl⟩
            have := parseI_ok hk he
            rw [hl] at this
            rw [this] at hq
            exact hq (by rw [recLine, hl])
        (repeat ((repeat1' (first | simp -implicitDefEqProofs -dsimp only [go_sem, Nat.reduceSub, Nat.reduceAdd, Nat.reduceMul, Nat.reduceLT, Nat.reduceLeDiff, Nat.reduceEqDiff, Nat.reduceDiv, Nat.reduceMod, Int.reduceToNat, Int.reduceLE, Int.reduceLT, Int.reduceBEq, Int.reduceBNe, Int.reduceNeg, Int.reduceAdd, Int.reduceSub, Int.reduceMul, reduceCtorEq, hdq, Bool.not_false] | simp -implicitDefEqProofs -dsimp (disch := omega) only [wrap_i64])); repeat (with_reducible refine And.intro ?_ ?_; focus (first | omega | with_reducible rfl | (show drawOk _ = true; kernel_rfl) | (simp only [rows_length, rows_cell, List.length_append, List.length_cons, List.length_nil, List.all_append, List.all_cons, List.all_nil, isCell, Nat.mul_one, Nat.one_mul, Bool.and_self]; first | done | omega) | (simp only [ByteArray.size_append, ba_size, List.size_toArray, List.length_cons, List.length_nil]; omega)))))
        exact no hn _
    · rw [encR, if_neg hc] at hE
      have hn : decL k s = none := by
        rw [hd, decE_none]
        · rfl
        · rintro e ⟨hk, he, hl⟩
          have := parseI_ok hk he
          rw [hl] at this
          rw [this] at hc
          exact hc ⟨inB'_iff.2 hk, he⟩
      (first | refine callT.at (hE) ⟨leA, leA, trivial⟩ ?_ | refine callS.at (hE) ⟨leA, leA, trivial⟩ ?_)
      (repeat ((repeat1' (first | simp -implicitDefEqProofs -dsimp only [go_sem, Nat.reduceSub, Nat.reduceAdd, Nat.reduceMul, Nat.reduceLT, Nat.reduceLeDiff, Nat.reduceEqDiff, Nat.reduceDiv, Nat.reduceMod, Int.reduceToNat, Int.reduceLE, Int.reduceLT, Int.reduceBEq, Int.reduceBNe, Int.reduceNeg, Int.reduceAdd, Int.reduceSub, Int.reduceMul, reduceCtorEq, Bool.not_false] | simp -implicitDefEqProofs -dsimp (disch := omega) only [wrap_i64])); repeat (with_reducible refine And.intro ?_ ?_; focus (first | omega | with_reducible rfl | (show drawOk _ = true; kernel_rfl) | (simp only [rows_length, rows_cell, List.length_append, List.length_cons, List.length_nil, List.all_append, List.all_cons, List.all_nil, isCell, Nat.mul_one, Nat.one_mul, Bool.and_self]; first | done | omega) | (simp only [ByteArray.size_append, ba_size, List.size_toArray, List.length_cons, List.length_nil]; omega)))))
      exact no hn _
def readV (s : ByteArray) : V := .tup [.osl 0 0 (recsOf s).length 2, .osl 1 0 (recsOf s).length 1]
def readH (s : ByteArray) : Hp := [some (rows LogRecord.cs (recsOf s)), some (rows IntS.cs (endsTo s (recsOf s).length))]
theorem read_ok (s : ByteArray) (hs : s.size ≤ 16777216) : Ctr Tryd.prog 51 [.str s] [] (readV s) (readH s) := by
  refine Ctr.intro Tryd.mixed Tryd.func51 rfl Tryd.okF51 ?_
  simp -implicitDefEqProofs -dsimp only [go_sem, Nat.reduceSub, Nat.reduceAdd, Nat.reduceMul, Nat.reduceLT, Nat.reduceLeDiff, Nat.reduceEqDiff, Nat.reduceDiv, Nat.reduceMod, Int.reduceToNat, Int.reduceLE, Int.reduceLT, Int.reduceBEq, Int.reduceBNe, Int.reduceNeg, Int.reduceAdd, Int.reduceSub, Int.reduceMul, reduceCtorEq, Tryd.ntmps51, Tryd.results51]
  refine LoopT.intro (fun i : Nat => (rdN s i).1.length = i) (fun i => ⟨[.str s, .undef, .undef, .undef, .osl 0 0 i 2, .osl 1 0 i 1, .int .i64 (rdN s i).2, .undef, .undef, .undef, .undef, .undef, .undef, .undef, .undef, .undef, .undef, .undef, .undef, .undef, .undef, .undef, .undef, .undef, .undef, .undef, .undef, .undef, .undef, .undef, .undef, .undef, .undef, .undef, .undef, .undef, .undef], [some (rows LogRecord.cs (rdN s i).1), some (rows IntS.cs (endsTo s i))], 0⟩) (fun i => 61 - i) 0 rfl ?_ (fun i hi => ?_)
  · refine Weak.cut (2) (by simp) (by simp) ?_ ?_
    · simp [LeC, LeV, ren, cutF, rdN]
    · simp [cutH, cutB, rdN, rows, endsTo]
  have hb := rdN_bd s i
  have h60 := rdN_60 s i
  have hez : (s.extract (rdN s i).2 s.size).size ≤ 16777216 := by rw [ByteArray.size_extract]; omega
  have hen := endsTo_len s i
  rw [hi] at h60
  simp -implicitDefEqProofs -dsimp only [go_sem, Nat.reduceSub, Nat.reduceAdd, Nat.reduceMul, Nat.reduceLT, Nat.reduceLeDiff, Nat.reduceEqDiff, Nat.reduceDiv, Nat.reduceMod, Int.reduceToNat, Int.reduceLE, Int.reduceLT, Int.reduceBEq, Int.reduceBNe, Int.reduceNeg, Int.reduceAdd, Int.reduceSub, Int.reduceMul, reduceCtorEq]
  repeat (with_reducible refine And.intro ?_ ?_; focus (first | omega | with_reducible rfl | (show drawOk _ = true; kernel_rfl) | (simp only [rows_length, rows_cell, List.length_append, List.length_cons, List.length_nil, List.all_append, List.all_cons, List.all_nil, isCell, Nat.mul_one, Nat.one_mul, Bool.and_self]; first | done | omega) | (simp only [ByteArray.size_append, ba_size, List.size_toArray, List.length_cons, List.length_nil]; omega)))
  (first | refine callT.at (decode_ok (i : Int) (s.extract (rdN s i).2 s.size) hez) ⟨leA, leA, trivial⟩ ?_ | refine callS.at (decode_ok (i : Int) (s.extract (rdN s i).2 s.size) hez) ⟨leA, leA, trivial⟩ ?_)
  cases hd : decL (i : Int) (s.extract (rdN s i).2 s.size) with
  | none =>
    have e := rdN_done hi hd
    (repeat ((repeat1' (first | simp -implicitDefEqProofs -dsimp only [go_sem, Nat.reduceSub, Nat.reduceAdd, Nat.reduceMul, Nat.reduceLT, Nat.reduceLeDiff, Nat.reduceEqDiff, Nat.reduceDiv, Nat.reduceMod, Int.reduceToNat, Int.reduceLE, Int.reduceLT, Int.reduceBEq, Int.reduceBNe, Int.reduceNeg, Int.reduceAdd, Int.reduceSub, Int.reduceMul, reduceCtorEq, decV, Bool.not_false] | simp -implicitDefEqProofs -dsimp (disch := omega) only [wrap_i64])); repeat (with_reducible refine And.intro ?_ ?_; focus (first | omega | with_reducible rfl | (show drawOk _ = true; kernel_rfl) | (simp only [rows_length, rows_cell, List.length_append, List.length_cons, List.length_nil, List.all_append, List.all_cons, List.all_nil, isCell, Nat.mul_one, Nat.one_mul, Bool.and_self]; first | done | omega) | (simp only [ByteArray.size_append, ba_size, List.size_toArray, List.length_cons, List.length_nil]; omega)))))
    have e1 : recsOf s = (rdN s i).1 := by rw [recsOf, e]
    rw [readV, readH, e1, hi]
    refine WeakR.pick [0, 1] (by decide) (fun j hj => by omega) (.inl ?_) ?_
    · first | rfl | (simp [ren, pickF, posOf]; done)
    · simp only [pickH, List.map_cons, List.map_nil, pickB, List.getElem?_cons_zero, List.getElem?_cons_succ, map_ren_rows]
  | some r =>
    have hz := decL_size hd
    rw [ByteArray.size_extract] at hz
    have hk := decL_k hd
    have hS : rdN s (i + 1) = ((rdN s i).1 ++ [r.1], (rdN s i).2 + r.2) := rdN_some (by rw [hi]; exact hd)
    (repeat ((repeat1' (first | simp -implicitDefEqProofs -dsimp only [go_sem, Nat.reduceSub, Nat.reduceAdd, Nat.reduceMul, Nat.reduceLT, Nat.reduceLeDiff, Nat.reduceEqDiff, Nat.reduceDiv, Nat.reduceMod, Int.reduceToNat, Int.reduceLE, Int.reduceLT, Int.reduceBEq, Int.reduceBNe, Int.reduceNeg, Int.reduceAdd, Int.reduceSub, Int.reduceMul, reduceCtorEq, decV, Bool.not_true, LogRecord.v] | simp -implicitDefEqProofs -dsimp (disch := omega) only [wrap_i64])); repeat (with_reducible refine And.intro ?_ ?_; focus (first | omega | with_reducible rfl | (show drawOk _ = true; kernel_rfl) | (simp only [rows_length, rows_cell, List.length_append, List.length_cons, List.length_nil, List.all_append, List.all_cons, List.all_nil, isCell, Nat.mul_one, Nat.one_mul, Bool.and_self]; first | done | omega) | (simp only [ByteArray.size_append, ba_size, List.size_toArray, List.length_cons, List.length_nil]; omega)))))
    refine ⟨i + 1, by rw [hS]; simp [hi], ?_, by omega⟩
    have e2 := endsTo_succ s i
    rw [hS] at e2
    refine Weak.cut (2) (by simp) (by simp) ?_ ?_
    · rw [hS]; simp [LeC, LeV, ren, cutF]
    · rw [e2, hS, ← rows_snoc, ← rows_snoc]
      simp [cutH, cutB, ren, cutF, map_ren_rows, killC, killF, LogRecord.cs, IntS.cs]
theorem l27Read_ok (k : Int) (s : ByteArray) (hk : 0 ≤ k ∧ k ≤ 59) (hs : s.size ≤ 16777216) : Ctr Tryd.prog 78 [.str s, .int .i64 k] [] (.tup [(parseS k s).1.v, .bool (parseS k s).2]) [] := by
  have n1 := num_size' (n := k) (by omega) (by omega)
  have z2 := bef_size 35 s
  obtain ⟨l, hl, _⟩ := splS_spec 35 s
  have hsp := l1Split_ok s 35 hs
  rw [hl] at hsp
  have c35 : (((35 : UInt8).toNat : Nat) : Int) = 35 := rfl
  have c64 : (((64 : UInt8).toNat : Nat) : Int) = 64 := rfl
  rw [c35] at hsp
  refine Ctr.intro Tryd.mixed Tryd.func78 rfl Tryd.okF78 ?_
  simp -implicitDefEqProofs -dsimp only [go_sem, Nat.reduceSub, Nat.reduceAdd, Nat.reduceMul, Nat.reduceLT, Nat.reduceLeDiff, Nat.reduceEqDiff, Nat.reduceDiv, Nat.reduceMod, Int.reduceToNat, Int.reduceLE, Int.reduceLT, Int.reduceBEq, Int.reduceBNe, Int.reduceNeg, Int.reduceAdd, Int.reduceSub, Int.reduceMul, reduceCtorEq, Tryd.ntmps78, Tryd.results78]
  repeat (with_reducible refine And.intro ?_ ?_; focus (first | omega | with_reducible rfl | (show drawOk _ = true; kernel_rfl) | (simp only [rows_length, rows_cell, List.length_append, List.length_cons, List.length_nil, List.all_append, List.all_cons, List.all_nil, isCell, Nat.mul_one, Nat.one_mul, Bool.and_self]; first | done | omega) | (simp only [ByteArray.size_append, ba_size, List.size_toArray, List.length_cons, List.length_nil]; omega)))
  repeat (first | ((first | refine callT.at (l1Num_ok k (by omega) (by omega)) ⟨leA, trivial⟩ ?_ | refine callS.at (l1Num_ok k (by omega) (by omega)) ⟨leA, trivial⟩ ?_); simp -implicitDefEqProofs -dsimp only [go_sem, Nat.reduceSub, Nat.reduceAdd, Nat.reduceMul, Nat.reduceLT, Nat.reduceLeDiff, Nat.reduceEqDiff, Nat.reduceDiv, Nat.reduceMod, Int.reduceToNat, Int.reduceLE, Int.reduceLT, Int.reduceBEq, Int.reduceBNe, Int.reduceNeg, Int.reduceAdd, Int.reduceSub, Int.reduceMul, reduceCtorEq]) | (with_reducible refine And.intro (by first | omega | (show drawOk _ = true; kernel_rfl) | (simp only [ByteArray.size_append, ba_size, List.size_toArray, List.length_cons, List.length_nil]; omega)) ?_; try (repeat1' (first | simp -implicitDefEqProofs -dsimp only [go_sem, Nat.reduceSub, Nat.reduceAdd, Nat.reduceMul, Nat.reduceLT, Nat.reduceLeDiff, Nat.reduceEqDiff, Nat.reduceDiv, Nat.reduceMod, Int.reduceToNat, Int.reduceLE, Int.reduceLT, Int.reduceBEq, Int.reduceBNe, Int.reduceNeg, Int.reduceAdd, Int.reduceSub, Int.reduceMul, reduceCtorEq] | simp -implicitDefEqProofs -dsimp (disch := omega) only [wrap_i64]))))
  (first | refine callT.at (hsp) ⟨leA, leA, trivial⟩ ?_ | refine callS.at (hsp) ⟨leA, leA, trivial⟩ ?_)
  (repeat ((repeat1' (first | simp -implicitDefEqProofs -dsimp only [go_sem, Nat.reduceSub, Nat.reduceAdd, Nat.reduceMul, Nat.reduceLT, Nat.reduceLeDiff, Nat.reduceEqDiff, Nat.reduceDiv, Nat.reduceMod, Int.reduceToNat, Int.reduceLE, Int.reduceLT, Int.reduceBEq, Int.reduceBNe, Int.reduceNeg, Int.reduceAdd, Int.reduceSub, Int.reduceMul, reduceCtorEq, List.length_cons, rows_cons, StringS.cs] | simp -implicitDefEqProofs -dsimp (disch := omega) only [wrap_i64])); repeat (with_reducible refine And.intro ?_ ?_; focus (first | omega | with_reducible rfl | (show drawOk _ = true; kernel_rfl) | (simp only [rows_length, rows_cell, List.length_append, List.length_cons, List.length_nil, List.all_append, List.all_cons, List.all_nil, isCell, Nat.mul_one, Nat.one_mul, Bool.and_self]; first | done | omega) | (simp only [ByteArray.size_append, ba_size, List.size_toArray, List.length_cons, List.length_nil]; omega)))))
  have h32 : ((#[32] : Array UInt8).size) = 1 := rfl
  have hN : (num k ++ (⟨#[32]⟩ : ByteArray)).size = (num k).size + 1 := ByteArray.size_append
  rw [h32]
  refine guardT.splitF (fun g1 => ?_) (fun g1 => ?_) <;> simp -implicitDefEqProofs -dsimp only [go_sem, Nat.reduceSub, Nat.reduceAdd, Nat.reduceMul, Nat.reduceLT, Nat.reduceLeDiff, Nat.reduceEqDiff, Nat.reduceDiv, Nat.reduceMod, Int.reduceToNat, Int.reduceLE, Int.reduceLT, Int.reduceBEq, Int.reduceBNe, Int.reduceNeg, Int.reduceAdd, Int.reduceSub, Int.reduceMul, reduceCtorEq, g1, h32]
  rotate_left
  · repeat (with_reducible refine And.intro ?_ ?_; focus (first | omega | with_reducible rfl | (show drawOk _ = true; kernel_rfl) | (simp only [rows_length, rows_cell, List.length_append, List.length_cons, List.length_nil, List.all_append, List.all_cons, List.all_nil, isCell, Nat.mul_one, Nat.one_mul, Bool.and_self]; first | done | omega) | (simp only [ByteArray.size_append, ba_size, List.size_toArray, List.length_cons, List.length_nil]; omega)))
    refine WeakR.drop' ?_ (by rfl)
    rw [parseS, if_pos (.inl (by rw [hN]; simp at g1; omega))]
    rfl
  repeat (with_reducible refine And.intro ?_ ?_; focus (first | omega | with_reducible rfl | (show drawOk _ = true; kernel_rfl) | (simp only [rows_length, rows_cell, List.length_append, List.length_cons, List.length_nil, List.all_append, List.all_cons, List.all_nil, isCell, Nat.mul_one, Nat.one_mul, Bool.and_self]; first | done | omega) | (simp only [ByteArray.size_append, ba_size, List.size_toArray, List.length_cons, List.length_nil]; omega)))
  simp -implicitDefEqProofs -dsimp only [go_sem, Nat.reduceSub, Nat.reduceAdd, Nat.reduceMul, Nat.reduceLT, Nat.reduceLeDiff, Nat.reduceEqDiff, Nat.reduceDiv, Nat.reduceMod, Int.reduceToNat, Int.reduceLE, Int.reduceLT, Int.reduceBEq, Int.reduceBNe, Int.reduceNeg, Int.reduceAdd, Int.reduceSub, Int.reduceMul, reduceCtorEq, ba_beq]
  have g1' : (num k).size + 1 ≤ (bef 35 s).size := by simp at g1; omega
  refine ⟨by omega, ?_⟩
  refine condT.split (fun g2 => ?_) (fun g2 => ?_) <;> simp -implicitDefEqProofs -dsimp only [go_sem, Nat.reduceSub, Nat.reduceAdd, Nat.reduceMul, Nat.reduceLT, Nat.reduceLeDiff, Nat.reduceEqDiff, Nat.reduceDiv, Nat.reduceMod, Int.reduceToNat, Int.reduceLE, Int.reduceLT, Int.reduceBEq, Int.reduceBNe, Int.reduceNeg, Int.reduceAdd, Int.reduceSub, Int.reduceMul, reduceCtorEq, g2, h32]
  · repeat (with_reducible refine And.intro ?_ ?_; focus (first | omega | with_reducible rfl | (show drawOk _ = true; kernel_rfl) | (simp only [rows_length, rows_cell, List.length_append, List.length_cons, List.length_nil, List.all_append, List.all_cons, List.all_nil, isCell, Nat.mul_one, Nat.one_mul, Bool.and_self]; first | done | omega) | (simp only [ByteArray.size_append, ba_size, List.size_toArray, List.length_cons, List.length_nil]; omega)))
    refine WeakR.drop' ?_ (by rfl)
    rw [parseS, if_pos (.inr (by rw [hN]; simpa using g2))]
    rfl
  have hno : ¬ ((bef 35 s).size < (num k ++ (⟨#[32]⟩ : ByteArray)).size ∨ ¬ (bef 35 s).extract 0 (num k ++ (⟨#[32]⟩ : ByteArray)).size = num k ++ (⟨#[32]⟩ : ByteArray)) := by
    rw [hN]
    rintro (q | q)
    · omega
    · simp at g2; exact q g2
  have hP : parseS k s = parseR k s ((bef 35 s).extract ((num k).size + 1) (bef 35 s).size) := by rw [parseS, if_neg hno, hN]
  have hRs : ((bef 35 s).extract ((num k).size + 1) (bef 35 s).size).size ≤ s.size := by rw [ByteArray.size_extract]; omega
  repeat (with_reducible refine And.intro ?_ ?_; focus (first | omega | with_reducible rfl | (show drawOk _ = true; kernel_rfl) | (simp only [rows_length, rows_cell, List.length_append, List.length_cons, List.length_nil, List.all_append, List.all_cons, List.all_nil, isCell, Nat.mul_one, Nat.one_mul, Bool.and_self]; first | done | omega) | (simp only [ByteArray.size_append, ba_size, List.size_toArray, List.length_cons, List.length_nil]; omega)))
  generalize hR : (bef 35 s).extract ((num k).size + 1) (bef 35 s).size = R at hP hRs ⊢
  have hz4 := bef_size 64 R
  obtain ⟨l2, hl2, _⟩ := splS_spec 64 R
  have hsp2 := l1Split_ok R 64 (by omega)
  rw [hl2, c64] at hsp2
  (first | refine callT.at (hsp2) ⟨leA, leA, trivial⟩ ?_ | refine callS.at (hsp2) ⟨leA, leA, trivial⟩ ?_)
  (repeat ((repeat1' (first | simp -implicitDefEqProofs -dsimp only [go_sem, Nat.reduceSub, Nat.reduceAdd, Nat.reduceMul, Nat.reduceLT, Nat.reduceLeDiff, Nat.reduceEqDiff, Nat.reduceDiv, Nat.reduceMod, Int.reduceToNat, Int.reduceLE, Int.reduceLT, Int.reduceBEq, Int.reduceBNe, Int.reduceNeg, Int.reduceAdd, Int.reduceSub, Int.reduceMul, reduceCtorEq, List.length_cons, rows_cons, StringS.cs] | simp -implicitDefEqProofs -dsimp (disch := omega) only [wrap_i64])); repeat (with_reducible refine And.intro ?_ ?_; focus (first | omega | with_reducible rfl | (show drawOk _ = true; kernel_rfl) | (simp only [rows_length, rows_cell, List.length_append, List.length_cons, List.length_nil, List.all_append, List.all_cons, List.all_nil, isCell, Nat.mul_one, Nat.one_mul, Bool.and_self]; first | done | omega) | (simp only [ByteArray.size_append, ba_size, List.size_toArray, List.length_cons, List.length_nil]; omega)))))
  refine condT.split (fun g3 => ?_) (fun g3 => ?_) <;> simp -implicitDefEqProofs -dsimp only [go_sem, Nat.reduceSub, Nat.reduceAdd, Nat.reduceMul, Nat.reduceLT, Nat.reduceLeDiff, Nat.reduceEqDiff, Nat.reduceDiv, Nat.reduceMod, Int.reduceToNat, Int.reduceLE, Int.reduceLT, Int.reduceBEq, Int.reduceBNe, Int.reduceNeg, Int.reduceAdd, Int.reduceSub, Int.reduceMul, reduceCtorEq, g3]
  · repeat (with_reducible refine And.intro ?_ ?_; focus (first | omega | with_reducible rfl | (show drawOk _ = true; kernel_rfl) | (simp only [rows_length, rows_cell, List.length_append, List.length_cons, List.length_nil, List.all_append, List.all_cons, List.all_nil, isCell, Nat.mul_one, Nat.one_mul, Bool.and_self]; first | done | omega) | (simp only [ByteArray.size_append, ba_size, List.size_toArray, List.length_cons, List.length_nil]; omega)))
    refine WeakR.drop' ?_ (by rfl)
    rw [hP, parseR, if_pos (by simp at g3; omega)]
    rfl
  have g3' : (bef 64 R).size + 1 ≤ R.size := by simp at g3; omega
  have hP2 : parseR k s R = (⟨bef 64 R, R.extract ((bef 64 R).size + 1) R.size⟩, recB ⟨bef 64 R, R.extract ((bef 64 R).size + 1) R.size⟩ && decide (recLine k ⟨bef 64 R, R.extract ((bef 64 R).size + 1) R.size⟩ = s ++ ⟨#[10]⟩)) := by
    rw [parseR, if_neg (by omega)]
  have hq : IntKind.i64.wrap (((bef 64 R).size : Int) + 1) = (((bef 64 R).size + 1 : Nat) : Int) := by rw [wrap_i64 (by omega) (by omega)]; omega
  have hEz : (R.extract ((bef 64 R).size + 1) R.size).size ≤ R.size := by rw [ByteArray.size_extract]; omega
  (repeat ((repeat1' (first | simp -implicitDefEqProofs -dsimp only [go_sem, Nat.reduceSub, Nat.reduceAdd, Nat.reduceMul, Nat.reduceLT, Nat.reduceLeDiff, Nat.reduceEqDiff, Nat.reduceDiv, Nat.reduceMod, Int.reduceToNat, Int.reduceLE, Int.reduceLT, Int.reduceBEq, Int.reduceBNe, Int.reduceNeg, Int.reduceAdd, Int.reduceSub, Int.reduceMul, reduceCtorEq, hq] | simp -implicitDefEqProofs -dsimp (disch := omega) only [wrap_i64])); repeat (with_reducible refine And.intro ?_ ?_; focus (first | omega | with_reducible rfl | (show drawOk _ = true; kernel_rfl) | (simp only [rows_length, rows_cell, List.length_append, List.length_cons, List.length_nil, List.all_append, List.all_cons, List.all_nil, isCell, Nat.mul_one, Nat.one_mul, Bool.and_self]; first | done | omega) | (simp only [ByteArray.size_append, ba_size, List.size_toArray, List.length_cons, List.length_nil]; omega)))))
  have hE1 : R.extract (IntKind.i64.wrap (((bef 64 R).size : Int) + 1)).toNat R.size = R.extract ((bef 64 R).size + 1) R.size := by rw [hq]; rfl
  rw [hE1]
  generalize hE : R.extract ((bef 64 R).size + 1) R.size = E at hP2 hEz ⊢
  (first | refine callT.at (l27Good_ok ⟨bef 64 R, E⟩ (by show (bef 64 R).size ≤ _; omega) (by show E.size ≤ _; omega)) ⟨leA, trivial⟩ ?_ | refine callS.at (l27Good_ok ⟨bef 64 R, E⟩ (by show (bef 64 R).size ≤ _; omega) (by show E.size ≤ _; omega)) ⟨leA, trivial⟩ ?_)
  cases hb : recB ⟨bef 64 R, E⟩ with
  | false =>
    simp -implicitDefEqProofs -dsimp only [go_sem, Nat.reduceSub, Nat.reduceAdd, Nat.reduceMul, Nat.reduceLT, Nat.reduceLeDiff, Nat.reduceEqDiff, Nat.reduceDiv, Nat.reduceMod, Int.reduceToNat, Int.reduceLE, Int.reduceLT, Int.reduceBEq, Int.reduceBNe, Int.reduceNeg, Int.reduceAdd, Int.reduceSub, Int.reduceMul, reduceCtorEq]
    repeat (with_reducible refine And.intro ?_ ?_; focus (first | omega | with_reducible rfl | (show drawOk _ = true; kernel_rfl) | (simp only [rows_length, rows_cell, List.length_append, List.length_cons, List.length_nil, List.all_append, List.all_cons, List.all_nil, isCell, Nat.mul_one, Nat.one_mul, Bool.and_self]; first | done | omega) | (simp only [ByteArray.size_append, ba_size, List.size_toArray, List.length_cons, List.length_nil]; omega)))
    refine WeakR.drop' ?_ (by rfl)
    rw [hP, hP2, hb]
    rfl
  | true =>
    have t1 := recText_size hk hb
    have t2 := sealS_size (recText k ⟨bef 64 R, E⟩)
    simp -implicitDefEqProofs -dsimp only [go_sem, Nat.reduceSub, Nat.reduceAdd, Nat.reduceMul, Nat.reduceLT, Nat.reduceLeDiff, Nat.reduceEqDiff, Nat.reduceDiv, Nat.reduceMod, Int.reduceToNat, Int.reduceLE, Int.reduceLT, Int.reduceBEq, Int.reduceBNe, Int.reduceNeg, Int.reduceAdd, Int.reduceSub, Int.reduceMul, reduceCtorEq]
    have hLn := l27Line_ok k ⟨bef 64 R, E⟩ hk hb
    simp only [LogRecord.v] at hLn
    (first | refine callT.at (hLn) ⟨leA, leA, trivial⟩ ?_ | refine callS.at (hLn) ⟨leA, leA, trivial⟩ ?_)
    (repeat ((repeat1' (first | simp -implicitDefEqProofs -dsimp only [go_sem, Nat.reduceSub, Nat.reduceAdd, Nat.reduceMul, Nat.reduceLT, Nat.reduceLeDiff, Nat.reduceEqDiff, Nat.reduceDiv, Nat.reduceMod, Int.reduceToNat, Int.reduceLE, Int.reduceLT, Int.reduceBEq, Int.reduceBNe, Int.reduceNeg, Int.reduceAdd, Int.reduceSub, Int.reduceMul, reduceCtorEq, ba_beq] | simp -implicitDefEqProofs -dsimp (disch := omega) only [wrap_i64])); repeat (with_reducible refine And.intro ?_ ?_; focus (first | omega | with_reducible rfl | (show drawOk _ = true; kernel_rfl) | (simp only [rows_length, rows_cell, List.length_append, List.length_cons, List.length_nil, List.all_append, List.all_cons, List.all_nil, isCell, Nat.mul_one, Nat.one_mul, Bool.and_self]; first | done | omega) | (simp only [ByteArray.size_append, ba_size, List.size_toArray, List.length_cons, List.length_nil]; omega)))))
    refine WeakR.drop' ?_ (by rfl)
    rw [hP, hP2, hb, Bool.true_and]
    rfl
end Go.Proofs
end
section
set_option linter.unusedSimpArgs false
set_option linter.unusedVariables false
set_option maxRecDepth 100000
set_option maxHeartbeats 2000000
namespace Go.Proofs
open Go.Lv
def openV (s : ByteArray) : V := .tup [.osl 0 0 (recsOf s).length 2, .int .i64 (atOf s)]
def openH (s : ByteArray) : Hp := [some (rows LogRecord.cs (recsOf s))]
theorem decL_empty {k : Int} {s : ByteArray} (h : s.size = 0) : decL k s = none := by
  cases g : decL k s with
  | none => rfl
  | some r => have := decL_size g; omega
theorem l27Open_ok (s : ByteArray) (hs : s.size ≤ 16777216) : Ctr Tryd.prog 52 [.str s] [] (openV s) (openH s) := by
  refine Ctr.intro Tryd.mixed Tryd.func52 rfl Tryd.okF52 ?_
  simp -implicitDefEqProofs -dsimp only [go_sem, Nat.reduceSub, Nat.reduceAdd, Nat.reduceMul, Nat.reduceLT, Nat.reduceLeDiff, Nat.reduceEqDiff, Nat.reduceDiv, Nat.reduceMod, Int.reduceToNat, Int.reduceLE, Int.reduceLT, Int.reduceBEq, Int.reduceBNe, Int.reduceNeg, Int.reduceAdd, Int.reduceSub, Int.reduceMul, reduceCtorEq, Tryd.ntmps52, Tryd.results52]
  refine LoopT.intro (fun i : Nat => (rdN s i).1.length = i) (fun i => ⟨[.str s, .undef, .undef, .undef, .osl 0 0 i 2, .int .i64 (rdN s i).2, .undef, .undef, .undef, .undef, .undef, .undef, .undef, .undef, .undef, .undef, .undef, .undef, .undef, .undef, .undef, .undef, .undef, .undef, .undef, .undef, .undef, .undef, .undef, .undef, .undef, .undef, .undef, .undef, .undef, .undef, .undef, .undef, .undef, .undef, .undef, .undef, .undef, .undef, .undef, .undef, .undef, .undef, .undef, .undef, .undef, .undef], [some (rows LogRecord.cs (rdN s i).1)], 0⟩) (fun i => 61 - i) 0 rfl ?_ (fun i hi => ?_)
  · refine Weak.cut (1) (by simp) (by simp) ?_ ?_
    · simp [LeC, LeV, ren, cutF, rdN]
    · simp [cutH, cutB, rdN, rows]
  have hb := rdN_bd s i
  have h60 := rdN_60 s i
  have hez : (s.extract (rdN s i).2 s.size).size ≤ 16777216 := by rw [ByteArray.size_extract]; omega
  rw [hi] at h60
  have stop : decL (i : Int) (s.extract (rdN s i).2 s.size) = none → (recsOf s = (rdN s i).1 ∧ atOf s = (rdN s i).2) := fun hd => by
    have e := rdN_done hi hd
    exact ⟨by rw [recsOf, e], by rw [atOf, e]⟩
  simp -implicitDefEqProofs -dsimp only [go_sem, Nat.reduceSub, Nat.reduceAdd, Nat.reduceMul, Nat.reduceLT, Nat.reduceLeDiff, Nat.reduceEqDiff, Nat.reduceDiv, Nat.reduceMod, Int.reduceToNat, Int.reduceLE, Int.reduceLT, Int.reduceBEq, Int.reduceBNe, Int.reduceNeg, Int.reduceAdd, Int.reduceSub, Int.reduceMul, reduceCtorEq]
  refine guardT.splitT (fun g1 => ?_) (fun g1 => ?_) <;> simp -implicitDefEqProofs -dsimp only [go_sem, Nat.reduceSub, Nat.reduceAdd, Nat.reduceMul, Nat.reduceLT, Nat.reduceLeDiff, Nat.reduceEqDiff, Nat.reduceDiv, Nat.reduceMod, Int.reduceToNat, Int.reduceLE, Int.reduceLT, Int.reduceBEq, Int.reduceBNe, Int.reduceNeg, Int.reduceAdd, Int.reduceSub, Int.reduceMul, reduceCtorEq, g1]
  rotate_left
  · obtain ⟨e1, e2⟩ := stop (decL_empty (by rw [ByteArray.size_extract]; simp at g1; omega))
    rw [openV, openH, e1, e2, hi]
    refine WeakR.pick [0] (by decide) (fun j hj => by omega) (.inl ?_) ?_
    · first | rfl | (simp [ren, pickF, posOf]; done)
    · simp only [pickH, List.map_cons, List.map_nil, pickB, List.getElem?_cons_zero, List.getElem?_cons_succ, map_ren_rows]
  refine condT.split (fun g2 => ?_) (fun g2 => ?_) <;> simp -implicitDefEqProofs -dsimp only [go_sem, Nat.reduceSub, Nat.reduceAdd, Nat.reduceMul, Nat.reduceLT, Nat.reduceLeDiff, Nat.reduceEqDiff, Nat.reduceDiv, Nat.reduceMod, Int.reduceToNat, Int.reduceLE, Int.reduceLT, Int.reduceBEq, Int.reduceBNe, Int.reduceNeg, Int.reduceAdd, Int.reduceSub, Int.reduceMul, reduceCtorEq, g2]
  rotate_left
  · have hn : decL (i : Int) (s.extract (rdN s i).2 s.size) = none := by
      cases g : decL (i : Int) (s.extract (rdN s i).2 s.size) with
      | none => rfl
      | some r => have := decL_k g; simp at g2; omega
    obtain ⟨e1, e2⟩ := stop hn
    rw [openV, openH, e1, e2, hi]
    refine WeakR.pick [0] (by decide) (fun j hj => by omega) (.inl ?_) ?_
    · first | rfl | (simp [ren, pickF, posOf]; done)
    · simp only [pickH, List.map_cons, List.map_nil, pickB, List.getElem?_cons_zero, List.getElem?_cons_succ, map_ren_rows]
  have hk : (0 : Int) ≤ (i : Int) ∧ (i : Int) ≤ 59 := by simp at g2; omega
  repeat (with_reducible refine And.intro ?_ ?_; focus (first | omega | with_reducible rfl | (show drawOk _ = true; kernel_rfl) | (simp only [rows_length, rows_cell, List.length_append, List.length_cons, List.length_nil, List.all_append, List.all_cons, List.all_nil, isCell, Nat.mul_one, Nat.one_mul, Bool.and_self]; first | done | omega) | (simp only [ByteArray.size_append, ba_size, List.size_toArray, List.length_cons, List.length_nil]; omega)))
  generalize hR : s.extract (rdN s i).2 s.size = R at hez stop ⊢
  obtain ⟨l, hl, hl0⟩ := splS_spec 10 R
  have hsp := l1Split_ok R 10 hez
  have c10 : (((10 : UInt8).toNat : Nat) : Int) = 10 := rfl
  rw [hl, c10] at hsp
  (first | refine callT.at (hsp) ⟨leA, leA, trivial⟩ ?_ | refine callS.at (hsp) ⟨leA, leA, trivial⟩ ?_)
  have hz := bef_size 10 R
  (repeat ((repeat1' (first | simp -implicitDefEqProofs -dsimp only [go_sem, Nat.reduceSub, Nat.reduceAdd, Nat.reduceMul, Nat.reduceLT, Nat.reduceLeDiff, Nat.reduceEqDiff, Nat.reduceDiv, Nat.reduceMod, Int.reduceToNat, Int.reduceLE, Int.reduceLT, Int.reduceBEq, Int.reduceBNe, Int.reduceNeg, Int.reduceAdd, Int.reduceSub, Int.reduceMul, reduceCtorEq, List.length_cons, rows_cons, StringS.cs] | simp -implicitDefEqProofs -dsimp (disch := omega) only [wrap_i64])); repeat (with_reducible refine And.intro ?_ ?_; focus (first | omega | with_reducible rfl | (show drawOk _ = true; kernel_rfl) | (simp only [rows_length, rows_cell, List.length_append, List.length_cons, List.length_nil, List.all_append, List.all_cons, List.all_nil, isCell, Nat.mul_one, Nat.one_mul, Bool.and_self]; first | done | omega) | (simp only [ByteArray.size_append, ba_size, List.size_toArray, List.length_cons, List.length_nil]; omega)))))
  (first | refine callT.at (l27Read_ok (i : Int) (bef 10 R) hk (by omega)) ⟨leA, leA, trivial⟩ ?_ | refine callS.at (l27Read_ok (i : Int) (bef 10 R) hk (by omega)) ⟨leA, leA, trivial⟩ ?_)
  (repeat ((repeat1' (first | simp -implicitDefEqProofs -dsimp only [go_sem, Nat.reduceSub, Nat.reduceAdd, Nat.reduceMul, Nat.reduceLT, Nat.reduceLeDiff, Nat.reduceEqDiff, Nat.reduceDiv, Nat.reduceMod, Int.reduceToNat, Int.reduceLE, Int.reduceLT, Int.reduceBEq, Int.reduceBNe, Int.reduceNeg, Int.reduceAdd, Int.reduceSub, Int.reduceMul, reduceCtorEq, LogRecord.v] | simp -implicitDefEqProofs -dsimp (disch := omega) only [wrap_i64])); repeat (with_reducible refine And.intro ?_ ?_; focus (first | omega | with_reducible rfl | (show drawOk _ = true; kernel_rfl) | (simp only [rows_length, rows_cell, List.length_append, List.length_cons, List.length_nil, List.all_append, List.all_cons, List.all_nil, isCell, Nat.mul_one, Nat.one_mul, Bool.and_self]; first | done | omega) | (simp only [ByteArray.size_append, ba_size, List.size_toArray, List.length_cons, List.length_nil]; omega)))))
  refine guardT.splitF (fun g3 => ?_) (fun g3 => ?_) <;> simp -implicitDefEqProofs -dsimp only [go_sem, Nat.reduceSub, Nat.reduceAdd, Nat.reduceMul, Nat.reduceLT, Nat.reduceLeDiff, Nat.reduceEqDiff, Nat.reduceDiv, Nat.reduceMod, Int.reduceToNat, Int.reduceLE, Int.reduceLT, Int.reduceBEq, Int.reduceBNe, Int.reduceNeg, Int.reduceAdd, Int.reduceSub, Int.reduceMul, reduceCtorEq, g3]
  rotate_left
  · have hf : fnd 10 R = false := hl0.1 (by
      cases l with
      | nil => rfl
      | cons a l => simp at g3; omega)
    obtain ⟨e1, e2⟩ := stop (by rw [decL, hf]; rfl)
    rw [openV, openH, e1, e2, hi]
    refine WeakR.pick [0] (by decide) (fun j hj => by omega) (.inl ?_) ?_
    · first | rfl | (simp [ren, pickF, posOf]; done)
    · simp only [pickH, List.map_cons, List.map_nil, pickB, List.getElem?_cons_zero, List.getElem?_cons_succ, map_ren_rows]
  have hf : fnd 10 R = true := by
    cases q : fnd 10 R with
    | true => rfl
    | false => rw [hl0.2 q] at g3; simp at g3
  have hd : decL (i : Int) R = (decE (i : Int) (bef 10 R)).map fun e => (e, (bef 10 R).size + 1) := by rw [decL, if_pos hf]
  have hfs := fnd_size hf
  have hRs : R.size + (rdN s i).2 ≤ s.size := by
    rw [← hR, ByteArray.size_extract]; omega
  refine condT.split (fun g4 => ?_) (fun g4 => ?_)
  · simp -implicitDefEqProofs -dsimp only [go_sem, Nat.reduceSub, Nat.reduceAdd, Nat.reduceMul, Nat.reduceLT, Nat.reduceLeDiff, Nat.reduceEqDiff, Nat.reduceDiv, Nat.reduceMod, Int.reduceToNat, Int.reduceLE, Int.reduceLT, Int.reduceBEq, Int.reduceBNe, Int.reduceNeg, Int.reduceAdd, Int.reduceSub, Int.reduceMul, reduceCtorEq, g4]
    have hp : (parseS (i : Int) (bef 10 R)).2 = false := by simpa using g4
    obtain ⟨e1, e2⟩ := stop (by
      rw [hd]
      cases q : decE (i : Int) (bef 10 R) with
      | none => rfl
      | some e => rw [parseS_of q] at hp; cases hp)
    rw [openV, openH, e1, e2, hi]
    refine WeakR.pick [0] (by decide) (fun j hj => by omega) (.inl ?_) ?_
    · first | rfl | (simp [ren, pickF, posOf]; done)
    · simp only [pickH, List.map_cons, List.map_nil, pickB, List.getElem?_cons_zero, List.getElem?_cons_succ, map_ren_rows]
  · have hp : (parseS (i : Int) (bef 10 R)).2 = true := by simpa using g4
    have hs' := parseS_some hk hp
    rw [hs'] at hd
    have hS : rdN s (i + 1) = ((rdN s i).1 ++ [(parseS (i : Int) (bef 10 R)).1], (rdN s i).2 + ((bef 10 R).size + 1)) := rdN_some (r := ((parseS (i : Int) (bef 10 R)).1, (bef 10 R).size + 1)) (by rw [hi, hR, hd]; rfl)
    (repeat ((repeat1' (first | simp -implicitDefEqProofs -dsimp only [go_sem, Nat.reduceSub, Nat.reduceAdd, Nat.reduceMul, Nat.reduceLT, Nat.reduceLeDiff, Nat.reduceEqDiff, Nat.reduceDiv, Nat.reduceMod, Int.reduceToNat, Int.reduceLE, Int.reduceLT, Int.reduceBEq, Int.reduceBNe, Int.reduceNeg, Int.reduceAdd, Int.reduceSub, Int.reduceMul, reduceCtorEq, g4, rows_length, rows_cell, hi, Nat.mul_one, List.length_cons, rows_cons, StringS.cs] | simp -implicitDefEqProofs -dsimp (disch := omega) only [wrap_i64])); repeat (with_reducible refine And.intro ?_ ?_; focus (first | omega | with_reducible rfl | (show drawOk _ = true; kernel_rfl) | (simp only [rows_length, rows_cell, List.length_append, List.length_cons, List.length_nil, List.all_append, List.all_cons, List.all_nil, isCell, Nat.mul_one, Nat.one_mul, Bool.and_self]; first | done | omega) | (simp only [ByteArray.size_append, ba_size, List.size_toArray, List.length_cons, List.length_nil]; omega)))))
    refine ⟨i + 1, by rw [hS]; simp [hi], ?_, by omega⟩
    refine Weak.cut (1) (by simp) (by simp) ?_ ?_
    · rw [hS]; (simp [LeC, LeV, ren, cutF]; try omega)
    · rw [hS, ← rows_snoc]
      simp [cutH, cutB, ren, cutF, map_ren_rows, killC, killF, LogRecord.cs]
end Go.Proofs
end
section
set_option linter.unusedSimpArgs false
set_option linter.unusedVariables false
set_option maxRecDepth 100000
namespace Go.Proofs
open Go.Lv
structure Log where
  Durable : ByteArray
  Pending : ByteArray
  Count : Int
def Log.cs (r : Log) : List V := [.str r.Durable, .str r.Pending, .int .i64 r.Count]
def Log.v (r : Log) : V := .agg [.str r.Durable, .str r.Pending, .int .i64 r.Count]
theorem Log.csl (a : Log) : a.cs.length = 3 := rfl
theorem Log.csp (a : Log) : a.cs.all (noOwn 2) = true := rfl
instance : FlatP Log.cs 3 := ⟨fun _ => rfl, fun _ d => by cases d <;> rfl, fun _ => rfl, fun _ => rfl⟩
def Log.ok (r : Log) : Prop := strR r.Durable ∧ strR r.Pending ∧ i64R r.Count
abbrev Log.rows (L : List Log) : List V := Go.Lv.rows Log.cs L
abbrev Log.sl (L : List Log) : V := .sl L.length 3 (Go.Lv.rows Log.cs L)
abbrev Log.zs : List V := [.str ByteArray.empty, .str ByteArray.empty, .int .i64 0]
theorem toLog_ok (r : Log) : Ctr Tryd.prog 11 [r.v] [] r.v [] := by
  refine Ctr.intro Tryd.mixed Tryd.func11 rfl Tryd.okF11 ?_
  simp -implicitDefEqProofs -dsimp only [go_sem, Nat.reduceSub, Nat.reduceAdd, Nat.reduceMul, Nat.reduceLT, Nat.reduceLeDiff, Nat.reduceEqDiff, Nat.reduceDiv, Nat.reduceMod, Int.reduceToNat, Int.reduceLE, Int.reduceLT, Int.reduceBEq, Int.reduceBNe, Int.reduceNeg, Int.reduceAdd, Int.reduceSub, Int.reduceMul, reduceCtorEq, Tryd.ntmps11, Tryd.results11]
  simp -implicitDefEqProofs -dsimp only [go_sem, Nat.reduceSub, Nat.reduceAdd, Nat.reduceMul, Nat.reduceLT, Nat.reduceLeDiff, Nat.reduceEqDiff, Nat.reduceDiv, Nat.reduceMod, Int.reduceToNat, Int.reduceLE, Int.reduceLT, Int.reduceBEq, Int.reduceBNe, Int.reduceNeg, Int.reduceAdd, Int.reduceSub, Int.reduceMul, reduceCtorEq, Log.v]
  exact WeakR.drop' rfl rfl
theorem eqLog_ok (r : Log) : Ctr Tryd.prog 63 [r.v, r.v] [] (.bool true) [] := by
  refine Ctr.intro Tryd.mixed Tryd.func63 rfl Tryd.okF63 ?_
  simp -implicitDefEqProofs -dsimp only [go_sem, Nat.reduceSub, Nat.reduceAdd, Nat.reduceMul, Nat.reduceLT, Nat.reduceLeDiff, Nat.reduceEqDiff, Nat.reduceDiv, Nat.reduceMod, Int.reduceToNat, Int.reduceLE, Int.reduceLT, Int.reduceBEq, Int.reduceBNe, Int.reduceNeg, Int.reduceAdd, Int.reduceSub, Int.reduceMul, reduceCtorEq, Tryd.ntmps63, Tryd.results63]
  simp -implicitDefEqProofs -dsimp only [go_sem, Nat.reduceSub, Nat.reduceAdd, Nat.reduceMul, Nat.reduceLT, Nat.reduceLeDiff, Nat.reduceEqDiff, Nat.reduceDiv, Nat.reduceMod, Int.reduceToNat, Int.reduceLE, Int.reduceLT, Int.reduceBEq, Int.reduceBNe, Int.reduceNeg, Int.reduceAdd, Int.reduceSub, Int.reduceMul, reduceCtorEq, Log.v, bne_self_eq_false, beq_self_eq_true, Bool.not_true]
  exact WeakR.drop' rfl rfl
end Go.Proofs
end
section
set_option linter.unusedSimpArgs false
set_option linter.unusedVariables false
set_option maxRecDepth 100000
set_option maxHeartbeats 2000000
namespace Go.Proofs
open Go.Lv
/-- Where the reading stops. -/
theorem rd_stop (s : ByteArray) : ∃ i, i ≤ 60 ∧ (rdN s i).1.length = i ∧ rdN s 60 = rdN s i ∧ decL i (s.extract (rdN s i).2 s.size) = none := by
  have key : ∀ m, (rdN s m).1.length = m ∨ ∃ i, (rdN s i).1.length = i ∧ decL i (s.extract (rdN s i).2 s.size) = none := by
    intro m
    induction m with
    | zero => exact .inl rfl
    | succ m ih =>
      rcases ih with h | h
      · cases g : decL (m : Int) (s.extract (rdN s m).2 s.size) with
        | none => exact .inr ⟨m, h, g⟩
        | some r =>
          refine .inl ?_
          rw [rdN_some (r := r) (by rw [h]; exact g)]
          simp [h]
      · exact .inr h
  rcases key 61 with h | ⟨i, h1, h2⟩
  · have := rdN_60 s 61; omega
  · have := rdN_60 s i
    exact ⟨i, by omega, h1, rdN_done h1 h2, h2⟩
theorem recs_len (s : ByteArray) : (rdN s (recsOf s).length).1.length = (recsOf s).length ∧ rdN s 60 = rdN s (recsOf s).length ∧ decL (recsOf s).length (s.extract (atOf s) s.size) = none ∧ (recsOf s).length ≤ 60 := by
  obtain ⟨i, h0, h1, h2, h3⟩ := rd_stop s
  have e : (recsOf s).length = i := by rw [recsOf, h2, h1]
  have e2 : atOf s = (rdN s i).2 := by rw [atOf, h2]
  rw [e, e2]
  exact ⟨h1, h2, h3, h0⟩
theorem atOf_eq (s : ByteArray) : atOf s = (rdN s (recsOf s).length).2 := by rw [atOf, (recs_len s).2.1]
theorem atOf_bd (s : ByteArray) : atOf s ≤ s.size ∧ atOf s ≤ 25380 := by
  have h1 := rdN_bd s 60
  have h2 := rdN_60 s 60
  unfold atOf; omega
theorem cut_app {c : UInt8} {x y : ByteArray} (h : fnd c x = true) : fnd c (x ++ y) = true ∧ bef c (x ++ y) = bef c x := by
  obtain ⟨a, b, rfl, ha⟩ := cut_find h
  have e : (a ++ (⟨#[c]⟩ ++ b)) ++ y = a ++ (⟨#[c]⟩ ++ (b ++ y)) := by simp only [ByteArray.append_assoc]
  rw [e]
  exact ⟨(cut_at ha).2.2.2, by rw [(cut_at ha).2.1, (cut_at ha).2.1]⟩
theorem decL_app {k : Int} {x y : ByteArray} {r : LogRecord × Nat} (h : decL k x = some r) : decL k (x ++ y) = some r := by
  obtain ⟨h1, h2, h3⟩ := decL_some h
  obtain ⟨g1, g2⟩ := cut_app (y := y) h1
  rw [decL, if_pos g1, g2, h2]
  simp only [Option.map_some]
  rw [← h3]
theorem fnd_pre {c : UInt8} {x y : ByteArray} (h : fnd c (x ++ y) = true) (hs : (bef c (x ++ y)).size + 1 ≤ x.size) : fnd c x = true := by
  cases g : fnd c x with
  | true => rfl
  | false =>
    exfalso
    obtain ⟨a, b, e, ha⟩ := cut_find h
    rw [e, (cut_at ha).2.1] at hs
    have hx : x.data.toList ++ y.data.toList = a.data.toList ++ c :: b.data.toList := by
      rw [← ba_app, e, ba_app, ba_app]; rfl
    have hc : x.data.toList[a.size]? = some c := by
      have h1 : (x.data.toList ++ y.data.toList)[a.size]? = some c := by
        rw [hx, List.getElem?_append_right (by rw [ba_len]; exact Nat.le_refl _), ba_len]
        simp
      rwa [List.getElem?_append_left (by rw [ba_len]; omega)] at h1
    have hne : Lib.indexByte x.data.toList c = -1 := by
      have h1 := Lib.indexByte_ge x.data.toList c
      have h2 : ¬ 0 ≤ Lib.indexByte x.data.toList c := by
        intro q
        have : fnd c x = true := decide_eq_true q
        rw [this] at g; cases g
      omega
    exact Lib.indexByte_none hne a.size hc
theorem decL_pre {k : Int} {x y : ByteArray} {r : LogRecord × Nat} (h : decL k (x ++ y) = some r) (hs : r.2 ≤ x.size) : decL k x = some r := by
  obtain ⟨h1, h2, h3⟩ := decL_some h
  have g1 := fnd_pre h1 (by omega)
  have g2 := (cut_app (y := y) g1).2
  rw [g2] at h2 h3
  rw [decL, if_pos g1, h2]
  simp only [Option.map_some]
  rw [← h3]
theorem ext_app {D P : ByteArray} {a : Nat} (h : a ≤ D.size) : (D ++ P).extract a (D ++ P).size = D.extract a D.size ++ P := by
  apply ba_ext
  have hl : (D ++ P).size = (D ++ P).data.toList.length := rfl
  have hl2 : D.size = D.data.toList.length := rfl
  rw [ba_app, ba_ext_list, ba_ext_list, hl, List.take_length, hl2, List.take_length, ba_app]
  exact List.drop_append_of_le_length (by rw [ba_len]; exact h)
theorem rd_app {D P : ByteArray} : ∀ {j : Nat}, (rdN D j).1.length = j → rdN (D ++ P) j = rdN D j
  | 0, _ => rfl
  | j + 1, h => by
    have hj := rdN_len h (Nat.le_succ j)
    have ih := rd_app (P := P) hj
    cases g : decL (j : Int) (D.extract (rdN D j).2 D.size) with
    | none => rw [rdN_none (by rw [hj]; exact g)] at h; omega
    | some r =>
      rw [rdN_some (s := D) (r := r) (by rw [hj]; exact g)]
      rw [rdN_some (s := D ++ P) (r := r) (by rw [ih, hj, ext_app (rdN_bd D j).1]; exact decL_app g), ih]
theorem rd_pre {D P : ByteArray} : ∀ {j : Nat}, (rdN (D ++ P) j).1.length = j → (rdN (D ++ P) j).2 ≤ D.size → rdN D j = rdN (D ++ P) j
  | 0, _, _ => rfl
  | j + 1, h, hs => by
    have hj := rdN_len h (Nat.le_succ j)
    cases g : decL (j : Int) ((D ++ P).extract (rdN (D ++ P) j).2 (D ++ P).size) with
    | none => rw [rdN_none (by rw [hj]; exact g)] at h; omega
    | some r =>
      have hS := rdN_some (s := D ++ P) (n := j) (r := r) (by rw [hj]; exact g)
      rw [hS] at hs ⊢
      simp only at hs
      have ih := rd_pre hj (by omega)
      rw [← ih] at g hs
      rw [ext_app (rdN_bd D j).1] at g
      have g2 := decL_pre g (by rw [ByteArray.size_extract]; omega)
      rw [rdN_some (s := D) (r := r) (by
        have e : (rdN D j).1.length = j := by rw [ih]; exact hj
        rw [e]; exact g2), ih]
/-- A record of the longer text begins where the shorter one ends exactly if the shorter one is read whole. -/
theorem durable_iff {D P : ByteArray} : (∃ j, j ≤ (recsOf (D ++ P)).length ∧ (rdN (D ++ P) j).2 = D.size) ↔ atOf D = D.size := by
  obtain ⟨h1, h2, h3, h4⟩ := recs_len (D ++ P)
  constructor
  · rintro ⟨j, hj, e⟩
    have hl := rdN_len h1 hj
    have hp := rd_pre hl (by omega)
    have hd : decL (j : Int) (D.extract (rdN D j).2 D.size) = none := decL_empty (by rw [hp, e, ByteArray.size_extract]; omega)
    have := rdN_done (s := D) (by rw [hp]; exact hl) hd
    rw [atOf, this, hp, e]
  · intro e
    obtain ⟨i, k0, k1, k2, k3⟩ := rd_stop D
    have ha := rd_app (P := P) k1
    have hi : (rdN (D ++ P) i).1.length = i := by rw [ha]; exact k1
    refine ⟨i, ?_, by rw [ha, ← e, atOf, k2]⟩
    by_cases c : i ≤ (recsOf (D ++ P)).length
    · exact c
    · exfalso
      have h5 : decL ((recsOf (D ++ P)).length : Int) ((D ++ P).extract (rdN (D ++ P) (recsOf (D ++ P)).length).2 (D ++ P).size) = none := by
        rw [← atOf_eq]; exact h3
      have := rdN_stuck (s := D ++ P) (n := (recsOf (D ++ P)).length) (by rw [h1]; exact h5) (i - (recsOf (D ++ P)).length)
      have e2 : (recsOf (D ++ P)).length + (i - (recsOf (D ++ P)).length) = i := by omega
      rw [e2] at this
      rw [this, h1] at hi
      omega
def logB (l : Log) : Bool := decide (l.Durable.size + l.Pending.size ≤ 30000) && (decide (atOf (l.Durable ++ l.Pending) = l.Durable.size + l.Pending.size) && (decide (atOf l.Durable = l.Durable.size) && decide (((recsOf (l.Durable ++ l.Pending)).length : Int) = l.Count)))
theorem l27Log_ok (l : Log) (hd : l.Durable.size ≤ 4194304) (hp : l.Pending.size ≤ 4194304) : Ctr Tryd.prog 38 [l.v] [] (.bool (logB l)) [] := by
  have hsz : (l.Durable ++ l.Pending).size = l.Durable.size + l.Pending.size := ByteArray.size_append
  have hw : IntKind.i64.wrap ((l.Durable.size : Int) + (l.Pending.size : Int)) = (l.Durable.size : Int) + (l.Pending.size : Int) := wrap_i64 (by omega) (by omega)
  refine Ctr.intro Tryd.mixed Tryd.func38 rfl Tryd.okF38 ?_
  simp -implicitDefEqProofs -dsimp only [go_sem, Nat.reduceSub, Nat.reduceAdd, Nat.reduceMul, Nat.reduceLT, Nat.reduceLeDiff, Nat.reduceEqDiff, Nat.reduceDiv, Nat.reduceMod, Int.reduceToNat, Int.reduceLE, Int.reduceLT, Int.reduceBEq, Int.reduceBNe, Int.reduceNeg, Int.reduceAdd, Int.reduceSub, Int.reduceMul, reduceCtorEq, Tryd.ntmps38, Tryd.results38]
  (repeat ((repeat1' (first | simp -implicitDefEqProofs -dsimp only [go_sem, Nat.reduceSub, Nat.reduceAdd, Nat.reduceMul, Nat.reduceLT, Nat.reduceLeDiff, Nat.reduceEqDiff, Nat.reduceDiv, Nat.reduceMod, Int.reduceToNat, Int.reduceLE, Int.reduceLT, Int.reduceBEq, Int.reduceBNe, Int.reduceNeg, Int.reduceAdd, Int.reduceSub, Int.reduceMul, reduceCtorEq, Log.v, hw] | simp -implicitDefEqProofs -dsimp (disch := omega) only [wrap_i64])); repeat (with_reducible refine And.intro ?_ ?_; focus (first | omega | with_reducible rfl | (show drawOk _ = true; kernel_rfl) | (simp only [rows_length, rows_cell, List.length_append, List.length_cons, List.length_nil, List.all_append, List.all_cons, List.all_nil, isCell, Nat.mul_one, Nat.one_mul, Bool.and_self]; first | done | omega) | (simp only [ByteArray.size_append, ba_size, List.size_toArray, List.length_cons, List.length_nil]; omega)))))
  refine condT.split (fun g1 => ?_) (fun g1 => ?_) <;> (repeat ((repeat1' (first | simp -implicitDefEqProofs -dsimp only [go_sem, Nat.reduceSub, Nat.reduceAdd, Nat.reduceMul, Nat.reduceLT, Nat.reduceLeDiff, Nat.reduceEqDiff, Nat.reduceDiv, Nat.reduceMod, Int.reduceToNat, Int.reduceLE, Int.reduceLT, Int.reduceBEq, Int.reduceBNe, Int.reduceNeg, Int.reduceAdd, Int.reduceSub, Int.reduceMul, reduceCtorEq, g1] | simp -implicitDefEqProofs -dsimp (disch := omega) only [wrap_i64])); repeat (with_reducible refine And.intro ?_ ?_; focus (first | omega | with_reducible rfl | (show drawOk _ = true; kernel_rfl) | (simp only [rows_length, rows_cell, List.length_append, List.length_cons, List.length_nil, List.all_append, List.all_cons, List.all_nil, isCell, Nat.mul_one, Nat.one_mul, Bool.and_self]; first | done | omega) | (simp only [ByteArray.size_append, ba_size, List.size_toArray, List.length_cons, List.length_nil]; omega)))))
  · refine WeakR.drop' ?_ (by rfl)
    have : ¬ l.Durable.size + l.Pending.size ≤ 30000 := by simp at g1; omega
    simp [logB, this]
  (first | refine callT.at (l27Open_ok (l.Durable ++ l.Pending) (by rw [hsz]; omega)) ⟨leA, trivial⟩ ?_ | refine callS.at (l27Open_ok (l.Durable ++ l.Pending) (by rw [hsz]; omega)) ⟨leA, trivial⟩ ?_)
  (repeat ((repeat1' (first | simp -implicitDefEqProofs -dsimp only [go_sem, Nat.reduceSub, Nat.reduceAdd, Nat.reduceMul, Nat.reduceLT, Nat.reduceLeDiff, Nat.reduceEqDiff, Nat.reduceDiv, Nat.reduceMod, Int.reduceToNat, Int.reduceLE, Int.reduceLT, Int.reduceBEq, Int.reduceBNe, Int.reduceNeg, Int.reduceAdd, Int.reduceSub, Int.reduceMul, reduceCtorEq, openV, openH, hw] | simp -implicitDefEqProofs -dsimp (disch := omega) only [wrap_i64])); repeat (with_reducible refine And.intro ?_ ?_; focus (first | omega | with_reducible rfl | (show drawOk _ = true; kernel_rfl) | (simp only [rows_length, rows_cell, List.length_append, List.length_cons, List.length_nil, List.all_append, List.all_cons, List.all_nil, isCell, Nat.mul_one, Nat.one_mul, Bool.and_self]; first | done | omega) | (simp only [ByteArray.size_append, ba_size, List.size_toArray, List.length_cons, List.length_nil]; omega)))))
  (first | refine callT.at (l27Open_ok l.Durable (by omega)) ⟨leA, trivial⟩ ?_ | refine callS.at (l27Open_ok l.Durable (by omega)) ⟨leA, trivial⟩ ?_)
  (repeat ((repeat1' (first | simp -implicitDefEqProofs -dsimp only [go_sem, Nat.reduceSub, Nat.reduceAdd, Nat.reduceMul, Nat.reduceLT, Nat.reduceLeDiff, Nat.reduceEqDiff, Nat.reduceDiv, Nat.reduceMod, Int.reduceToNat, Int.reduceLE, Int.reduceLT, Int.reduceBEq, Int.reduceBNe, Int.reduceNeg, Int.reduceAdd, Int.reduceSub, Int.reduceMul, reduceCtorEq, openV, openH, hw] | simp -implicitDefEqProofs -dsimp (disch := omega) only [wrap_i64])); repeat (with_reducible refine And.intro ?_ ?_; focus (first | omega | with_reducible rfl | (show drawOk _ = true; kernel_rfl) | (simp only [rows_length, rows_cell, List.length_append, List.length_cons, List.length_nil, List.all_append, List.all_cons, List.all_nil, isCell, Nat.mul_one, Nat.one_mul, Bool.and_self]; first | done | omega) | (simp only [ByteArray.size_append, ba_size, List.size_toArray, List.length_cons, List.length_nil]; omega)))))
  have hb : decide (l.Durable.size + l.Pending.size ≤ 30000) = true := by simp at g1 ⊢; omega
  have c1 : (((atOf (l.Durable ++ l.Pending) : Nat) : Int) == (l.Durable.size : Int) + (l.Pending.size : Int)) = decide (atOf (l.Durable ++ l.Pending) = l.Durable.size + l.Pending.size) := by rw [Bool.eq_iff_iff]; simp; omega
  have c2 : (((atOf l.Durable : Nat) : Int) == (l.Durable.size : Int)) = decide (atOf l.Durable = l.Durable.size) := by rw [Bool.eq_iff_iff]; simp; omega
  refine guardT.splitT (fun g2 => ?_) (fun g2 => ?_) <;> simp -implicitDefEqProofs -dsimp only [go_sem, Nat.reduceSub, Nat.reduceAdd, Nat.reduceMul, Nat.reduceLT, Nat.reduceLeDiff, Nat.reduceEqDiff, Nat.reduceDiv, Nat.reduceMod, Int.reduceToNat, Int.reduceLE, Int.reduceLT, Int.reduceBEq, Int.reduceBNe, Int.reduceNeg, Int.reduceAdd, Int.reduceSub, Int.reduceMul, reduceCtorEq, g2, hw]
  rotate_left
  · refine WeakR.drop' ?_ (by rfl)
    rw [c1] at g2
    simp only [logB, g2, Bool.false_and, Bool.and_false]
  refine guardT.splitT (fun g3 => ?_) (fun g3 => ?_) <;> simp -implicitDefEqProofs -dsimp only [go_sem, Nat.reduceSub, Nat.reduceAdd, Nat.reduceMul, Nat.reduceLT, Nat.reduceLeDiff, Nat.reduceEqDiff, Nat.reduceDiv, Nat.reduceMod, Int.reduceToNat, Int.reduceLE, Int.reduceLT, Int.reduceBEq, Int.reduceBNe, Int.reduceNeg, Int.reduceAdd, Int.reduceSub, Int.reduceMul, reduceCtorEq, g3, hw]
  rotate_left
  · refine WeakR.drop' ?_ (by rfl)
    rw [c2] at g3
    simp only [logB, g3, Bool.false_and, Bool.and_false]
  refine WeakR.drop' ?_ (by rfl)
  rw [c1] at g2
  rw [c2] at g3
  simp only [logB, hb, g2, g3, Bool.true_and]
  congr 1
/-- Where records begin, and where the last one ends. -/
def startsOf (s : ByteArray) : List Int := 0 :: endsTo s (recsOf s).length
theorem startsOf_len (s : ByteArray) : (startsOf s).length = (recsOf s).length + 1 := by simp [startsOf, endsTo_len]
theorem startsOf_get {s : ByteArray} {i : Nat} (h : i < (startsOf s).length) : (startsOf s)[i] = ((rdN s i).2 : Int) := by
  cases i with
  | zero => rfl
  | succ i => simp [startsOf, endsTo]
def durB (l : Log) : Bool := (startsOf (l.Durable ++ l.Pending)).any fun a => a == (l.Durable.size : Int)
theorem durB_eq (l : Log) : durB l = decide (atOf l.Durable = l.Durable.size) := by
  rw [Bool.eq_iff_iff, decide_eq_true_eq, ← durable_iff (P := l.Pending), durB, List.any_eq_true]
  constructor
  · rintro ⟨a, ha, e⟩
    obtain ⟨i, hi, rfl⟩ := List.getElem_of_mem ha
    rw [startsOf_get hi] at e
    rw [startsOf_len] at hi
    exact ⟨i, by omega, by simp at e; omega⟩
  · rintro ⟨j, hj, e⟩
    have hi : j < (startsOf (l.Durable ++ l.Pending)).length := by rw [startsOf_len]; omega
    exact ⟨_, List.getElem_mem hi, by rw [startsOf_get hi, e]; simp⟩
def recsV (l : Log) : V := .tup [.osl 0 0 (recsOf (l.Durable ++ l.Pending)).length 2, .bool (logB l)]
def recsH (l : Log) : Hp := [some (rows LogRecord.cs (recsOf (l.Durable ++ l.Pending)))]
theorem records_ok (l : Log) (hd : l.Durable.size ≤ 4194304) (hp : l.Pending.size ≤ 4194304) : Ctr Tryd.prog 53 [l.v] [] (recsV l) (recsH l) := by
  have hsz : (l.Durable ++ l.Pending).size = l.Durable.size + l.Pending.size := ByteArray.size_append
  refine Ctr.intro Tryd.mixed Tryd.func53 rfl Tryd.okF53 ?_
  simp -implicitDefEqProofs -dsimp only [go_sem, Nat.reduceSub, Nat.reduceAdd, Nat.reduceMul, Nat.reduceLT, Nat.reduceLeDiff, Nat.reduceEqDiff, Nat.reduceDiv, Nat.reduceMod, Int.reduceToNat, Int.reduceLE, Int.reduceLT, Int.reduceBEq, Int.reduceBNe, Int.reduceNeg, Int.reduceAdd, Int.reduceSub, Int.reduceMul, reduceCtorEq, Tryd.ntmps53, Tryd.results53]
  (repeat ((repeat1' (first | simp -implicitDefEqProofs -dsimp only [go_sem, Nat.reduceSub, Nat.reduceAdd, Nat.reduceMul, Nat.reduceLT, Nat.reduceLeDiff, Nat.reduceEqDiff, Nat.reduceDiv, Nat.reduceMod, Int.reduceToNat, Int.reduceLE, Int.reduceLT, Int.reduceBEq, Int.reduceBNe, Int.reduceNeg, Int.reduceAdd, Int.reduceSub, Int.reduceMul, reduceCtorEq, Log.v] | simp -implicitDefEqProofs -dsimp (disch := omega) only [wrap_i64])); repeat (with_reducible refine And.intro ?_ ?_; focus (first | omega | with_reducible rfl | (show drawOk _ = true; kernel_rfl) | (simp only [rows_length, rows_cell, List.length_append, List.length_cons, List.length_nil, List.all_append, List.all_cons, List.all_nil, isCell, Nat.mul_one, Nat.one_mul, Bool.and_self]; first | done | omega) | (simp only [ByteArray.size_append, ba_size, List.size_toArray, List.length_cons, List.length_nil]; omega)))))
  (first | refine callT.at (read_ok (l.Durable ++ l.Pending) (by rw [hsz]; omega)) ⟨leA, trivial⟩ ?_ | refine callS.at (read_ok (l.Durable ++ l.Pending) (by rw [hsz]; omega)) ⟨leA, trivial⟩ ?_)
  have h60 := (recs_len (l.Durable ++ l.Pending)).2.2.2
  have hen := endsTo_len (l.Durable ++ l.Pending) (recsOf (l.Durable ++ l.Pending)).length
  have htk : List.take (recsOf (l.Durable ++ l.Pending)).length (rows IntS.cs (endsTo (l.Durable ++ l.Pending) (recsOf (l.Durable ++ l.Pending)).length)) = rows IntS.cs (endsTo (l.Durable ++ l.Pending) (recsOf (l.Durable ++ l.Pending)).length) :=
    List.take_of_length_le (by rw [rows_length, hen]; omega)
  (repeat ((repeat1' (first | simp -implicitDefEqProofs -dsimp only [go_sem, Nat.reduceSub, Nat.reduceAdd, Nat.reduceMul, Nat.reduceLT, Nat.reduceLeDiff, Nat.reduceEqDiff, Nat.reduceDiv, Nat.reduceMod, Int.reduceToNat, Int.reduceLE, Int.reduceLT, Int.reduceBEq, Int.reduceBNe, Int.reduceNeg, Int.reduceAdd, Int.reduceSub, Int.reduceMul, reduceCtorEq, readV, readH, rows_length, rows_cell, hen, htk, Nat.mul_one, List.length_cons, List.length_nil] | simp -implicitDefEqProofs -dsimp (disch := omega) only [wrap_i64])); repeat (with_reducible refine And.intro ?_ ?_; focus (first | omega | with_reducible rfl | (show drawOk _ = true; kernel_rfl) | (simp only [rows_length, rows_cell, List.length_append, List.length_cons, List.length_nil, List.all_append, List.all_cons, List.all_nil, isCell, Nat.mul_one, Nat.one_mul, Bool.and_self]; first | done | omega) | (simp only [ByteArray.size_append, ba_size, List.size_toArray, List.length_cons, List.length_nil]; omega)))))
  have hsl := startsOf_len (l.Durable ++ l.Pending)
  have hw : IntKind.i64.wrap ((l.Durable.size : Int) + (l.Pending.size : Int)) = (l.Durable.size : Int) + (l.Pending.size : Int) := wrap_i64 (by omega) (by omega)
  refine LoopT.intro (fun i : Nat => i ≤ (startsOf (l.Durable ++ l.Pending)).length) (fun i => ⟨[.undef, .ptr 0 0, .undef, .undef, .str (l.Durable ++ l.Pending), .osl 1 0 (recsOf (l.Durable ++ l.Pending)).length 2, .undef, .osl 2 0 (startsOf (l.Durable ++ l.Pending)).length 1, .bool (((startsOf (l.Durable ++ l.Pending)).take i).any fun a => a == (l.Durable.size : Int)), .undef, .undef, .undef, .undef, .undef, .undef, .undef, .undef, .undef, .undef, .undef, .undef, .undef, .undef, .undef, .osl 2 0 (startsOf (l.Durable ++ l.Pending)).length 1, .int .i64 (startsOf (l.Durable ++ l.Pending)).length, .int .i64 i, .undef, .undef, .undef, .undef, .undef, .undef, .undef, .undef, .undef, .undef, .undef, .undef, .undef, .undef, .undef, .undef, .undef, .undef, .undef, .undef, .undef, .undef, .undef, .undef, .undef, .undef, .undef, .undef, .undef, .undef, .undef, .undef], [some l.cs, some (rows LogRecord.cs (recsOf (l.Durable ++ l.Pending))), some (rows IntS.cs (startsOf (l.Durable ++ l.Pending)))], 0⟩) (fun i => (startsOf (l.Durable ++ l.Pending)).length - i) 0 (Nat.zero_le _) ?_ (fun i hi => ?_)
  · refine Weak.pick [0, 1, 3] (by decide) (fun j hj => by omega) ?_ ?_
    · simp [LeG, LeV, ren, pickF, posOf, hsl]
      omega
    · simp [pickH, pickB, ren, pickF, posOf, map_ren_rows, Log.cs]
      rw [startsOf, rows_cons]
      simp only [IntS.cs, List.cons_append, List.nil_append]
  simp -implicitDefEqProofs -dsimp only [go_sem, Nat.reduceSub, Nat.reduceAdd, Nat.reduceMul, Nat.reduceLT, Nat.reduceLeDiff, Nat.reduceEqDiff, Nat.reduceDiv, Nat.reduceMod, Int.reduceToNat, Int.reduceLE, Int.reduceLT, Int.reduceBEq, Int.reduceBNe, Int.reduceNeg, Int.reduceAdd, Int.reduceSub, Int.reduceMul, reduceCtorEq, Log.cs]
  refine condT.split (fun h1 => ?_) (fun h1 => ?_)
  · simp -implicitDefEqProofs -dsimp only [go_sem, Nat.reduceSub, Nat.reduceAdd, Nat.reduceMul, Nat.reduceLT, Nat.reduceLeDiff, Nat.reduceEqDiff, Nat.reduceDiv, Nat.reduceMod, Int.reduceToNat, Int.reduceLE, Int.reduceLT, Int.reduceBEq, Int.reduceBNe, Int.reduceNeg, Int.reduceAdd, Int.reduceSub, Int.reduceMul, reduceCtorEq, h1]
    have hi' : i < (startsOf (l.Durable ++ l.Pending)).length := by simpa using h1
    have hr := rows_at IntS.csl hi'
    repeat (with_reducible refine And.intro ?_ ?_; focus (first | omega | with_reducible rfl | (show drawOk _ = true; kernel_rfl) | (simp only [rows_length, rows_cell, List.length_append, List.length_cons, List.length_nil, List.all_append, List.all_cons, List.all_nil, isCell, Nat.mul_one, Nat.one_mul, Bool.and_self]; first | done | omega) | (simp only [ByteArray.size_append, ba_size, List.size_toArray, List.length_cons, List.length_nil]; omega)))
    have e1 : ((startsOf (l.Durable ++ l.Pending)).take (i + 1)).any (fun a => a == (l.Durable.size : Int)) = (((startsOf (l.Durable ++ l.Pending)).take i).any (fun a => a == (l.Durable.size : Int)) || ((startsOf (l.Durable ++ l.Pending))[i] == (l.Durable.size : Int))) := by
      rw [List.take_succ_eq_append_getElem hi', List.any_append]; simp
    rw [hr]
    refine guardT.splitF (fun h2 => ?_) (fun h2 => ?_) <;> (repeat ((repeat1' (first | simp -implicitDefEqProofs -dsimp only [go_sem, Nat.reduceSub, Nat.reduceAdd, Nat.reduceMul, Nat.reduceLT, Nat.reduceLeDiff, Nat.reduceEqDiff, Nat.reduceDiv, Nat.reduceMod, Int.reduceToNat, Int.reduceLE, Int.reduceLT, Int.reduceBEq, Int.reduceBNe, Int.reduceNeg, Int.reduceAdd, Int.reduceSub, Int.reduceMul, reduceCtorEq, h2, IntS.cs, Log.cs] | simp -implicitDefEqProofs -dsimp (disch := omega) only [wrap_i64])); repeat (with_reducible refine And.intro ?_ ?_; focus (first | omega | with_reducible rfl | (show drawOk _ = true; kernel_rfl) | (simp only [rows_length, rows_cell, List.length_append, List.length_cons, List.length_nil, List.all_append, List.all_cons, List.all_nil, isCell, Nat.mul_one, Nat.one_mul, Bool.and_self]; first | done | omega) | (simp only [ByteArray.size_append, ba_size, List.size_toArray, List.length_cons, List.length_nil]; omega)))))
    · refine ⟨i + 1, hi', ?_, by omega⟩
      refine Weak.cut (3) (by simp) (by simp) ?_ ?_
      · rw [e1, h2]; simp [LeC, LeV, ren, cutF]
      · simp [cutH, cutB, ren, map_ren_rows, Log.cs]
    · refine ⟨i + 1, hi', ?_, by omega⟩
      refine Weak.cut (3) (by simp) (by simp) ?_ ?_
      · rw [e1, h2]; simp [LeC, LeV, ren, cutF]
      · simp [cutH, cutB, ren, map_ren_rows, Log.cs]
  · simp -implicitDefEqProofs -dsimp only [go_sem, Nat.reduceSub, Nat.reduceAdd, Nat.reduceMul, Nat.reduceLT, Nat.reduceLeDiff, Nat.reduceEqDiff, Nat.reduceDiv, Nat.reduceMod, Int.reduceToNat, Int.reduceLE, Int.reduceLT, Int.reduceBEq, Int.reduceBNe, Int.reduceNeg, Int.reduceAdd, Int.reduceSub, Int.reduceMul, reduceCtorEq, h1]
    have hi' : i = (startsOf (l.Durable ++ l.Pending)).length := by simp at h1; omega
    subst hi'
    rw [List.take_length]
    have hdu : ((startsOf (l.Durable ++ l.Pending)).any fun a => a == (l.Durable.size : Int)) = durB l := rfl
    rw [hdu]
    repeat (with_reducible refine And.intro ?_ ?_; focus (first | omega | with_reducible rfl | (show drawOk _ = true; kernel_rfl) | (simp only [rows_length, rows_cell, List.length_append, List.length_cons, List.length_nil, List.all_append, List.all_cons, List.all_nil, isCell, Nat.mul_one, Nat.one_mul, Bool.and_self]; first | done | omega) | (simp only [ByteArray.size_append, ba_size, List.size_toArray, List.length_cons, List.length_nil]; omega)))
    have hlast : (recsOf (l.Durable ++ l.Pending)).length < (startsOf (l.Durable ++ l.Pending)).length := by rw [hsl]; omega
    have hr2 := rows_at IntS.csl hlast
    rw [startsOf_get hlast, ← atOf_eq] at hr2
    have hw2 : IntKind.i64.wrap (((startsOf (l.Durable ++ l.Pending)).length : Int) - 1) = ((recsOf (l.Durable ++ l.Pending)).length : Int) := by rw [wrap_i64 (by omega) (by omega)]; omega
    have hdb := durB_eq l
    refine guardT.splitT (fun g1 => ?_) (fun g1 => ?_) <;> simp -implicitDefEqProofs -dsimp only [go_sem, Nat.reduceSub, Nat.reduceAdd, Nat.reduceMul, Nat.reduceLT, Nat.reduceLeDiff, Nat.reduceEqDiff, Nat.reduceDiv, Nat.reduceMod, Int.reduceToNat, Int.reduceLE, Int.reduceLT, Int.reduceBEq, Int.reduceBNe, Int.reduceNeg, Int.reduceAdd, Int.reduceSub, Int.reduceMul, reduceCtorEq, g1]
    · (repeat ((repeat1' (first | simp -implicitDefEqProofs -dsimp only [go_sem, Nat.reduceSub, Nat.reduceAdd, Nat.reduceMul, Nat.reduceLT, Nat.reduceLeDiff, Nat.reduceEqDiff, Nat.reduceDiv, Nat.reduceMod, Int.reduceToNat, Int.reduceLE, Int.reduceLT, Int.reduceBEq, Int.reduceBNe, Int.reduceNeg, Int.reduceAdd, Int.reduceSub, Int.reduceMul, reduceCtorEq, hr2, hw2, hsz, IntS.cs] | simp -implicitDefEqProofs -dsimp (disch := omega) only [wrap_i64])); repeat (with_reducible refine And.intro ?_ ?_; focus (first | omega | with_reducible rfl | (show drawOk _ = true; kernel_rfl) | (simp only [rows_length, rows_cell, List.length_append, List.length_cons, List.length_nil, List.all_append, List.all_cons, List.all_nil, isCell, Nat.mul_one, Nat.one_mul, Bool.and_self]; first | done | omega) | (simp only [ByteArray.size_append, ba_size, List.size_toArray, List.length_cons, List.length_nil]; omega)))))
      rw [hdb] at g1
      have hab := (atOf_bd (l.Durable ++ l.Pending)).2
      have c1 : (((atOf (l.Durable ++ l.Pending) : Nat) : Int) == ((l.Durable.size + l.Pending.size : Nat) : Int)) = decide (atOf (l.Durable ++ l.Pending) = l.Durable.size + l.Pending.size) := by rw [Bool.eq_iff_iff]; simp; omega
      refine guardT.splitT (fun g2 => ?_) (fun g2 => ?_) <;> simp -implicitDefEqProofs -dsimp only [go_sem, Nat.reduceSub, Nat.reduceAdd, Nat.reduceMul, Nat.reduceLT, Nat.reduceLeDiff, Nat.reduceEqDiff, Nat.reduceDiv, Nat.reduceMod, Int.reduceToNat, Int.reduceLE, Int.reduceLT, Int.reduceBEq, Int.reduceBNe, Int.reduceNeg, Int.reduceAdd, Int.reduceSub, Int.reduceMul, reduceCtorEq, g2]
      · rw [c1] at g2
        have hb : decide (l.Durable.size + l.Pending.size ≤ 30000) = true := by simp at g2 ⊢; omega
        have hL : logB l = (l.Count == ((recsOf (l.Durable ++ l.Pending)).length : Int)) := by
          simp only [logB, hb, g1, g2, Bool.true_and]
          rw [Bool.eq_iff_iff]
          simp
          exact ⟨fun h => h.symm, fun h => h.symm⟩
        repeat (with_reducible refine And.intro ?_ ?_; focus (first | omega | with_reducible rfl | (show drawOk _ = true; kernel_rfl) | (simp only [rows_length, rows_cell, List.length_append, List.length_cons, List.length_nil, List.all_append, List.all_cons, List.all_nil, isCell, Nat.mul_one, Nat.one_mul, Bool.and_self]; first | done | omega) | (simp only [ByteArray.size_append, ba_size, List.size_toArray, List.length_cons, List.length_nil]; omega)))
        rw [recsV, recsH, hL]
        refine WeakR.pick [1] (by decide) (fun j hj => by omega) (.inl ?_) ?_
        · first | rfl | (simp [ren, pickF, posOf]; done)
        · simp only [pickH, List.map_cons, List.map_nil, pickB, List.getElem?_cons_zero, List.getElem?_cons_succ, map_ren_rows]
      · rw [c1] at g2
        have hL : logB l = false := by simp only [logB, g2, Bool.false_and, Bool.and_false]
        repeat (with_reducible refine And.intro ?_ ?_; focus (first | omega | with_reducible rfl | (show drawOk _ = true; kernel_rfl) | (simp only [rows_length, rows_cell, List.length_append, List.length_cons, List.length_nil, List.all_append, List.all_cons, List.all_nil, isCell, Nat.mul_one, Nat.one_mul, Bool.and_self]; first | done | omega) | (simp only [ByteArray.size_append, ba_size, List.size_toArray, List.length_cons, List.length_nil]; omega)))
        rw [recsV, recsH, hL]
        refine WeakR.pick [1] (by decide) (fun j hj => by omega) (.inl ?_) ?_
        · first | rfl | (simp [ren, pickF, posOf]; done)
        · simp only [pickH, List.map_cons, List.map_nil, pickB, List.getElem?_cons_zero, List.getElem?_cons_succ, map_ren_rows]
    · rw [hdb] at g1
      have hL : logB l = false := by simp only [logB, g1, Bool.false_and, Bool.and_false]
      rw [recsV, recsH, hL]
      refine WeakR.pick [1] (by decide) (fun j hj => by omega) (.inl ?_) ?_
      · first | rfl | (simp [ren, pickF, posOf]; done)
      · simp only [pickH, List.map_cons, List.map_nil, pickB, List.getElem?_cons_zero, List.getElem?_cons_succ, map_ren_rows]
theorem iIsValidLog_ok (l : Log) (hd : l.Durable.size ≤ 4194304) (hp : l.Pending.size ≤ 4194304) : Ctr Tryd.prog 21 [l.v] [] (.bool (logB l)) [] := by
  refine Ctr.intro Tryd.mixed Tryd.func21 rfl Tryd.okF21 ?_
  simp -implicitDefEqProofs -dsimp only [go_sem, Nat.reduceSub, Nat.reduceAdd, Nat.reduceMul, Nat.reduceLT, Nat.reduceLeDiff, Nat.reduceEqDiff, Nat.reduceDiv, Nat.reduceMod, Int.reduceToNat, Int.reduceLE, Int.reduceLT, Int.reduceBEq, Int.reduceBNe, Int.reduceNeg, Int.reduceAdd, Int.reduceSub, Int.reduceMul, reduceCtorEq, Tryd.ntmps21, Tryd.results21]
  simp -implicitDefEqProofs -dsimp only [go_sem, Nat.reduceSub, Nat.reduceAdd, Nat.reduceMul, Nat.reduceLT, Nat.reduceLeDiff, Nat.reduceEqDiff, Nat.reduceDiv, Nat.reduceMod, Int.reduceToNat, Int.reduceLE, Int.reduceLT, Int.reduceBEq, Int.reduceBNe, Int.reduceNeg, Int.reduceAdd, Int.reduceSub, Int.reduceMul, reduceCtorEq, Log.v]
  (first | refine callT.at (records_ok l hd hp) ⟨leA, trivial⟩ ?_ | refine callS.at (records_ok l hd hp) ⟨leA, trivial⟩ ?_)
  simp -implicitDefEqProofs -dsimp only [go_sem, Nat.reduceSub, Nat.reduceAdd, Nat.reduceMul, Nat.reduceLT, Nat.reduceLeDiff, Nat.reduceEqDiff, Nat.reduceDiv, Nat.reduceMod, Int.reduceToNat, Int.reduceLE, Int.reduceLT, Int.reduceBEq, Int.reduceBNe, Int.reduceNeg, Int.reduceAdd, Int.reduceSub, Int.reduceMul, reduceCtorEq, recsV]
  exact WeakR.drop' rfl (by rfl)
end Go.Proofs
end
section
set_option linter.unusedSimpArgs false
set_option linter.unusedVariables false
set_option maxRecDepth 100000
set_option maxHeartbeats 2000000
namespace Go.Proofs
open Go.Lv
theorem szLog_ok (r : Log) (hr : r.ok) (n : Int) (hn : 0 ≤ n) (hn2 : n ≤ 1048576) : ∃ z : Int, (z < 0 ∨ 0 ≤ z ∧ z = n - (r.Durable.size : Int) - (r.Pending.size : Int) ∧ r.Durable.size ≤ 1048576 ∧ r.Pending.size ≤ 1048576) ∧ Ctr Tryd.prog 9 [r.v, .int .i64 n] [] (.int .i64 z) [] := by
  obtain ⟨o0, o1, _⟩ := hr
  simp only [strR] at o0 o1
  by_cases c0 : n < (r.Durable.size : Int)
  · refine ⟨-1, .inl (by omega), ?_⟩
    refine Ctr.intro Tryd.mixed Tryd.func9 rfl Tryd.okF9 ?_
    simp -implicitDefEqProofs -dsimp only [go_sem, Nat.reduceSub, Nat.reduceAdd, Nat.reduceMul, Nat.reduceLT, Nat.reduceLeDiff, Nat.reduceEqDiff, Nat.reduceDiv, Nat.reduceMod, Int.reduceToNat, Int.reduceLE, Int.reduceLT, Int.reduceBEq, Int.reduceBNe, Int.reduceNeg, Int.reduceAdd, Int.reduceSub, Int.reduceMul, reduceCtorEq, Tryd.ntmps9, Tryd.results9]
    (repeat1' (first | simp -implicitDefEqProofs -dsimp only [go_sem, Nat.reduceSub, Nat.reduceAdd, Nat.reduceMul, Nat.reduceLT, Nat.reduceLeDiff, Nat.reduceEqDiff, Nat.reduceDiv, Nat.reduceMod, Int.reduceToNat, Int.reduceLE, Int.reduceLT, Int.reduceBEq, Int.reduceBNe, Int.reduceNeg, Int.reduceAdd, Int.reduceSub, Int.reduceMul, reduceCtorEq, Log.v] | simp -implicitDefEqProofs -dsimp (disch := omega) only [wrap_i64]))
    refine condT.split (fun h1 => ?_) (fun h1 => ?_)
    · simp -implicitDefEqProofs -dsimp only [go_sem, Nat.reduceSub, Nat.reduceAdd, Nat.reduceMul, Nat.reduceLT, Nat.reduceLeDiff, Nat.reduceEqDiff, Nat.reduceDiv, Nat.reduceMod, Int.reduceToNat, Int.reduceLE, Int.reduceLT, Int.reduceBEq, Int.reduceBNe, Int.reduceNeg, Int.reduceAdd, Int.reduceSub, Int.reduceMul, reduceCtorEq, h1]
      exact WeakR.drop' rfl (by rfl)
    · exact absurd h1 (by simp; omega)
  · by_cases c1 : n - (r.Durable.size : Int) < (r.Pending.size : Int)
    · refine ⟨-1, .inl (by omega), ?_⟩
      refine Ctr.intro Tryd.mixed Tryd.func9 rfl Tryd.okF9 ?_
      simp -implicitDefEqProofs -dsimp only [go_sem, Nat.reduceSub, Nat.reduceAdd, Nat.reduceMul, Nat.reduceLT, Nat.reduceLeDiff, Nat.reduceEqDiff, Nat.reduceDiv, Nat.reduceMod, Int.reduceToNat, Int.reduceLE, Int.reduceLT, Int.reduceBEq, Int.reduceBNe, Int.reduceNeg, Int.reduceAdd, Int.reduceSub, Int.reduceMul, reduceCtorEq, Tryd.ntmps9, Tryd.results9]
      (repeat1' (first | simp -implicitDefEqProofs -dsimp only [go_sem, Nat.reduceSub, Nat.reduceAdd, Nat.reduceMul, Nat.reduceLT, Nat.reduceLeDiff, Nat.reduceEqDiff, Nat.reduceDiv, Nat.reduceMod, Int.reduceToNat, Int.reduceLE, Int.reduceLT, Int.reduceBEq, Int.reduceBNe, Int.reduceNeg, Int.reduceAdd, Int.reduceSub, Int.reduceMul, reduceCtorEq, Log.v] | simp -implicitDefEqProofs -dsimp (disch := omega) only [wrap_i64]))
      refine condT.split (fun h1 => absurd h1 (by simp; omega)) (fun h1 => ?_)
      (repeat1' (first | simp -implicitDefEqProofs -dsimp only [go_sem, Nat.reduceSub, Nat.reduceAdd, Nat.reduceMul, Nat.reduceLT, Nat.reduceLeDiff, Nat.reduceEqDiff, Nat.reduceDiv, Nat.reduceMod, Int.reduceToNat, Int.reduceLE, Int.reduceLT, Int.reduceBEq, Int.reduceBNe, Int.reduceNeg, Int.reduceAdd, Int.reduceSub, Int.reduceMul, reduceCtorEq, h1] | simp -implicitDefEqProofs -dsimp (disch := omega) only [wrap_i64]))
      refine condT.split (fun h2 => ?_) (fun h2 => ?_)
      · simp -implicitDefEqProofs -dsimp only [go_sem, Nat.reduceSub, Nat.reduceAdd, Nat.reduceMul, Nat.reduceLT, Nat.reduceLeDiff, Nat.reduceEqDiff, Nat.reduceDiv, Nat.reduceMod, Int.reduceToNat, Int.reduceLE, Int.reduceLT, Int.reduceBEq, Int.reduceBNe, Int.reduceNeg, Int.reduceAdd, Int.reduceSub, Int.reduceMul, reduceCtorEq, h2]
        exact WeakR.drop' rfl (by rfl)
      · exact absurd h2 (by simp; omega)
    · refine ⟨n - (r.Durable.size : Int) - (r.Pending.size : Int), .inr ⟨by omega, rfl, by omega, by omega⟩, ?_⟩
      refine Ctr.intro Tryd.mixed Tryd.func9 rfl Tryd.okF9 ?_
      simp -implicitDefEqProofs -dsimp only [go_sem, Nat.reduceSub, Nat.reduceAdd, Nat.reduceMul, Nat.reduceLT, Nat.reduceLeDiff, Nat.reduceEqDiff, Nat.reduceDiv, Nat.reduceMod, Int.reduceToNat, Int.reduceLE, Int.reduceLT, Int.reduceBEq, Int.reduceBNe, Int.reduceNeg, Int.reduceAdd, Int.reduceSub, Int.reduceMul, reduceCtorEq, Tryd.ntmps9, Tryd.results9]
      (repeat1' (first | simp -implicitDefEqProofs -dsimp only [go_sem, Nat.reduceSub, Nat.reduceAdd, Nat.reduceMul, Nat.reduceLT, Nat.reduceLeDiff, Nat.reduceEqDiff, Nat.reduceDiv, Nat.reduceMod, Int.reduceToNat, Int.reduceLE, Int.reduceLT, Int.reduceBEq, Int.reduceBNe, Int.reduceNeg, Int.reduceAdd, Int.reduceSub, Int.reduceMul, reduceCtorEq, Log.v] | simp -implicitDefEqProofs -dsimp (disch := omega) only [wrap_i64]))
      refine condT.split (fun h1 => absurd h1 (by simp; omega)) (fun h1 => ?_)
      (repeat1' (first | simp -implicitDefEqProofs -dsimp only [go_sem, Nat.reduceSub, Nat.reduceAdd, Nat.reduceMul, Nat.reduceLT, Nat.reduceLeDiff, Nat.reduceEqDiff, Nat.reduceDiv, Nat.reduceMod, Int.reduceToNat, Int.reduceLE, Int.reduceLT, Int.reduceBEq, Int.reduceBNe, Int.reduceNeg, Int.reduceAdd, Int.reduceSub, Int.reduceMul, reduceCtorEq, h1] | simp -implicitDefEqProofs -dsimp (disch := omega) only [wrap_i64]))
      refine condT.split (fun h2 => absurd h2 (by simp; omega)) (fun h2 => ?_)
      (repeat1' (first | simp -implicitDefEqProofs -dsimp only [go_sem, Nat.reduceSub, Nat.reduceAdd, Nat.reduceMul, Nat.reduceLT, Nat.reduceLeDiff, Nat.reduceEqDiff, Nat.reduceDiv, Nat.reduceMod, Int.reduceToNat, Int.reduceLE, Int.reduceLT, Int.reduceBEq, Int.reduceBNe, Int.reduceNeg, Int.reduceAdd, Int.reduceSub, Int.reduceMul, reduceCtorEq, h2] | simp -implicitDefEqProofs -dsimp (disch := omega) only [wrap_i64]))
      exact WeakR.drop' rfl (by rfl)
end Go.Proofs
end
section
set_option linter.unusedSimpArgs false
set_option linter.unusedVariables false
set_option maxRecDepth 100000
namespace Go.Proofs
open Go.Lv
structure Console where
  Watch : Watch
  Log : Log
def Console.cs (r : Console) : List V := [.int .i64 r.Watch.Now, .sl r.Watch.Posts.length 3 (Go.Lv.rows Post.cs r.Watch.Posts), .sl r.Watch.Shocks.length 5 (Go.Lv.rows Shock.cs r.Watch.Shocks), .int .i64 r.Watch.Next, .int .i64 r.Watch.Archived, .str r.Log.Durable, .str r.Log.Pending, .int .i64 r.Log.Count]
def Console.v (r : Console) : V := .agg [.int .i64 r.Watch.Now, .sl r.Watch.Posts.length 3 (Go.Lv.rows Post.cs r.Watch.Posts), .sl r.Watch.Shocks.length 5 (Go.Lv.rows Shock.cs r.Watch.Shocks), .int .i64 r.Watch.Next, .int .i64 r.Watch.Archived, .str r.Log.Durable, .str r.Log.Pending, .int .i64 r.Log.Count]
/-- The same, its lists in blocks of our own. -/
def Console.o (r : Console) (i0 i1 : Nat) : V := .agg [.int .i64 r.Watch.Now, .osl i0 0 r.Watch.Posts.length 3, .osl i1 0 r.Watch.Shocks.length 5, .int .i64 r.Watch.Next, .int .i64 r.Watch.Archived, .str r.Log.Durable, .str r.Log.Pending, .int .i64 r.Log.Count]
theorem Console.csl (a : Console) : a.cs.length = 8 := rfl
def Console.ok (r : Console) : Prop := r.Watch.ok ∧ r.Log.ok
theorem Console.le {h : Hp} {r : Console} {i0 i1 : Nat} (h0 : h[i0]? = some (some (rows Post.cs r.Watch.Posts))) (h1 : h[i1]? = some (some (rows Shock.cs r.Watch.Shocks))) : LeV (ren (snapR h 3) 3 (r.o i0 i1)) r.v := by
  refine .inl ?_
  simp only [Console.o, Console.v, ren, List.map_cons, List.map_nil, snapR, h0, h1, map_ren_rows, List.drop_zero, take_rows]
theorem toConsole_ok (r : Console) (hl0 : r.Watch.Posts.length ≤ 1048576) (hl1 : r.Watch.Shocks.length ≤ 1048576) : Ctr Tryd.prog 33 [r.v] [] (r.o 0 1) [some (rows Post.cs r.Watch.Posts), some (rows Shock.cs r.Watch.Shocks)] := by
  refine Ctr.intro Tryd.mixed Tryd.func33 rfl Tryd.okF33 ?_
  simp -implicitDefEqProofs -dsimp only [go_sem, Nat.reduceSub, Nat.reduceAdd, Nat.reduceMul, Nat.reduceLT, Nat.reduceLeDiff, Nat.reduceEqDiff, Nat.reduceDiv, Nat.reduceMod, Int.reduceToNat, Int.reduceLE, Int.reduceLT, Int.reduceBEq, Int.reduceBNe, Int.reduceNeg, Int.reduceAdd, Int.reduceSub, Int.reduceMul, reduceCtorEq, Tryd.ntmps33, Tryd.results33]
  simp -implicitDefEqProofs -dsimp only [go_sem, Nat.reduceSub, Nat.reduceAdd, Nat.reduceMul, Nat.reduceLT, Nat.reduceLeDiff, Nat.reduceEqDiff, Nat.reduceDiv, Nat.reduceMod, Int.reduceToNat, Int.reduceLE, Int.reduceLT, Int.reduceBEq, Int.reduceBNe, Int.reduceNeg, Int.reduceAdd, Int.reduceSub, Int.reduceMul, reduceCtorEq, Console.v]
  (first | refine callT.at (toWatch_ok r.Watch hl0 hl1) ⟨leA, trivial⟩ ?_ | refine callS.at (toWatch_ok r.Watch hl0 hl1) ⟨leA, trivial⟩ ?_)
  (repeat ((repeat1' (first | simp -implicitDefEqProofs -dsimp only [go_sem, Nat.reduceSub, Nat.reduceAdd, Nat.reduceMul, Nat.reduceLT, Nat.reduceLeDiff, Nat.reduceEqDiff, Nat.reduceDiv, Nat.reduceMod, Int.reduceToNat, Int.reduceLE, Int.reduceLT, Int.reduceBEq, Int.reduceBNe, Int.reduceNeg, Int.reduceAdd, Int.reduceSub, Int.reduceMul, reduceCtorEq, Watch.o, map_ren_rows] | simp -implicitDefEqProofs -dsimp (disch := omega) only [wrap_i64])); repeat (with_reducible refine sideA ?_)))
  (first | refine callT.at (toLog_ok r.Log) ⟨leA, trivial⟩ ?_ | refine callS.at (toLog_ok r.Log) ⟨leA, trivial⟩ ?_)
  (repeat ((repeat1' (first | simp -implicitDefEqProofs -dsimp only [go_sem, Nat.reduceSub, Nat.reduceAdd, Nat.reduceMul, Nat.reduceLT, Nat.reduceLeDiff, Nat.reduceEqDiff, Nat.reduceDiv, Nat.reduceMod, Int.reduceToNat, Int.reduceLE, Int.reduceLT, Int.reduceBEq, Int.reduceBNe, Int.reduceNeg, Int.reduceAdd, Int.reduceSub, Int.reduceMul, reduceCtorEq, Log.v, map_ren_rows] | simp -implicitDefEqProofs -dsimp (disch := omega) only [wrap_i64])); repeat (with_reducible refine sideA ?_)))
  refine WeakR.pick [3, 4] (by decide) (fun j hj => by omega) (.inl ?_) ?_
  · rfl
  · simp only [pickH, List.map_cons, List.map_nil, pickB, List.getElem?_cons_zero, List.getElem?_cons_succ, map_ren_rows]
theorem szConsole_ok (r : Console) (hr : r.ok) (n : Int) (hn : 0 ≤ n) (hn2 : n ≤ 1048576) : ∃ z : Int, (z < 0 ∨ 0 ≤ z ∧ z ≤ n ∧ r.Watch.Posts.length ≤ 1048576 ∧ r.Watch.Shocks.length ≤ 1048576 ∧ r.Log.Durable.size ≤ 1048576 ∧ r.Log.Pending.size ≤ 1048576) ∧ Ctr Tryd.prog 31 [r.v, .int .i64 n] [] (.int .i64 z) [] := by
  obtain ⟨o0, o1⟩ := hr
  obtain ⟨z0, hz0, c0⟩ := szWatch_ok r.Watch o0 n hn hn2
  rcases hz0 with hz0 | hz0
  · refine ⟨-1, .inl (by omega), ?_⟩
    refine Ctr.intro Tryd.mixed Tryd.func31 rfl Tryd.okF31 ?_
    simp -implicitDefEqProofs -dsimp only [go_sem, Nat.reduceSub, Nat.reduceAdd, Nat.reduceMul, Nat.reduceLT, Nat.reduceLeDiff, Nat.reduceEqDiff, Nat.reduceDiv, Nat.reduceMod, Int.reduceToNat, Int.reduceLE, Int.reduceLT, Int.reduceBEq, Int.reduceBNe, Int.reduceNeg, Int.reduceAdd, Int.reduceSub, Int.reduceMul, reduceCtorEq, Tryd.ntmps31, Tryd.results31]
    simp -implicitDefEqProofs -dsimp only [go_sem, Nat.reduceSub, Nat.reduceAdd, Nat.reduceMul, Nat.reduceLT, Nat.reduceLeDiff, Nat.reduceEqDiff, Nat.reduceDiv, Nat.reduceMod, Int.reduceToNat, Int.reduceLE, Int.reduceLT, Int.reduceBEq, Int.reduceBNe, Int.reduceNeg, Int.reduceAdd, Int.reduceSub, Int.reduceMul, reduceCtorEq, Console.v]
    (first | refine callT.at (c0) ⟨leA, leA, trivial⟩ ?_ | refine callS.at (c0) ⟨leA, leA, trivial⟩ ?_)
    simp -implicitDefEqProofs -dsimp only [go_sem, Nat.reduceSub, Nat.reduceAdd, Nat.reduceMul, Nat.reduceLT, Nat.reduceLeDiff, Nat.reduceEqDiff, Nat.reduceDiv, Nat.reduceMod, Int.reduceToNat, Int.reduceLE, Int.reduceLT, Int.reduceBEq, Int.reduceBNe, Int.reduceNeg, Int.reduceAdd, Int.reduceSub, Int.reduceMul, reduceCtorEq]
    refine condT.split (fun hh => ?_) (fun hh => absurd hz0 (by simpa using hh))
    simp -implicitDefEqProofs -dsimp only [go_sem, Nat.reduceSub, Nat.reduceAdd, Nat.reduceMul, Nat.reduceLT, Nat.reduceLeDiff, Nat.reduceEqDiff, Nat.reduceDiv, Nat.reduceMod, Int.reduceToNat, Int.reduceLE, Int.reduceLT, Int.reduceBEq, Int.reduceBNe, Int.reduceNeg, Int.reduceAdd, Int.reduceSub, Int.reduceMul, reduceCtorEq, hh]
    exact WeakR.drop' rfl (by rfl)
  obtain ⟨z1, hz1, c1⟩ := szLog_ok r.Log o1 z0 hz0.1 (by omega)
  rcases hz1 with hz1 | hz1
  · refine ⟨-1, .inl (by omega), ?_⟩
    refine Ctr.intro Tryd.mixed Tryd.func31 rfl Tryd.okF31 ?_
    simp -implicitDefEqProofs -dsimp only [go_sem, Nat.reduceSub, Nat.reduceAdd, Nat.reduceMul, Nat.reduceLT, Nat.reduceLeDiff, Nat.reduceEqDiff, Nat.reduceDiv, Nat.reduceMod, Int.reduceToNat, Int.reduceLE, Int.reduceLT, Int.reduceBEq, Int.reduceBNe, Int.reduceNeg, Int.reduceAdd, Int.reduceSub, Int.reduceMul, reduceCtorEq, Tryd.ntmps31, Tryd.results31]
    simp -implicitDefEqProofs -dsimp only [go_sem, Nat.reduceSub, Nat.reduceAdd, Nat.reduceMul, Nat.reduceLT, Nat.reduceLeDiff, Nat.reduceEqDiff, Nat.reduceDiv, Nat.reduceMod, Int.reduceToNat, Int.reduceLE, Int.reduceLT, Int.reduceBEq, Int.reduceBNe, Int.reduceNeg, Int.reduceAdd, Int.reduceSub, Int.reduceMul, reduceCtorEq, Console.v]
    (first | refine callT.at (c0) ⟨leA, leA, trivial⟩ ?_ | refine callS.at (c0) ⟨leA, leA, trivial⟩ ?_)
    simp -implicitDefEqProofs -dsimp only [go_sem, Nat.reduceSub, Nat.reduceAdd, Nat.reduceMul, Nat.reduceLT, Nat.reduceLeDiff, Nat.reduceEqDiff, Nat.reduceDiv, Nat.reduceMod, Int.reduceToNat, Int.reduceLE, Int.reduceLT, Int.reduceBEq, Int.reduceBNe, Int.reduceNeg, Int.reduceAdd, Int.reduceSub, Int.reduceMul, reduceCtorEq]
    refine condT.split (fun hh => absurd hh (by simp; omega)) (fun hh => ?_)
    simp -implicitDefEqProofs -dsimp only [go_sem, Nat.reduceSub, Nat.reduceAdd, Nat.reduceMul, Nat.reduceLT, Nat.reduceLeDiff, Nat.reduceEqDiff, Nat.reduceDiv, Nat.reduceMod, Int.reduceToNat, Int.reduceLE, Int.reduceLT, Int.reduceBEq, Int.reduceBNe, Int.reduceNeg, Int.reduceAdd, Int.reduceSub, Int.reduceMul, reduceCtorEq, hh]
    (first | refine callT.at (c1) ⟨leA, leA, trivial⟩ ?_ | refine callS.at (c1) ⟨leA, leA, trivial⟩ ?_)
    simp -implicitDefEqProofs -dsimp only [go_sem, Nat.reduceSub, Nat.reduceAdd, Nat.reduceMul, Nat.reduceLT, Nat.reduceLeDiff, Nat.reduceEqDiff, Nat.reduceDiv, Nat.reduceMod, Int.reduceToNat, Int.reduceLE, Int.reduceLT, Int.reduceBEq, Int.reduceBNe, Int.reduceNeg, Int.reduceAdd, Int.reduceSub, Int.reduceMul, reduceCtorEq]
    refine condT.split (fun hh => ?_) (fun hh => absurd hz1 (by simpa using hh))
    simp -implicitDefEqProofs -dsimp only [go_sem, Nat.reduceSub, Nat.reduceAdd, Nat.reduceMul, Nat.reduceLT, Nat.reduceLeDiff, Nat.reduceEqDiff, Nat.reduceDiv, Nat.reduceMod, Int.reduceToNat, Int.reduceLE, Int.reduceLT, Int.reduceBEq, Int.reduceBNe, Int.reduceNeg, Int.reduceAdd, Int.reduceSub, Int.reduceMul, reduceCtorEq, hh]
    exact WeakR.drop' rfl (by rfl)
  · refine ⟨z1, .inr ⟨by omega, by omega, by omega, by omega, by omega, by omega⟩, ?_⟩
    refine Ctr.intro Tryd.mixed Tryd.func31 rfl Tryd.okF31 ?_
    simp -implicitDefEqProofs -dsimp only [go_sem, Nat.reduceSub, Nat.reduceAdd, Nat.reduceMul, Nat.reduceLT, Nat.reduceLeDiff, Nat.reduceEqDiff, Nat.reduceDiv, Nat.reduceMod, Int.reduceToNat, Int.reduceLE, Int.reduceLT, Int.reduceBEq, Int.reduceBNe, Int.reduceNeg, Int.reduceAdd, Int.reduceSub, Int.reduceMul, reduceCtorEq, Tryd.ntmps31, Tryd.results31]
    simp -implicitDefEqProofs -dsimp only [go_sem, Nat.reduceSub, Nat.reduceAdd, Nat.reduceMul, Nat.reduceLT, Nat.reduceLeDiff, Nat.reduceEqDiff, Nat.reduceDiv, Nat.reduceMod, Int.reduceToNat, Int.reduceLE, Int.reduceLT, Int.reduceBEq, Int.reduceBNe, Int.reduceNeg, Int.reduceAdd, Int.reduceSub, Int.reduceMul, reduceCtorEq, Console.v]
    (first | refine callT.at (c0) ⟨leA, leA, trivial⟩ ?_ | refine callS.at (c0) ⟨leA, leA, trivial⟩ ?_)
    simp -implicitDefEqProofs -dsimp only [go_sem, Nat.reduceSub, Nat.reduceAdd, Nat.reduceMul, Nat.reduceLT, Nat.reduceLeDiff, Nat.reduceEqDiff, Nat.reduceDiv, Nat.reduceMod, Int.reduceToNat, Int.reduceLE, Int.reduceLT, Int.reduceBEq, Int.reduceBNe, Int.reduceNeg, Int.reduceAdd, Int.reduceSub, Int.reduceMul, reduceCtorEq]
    refine condT.split (fun hh => absurd hh (by simp; omega)) (fun hh => ?_)
    simp -implicitDefEqProofs -dsimp only [go_sem, Nat.reduceSub, Nat.reduceAdd, Nat.reduceMul, Nat.reduceLT, Nat.reduceLeDiff, Nat.reduceEqDiff, Nat.reduceDiv, Nat.reduceMod, Int.reduceToNat, Int.reduceLE, Int.reduceLT, Int.reduceBEq, Int.reduceBNe, Int.reduceNeg, Int.reduceAdd, Int.reduceSub, Int.reduceMul, reduceCtorEq, hh]
    (first | refine callT.at (c1) ⟨leA, leA, trivial⟩ ?_ | refine callS.at (c1) ⟨leA, leA, trivial⟩ ?_)
    simp -implicitDefEqProofs -dsimp only [go_sem, Nat.reduceSub, Nat.reduceAdd, Nat.reduceMul, Nat.reduceLT, Nat.reduceLeDiff, Nat.reduceEqDiff, Nat.reduceDiv, Nat.reduceMod, Int.reduceToNat, Int.reduceLE, Int.reduceLT, Int.reduceBEq, Int.reduceBNe, Int.reduceNeg, Int.reduceAdd, Int.reduceSub, Int.reduceMul, reduceCtorEq]
    refine condT.split (fun hh => absurd hh (by simp; omega)) (fun hh => ?_)
    simp -implicitDefEqProofs -dsimp only [go_sem, Nat.reduceSub, Nat.reduceAdd, Nat.reduceMul, Nat.reduceLT, Nat.reduceLeDiff, Nat.reduceEqDiff, Nat.reduceDiv, Nat.reduceMod, Int.reduceToNat, Int.reduceLE, Int.reduceLT, Int.reduceBEq, Int.reduceBNe, Int.reduceNeg, Int.reduceAdd, Int.reduceSub, Int.reduceMul, reduceCtorEq, hh]
    exact WeakR.drop' rfl (by rfl)
theorem eqConsole_ok (r : Console) (hl0 : r.Watch.Posts.length ≤ 281474976710656) (hl1 : r.Watch.Shocks.length ≤ 281474976710656) : Ctr Tryd.prog 35 [r.v, r.v] [] (.bool true) [] := by
  refine Ctr.intro Tryd.mixed Tryd.func35 rfl Tryd.okF35 ?_
  simp -implicitDefEqProofs -dsimp only [go_sem, Nat.reduceSub, Nat.reduceAdd, Nat.reduceMul, Nat.reduceLT, Nat.reduceLeDiff, Nat.reduceEqDiff, Nat.reduceDiv, Nat.reduceMod, Int.reduceToNat, Int.reduceLE, Int.reduceLT, Int.reduceBEq, Int.reduceBNe, Int.reduceNeg, Int.reduceAdd, Int.reduceSub, Int.reduceMul, reduceCtorEq, Tryd.ntmps35, Tryd.results35]
  simp -implicitDefEqProofs -dsimp only [go_sem, Nat.reduceSub, Nat.reduceAdd, Nat.reduceMul, Nat.reduceLT, Nat.reduceLeDiff, Nat.reduceEqDiff, Nat.reduceDiv, Nat.reduceMod, Int.reduceToNat, Int.reduceLE, Int.reduceLT, Int.reduceBEq, Int.reduceBNe, Int.reduceNeg, Int.reduceAdd, Int.reduceSub, Int.reduceMul, reduceCtorEq, Console.v]
  (first | refine callT.at (eqWatch_ok r.Watch hl0 hl1) ⟨leA, leA, trivial⟩ ?_ | refine callS.at (eqWatch_ok r.Watch hl0 hl1) ⟨leA, leA, trivial⟩ ?_)
  simp -implicitDefEqProofs -dsimp only [go_sem, Nat.reduceSub, Nat.reduceAdd, Nat.reduceMul, Nat.reduceLT, Nat.reduceLeDiff, Nat.reduceEqDiff, Nat.reduceDiv, Nat.reduceMod, Int.reduceToNat, Int.reduceLE, Int.reduceLT, Int.reduceBEq, Int.reduceBNe, Int.reduceNeg, Int.reduceAdd, Int.reduceSub, Int.reduceMul, reduceCtorEq]
  (first | refine callT.at (eqLog_ok r.Log) ⟨leA, leA, trivial⟩ ?_ | refine callS.at (eqLog_ok r.Log) ⟨leA, leA, trivial⟩ ?_)
  simp -implicitDefEqProofs -dsimp only [go_sem, Nat.reduceSub, Nat.reduceAdd, Nat.reduceMul, Nat.reduceLT, Nat.reduceLeDiff, Nat.reduceEqDiff, Nat.reduceDiv, Nat.reduceMod, Int.reduceToNat, Int.reduceLE, Int.reduceLT, Int.reduceBEq, Int.reduceBNe, Int.reduceNeg, Int.reduceAdd, Int.reduceSub, Int.reduceMul, reduceCtorEq]
  exact WeakR.drop' rfl (by rfl)
end Go.Proofs
end
section
set_option linter.unusedSimpArgs false
set_option linter.unusedVariables false
set_option maxRecDepth 100000
namespace Go.Proofs
open Go.Lv
def placeB (x y : Int) : Bool := inB' x 0 999 && inB' y 0 999
theorem isTick_ok (n : Int) : Ctr Tryd.prog 90 [.int .i64 n] [] (.bool (inB' n 0 1000000)) [] := by
  refine Ctr.intro Tryd.mixed Tryd.func90 rfl Tryd.okF90 ?_
  simp -implicitDefEqProofs -dsimp only [go_sem, Nat.reduceSub, Nat.reduceAdd, Nat.reduceMul, Nat.reduceLT, Nat.reduceLeDiff, Nat.reduceEqDiff, Nat.reduceDiv, Nat.reduceMod, Int.reduceToNat, Int.reduceLE, Int.reduceLT, Int.reduceBEq, Int.reduceBNe, Int.reduceNeg, Int.reduceAdd, Int.reduceSub, Int.reduceMul, reduceCtorEq, Tryd.ntmps90, Tryd.results90]
  repeat' (first | (refine WeakR.drop' ?_ (by rfl); first | rfl | (simp [placeB, *]; done)) | ((first | refine callT.at (in_ok _ _ _) ⟨leA, leA, leA, trivial⟩ ?_ | refine callS.at (in_ok _ _ _) ⟨leA, leA, leA, trivial⟩ ?_); simp -implicitDefEqProofs -dsimp only [go_sem, Nat.reduceSub, Nat.reduceAdd, Nat.reduceMul, Nat.reduceLT, Nat.reduceLeDiff, Nat.reduceEqDiff, Nat.reduceDiv, Nat.reduceMod, Int.reduceToNat, Int.reduceLE, Int.reduceLT, Int.reduceBEq, Int.reduceBNe, Int.reduceNeg, Int.reduceAdd, Int.reduceSub, Int.reduceMul, reduceCtorEq, *]) | (refine guardT.splitT (fun _ => ?_) (fun _ => ?_) <;> simp -implicitDefEqProofs -dsimp only [go_sem, Nat.reduceSub, Nat.reduceAdd, Nat.reduceMul, Nat.reduceLT, Nat.reduceLeDiff, Nat.reduceEqDiff, Nat.reduceDiv, Nat.reduceMod, Int.reduceToNat, Int.reduceLE, Int.reduceLT, Int.reduceBEq, Int.reduceBNe, Int.reduceNeg, Int.reduceAdd, Int.reduceSub, Int.reduceMul, reduceCtorEq, *]) | (refine guardT.splitF (fun _ => ?_) (fun _ => ?_) <;> simp -implicitDefEqProofs -dsimp only [go_sem, Nat.reduceSub, Nat.reduceAdd, Nat.reduceMul, Nat.reduceLT, Nat.reduceLeDiff, Nat.reduceEqDiff, Nat.reduceDiv, Nat.reduceMod, Int.reduceToNat, Int.reduceLE, Int.reduceLT, Int.reduceBEq, Int.reduceBNe, Int.reduceNeg, Int.reduceAdd, Int.reduceSub, Int.reduceMul, reduceCtorEq, *]) | (refine condT.split (fun _ => ?_) (fun _ => ?_) <;> simp -implicitDefEqProofs -dsimp only [go_sem, Nat.reduceSub, Nat.reduceAdd, Nat.reduceMul, Nat.reduceLT, Nat.reduceLeDiff, Nat.reduceEqDiff, Nat.reduceDiv, Nat.reduceMod, Int.reduceToNat, Int.reduceLE, Int.reduceLT, Int.reduceBEq, Int.reduceBNe, Int.reduceNeg, Int.reduceAdd, Int.reduceSub, Int.reduceMul, reduceCtorEq, *]))
theorem l2Tick_ok (n : Int) : Ctr Tryd.prog 105 [.int .i64 n] [] (.bool (inB' n 0 1000000)) [] := by
  refine Ctr.intro Tryd.mixed Tryd.func105 rfl Tryd.okF105 ?_
  simp -implicitDefEqProofs -dsimp only [go_sem, Nat.reduceSub, Nat.reduceAdd, Nat.reduceMul, Nat.reduceLT, Nat.reduceLeDiff, Nat.reduceEqDiff, Nat.reduceDiv, Nat.reduceMod, Int.reduceToNat, Int.reduceLE, Int.reduceLT, Int.reduceBEq, Int.reduceBNe, Int.reduceNeg, Int.reduceAdd, Int.reduceSub, Int.reduceMul, reduceCtorEq, Tryd.ntmps105, Tryd.results105]
  repeat' (first | (refine WeakR.drop' ?_ (by rfl); first | rfl | (simp [placeB, *]; done)) | ((first | refine callT.at (l1In_ok _ _ _) ⟨leA, leA, leA, trivial⟩ ?_ | refine callS.at (l1In_ok _ _ _) ⟨leA, leA, leA, trivial⟩ ?_); simp -implicitDefEqProofs -dsimp only [go_sem, Nat.reduceSub, Nat.reduceAdd, Nat.reduceMul, Nat.reduceLT, Nat.reduceLeDiff, Nat.reduceEqDiff, Nat.reduceDiv, Nat.reduceMod, Int.reduceToNat, Int.reduceLE, Int.reduceLT, Int.reduceBEq, Int.reduceBNe, Int.reduceNeg, Int.reduceAdd, Int.reduceSub, Int.reduceMul, reduceCtorEq, *]) | (refine guardT.splitT (fun _ => ?_) (fun _ => ?_) <;> simp -implicitDefEqProofs -dsimp only [go_sem, Nat.reduceSub, Nat.reduceAdd, Nat.reduceMul, Nat.reduceLT, Nat.reduceLeDiff, Nat.reduceEqDiff, Nat.reduceDiv, Nat.reduceMod, Int.reduceToNat, Int.reduceLE, Int.reduceLT, Int.reduceBEq, Int.reduceBNe, Int.reduceNeg, Int.reduceAdd, Int.reduceSub, Int.reduceMul, reduceCtorEq, *]) | (refine guardT.splitF (fun _ => ?_) (fun _ => ?_) <;> simp -implicitDefEqProofs -dsimp only [go_sem, Nat.reduceSub, Nat.reduceAdd, Nat.reduceMul, Nat.reduceLT, Nat.reduceLeDiff, Nat.reduceEqDiff, Nat.reduceDiv, Nat.reduceMod, Int.reduceToNat, Int.reduceLE, Int.reduceLT, Int.reduceBEq, Int.reduceBNe, Int.reduceNeg, Int.reduceAdd, Int.reduceSub, Int.reduceMul, reduceCtorEq, *]) | (refine condT.split (fun _ => ?_) (fun _ => ?_) <;> simp -implicitDefEqProofs -dsimp only [go_sem, Nat.reduceSub, Nat.reduceAdd, Nat.reduceMul, Nat.reduceLT, Nat.reduceLeDiff, Nat.reduceEqDiff, Nat.reduceDiv, Nat.reduceMod, Int.reduceToNat, Int.reduceLE, Int.reduceLT, Int.reduceBEq, Int.reduceBNe, Int.reduceNeg, Int.reduceAdd, Int.reduceSub, Int.reduceMul, reduceCtorEq, *]))
theorem isStationId_ok (n : Int) : Ctr Tryd.prog 87 [.int .i64 n] [] (.bool (inB' n 1 99)) [] := by
  refine Ctr.intro Tryd.mixed Tryd.func87 rfl Tryd.okF87 ?_
  simp -implicitDefEqProofs -dsimp only [go_sem, Nat.reduceSub, Nat.reduceAdd, Nat.reduceMul, Nat.reduceLT, Nat.reduceLeDiff, Nat.reduceEqDiff, Nat.reduceDiv, Nat.reduceMod, Int.reduceToNat, Int.reduceLE, Int.reduceLT, Int.reduceBEq, Int.reduceBNe, Int.reduceNeg, Int.reduceAdd, Int.reduceSub, Int.reduceMul, reduceCtorEq, Tryd.ntmps87, Tryd.results87]
  repeat' (first | (refine WeakR.drop' ?_ (by rfl); first | rfl | (simp [placeB, *]; done)) | ((first | refine callT.at (in_ok _ _ _) ⟨leA, leA, leA, trivial⟩ ?_ | refine callS.at (in_ok _ _ _) ⟨leA, leA, leA, trivial⟩ ?_); simp -implicitDefEqProofs -dsimp only [go_sem, Nat.reduceSub, Nat.reduceAdd, Nat.reduceMul, Nat.reduceLT, Nat.reduceLeDiff, Nat.reduceEqDiff, Nat.reduceDiv, Nat.reduceMod, Int.reduceToNat, Int.reduceLE, Int.reduceLT, Int.reduceBEq, Int.reduceBNe, Int.reduceNeg, Int.reduceAdd, Int.reduceSub, Int.reduceMul, reduceCtorEq, *]) | (refine guardT.splitT (fun _ => ?_) (fun _ => ?_) <;> simp -implicitDefEqProofs -dsimp only [go_sem, Nat.reduceSub, Nat.reduceAdd, Nat.reduceMul, Nat.reduceLT, Nat.reduceLeDiff, Nat.reduceEqDiff, Nat.reduceDiv, Nat.reduceMod, Int.reduceToNat, Int.reduceLE, Int.reduceLT, Int.reduceBEq, Int.reduceBNe, Int.reduceNeg, Int.reduceAdd, Int.reduceSub, Int.reduceMul, reduceCtorEq, *]) | (refine guardT.splitF (fun _ => ?_) (fun _ => ?_) <;> simp -implicitDefEqProofs -dsimp only [go_sem, Nat.reduceSub, Nat.reduceAdd, Nat.reduceMul, Nat.reduceLT, Nat.reduceLeDiff, Nat.reduceEqDiff, Nat.reduceDiv, Nat.reduceMod, Int.reduceToNat, Int.reduceLE, Int.reduceLT, Int.reduceBEq, Int.reduceBNe, Int.reduceNeg, Int.reduceAdd, Int.reduceSub, Int.reduceMul, reduceCtorEq, *]) | (refine condT.split (fun _ => ?_) (fun _ => ?_) <;> simp -implicitDefEqProofs -dsimp only [go_sem, Nat.reduceSub, Nat.reduceAdd, Nat.reduceMul, Nat.reduceLT, Nat.reduceLeDiff, Nat.reduceEqDiff, Nat.reduceDiv, Nat.reduceMod, Int.reduceToNat, Int.reduceLE, Int.reduceLT, Int.reduceBEq, Int.reduceBNe, Int.reduceNeg, Int.reduceAdd, Int.reduceSub, Int.reduceMul, reduceCtorEq, *]))
theorem isQuakeSize_ok (n : Int) : Ctr Tryd.prog 89 [.int .i64 n] [] (.bool (inB' n (-20) 95)) [] := by
  refine Ctr.intro Tryd.mixed Tryd.func89 rfl Tryd.okF89 ?_
  simp -implicitDefEqProofs -dsimp only [go_sem, Nat.reduceSub, Nat.reduceAdd, Nat.reduceMul, Nat.reduceLT, Nat.reduceLeDiff, Nat.reduceEqDiff, Nat.reduceDiv, Nat.reduceMod, Int.reduceToNat, Int.reduceLE, Int.reduceLT, Int.reduceBEq, Int.reduceBNe, Int.reduceNeg, Int.reduceAdd, Int.reduceSub, Int.reduceMul, reduceCtorEq, Tryd.ntmps89, Tryd.results89]
  repeat' (first | (refine WeakR.drop' ?_ (by rfl); first | rfl | (simp [placeB, *]; done)) | ((first | refine callT.at (in_ok _ _ _) ⟨leA, leA, leA, trivial⟩ ?_ | refine callS.at (in_ok _ _ _) ⟨leA, leA, leA, trivial⟩ ?_); simp -implicitDefEqProofs -dsimp only [go_sem, Nat.reduceSub, Nat.reduceAdd, Nat.reduceMul, Nat.reduceLT, Nat.reduceLeDiff, Nat.reduceEqDiff, Nat.reduceDiv, Nat.reduceMod, Int.reduceToNat, Int.reduceLE, Int.reduceLT, Int.reduceBEq, Int.reduceBNe, Int.reduceNeg, Int.reduceAdd, Int.reduceSub, Int.reduceMul, reduceCtorEq, *]) | (refine guardT.splitT (fun _ => ?_) (fun _ => ?_) <;> simp -implicitDefEqProofs -dsimp only [go_sem, Nat.reduceSub, Nat.reduceAdd, Nat.reduceMul, Nat.reduceLT, Nat.reduceLeDiff, Nat.reduceEqDiff, Nat.reduceDiv, Nat.reduceMod, Int.reduceToNat, Int.reduceLE, Int.reduceLT, Int.reduceBEq, Int.reduceBNe, Int.reduceNeg, Int.reduceAdd, Int.reduceSub, Int.reduceMul, reduceCtorEq, *]) | (refine guardT.splitF (fun _ => ?_) (fun _ => ?_) <;> simp -implicitDefEqProofs -dsimp only [go_sem, Nat.reduceSub, Nat.reduceAdd, Nat.reduceMul, Nat.reduceLT, Nat.reduceLeDiff, Nat.reduceEqDiff, Nat.reduceDiv, Nat.reduceMod, Int.reduceToNat, Int.reduceLE, Int.reduceLT, Int.reduceBEq, Int.reduceBNe, Int.reduceNeg, Int.reduceAdd, Int.reduceSub, Int.reduceMul, reduceCtorEq, *]) | (refine condT.split (fun _ => ?_) (fun _ => ?_) <;> simp -implicitDefEqProofs -dsimp only [go_sem, Nat.reduceSub, Nat.reduceAdd, Nat.reduceMul, Nat.reduceLT, Nat.reduceLeDiff, Nat.reduceEqDiff, Nat.reduceDiv, Nat.reduceMod, Int.reduceToNat, Int.reduceLE, Int.reduceLT, Int.reduceBEq, Int.reduceBNe, Int.reduceNeg, Int.reduceAdd, Int.reduceSub, Int.reduceMul, reduceCtorEq, *]))
end Go.Proofs
end
section
set_option linter.unusedSimpArgs false
set_option linter.unusedVariables false
set_option maxRecDepth 100000
namespace Go.Proofs
open Go.Lv
def postB (now : Int) (p : Post) : Bool := inB' p.Station 1 99 && inB' p.Since 0 now
def shockB (next now : Int) (x : Shock) : Bool := inB' x.Number 1 (next - 1) && inB' x.State 0 3 && inB' x.Seen 0 8 && inB' x.Size (-20) 95 && (x.State != 0 || x.Size == 0) && inB' x.Tick 0 now
def countsB (w : Watch) : Bool := inB' w.Now 0 1000000 && inB' w.Next 1 999 && inB' w.Archived 0 999
def wB (w : Watch) : Bool := countsB w && listedB (postB w.Now) Post.Station 8 w.Posts && listedB (shockB w.Next w.Now) Shock.Number 6 w.Shocks
theorem countsB_iff {w : Watch} : countsB w = true ↔ (0 ≤ w.Now ∧ w.Now ≤ 1000000) ∧ (1 ≤ w.Next ∧ w.Next ≤ 999) ∧ 0 ≤ w.Archived ∧ w.Archived ≤ 999 := by simp [countsB, inB', and_assoc]
theorem shockB_iff {next now : Int} {x : Shock} : shockB next now x = true ↔ (1 ≤ x.Number ∧ x.Number ≤ next - 1) ∧ (0 ≤ x.State ∧ x.State ≤ 3) ∧ (0 ≤ x.Seen ∧ x.Seen ≤ 8) ∧ (-20 ≤ x.Size ∧ x.Size ≤ 95) ∧ (x.State ≠ 0 ∨ x.Size = 0) ∧ 0 ≤ x.Tick ∧ x.Tick ≤ now := by
  simp [shockB, inB', and_assoc]
structure WatchOk (w : Watch) : Prop where
  now : 0 ≤ w.Now ∧ w.Now ≤ 1000000
  next : 1 ≤ w.Next ∧ w.Next ≤ 999
  arch : 0 ≤ w.Archived ∧ w.Archived ≤ 999
  posts : ∀ p ∈ w.Posts, postB w.Now p = true
  plen : w.Posts.length ≤ 8
  shocks : ∀ x ∈ w.Shocks, shockB w.Next w.Now x = true
  slen : w.Shocks.length ≤ 6
  pasc : (w.Posts.map Post.Station).Pairwise (· < ·)
  sasc : (w.Shocks.map Shock.Number).Pairwise (· < ·)
theorem wB_ok {w : Watch} (h : wB w = true) : WatchOk w := by
  simp only [wB, Bool.and_eq_true] at h
  obtain ⟨⟨h1, h2⟩, h3⟩ := h
  obtain ⟨a, b, c⟩ := countsB_iff.1 h1
  obtain ⟨d, e⟩ := listedB_all h2
  obtain ⟨f, g⟩ := listedB_all h3
  exact ⟨a, b, c, d, e, f, g, listedB_lt h2, listedB_lt h3⟩
theorem isPost_ok (w : Watch) (p : Post) : Ctr Tryd.prog 86 [p.v, .pt w.cs] [] (.bool (postB w.Now p)) [] := by
  refine Ctr.intro Tryd.mixed Tryd.func86 rfl Tryd.okF86 ?_
  simp -implicitDefEqProofs -dsimp only [go_sem, Nat.reduceSub, Nat.reduceAdd, Nat.reduceMul, Nat.reduceLT, Nat.reduceLeDiff, Nat.reduceEqDiff, Nat.reduceDiv, Nat.reduceMod, Int.reduceToNat, Int.reduceLE, Int.reduceLT, Int.reduceBEq, Int.reduceBNe, Int.reduceNeg, Int.reduceAdd, Int.reduceSub, Int.reduceMul, reduceCtorEq, Tryd.ntmps86, Tryd.results86]
  simp -implicitDefEqProofs -dsimp only [go_sem, Nat.reduceSub, Nat.reduceAdd, Nat.reduceMul, Nat.reduceLT, Nat.reduceLeDiff, Nat.reduceEqDiff, Nat.reduceDiv, Nat.reduceMod, Int.reduceToNat, Int.reduceLE, Int.reduceLT, Int.reduceBEq, Int.reduceBNe, Int.reduceNeg, Int.reduceAdd, Int.reduceSub, Int.reduceMul, reduceCtorEq, Post.v, Watch.cs]
  repeat' (first | (refine WeakR.drop' ?_ (by rfl); first | rfl | (simp [postB, *]; done)) | ((first | refine callT.at (in_ok _ _ _) ⟨leA, leA, leA, trivial⟩ ?_ | refine callS.at (in_ok _ _ _) ⟨leA, leA, leA, trivial⟩ ?_); simp -implicitDefEqProofs -dsimp only [go_sem, Nat.reduceSub, Nat.reduceAdd, Nat.reduceMul, Nat.reduceLT, Nat.reduceLeDiff, Nat.reduceEqDiff, Nat.reduceDiv, Nat.reduceMod, Int.reduceToNat, Int.reduceLE, Int.reduceLT, Int.reduceBEq, Int.reduceBNe, Int.reduceNeg, Int.reduceAdd, Int.reduceSub, Int.reduceMul, reduceCtorEq, *]) | ((first | refine callT.at (isStationId_ok _) ⟨leA, trivial⟩ ?_ | refine callS.at (isStationId_ok _) ⟨leA, trivial⟩ ?_); simp -implicitDefEqProofs -dsimp only [go_sem, Nat.reduceSub, Nat.reduceAdd, Nat.reduceMul, Nat.reduceLT, Nat.reduceLeDiff, Nat.reduceEqDiff, Nat.reduceDiv, Nat.reduceMod, Int.reduceToNat, Int.reduceLE, Int.reduceLT, Int.reduceBEq, Int.reduceBNe, Int.reduceNeg, Int.reduceAdd, Int.reduceSub, Int.reduceMul, reduceCtorEq, *]) | (refine guardT.splitT (fun _ => ?_) (fun _ => ?_) <;> simp -implicitDefEqProofs -dsimp only [go_sem, Nat.reduceSub, Nat.reduceAdd, Nat.reduceMul, Nat.reduceLT, Nat.reduceLeDiff, Nat.reduceEqDiff, Nat.reduceDiv, Nat.reduceMod, Int.reduceToNat, Int.reduceLE, Int.reduceLT, Int.reduceBEq, Int.reduceBNe, Int.reduceNeg, Int.reduceAdd, Int.reduceSub, Int.reduceMul, reduceCtorEq, *]) | (refine guardT.splitF (fun _ => ?_) (fun _ => ?_) <;> simp -implicitDefEqProofs -dsimp only [go_sem, Nat.reduceSub, Nat.reduceAdd, Nat.reduceMul, Nat.reduceLT, Nat.reduceLeDiff, Nat.reduceEqDiff, Nat.reduceDiv, Nat.reduceMod, Int.reduceToNat, Int.reduceLE, Int.reduceLT, Int.reduceBEq, Int.reduceBNe, Int.reduceNeg, Int.reduceAdd, Int.reduceSub, Int.reduceMul, reduceCtorEq, *]) | (refine condT.split (fun _ => ?_) (fun _ => ?_) <;> simp -implicitDefEqProofs -dsimp only [go_sem, Nat.reduceSub, Nat.reduceAdd, Nat.reduceMul, Nat.reduceLT, Nat.reduceLeDiff, Nat.reduceEqDiff, Nat.reduceDiv, Nat.reduceMod, Int.reduceToNat, Int.reduceLE, Int.reduceLT, Int.reduceBEq, Int.reduceBNe, Int.reduceNeg, Int.reduceAdd, Int.reduceSub, Int.reduceMul, reduceCtorEq, *]))
theorem isShock_ok (w : Watch) (hw : 1 ≤ w.Next ∧ w.Next ≤ 999) (x : Shock) : Ctr Tryd.prog 88 [x.v, .pt w.cs] [] (.bool (shockB w.Next w.Now x)) [] := by
  refine Ctr.intro Tryd.mixed Tryd.func88 rfl Tryd.okF88 ?_
  simp -implicitDefEqProofs -dsimp only [go_sem, Nat.reduceSub, Nat.reduceAdd, Nat.reduceMul, Nat.reduceLT, Nat.reduceLeDiff, Nat.reduceEqDiff, Nat.reduceDiv, Nat.reduceMod, Int.reduceToNat, Int.reduceLE, Int.reduceLT, Int.reduceBEq, Int.reduceBNe, Int.reduceNeg, Int.reduceAdd, Int.reduceSub, Int.reduceMul, reduceCtorEq, Tryd.ntmps88, Tryd.results88]
  simp -implicitDefEqProofs -dsimp only [go_sem, Nat.reduceSub, Nat.reduceAdd, Nat.reduceMul, Nat.reduceLT, Nat.reduceLeDiff, Nat.reduceEqDiff, Nat.reduceDiv, Nat.reduceMod, Int.reduceToNat, Int.reduceLE, Int.reduceLT, Int.reduceBEq, Int.reduceBNe, Int.reduceNeg, Int.reduceAdd, Int.reduceSub, Int.reduceMul, reduceCtorEq, Shock.v, Watch.cs]
  have hw1 : IntKind.i64.wrap (w.Next - 1) = w.Next - 1 := wrap_i64 (by omega) (by omega)
  repeat' (first | (refine WeakR.drop' ?_ (by rfl); first | rfl | (simp [shockB, *]; done)) | ((first | refine callT.at (in_ok _ _ _) ⟨leA, leA, leA, trivial⟩ ?_ | refine callS.at (in_ok _ _ _) ⟨leA, leA, leA, trivial⟩ ?_); simp -implicitDefEqProofs -dsimp only [go_sem, Nat.reduceSub, Nat.reduceAdd, Nat.reduceMul, Nat.reduceLT, Nat.reduceLeDiff, Nat.reduceEqDiff, Nat.reduceDiv, Nat.reduceMod, Int.reduceToNat, Int.reduceLE, Int.reduceLT, Int.reduceBEq, Int.reduceBNe, Int.reduceNeg, Int.reduceAdd, Int.reduceSub, Int.reduceMul, reduceCtorEq, *]) | ((first | refine callT.at (isQuakeSize_ok _) ⟨leA, trivial⟩ ?_ | refine callS.at (isQuakeSize_ok _) ⟨leA, trivial⟩ ?_); simp -implicitDefEqProofs -dsimp only [go_sem, Nat.reduceSub, Nat.reduceAdd, Nat.reduceMul, Nat.reduceLT, Nat.reduceLeDiff, Nat.reduceEqDiff, Nat.reduceDiv, Nat.reduceMod, Int.reduceToNat, Int.reduceLE, Int.reduceLT, Int.reduceBEq, Int.reduceBNe, Int.reduceNeg, Int.reduceAdd, Int.reduceSub, Int.reduceMul, reduceCtorEq, *]) | (refine guardT.splitT (fun _ => ?_) (fun _ => ?_) <;> simp -implicitDefEqProofs -dsimp only [go_sem, Nat.reduceSub, Nat.reduceAdd, Nat.reduceMul, Nat.reduceLT, Nat.reduceLeDiff, Nat.reduceEqDiff, Nat.reduceDiv, Nat.reduceMod, Int.reduceToNat, Int.reduceLE, Int.reduceLT, Int.reduceBEq, Int.reduceBNe, Int.reduceNeg, Int.reduceAdd, Int.reduceSub, Int.reduceMul, reduceCtorEq, *]) | (refine guardT.splitF (fun _ => ?_) (fun _ => ?_) <;> simp -implicitDefEqProofs -dsimp only [go_sem, Nat.reduceSub, Nat.reduceAdd, Nat.reduceMul, Nat.reduceLT, Nat.reduceLeDiff, Nat.reduceEqDiff, Nat.reduceDiv, Nat.reduceMod, Int.reduceToNat, Int.reduceLE, Int.reduceLT, Int.reduceBEq, Int.reduceBNe, Int.reduceNeg, Int.reduceAdd, Int.reduceSub, Int.reduceMul, reduceCtorEq, *]))
theorem stationOf_ok (p : Post) : Ctr Tryd.prog 92 [p.v] [] (.int .i64 p.Station) [] := by
  refine Ctr.intro Tryd.mixed Tryd.func92 rfl Tryd.okF92 ?_
  simp -implicitDefEqProofs -dsimp only [go_sem, Nat.reduceSub, Nat.reduceAdd, Nat.reduceMul, Nat.reduceLT, Nat.reduceLeDiff, Nat.reduceEqDiff, Nat.reduceDiv, Nat.reduceMod, Int.reduceToNat, Int.reduceLE, Int.reduceLT, Int.reduceBEq, Int.reduceBNe, Int.reduceNeg, Int.reduceAdd, Int.reduceSub, Int.reduceMul, reduceCtorEq, Tryd.ntmps92, Tryd.results92]
  simp -implicitDefEqProofs -dsimp only [go_sem, Nat.reduceSub, Nat.reduceAdd, Nat.reduceMul, Nat.reduceLT, Nat.reduceLeDiff, Nat.reduceEqDiff, Nat.reduceDiv, Nat.reduceMod, Int.reduceToNat, Int.reduceLE, Int.reduceLT, Int.reduceBEq, Int.reduceBNe, Int.reduceNeg, Int.reduceAdd, Int.reduceSub, Int.reduceMul, reduceCtorEq, Post.v]
  exact WeakR.drop' rfl (by rfl)
theorem numberOf_ok (x : Shock) : Ctr Tryd.prog 94 [x.v] [] (.int .i64 x.Number) [] := by
  refine Ctr.intro Tryd.mixed Tryd.func94 rfl Tryd.okF94 ?_
  simp -implicitDefEqProofs -dsimp only [go_sem, Nat.reduceSub, Nat.reduceAdd, Nat.reduceMul, Nat.reduceLT, Nat.reduceLeDiff, Nat.reduceEqDiff, Nat.reduceDiv, Nat.reduceMod, Int.reduceToNat, Int.reduceLE, Int.reduceLT, Int.reduceBEq, Int.reduceBNe, Int.reduceNeg, Int.reduceAdd, Int.reduceSub, Int.reduceMul, reduceCtorEq, Tryd.ntmps94, Tryd.results94]
  simp -implicitDefEqProofs -dsimp only [go_sem, Nat.reduceSub, Nat.reduceAdd, Nat.reduceMul, Nat.reduceLT, Nat.reduceLeDiff, Nat.reduceEqDiff, Nat.reduceDiv, Nat.reduceMod, Int.reduceToNat, Int.reduceLE, Int.reduceLT, Int.reduceBEq, Int.reduceBNe, Int.reduceNeg, Int.reduceAdd, Int.reduceSub, Int.reduceMul, reduceCtorEq, Shock.v]
  exact WeakR.drop' rfl (by rfl)
theorem iIsWatch_ok (w : Watch) (hp : w.Posts.length ≤ 281474976710656) (hs : w.Shocks.length ≤ 281474976710656) : Ctr Tryd.prog 61 [w.v] [] (.bool (wB w)) [] := by
  refine Ctr.intro Tryd.mixed Tryd.func61 rfl Tryd.okF61 ?_
  simp -implicitDefEqProofs -dsimp only [go_sem, Nat.reduceSub, Nat.reduceAdd, Nat.reduceMul, Nat.reduceLT, Nat.reduceLeDiff, Nat.reduceEqDiff, Nat.reduceDiv, Nat.reduceMod, Int.reduceToNat, Int.reduceLE, Int.reduceLT, Int.reduceBEq, Int.reduceBNe, Int.reduceNeg, Int.reduceAdd, Int.reduceSub, Int.reduceMul, reduceCtorEq, Tryd.ntmps61, Tryd.results61]
  simp -implicitDefEqProofs -dsimp only [go_sem, Nat.reduceSub, Nat.reduceAdd, Nat.reduceMul, Nat.reduceLT, Nat.reduceLeDiff, Nat.reduceEqDiff, Nat.reduceDiv, Nat.reduceMod, Int.reduceToNat, Int.reduceLE, Int.reduceLT, Int.reduceBEq, Int.reduceBNe, Int.reduceNeg, Int.reduceAdd, Int.reduceSub, Int.reduceMul, reduceCtorEq, Watch.v]
  have fin : ∀ b, b = wB w → WeakR 0 (.bool b) [some w.cs] (.bool (wB w)) [] := fun b h => WeakR.drop' (by rw [h]) (by rfl)
  (first | refine callT.at (isTick_ok _) ⟨leA, trivial⟩ ?_ | refine callS.at (isTick_ok _) ⟨leA, trivial⟩ ?_)
  simp -implicitDefEqProofs -dsimp only [go_sem, Nat.reduceSub, Nat.reduceAdd, Nat.reduceMul, Nat.reduceLT, Nat.reduceLeDiff, Nat.reduceEqDiff, Nat.reduceDiv, Nat.reduceMod, Int.reduceToNat, Int.reduceLE, Int.reduceLT, Int.reduceBEq, Int.reduceBNe, Int.reduceNeg, Int.reduceAdd, Int.reduceSub, Int.reduceMul, reduceCtorEq]
  refine guardT.splitT (fun h1 => ?_) (fun h1 => ?_) <;> simp -implicitDefEqProofs -dsimp only [go_sem, Nat.reduceSub, Nat.reduceAdd, Nat.reduceMul, Nat.reduceLT, Nat.reduceLeDiff, Nat.reduceEqDiff, Nat.reduceDiv, Nat.reduceMod, Int.reduceToNat, Int.reduceLE, Int.reduceLT, Int.reduceBEq, Int.reduceBNe, Int.reduceNeg, Int.reduceAdd, Int.reduceSub, Int.reduceMul, reduceCtorEq, h1]
  rotate_left
  · exact WeakR.drop' (by simp [wB, countsB, h1]) (by rfl)
  (first | refine callT.at (in_ok _ _ _) ⟨leA, leA, leA, trivial⟩ ?_ | refine callS.at (in_ok _ _ _) ⟨leA, leA, leA, trivial⟩ ?_)
  simp -implicitDefEqProofs -dsimp only [go_sem, Nat.reduceSub, Nat.reduceAdd, Nat.reduceMul, Nat.reduceLT, Nat.reduceLeDiff, Nat.reduceEqDiff, Nat.reduceDiv, Nat.reduceMod, Int.reduceToNat, Int.reduceLE, Int.reduceLT, Int.reduceBEq, Int.reduceBNe, Int.reduceNeg, Int.reduceAdd, Int.reduceSub, Int.reduceMul, reduceCtorEq, h1]
  refine guardT.splitT (fun h2 => ?_) (fun h2 => ?_) <;> simp -implicitDefEqProofs -dsimp only [go_sem, Nat.reduceSub, Nat.reduceAdd, Nat.reduceMul, Nat.reduceLT, Nat.reduceLeDiff, Nat.reduceEqDiff, Nat.reduceDiv, Nat.reduceMod, Int.reduceToNat, Int.reduceLE, Int.reduceLT, Int.reduceBEq, Int.reduceBNe, Int.reduceNeg, Int.reduceAdd, Int.reduceSub, Int.reduceMul, reduceCtorEq, h1, h2]
  rotate_left
  · exact WeakR.drop' (by simp [wB, countsB, h1, h2]) (by rfl)
  (first | refine callT.at (in_ok _ _ _) ⟨leA, leA, leA, trivial⟩ ?_ | refine callS.at (in_ok _ _ _) ⟨leA, leA, leA, trivial⟩ ?_)
  simp -implicitDefEqProofs -dsimp only [go_sem, Nat.reduceSub, Nat.reduceAdd, Nat.reduceMul, Nat.reduceLT, Nat.reduceLeDiff, Nat.reduceEqDiff, Nat.reduceDiv, Nat.reduceMod, Int.reduceToNat, Int.reduceLE, Int.reduceLT, Int.reduceBEq, Int.reduceBNe, Int.reduceNeg, Int.reduceAdd, Int.reduceSub, Int.reduceMul, reduceCtorEq, h1, h2]
  refine guardT.splitT (fun h3 => ?_) (fun h3 => ?_) <;> simp -implicitDefEqProofs -dsimp only [go_sem, Nat.reduceSub, Nat.reduceAdd, Nat.reduceMul, Nat.reduceLT, Nat.reduceLeDiff, Nat.reduceEqDiff, Nat.reduceDiv, Nat.reduceMod, Int.reduceToNat, Int.reduceLE, Int.reduceLT, Int.reduceBEq, Int.reduceBNe, Int.reduceNeg, Int.reduceAdd, Int.reduceSub, Int.reduceMul, reduceCtorEq, h1, h2, h3]
  rotate_left
  · exact WeakR.drop' (by simp [wB, countsB, h1, h2, h3]) (by rfl)
  have hc : countsB w = true := by simp [countsB, h1, h2, h3]
  have hw := (countsB_iff.1 hc).2.1
  (first | refine callT.at (areListedPost_ok w.Posts (postB w.Now) Post.Station 8 _ _ [.pt w.cs] [] (fun d => by cases d <;> rfl) (fun _ => rfl) (fun x => isPost_ok w x) stationOf_ok 8 rfl hp) ⟨leA, leA, leA, leA, trivial⟩ ?_ | refine callS.at (areListedPost_ok w.Posts (postB w.Now) Post.Station 8 _ _ [.pt w.cs] [] (fun d => by cases d <;> rfl) (fun _ => rfl) (fun x => isPost_ok w x) stationOf_ok 8 rfl hp) ⟨leA, leA, leA, leA, trivial⟩ ?_)
  simp -implicitDefEqProofs -dsimp only [go_sem, Nat.reduceSub, Nat.reduceAdd, Nat.reduceMul, Nat.reduceLT, Nat.reduceLeDiff, Nat.reduceEqDiff, Nat.reduceDiv, Nat.reduceMod, Int.reduceToNat, Int.reduceLE, Int.reduceLT, Int.reduceBEq, Int.reduceBNe, Int.reduceNeg, Int.reduceAdd, Int.reduceSub, Int.reduceMul, reduceCtorEq, h1, h2, h3]
  refine guardT.splitT (fun h4 => ?_) (fun h4 => ?_) <;> simp -implicitDefEqProofs -dsimp only [go_sem, Nat.reduceSub, Nat.reduceAdd, Nat.reduceMul, Nat.reduceLT, Nat.reduceLeDiff, Nat.reduceEqDiff, Nat.reduceDiv, Nat.reduceMod, Int.reduceToNat, Int.reduceLE, Int.reduceLT, Int.reduceBEq, Int.reduceBNe, Int.reduceNeg, Int.reduceAdd, Int.reduceSub, Int.reduceMul, reduceCtorEq, h1, h2, h3, h4]
  rotate_left
  · exact WeakR.drop' (by simp [wB, hc, h4]) (by rfl)
  (first | refine callT.at (areListedShock_ok w.Shocks (shockB w.Next w.Now) Shock.Number 6 _ _ [.pt w.cs] [] (fun d => by cases d <;> rfl) (fun _ => rfl) (fun x => isShock_ok w hw x) numberOf_ok 6 rfl hs) ⟨leA, leA, leA, leA, trivial⟩ ?_ | refine callS.at (areListedShock_ok w.Shocks (shockB w.Next w.Now) Shock.Number 6 _ _ [.pt w.cs] [] (fun d => by cases d <;> rfl) (fun _ => rfl) (fun x => isShock_ok w hw x) numberOf_ok 6 rfl hs) ⟨leA, leA, leA, leA, trivial⟩ ?_)
  simp -implicitDefEqProofs -dsimp only [go_sem, Nat.reduceSub, Nat.reduceAdd, Nat.reduceMul, Nat.reduceLT, Nat.reduceLeDiff, Nat.reduceEqDiff, Nat.reduceDiv, Nat.reduceMod, Int.reduceToNat, Int.reduceLE, Int.reduceLT, Int.reduceBEq, Int.reduceBNe, Int.reduceNeg, Int.reduceAdd, Int.reduceSub, Int.reduceMul, reduceCtorEq, h1, h2, h3, h4]
  exact WeakR.drop' (by simp [wB, hc, h4]) (by rfl)
theorem listedB_of {α : Type} {p : α → Bool} {k : α → Int} {m : Nat} {L : List α} (h : (List.range L.length).all (listedQ p k L) = true) (hm : L.length ≤ m) : listedB p k m L = true := by
  simp [listedB, h, hm]
theorem l25Shock_ok (w : Watch) (hw : 1 ≤ w.Next ∧ w.Next ≤ 999) (x : Shock) : Ctr Tryd.prog 106 [w.v, x.v] [] (.bool (shockB w.Next w.Now x)) [] := by
  refine Ctr.intro Tryd.mixed Tryd.func106 rfl Tryd.okF106 ?_
  simp -implicitDefEqProofs -dsimp only [go_sem, Nat.reduceSub, Nat.reduceAdd, Nat.reduceMul, Nat.reduceLT, Nat.reduceLeDiff, Nat.reduceEqDiff, Nat.reduceDiv, Nat.reduceMod, Int.reduceToNat, Int.reduceLE, Int.reduceLT, Int.reduceBEq, Int.reduceBNe, Int.reduceNeg, Int.reduceAdd, Int.reduceSub, Int.reduceMul, reduceCtorEq, Tryd.ntmps106, Tryd.results106]
  simp -implicitDefEqProofs -dsimp only [go_sem, Nat.reduceSub, Nat.reduceAdd, Nat.reduceMul, Nat.reduceLT, Nat.reduceLeDiff, Nat.reduceEqDiff, Nat.reduceDiv, Nat.reduceMod, Int.reduceToNat, Int.reduceLE, Int.reduceLT, Int.reduceBEq, Int.reduceBNe, Int.reduceNeg, Int.reduceAdd, Int.reduceSub, Int.reduceMul, reduceCtorEq, Shock.v, Watch.v]
  have hw1 : IntKind.i64.wrap (w.Next - 1) = w.Next - 1 := wrap_i64 (by omega) (by omega)
  repeat' (first | (refine WeakR.drop' ?_ (by rfl); first | rfl | (simp [shockB, *]; done)) | ((first | refine callT.at (l1In_ok _ _ _) ⟨leA, leA, leA, trivial⟩ ?_ | refine callS.at (l1In_ok _ _ _) ⟨leA, leA, leA, trivial⟩ ?_); simp -implicitDefEqProofs -dsimp only [go_sem, Nat.reduceSub, Nat.reduceAdd, Nat.reduceMul, Nat.reduceLT, Nat.reduceLeDiff, Nat.reduceEqDiff, Nat.reduceDiv, Nat.reduceMod, Int.reduceToNat, Int.reduceLE, Int.reduceLT, Int.reduceBEq, Int.reduceBNe, Int.reduceNeg, Int.reduceAdd, Int.reduceSub, Int.reduceMul, reduceCtorEq, *]) | (refine guardT.splitT (fun _ => ?_) (fun _ => ?_) <;> simp -implicitDefEqProofs -dsimp only [go_sem, Nat.reduceSub, Nat.reduceAdd, Nat.reduceMul, Nat.reduceLT, Nat.reduceLeDiff, Nat.reduceEqDiff, Nat.reduceDiv, Nat.reduceMod, Int.reduceToNat, Int.reduceLE, Int.reduceLT, Int.reduceBEq, Int.reduceBNe, Int.reduceNeg, Int.reduceAdd, Int.reduceSub, Int.reduceMul, reduceCtorEq, *]) | (refine guardT.splitF (fun _ => ?_) (fun _ => ?_) <;> simp -implicitDefEqProofs -dsimp only [go_sem, Nat.reduceSub, Nat.reduceAdd, Nat.reduceMul, Nat.reduceLT, Nat.reduceLeDiff, Nat.reduceEqDiff, Nat.reduceDiv, Nat.reduceMod, Int.reduceToNat, Int.reduceLE, Int.reduceLT, Int.reduceBEq, Int.reduceBNe, Int.reduceNeg, Int.reduceAdd, Int.reduceSub, Int.reduceMul, reduceCtorEq, *]))
theorem l25Good_ok (w : Watch) (hp : w.Posts.length ≤ 281474976710656) (hs : w.Shocks.length ≤ 281474976710656) : Ctr Tryd.prog 83 [w.v] [] (.bool (wB w)) [] := by
  refine Ctr.intro Tryd.mixed Tryd.func83 rfl Tryd.okF83 ?_
  simp -implicitDefEqProofs -dsimp only [go_sem, Nat.reduceSub, Nat.reduceAdd, Nat.reduceMul, Nat.reduceLT, Nat.reduceLeDiff, Nat.reduceEqDiff, Nat.reduceDiv, Nat.reduceMod, Int.reduceToNat, Int.reduceLE, Int.reduceLT, Int.reduceBEq, Int.reduceBNe, Int.reduceNeg, Int.reduceAdd, Int.reduceSub, Int.reduceMul, reduceCtorEq, Tryd.ntmps83, Tryd.results83]
  simp -implicitDefEqProofs -dsimp only [go_sem, Nat.reduceSub, Nat.reduceAdd, Nat.reduceMul, Nat.reduceLT, Nat.reduceLeDiff, Nat.reduceEqDiff, Nat.reduceDiv, Nat.reduceMod, Int.reduceToNat, Int.reduceLE, Int.reduceLT, Int.reduceBEq, Int.reduceBNe, Int.reduceNeg, Int.reduceAdd, Int.reduceSub, Int.reduceMul, reduceCtorEq, Watch.v]
  (first | refine callT.at (l2Tick_ok _) ⟨leA, trivial⟩ ?_ | refine callS.at (l2Tick_ok _) ⟨leA, trivial⟩ ?_)
  simp -implicitDefEqProofs -dsimp only [go_sem, Nat.reduceSub, Nat.reduceAdd, Nat.reduceMul, Nat.reduceLT, Nat.reduceLeDiff, Nat.reduceEqDiff, Nat.reduceDiv, Nat.reduceMod, Int.reduceToNat, Int.reduceLE, Int.reduceLT, Int.reduceBEq, Int.reduceBNe, Int.reduceNeg, Int.reduceAdd, Int.reduceSub, Int.reduceMul, reduceCtorEq]
  refine guardT.splitF (fun h1 => ?_) (fun h1 => ?_) <;> simp -implicitDefEqProofs -dsimp only [go_sem, Nat.reduceSub, Nat.reduceAdd, Nat.reduceMul, Nat.reduceLT, Nat.reduceLeDiff, Nat.reduceEqDiff, Nat.reduceDiv, Nat.reduceMod, Int.reduceToNat, Int.reduceLE, Int.reduceLT, Int.reduceBEq, Int.reduceBNe, Int.reduceNeg, Int.reduceAdd, Int.reduceSub, Int.reduceMul, reduceCtorEq, h1]
  rotate_left
  · exact WeakR.drop' (by simp at h1; simp [wB, countsB, h1]) (by rfl)
  refine guardT.splitF (fun h2 => ?_) (fun h2 => ?_) <;> simp -implicitDefEqProofs -dsimp only [go_sem, Nat.reduceSub, Nat.reduceAdd, Nat.reduceMul, Nat.reduceLT, Nat.reduceLeDiff, Nat.reduceEqDiff, Nat.reduceDiv, Nat.reduceMod, Int.reduceToNat, Int.reduceLE, Int.reduceLT, Int.reduceBEq, Int.reduceBNe, Int.reduceNeg, Int.reduceAdd, Int.reduceSub, Int.reduceMul, reduceCtorEq, h2]
  rotate_left
  · have : ¬ w.Posts.length ≤ 8 := by simp at h2; omega
    exact WeakR.drop' (by simp [wB, listedB, this]) (by rfl)
  refine guardT.splitF (fun h3 => ?_) (fun h3 => ?_) <;> simp -implicitDefEqProofs -dsimp only [go_sem, Nat.reduceSub, Nat.reduceAdd, Nat.reduceMul, Nat.reduceLT, Nat.reduceLeDiff, Nat.reduceEqDiff, Nat.reduceDiv, Nat.reduceMod, Int.reduceToNat, Int.reduceLE, Int.reduceLT, Int.reduceBEq, Int.reduceBNe, Int.reduceNeg, Int.reduceAdd, Int.reduceSub, Int.reduceMul, reduceCtorEq, h3]
  rotate_left
  · have : ¬ w.Shocks.length ≤ 6 := by simp at h3; omega
    exact WeakR.drop' (by simp [wB, listedB, this]) (by rfl)
  (first | refine callT.at (l1In_ok _ _ _) ⟨leA, leA, leA, trivial⟩ ?_ | refine callS.at (l1In_ok _ _ _) ⟨leA, leA, leA, trivial⟩ ?_)
  simp -implicitDefEqProofs -dsimp only [go_sem, Nat.reduceSub, Nat.reduceAdd, Nat.reduceMul, Nat.reduceLT, Nat.reduceLeDiff, Nat.reduceEqDiff, Nat.reduceDiv, Nat.reduceMod, Int.reduceToNat, Int.reduceLE, Int.reduceLT, Int.reduceBEq, Int.reduceBNe, Int.reduceNeg, Int.reduceAdd, Int.reduceSub, Int.reduceMul, reduceCtorEq]
  refine guardT.splitF (fun h4 => ?_) (fun h4 => ?_) <;> simp -implicitDefEqProofs -dsimp only [go_sem, Nat.reduceSub, Nat.reduceAdd, Nat.reduceMul, Nat.reduceLT, Nat.reduceLeDiff, Nat.reduceEqDiff, Nat.reduceDiv, Nat.reduceMod, Int.reduceToNat, Int.reduceLE, Int.reduceLT, Int.reduceBEq, Int.reduceBNe, Int.reduceNeg, Int.reduceAdd, Int.reduceSub, Int.reduceMul, reduceCtorEq, h4]
  rotate_left
  · exact WeakR.drop' (by simp at h4; simp [wB, countsB, h4]) (by rfl)
  (first | refine callT.at (l1In_ok _ _ _) ⟨leA, leA, leA, trivial⟩ ?_ | refine callS.at (l1In_ok _ _ _) ⟨leA, leA, leA, trivial⟩ ?_)
  simp -implicitDefEqProofs -dsimp only [go_sem, Nat.reduceSub, Nat.reduceAdd, Nat.reduceMul, Nat.reduceLT, Nat.reduceLeDiff, Nat.reduceEqDiff, Nat.reduceDiv, Nat.reduceMod, Int.reduceToNat, Int.reduceLE, Int.reduceLT, Int.reduceBEq, Int.reduceBNe, Int.reduceNeg, Int.reduceAdd, Int.reduceSub, Int.reduceMul, reduceCtorEq]
  refine condT.split (fun h5 => ?_) (fun h5 => ?_) <;> simp -implicitDefEqProofs -dsimp only [go_sem, Nat.reduceSub, Nat.reduceAdd, Nat.reduceMul, Nat.reduceLT, Nat.reduceLeDiff, Nat.reduceEqDiff, Nat.reduceDiv, Nat.reduceMod, Int.reduceToNat, Int.reduceLE, Int.reduceLT, Int.reduceBEq, Int.reduceBNe, Int.reduceNeg, Int.reduceAdd, Int.reduceSub, Int.reduceMul, reduceCtorEq, h5]
  · exact WeakR.drop' (by simp at h5; simp [wB, countsB, h5]) (by rfl)
  have hc : countsB w = true := by simp at h1 h4 h5; simp [countsB, h1, h4, h5]
  have hcn := countsB_iff.1 hc
  have hpl : w.Posts.length ≤ 8 := by simp at h2; omega
  have hsl : w.Shocks.length ≤ 6 := by simp at h3; omega
  clear h1 h2 h3 h4 h5
  refine LoopT.intro (fun i : Nat => i ≤ (w.Posts).length ∧ (List.range i).all (listedQ (postB w.Now) Post.Station (w.Posts)) = true) (fun i => ⟨[.undef, .ptr 0 0, .undef, .int .i64 i, .undef, .undef, .undef, .undef, .undef, .undef, .undef, .undef, .undef, .undef, .undef, .undef, .undef, .undef, .undef, .undef, .undef, .undef, .undef, .undef, .undef, .undef, .undef, .undef, .undef, .undef, .undef, .undef, .undef, .undef, .undef, .undef, .undef, .undef, .undef, .undef, .undef, .undef, .undef, .undef, .undef, .undef, .undef, .undef, .undef, .undef, .undef, .undef, .undef, .undef, .undef, .undef, .undef, .undef, .undef, .undef, .undef, .undef, .undef, .undef, .undef, .undef, .undef, .undef, .undef, .undef, .undef, .undef, .undef, .undef, .undef, .undef, .undef, .undef, .undef, .undef, .undef, .undef, .undef, .undef, .undef, .undef, .undef, .undef, .undef, .undef, .undef, .undef, .undef, .undef, .undef, .undef, .undef, .undef, .undef, .undef, .undef, .undef, .undef, .undef, .undef, .undef, .undef, .undef, .undef], [some w.cs], 0⟩) (fun i => (w.Posts).length - i) 0 ⟨Nat.zero_le _, rfl⟩ ?_ (fun i hi => ?_)
  · refine Weak.cut (1) (by simp) (by simp) ?_ ?_
    · simp [LeC, LeV, ren, cutF]
    · first | rfl | simp [cutH, cutB, ren, map_ren_rows, Watch.cs]
  simp -implicitDefEqProofs -dsimp only [go_sem, Nat.reduceSub, Nat.reduceAdd, Nat.reduceMul, Nat.reduceLT, Nat.reduceLeDiff, Nat.reduceEqDiff, Nat.reduceDiv, Nat.reduceMod, Int.reduceToNat, Int.reduceLE, Int.reduceLT, Int.reduceBEq, Int.reduceBNe, Int.reduceNeg, Int.reduceAdd, Int.reduceSub, Int.reduceMul, reduceCtorEq, Watch.cs]
  refine condT.split (fun h1 => ?_) (fun h1 => ?_)
  rotate_left
  · simp -implicitDefEqProofs -dsimp only [go_sem, Nat.reduceSub, Nat.reduceAdd, Nat.reduceMul, Nat.reduceLT, Nat.reduceLeDiff, Nat.reduceEqDiff, Nat.reduceDiv, Nat.reduceMod, Int.reduceToNat, Int.reduceLE, Int.reduceLT, Int.reduceBEq, Int.reduceBNe, Int.reduceNeg, Int.reduceAdd, Int.reduceSub, Int.reduceMul, reduceCtorEq, h1, Watch.cs]
    have hi' : i = (w.Posts).length := by simp at h1; omega
    subst hi'
    have hpq := listedB_of hi.2 hpl
    refine LoopT.intro (fun i : Nat => i ≤ (w.Shocks).length ∧ (List.range i).all (listedQ (shockB w.Next w.Now) Shock.Number (w.Shocks)) = true) (fun i => ⟨[.undef, .ptr 0 0, .undef, .undef, .undef, .int .i64 i, .undef, .undef, .undef, .undef, .undef, .undef, .undef, .undef, .undef, .undef, .undef, .undef, .undef, .undef, .undef, .undef, .undef, .undef, .undef, .undef, .undef, .undef, .undef, .undef, .undef, .undef, .undef, .undef, .undef, .undef, .undef, .undef, .undef, .undef, .undef, .undef, .undef, .undef, .undef, .undef, .undef, .undef, .undef, .undef, .undef, .undef, .undef, .undef, .undef, .undef, .undef, .undef, .undef, .undef, .undef, .undef, .undef, .undef, .undef, .undef, .undef, .undef, .undef, .undef, .undef, .undef, .undef, .undef, .undef, .undef, .undef, .undef, .undef, .undef, .undef, .undef, .undef, .undef, .undef, .undef, .undef, .undef, .undef, .undef, .undef, .undef, .undef, .undef, .undef, .undef, .undef, .undef, .undef, .undef, .undef, .undef, .undef, .undef, .undef, .undef, .undef, .undef, .undef], [some w.cs], 0⟩) (fun i => (w.Shocks).length - i) 0 ⟨Nat.zero_le _, rfl⟩ ?_ (fun i hi => ?_)
    · refine Weak.cut (1) (by simp) (by simp) ?_ ?_
      · simp [LeC, LeV, ren, cutF]
      · first | rfl | simp [cutH, cutB, ren, map_ren_rows, Watch.cs]
    simp -implicitDefEqProofs -dsimp only [go_sem, Nat.reduceSub, Nat.reduceAdd, Nat.reduceMul, Nat.reduceLT, Nat.reduceLeDiff, Nat.reduceEqDiff, Nat.reduceDiv, Nat.reduceMod, Int.reduceToNat, Int.reduceLE, Int.reduceLT, Int.reduceBEq, Int.reduceBNe, Int.reduceNeg, Int.reduceAdd, Int.reduceSub, Int.reduceMul, reduceCtorEq, Watch.cs]
    refine condT.split (fun h1 => ?_) (fun h1 => ?_)
    rotate_left
    · simp -implicitDefEqProofs -dsimp only [go_sem, Nat.reduceSub, Nat.reduceAdd, Nat.reduceMul, Nat.reduceLT, Nat.reduceLeDiff, Nat.reduceEqDiff, Nat.reduceDiv, Nat.reduceMod, Int.reduceToNat, Int.reduceLE, Int.reduceLT, Int.reduceBEq, Int.reduceBNe, Int.reduceNeg, Int.reduceAdd, Int.reduceSub, Int.reduceMul, reduceCtorEq, h1, Watch.cs]
      have hi' : i = (w.Shocks).length := by simp at h1; omega
      subst hi'
      exact WeakR.drop' (by rw [wB, hc, hpq, listedB_of hi.2 hsl]; rfl) (by rfl)
    · simp -implicitDefEqProofs -dsimp only [go_sem, Nat.reduceSub, Nat.reduceAdd, Nat.reduceMul, Nat.reduceLT, Nat.reduceLeDiff, Nat.reduceEqDiff, Nat.reduceDiv, Nat.reduceMod, Int.reduceToNat, Int.reduceLE, Int.reduceLT, Int.reduceBEq, Int.reduceBNe, Int.reduceNeg, Int.reduceAdd, Int.reduceSub, Int.reduceMul, reduceCtorEq, h1, Watch.cs]
      have hi' : i < (w.Shocks).length := by simpa using h1
      have h5 := Shock.csl (w.Shocks)[i]
      have hr := rows_at Shock.csl hi'
      have hbad : listedQ (shockB w.Next w.Now) Shock.Number (w.Shocks) i = false → _ := fun hq => (show V.bool false = V.bool (wB w) by rw [wB, listedB_false hi' hq]; simp)
      cases i with
      | zero =>
        have hz : ((0 : Nat) : Int) = 0 := rfl
        have hr0 := hr
        rw [Nat.zero_mul, List.drop_zero] at hr0
        (repeat ((repeat1' (first | simp -implicitDefEqProofs -dsimp only [go_sem, Nat.reduceSub, Nat.reduceAdd, Nat.reduceMul, Nat.reduceLT, Nat.reduceLeDiff, Nat.reduceEqDiff, Nat.reduceDiv, Nat.reduceMod, Int.reduceToNat, Int.reduceLE, Int.reduceLT, Int.reduceBEq, Int.reduceBNe, Int.reduceNeg, Int.reduceAdd, Int.reduceSub, Int.reduceMul, reduceCtorEq, hr, hr0, hz, Shock.cs, Watch.cs] | simp -implicitDefEqProofs -dsimp (disch := omega) only [wrap_i64])); repeat (with_reducible refine sideA ?_)))
        repeat' (first | (refine WeakR.drop' (hbad ?_) (by rfl); (rw [listedQ_zero hi']; (try simp only [Bool.not_eq_false', Bool.not_eq_true', decide_eq_false_iff_not, decide_eq_true_eq] at *); simp [*]; try omega; done)) | ((first | refine callT.at (l25Shock_ok w hcn.2.1 (w.Shocks[0])) ⟨leA, leA, trivial⟩ ?_ | refine callS.at (l25Shock_ok w hcn.2.1 (w.Shocks[0])) ⟨leA, leA, trivial⟩ ?_); simp -implicitDefEqProofs -dsimp only [go_sem, Nat.reduceSub, Nat.reduceAdd, Nat.reduceMul, Nat.reduceLT, Nat.reduceLeDiff, Nat.reduceEqDiff, Nat.reduceDiv, Nat.reduceMod, Int.reduceToNat, Int.reduceLE, Int.reduceLT, Int.reduceBEq, Int.reduceBNe, Int.reduceNeg, Int.reduceAdd, Int.reduceSub, Int.reduceMul, reduceCtorEq, *, Watch.cs]) | (refine guardT.splitT (fun _ => ?_) (fun _ => ?_) <;> simp -implicitDefEqProofs -dsimp only [go_sem, Nat.reduceSub, Nat.reduceAdd, Nat.reduceMul, Nat.reduceLT, Nat.reduceLeDiff, Nat.reduceEqDiff, Nat.reduceDiv, Nat.reduceMod, Int.reduceToNat, Int.reduceLE, Int.reduceLT, Int.reduceBEq, Int.reduceBNe, Int.reduceNeg, Int.reduceAdd, Int.reduceSub, Int.reduceMul, reduceCtorEq, *, Watch.cs]) | (refine guardT.splitF (fun _ => ?_) (fun _ => ?_) <;> simp -implicitDefEqProofs -dsimp only [go_sem, Nat.reduceSub, Nat.reduceAdd, Nat.reduceMul, Nat.reduceLT, Nat.reduceLeDiff, Nat.reduceEqDiff, Nat.reduceDiv, Nat.reduceMod, Int.reduceToNat, Int.reduceLE, Int.reduceLT, Int.reduceBEq, Int.reduceBNe, Int.reduceNeg, Int.reduceAdd, Int.reduceSub, Int.reduceMul, reduceCtorEq, *, Watch.cs]) | (refine condT.split (fun _ => ?_) (fun _ => ?_) <;> simp -implicitDefEqProofs -dsimp only [go_sem, Nat.reduceSub, Nat.reduceAdd, Nat.reduceMul, Nat.reduceLT, Nat.reduceLeDiff, Nat.reduceEqDiff, Nat.reduceDiv, Nat.reduceMod, Int.reduceToNat, Int.reduceLE, Int.reduceLT, Int.reduceBEq, Int.reduceBNe, Int.reduceNeg, Int.reduceAdd, Int.reduceSub, Int.reduceMul, reduceCtorEq, *, Watch.cs]) | (with_reducible refine And.intro (by first | omega | (show drawOk _ = true; kernel_rfl)) ?_; (repeat ((repeat1' (first | simp -implicitDefEqProofs -dsimp only [go_sem, Nat.reduceSub, Nat.reduceAdd, Nat.reduceMul, Nat.reduceLT, Nat.reduceLeDiff, Nat.reduceEqDiff, Nat.reduceDiv, Nat.reduceMod, Int.reduceToNat, Int.reduceLE, Int.reduceLT, Int.reduceBEq, Int.reduceBNe, Int.reduceNeg, Int.reduceAdd, Int.reduceSub, Int.reduceMul, reduceCtorEq, *, Shock.cs, Watch.cs] | simp -implicitDefEqProofs -dsimp (disch := omega) only [wrap_i64])); repeat (with_reducible refine sideA ?_)))) | (refine ⟨0 + 1, ⟨hi', range_all_succ hi.2 (by rw [listedQ_zero hi']; (try simp only [Bool.not_eq_false', Bool.not_eq_true', decide_eq_false_iff_not, decide_eq_true_eq] at *); simp [*]; try omega)⟩, ?_, by omega⟩; refine Weak.cut (1) (by simp) (by simp) ?_ ?_; (· (try (repeat1' (first | simp -implicitDefEqProofs -dsimp only [go_sem, Nat.reduceSub, Nat.reduceAdd, Nat.reduceMul, Nat.reduceLT, Nat.reduceLeDiff, Nat.reduceEqDiff, Nat.reduceDiv, Nat.reduceMod, Int.reduceToNat, Int.reduceLE, Int.reduceLT, Int.reduceBEq, Int.reduceBNe, Int.reduceNeg, Int.reduceAdd, Int.reduceSub, Int.reduceMul, reduceCtorEq] | simp -implicitDefEqProofs -dsimp (disch := omega) only [wrap_i64])); simp [LeC, LeV, ren, cutF]; try omega)); (· (first | rfl | simp [cutH, cutB, ren, map_ren_rows, Watch.cs]))))
      | succ j =>
        have hj : j < (w.Shocks).length := by omega
        have hw1 : IntKind.i64.wrap (((j + 1 : Nat) : Int) - 1) = (j : Int) := by rw [wrap_i64 (by omega) (by omega)]; omega
        have hg : decide ((0 : Int) < ((j + 1 : Nat) : Int)) = true := decide_eq_true (by omega)
        have hr2 := rows_at Shock.csl hj
        (repeat ((repeat1' (first | simp -implicitDefEqProofs -dsimp only [go_sem, Nat.reduceSub, Nat.reduceAdd, Nat.reduceMul, Nat.reduceLT, Nat.reduceLeDiff, Nat.reduceEqDiff, Nat.reduceDiv, Nat.reduceMod, Int.reduceToNat, Int.reduceLE, Int.reduceLT, Int.reduceBEq, Int.reduceBNe, Int.reduceNeg, Int.reduceAdd, Int.reduceSub, Int.reduceMul, reduceCtorEq, hr, hg, hw1, hr2, Shock.cs, Watch.cs] | simp -implicitDefEqProofs -dsimp (disch := omega) only [wrap_i64])); repeat (with_reducible refine sideA ?_)))
        repeat' (first | (refine WeakR.drop' (hbad ?_) (by rfl); (rw [listedQ_succ hi']; (try simp only [Bool.not_eq_false', Bool.not_eq_true', decide_eq_false_iff_not, decide_eq_true_eq] at *); simp [*]; try omega; done)) | ((first | refine callT.at (l25Shock_ok w hcn.2.1 (w.Shocks[j + 1])) ⟨leA, leA, trivial⟩ ?_ | refine callS.at (l25Shock_ok w hcn.2.1 (w.Shocks[j + 1])) ⟨leA, leA, trivial⟩ ?_); simp -implicitDefEqProofs -dsimp only [go_sem, Nat.reduceSub, Nat.reduceAdd, Nat.reduceMul, Nat.reduceLT, Nat.reduceLeDiff, Nat.reduceEqDiff, Nat.reduceDiv, Nat.reduceMod, Int.reduceToNat, Int.reduceLE, Int.reduceLT, Int.reduceBEq, Int.reduceBNe, Int.reduceNeg, Int.reduceAdd, Int.reduceSub, Int.reduceMul, reduceCtorEq, *, Watch.cs]) | (refine guardT.splitT (fun _ => ?_) (fun _ => ?_) <;> simp -implicitDefEqProofs -dsimp only [go_sem, Nat.reduceSub, Nat.reduceAdd, Nat.reduceMul, Nat.reduceLT, Nat.reduceLeDiff, Nat.reduceEqDiff, Nat.reduceDiv, Nat.reduceMod, Int.reduceToNat, Int.reduceLE, Int.reduceLT, Int.reduceBEq, Int.reduceBNe, Int.reduceNeg, Int.reduceAdd, Int.reduceSub, Int.reduceMul, reduceCtorEq, *, Watch.cs]) | (refine guardT.splitF (fun _ => ?_) (fun _ => ?_) <;> simp -implicitDefEqProofs -dsimp only [go_sem, Nat.reduceSub, Nat.reduceAdd, Nat.reduceMul, Nat.reduceLT, Nat.reduceLeDiff, Nat.reduceEqDiff, Nat.reduceDiv, Nat.reduceMod, Int.reduceToNat, Int.reduceLE, Int.reduceLT, Int.reduceBEq, Int.reduceBNe, Int.reduceNeg, Int.reduceAdd, Int.reduceSub, Int.reduceMul, reduceCtorEq, *, Watch.cs]) | (refine condT.split (fun _ => ?_) (fun _ => ?_) <;> simp -implicitDefEqProofs -dsimp only [go_sem, Nat.reduceSub, Nat.reduceAdd, Nat.reduceMul, Nat.reduceLT, Nat.reduceLeDiff, Nat.reduceEqDiff, Nat.reduceDiv, Nat.reduceMod, Int.reduceToNat, Int.reduceLE, Int.reduceLT, Int.reduceBEq, Int.reduceBNe, Int.reduceNeg, Int.reduceAdd, Int.reduceSub, Int.reduceMul, reduceCtorEq, *, Watch.cs]) | (with_reducible refine And.intro (by first | omega | (show drawOk _ = true; kernel_rfl)) ?_; (repeat ((repeat1' (first | simp -implicitDefEqProofs -dsimp only [go_sem, Nat.reduceSub, Nat.reduceAdd, Nat.reduceMul, Nat.reduceLT, Nat.reduceLeDiff, Nat.reduceEqDiff, Nat.reduceDiv, Nat.reduceMod, Int.reduceToNat, Int.reduceLE, Int.reduceLT, Int.reduceBEq, Int.reduceBNe, Int.reduceNeg, Int.reduceAdd, Int.reduceSub, Int.reduceMul, reduceCtorEq, *, Shock.cs, Watch.cs] | simp -implicitDefEqProofs -dsimp (disch := omega) only [wrap_i64])); repeat (with_reducible refine sideA ?_)))) | (refine ⟨j + 1 + 1, ⟨hi', range_all_succ hi.2 (by rw [listedQ_succ hi']; (try simp only [Bool.not_eq_false', Bool.not_eq_true', decide_eq_false_iff_not, decide_eq_true_eq] at *); simp [*]; try omega)⟩, ?_, by omega⟩; refine Weak.cut (1) (by simp) (by simp) ?_ ?_; (· (try (repeat1' (first | simp -implicitDefEqProofs -dsimp only [go_sem, Nat.reduceSub, Nat.reduceAdd, Nat.reduceMul, Nat.reduceLT, Nat.reduceLeDiff, Nat.reduceEqDiff, Nat.reduceDiv, Nat.reduceMod, Int.reduceToNat, Int.reduceLE, Int.reduceLT, Int.reduceBEq, Int.reduceBNe, Int.reduceNeg, Int.reduceAdd, Int.reduceSub, Int.reduceMul, reduceCtorEq] | simp -implicitDefEqProofs -dsimp (disch := omega) only [wrap_i64])); simp [LeC, LeV, ren, cutF]; try omega)); (· (first | rfl | simp [cutH, cutB, ren, map_ren_rows, Watch.cs]))))
  · simp -implicitDefEqProofs -dsimp only [go_sem, Nat.reduceSub, Nat.reduceAdd, Nat.reduceMul, Nat.reduceLT, Nat.reduceLeDiff, Nat.reduceEqDiff, Nat.reduceDiv, Nat.reduceMod, Int.reduceToNat, Int.reduceLE, Int.reduceLT, Int.reduceBEq, Int.reduceBNe, Int.reduceNeg, Int.reduceAdd, Int.reduceSub, Int.reduceMul, reduceCtorEq, h1, Watch.cs]
    have hi' : i < (w.Posts).length := by simpa using h1
    have h5 := Post.csl (w.Posts)[i]
    have hr := rows_at Post.csl hi'
    have hbad : listedQ (postB w.Now) Post.Station (w.Posts) i = false → _ := fun hq => (show V.bool false = V.bool (wB w) by rw [wB, listedB_false hi' hq]; simp)
    cases i with
    | zero =>
      have hz : ((0 : Nat) : Int) = 0 := rfl
      have hr0 := hr
      rw [Nat.zero_mul, List.drop_zero] at hr0
      (repeat ((repeat1' (first | simp -implicitDefEqProofs -dsimp only [go_sem, Nat.reduceSub, Nat.reduceAdd, Nat.reduceMul, Nat.reduceLT, Nat.reduceLeDiff, Nat.reduceEqDiff, Nat.reduceDiv, Nat.reduceMod, Int.reduceToNat, Int.reduceLE, Int.reduceLT, Int.reduceBEq, Int.reduceBNe, Int.reduceNeg, Int.reduceAdd, Int.reduceSub, Int.reduceMul, reduceCtorEq, hr, hr0, hz, Post.cs, Watch.cs] | simp -implicitDefEqProofs -dsimp (disch := omega) only [wrap_i64])); repeat (with_reducible refine sideA ?_)))
      repeat' (first | (refine WeakR.drop' (hbad ?_) (by rfl); (rw [listedQ_zero hi']; (try simp only [Bool.not_eq_false', Bool.not_eq_true', decide_eq_false_iff_not, decide_eq_true_eq] at *); simp [postB, *]; try omega; done)) | ((first | refine callT.at (l1In_ok _ _ _) ⟨leA, leA, leA, trivial⟩ ?_ | refine callS.at (l1In_ok _ _ _) ⟨leA, leA, leA, trivial⟩ ?_); simp -implicitDefEqProofs -dsimp only [go_sem, Nat.reduceSub, Nat.reduceAdd, Nat.reduceMul, Nat.reduceLT, Nat.reduceLeDiff, Nat.reduceEqDiff, Nat.reduceDiv, Nat.reduceMod, Int.reduceToNat, Int.reduceLE, Int.reduceLT, Int.reduceBEq, Int.reduceBNe, Int.reduceNeg, Int.reduceAdd, Int.reduceSub, Int.reduceMul, reduceCtorEq, *, Watch.cs]) | (refine guardT.splitT (fun _ => ?_) (fun _ => ?_) <;> simp -implicitDefEqProofs -dsimp only [go_sem, Nat.reduceSub, Nat.reduceAdd, Nat.reduceMul, Nat.reduceLT, Nat.reduceLeDiff, Nat.reduceEqDiff, Nat.reduceDiv, Nat.reduceMod, Int.reduceToNat, Int.reduceLE, Int.reduceLT, Int.reduceBEq, Int.reduceBNe, Int.reduceNeg, Int.reduceAdd, Int.reduceSub, Int.reduceMul, reduceCtorEq, *, Watch.cs]) | (refine guardT.splitF (fun _ => ?_) (fun _ => ?_) <;> simp -implicitDefEqProofs -dsimp only [go_sem, Nat.reduceSub, Nat.reduceAdd, Nat.reduceMul, Nat.reduceLT, Nat.reduceLeDiff, Nat.reduceEqDiff, Nat.reduceDiv, Nat.reduceMod, Int.reduceToNat, Int.reduceLE, Int.reduceLT, Int.reduceBEq, Int.reduceBNe, Int.reduceNeg, Int.reduceAdd, Int.reduceSub, Int.reduceMul, reduceCtorEq, *, Watch.cs]) | (refine condT.split (fun _ => ?_) (fun _ => ?_) <;> simp -implicitDefEqProofs -dsimp only [go_sem, Nat.reduceSub, Nat.reduceAdd, Nat.reduceMul, Nat.reduceLT, Nat.reduceLeDiff, Nat.reduceEqDiff, Nat.reduceDiv, Nat.reduceMod, Int.reduceToNat, Int.reduceLE, Int.reduceLT, Int.reduceBEq, Int.reduceBNe, Int.reduceNeg, Int.reduceAdd, Int.reduceSub, Int.reduceMul, reduceCtorEq, *, Watch.cs]) | (with_reducible refine And.intro (by first | omega | (show drawOk _ = true; kernel_rfl)) ?_; (repeat ((repeat1' (first | simp -implicitDefEqProofs -dsimp only [go_sem, Nat.reduceSub, Nat.reduceAdd, Nat.reduceMul, Nat.reduceLT, Nat.reduceLeDiff, Nat.reduceEqDiff, Nat.reduceDiv, Nat.reduceMod, Int.reduceToNat, Int.reduceLE, Int.reduceLT, Int.reduceBEq, Int.reduceBNe, Int.reduceNeg, Int.reduceAdd, Int.reduceSub, Int.reduceMul, reduceCtorEq, *, Post.cs, Watch.cs] | simp -implicitDefEqProofs -dsimp (disch := omega) only [wrap_i64])); repeat (with_reducible refine sideA ?_)))) | (refine ⟨0 + 1, ⟨hi', range_all_succ hi.2 (by rw [listedQ_zero hi']; (try simp only [Bool.not_eq_false', Bool.not_eq_true', decide_eq_false_iff_not, decide_eq_true_eq] at *); simp [postB, *]; try omega)⟩, ?_, by omega⟩; refine Weak.cut (1) (by simp) (by simp) ?_ ?_; (· (try (repeat1' (first | simp -implicitDefEqProofs -dsimp only [go_sem, Nat.reduceSub, Nat.reduceAdd, Nat.reduceMul, Nat.reduceLT, Nat.reduceLeDiff, Nat.reduceEqDiff, Nat.reduceDiv, Nat.reduceMod, Int.reduceToNat, Int.reduceLE, Int.reduceLT, Int.reduceBEq, Int.reduceBNe, Int.reduceNeg, Int.reduceAdd, Int.reduceSub, Int.reduceMul, reduceCtorEq] | simp -implicitDefEqProofs -dsimp (disch := omega) only [wrap_i64])); simp [LeC, LeV, ren, cutF]; try omega)); (· (first | rfl | simp [cutH, cutB, ren, map_ren_rows, Watch.cs]))))
    | succ j =>
      have hj : j < (w.Posts).length := by omega
      have hw1 : IntKind.i64.wrap (((j + 1 : Nat) : Int) - 1) = (j : Int) := by rw [wrap_i64 (by omega) (by omega)]; omega
      have hg : decide ((0 : Int) < ((j + 1 : Nat) : Int)) = true := decide_eq_true (by omega)
      have hr2 := rows_at Post.csl hj
      (repeat ((repeat1' (first | simp -implicitDefEqProofs -dsimp only [go_sem, Nat.reduceSub, Nat.reduceAdd, Nat.reduceMul, Nat.reduceLT, Nat.reduceLeDiff, Nat.reduceEqDiff, Nat.reduceDiv, Nat.reduceMod, Int.reduceToNat, Int.reduceLE, Int.reduceLT, Int.reduceBEq, Int.reduceBNe, Int.reduceNeg, Int.reduceAdd, Int.reduceSub, Int.reduceMul, reduceCtorEq, hr, hg, hw1, hr2, Post.cs, Watch.cs] | simp -implicitDefEqProofs -dsimp (disch := omega) only [wrap_i64])); repeat (with_reducible refine sideA ?_)))
      repeat' (first | (refine WeakR.drop' (hbad ?_) (by rfl); (rw [listedQ_succ hi']; (try simp only [Bool.not_eq_false', Bool.not_eq_true', decide_eq_false_iff_not, decide_eq_true_eq] at *); simp [postB, *]; try omega; done)) | ((first | refine callT.at (l1In_ok _ _ _) ⟨leA, leA, leA, trivial⟩ ?_ | refine callS.at (l1In_ok _ _ _) ⟨leA, leA, leA, trivial⟩ ?_); simp -implicitDefEqProofs -dsimp only [go_sem, Nat.reduceSub, Nat.reduceAdd, Nat.reduceMul, Nat.reduceLT, Nat.reduceLeDiff, Nat.reduceEqDiff, Nat.reduceDiv, Nat.reduceMod, Int.reduceToNat, Int.reduceLE, Int.reduceLT, Int.reduceBEq, Int.reduceBNe, Int.reduceNeg, Int.reduceAdd, Int.reduceSub, Int.reduceMul, reduceCtorEq, *, Watch.cs]) | (refine guardT.splitT (fun _ => ?_) (fun _ => ?_) <;> simp -implicitDefEqProofs -dsimp only [go_sem, Nat.reduceSub, Nat.reduceAdd, Nat.reduceMul, Nat.reduceLT, Nat.reduceLeDiff, Nat.reduceEqDiff, Nat.reduceDiv, Nat.reduceMod, Int.reduceToNat, Int.reduceLE, Int.reduceLT, Int.reduceBEq, Int.reduceBNe, Int.reduceNeg, Int.reduceAdd, Int.reduceSub, Int.reduceMul, reduceCtorEq, *, Watch.cs]) | (refine guardT.splitF (fun _ => ?_) (fun _ => ?_) <;> simp -implicitDefEqProofs -dsimp only [go_sem, Nat.reduceSub, Nat.reduceAdd, Nat.reduceMul, Nat.reduceLT, Nat.reduceLeDiff, Nat.reduceEqDiff, Nat.reduceDiv, Nat.reduceMod, Int.reduceToNat, Int.reduceLE, Int.reduceLT, Int.reduceBEq, Int.reduceBNe, Int.reduceNeg, Int.reduceAdd, Int.reduceSub, Int.reduceMul, reduceCtorEq, *, Watch.cs]) | (refine condT.split (fun _ => ?_) (fun _ => ?_) <;> simp -implicitDefEqProofs -dsimp only [go_sem, Nat.reduceSub, Nat.reduceAdd, Nat.reduceMul, Nat.reduceLT, Nat.reduceLeDiff, Nat.reduceEqDiff, Nat.reduceDiv, Nat.reduceMod, Int.reduceToNat, Int.reduceLE, Int.reduceLT, Int.reduceBEq, Int.reduceBNe, Int.reduceNeg, Int.reduceAdd, Int.reduceSub, Int.reduceMul, reduceCtorEq, *, Watch.cs]) | (with_reducible refine And.intro (by first | omega | (show drawOk _ = true; kernel_rfl)) ?_; (repeat ((repeat1' (first | simp -implicitDefEqProofs -dsimp only [go_sem, Nat.reduceSub, Nat.reduceAdd, Nat.reduceMul, Nat.reduceLT, Nat.reduceLeDiff, Nat.reduceEqDiff, Nat.reduceDiv, Nat.reduceMod, Int.reduceToNat, Int.reduceLE, Int.reduceLT, Int.reduceBEq, Int.reduceBNe, Int.reduceNeg, Int.reduceAdd, Int.reduceSub, Int.reduceMul, reduceCtorEq, *, Post.cs, Watch.cs] | simp -implicitDefEqProofs -dsimp (disch := omega) only [wrap_i64])); repeat (with_reducible refine sideA ?_)))) | (refine ⟨j + 1 + 1, ⟨hi', range_all_succ hi.2 (by rw [listedQ_succ hi']; (try simp only [Bool.not_eq_false', Bool.not_eq_true', decide_eq_false_iff_not, decide_eq_true_eq] at *); simp [postB, *]; try omega)⟩, ?_, by omega⟩; refine Weak.cut (1) (by simp) (by simp) ?_ ?_; (· (try (repeat1' (first | simp -implicitDefEqProofs -dsimp only [go_sem, Nat.reduceSub, Nat.reduceAdd, Nat.reduceMul, Nat.reduceLT, Nat.reduceLeDiff, Nat.reduceEqDiff, Nat.reduceDiv, Nat.reduceMod, Int.reduceToNat, Int.reduceLE, Int.reduceLT, Int.reduceBEq, Int.reduceBNe, Int.reduceNeg, Int.reduceAdd, Int.reduceSub, Int.reduceMul, reduceCtorEq] | simp -implicitDefEqProofs -dsimp (disch := omega) only [wrap_i64])); simp [LeC, LeV, ren, cutF]; try omega)); (· (first | rfl | simp [cutH, cutB, ren, map_ren_rows, Watch.cs]))))
end Go.Proofs
end
section
set_option linter.unusedSimpArgs false
set_option linter.unusedVariables false
set_option maxRecDepth 100000
set_option maxHeartbeats 1000000
namespace Go.Proofs
open Go.Lv
def stateWord (s : Int) : ByteArray := if s = 0 then ⟨#[110, 101, 119]⟩ else if s = 1 then ⟨#[108, 111, 99, 97, 116, 101, 100]⟩ else if s = 2 then ⟨#[114, 101, 118, 105, 101, 119, 101, 100]⟩ else ⟨#[112, 117, 98, 108, 105, 115, 104, 101, 100]⟩
def shockHead (x : Shock) : ByteArray := (stateWord x.State ++ ⟨#[32, 115, 101, 101, 110, 32]⟩) ++ num x.Seen
def shockText (x : Shock) : ByteArray := if x.State = 0 then shockHead x else shockHead x ++ (⟨#[32, 115, 105, 122, 101, 32]⟩ ++ num x.Size)
theorem shockNums {n x : Int} {s : Shock} (h : shockB n x s = true) : (num s.Seen).size ≤ 21 ∧ (num s.Size).size ≤ 21 := by
  have := shockB_iff.1 h
  exact ⟨num_size' (by omega) (by omega), num_size' (by omega) (by omega)⟩
theorem shockText_ok (n t : Int) (x : Shock) (h : shockB n t x = true) : Ctr Tryd.prog 67 [x.v] [] (.str (shockText x)) [] := by
  have hv := shockB_iff.1 h
  have hs := shockNums h
  obtain ⟨N, S, E, Z, T⟩ := x
  simp only at hv hs
  have hst : S = 0 ∨ S = 1 ∨ S = 2 ∨ S = 3 := by omega
  rcases hst with rfl | rfl | rfl | rfl
  all_goals
    refine Ctr.intro Tryd.mixed Tryd.func67 rfl Tryd.okF67 ?_
    simp -implicitDefEqProofs -dsimp only [go_sem, Nat.reduceSub, Nat.reduceAdd, Nat.reduceMul, Nat.reduceLT, Nat.reduceLeDiff, Nat.reduceEqDiff, Nat.reduceDiv, Nat.reduceMod, Int.reduceToNat, Int.reduceLE, Int.reduceLT, Int.reduceBEq, Int.reduceBNe, Int.reduceNeg, Int.reduceAdd, Int.reduceSub, Int.reduceMul, reduceCtorEq, Tryd.ntmps67, Tryd.results67]
    simp -implicitDefEqProofs -dsimp only [go_sem, Nat.reduceSub, Nat.reduceAdd, Nat.reduceMul, Nat.reduceLT, Nat.reduceLeDiff, Nat.reduceEqDiff, Nat.reduceDiv, Nat.reduceMod, Int.reduceToNat, Int.reduceLE, Int.reduceLT, Int.reduceBEq, Int.reduceBNe, Int.reduceNeg, Int.reduceAdd, Int.reduceSub, Int.reduceMul, reduceCtorEq, Shock.v]
    repeat (first | ((first | refine callT.at (itoa_ok E ⟨by omega, by omega⟩) ⟨leA, trivial⟩ ?_ | refine callS.at (itoa_ok E ⟨by omega, by omega⟩) ⟨leA, trivial⟩ ?_); simp -implicitDefEqProofs -dsimp only [go_sem, Nat.reduceSub, Nat.reduceAdd, Nat.reduceMul, Nat.reduceLT, Nat.reduceLeDiff, Nat.reduceEqDiff, Nat.reduceDiv, Nat.reduceMod, Int.reduceToNat, Int.reduceLE, Int.reduceLT, Int.reduceBEq, Int.reduceBNe, Int.reduceNeg, Int.reduceAdd, Int.reduceSub, Int.reduceMul, reduceCtorEq]) | ((first | refine callT.at (itoa_ok Z ⟨by omega, by omega⟩) ⟨leA, trivial⟩ ?_ | refine callS.at (itoa_ok Z ⟨by omega, by omega⟩) ⟨leA, trivial⟩ ?_); simp -implicitDefEqProofs -dsimp only [go_sem, Nat.reduceSub, Nat.reduceAdd, Nat.reduceMul, Nat.reduceLT, Nat.reduceLeDiff, Nat.reduceEqDiff, Nat.reduceDiv, Nat.reduceMod, Int.reduceToNat, Int.reduceLE, Int.reduceLT, Int.reduceBEq, Int.reduceBNe, Int.reduceNeg, Int.reduceAdd, Int.reduceSub, Int.reduceMul, reduceCtorEq]) | (with_reducible refine And.intro (by first | omega | (show drawOk _ = true; kernel_rfl) | (simp only [ByteArray.size_append, ba_size, List.size_toArray, List.length_cons, List.length_nil]; omega)) ?_; try (repeat1' (first | simp -implicitDefEqProofs -dsimp only [go_sem, Nat.reduceSub, Nat.reduceAdd, Nat.reduceMul, Nat.reduceLT, Nat.reduceLeDiff, Nat.reduceEqDiff, Nat.reduceDiv, Nat.reduceMod, Int.reduceToNat, Int.reduceLE, Int.reduceLT, Int.reduceBEq, Int.reduceBNe, Int.reduceNeg, Int.reduceAdd, Int.reduceSub, Int.reduceMul, reduceCtorEq] | simp -implicitDefEqProofs -dsimp (disch := omega) only [wrap_i64]))))
    exact WeakR.drop' (by simp [shockText, shockHead, stateWord]) (by rfl)
theorem l25Text_ok (n t : Int) (x : Shock) (h : shockB n t x = true) : Ctr Tryd.prog 65 [x.v] [] (.str (shockText x)) [] := by
  have hv := shockB_iff.1 h
  have hs := shockNums h
  obtain ⟨N, S, E, Z, T⟩ := x
  simp only at hv hs
  have hst : S = 0 ∨ S = 1 ∨ S = 2 ∨ S = 3 := by omega
  rcases hst with rfl | rfl | rfl | rfl
  all_goals
    refine Ctr.intro Tryd.mixed Tryd.func65 rfl Tryd.okF65 ?_
    simp -implicitDefEqProofs -dsimp only [go_sem, Nat.reduceSub, Nat.reduceAdd, Nat.reduceMul, Nat.reduceLT, Nat.reduceLeDiff, Nat.reduceEqDiff, Nat.reduceDiv, Nat.reduceMod, Int.reduceToNat, Int.reduceLE, Int.reduceLT, Int.reduceBEq, Int.reduceBNe, Int.reduceNeg, Int.reduceAdd, Int.reduceSub, Int.reduceMul, reduceCtorEq, Tryd.ntmps65, Tryd.results65]
    simp -implicitDefEqProofs -dsimp only [go_sem, Nat.reduceSub, Nat.reduceAdd, Nat.reduceMul, Nat.reduceLT, Nat.reduceLeDiff, Nat.reduceEqDiff, Nat.reduceDiv, Nat.reduceMod, Int.reduceToNat, Int.reduceLE, Int.reduceLT, Int.reduceBEq, Int.reduceBNe, Int.reduceNeg, Int.reduceAdd, Int.reduceSub, Int.reduceMul, reduceCtorEq, Shock.v]
    repeat (first | ((first | refine callT.at (l1Num_ok E (by omega) (by omega)) ⟨leA, trivial⟩ ?_ | refine callS.at (l1Num_ok E (by omega) (by omega)) ⟨leA, trivial⟩ ?_); simp -implicitDefEqProofs -dsimp only [go_sem, Nat.reduceSub, Nat.reduceAdd, Nat.reduceMul, Nat.reduceLT, Nat.reduceLeDiff, Nat.reduceEqDiff, Nat.reduceDiv, Nat.reduceMod, Int.reduceToNat, Int.reduceLE, Int.reduceLT, Int.reduceBEq, Int.reduceBNe, Int.reduceNeg, Int.reduceAdd, Int.reduceSub, Int.reduceMul, reduceCtorEq]) | ((first | refine callT.at (l1Num_ok Z (by omega) (by omega)) ⟨leA, trivial⟩ ?_ | refine callS.at (l1Num_ok Z (by omega) (by omega)) ⟨leA, trivial⟩ ?_); simp -implicitDefEqProofs -dsimp only [go_sem, Nat.reduceSub, Nat.reduceAdd, Nat.reduceMul, Nat.reduceLT, Nat.reduceLeDiff, Nat.reduceEqDiff, Nat.reduceDiv, Nat.reduceMod, Int.reduceToNat, Int.reduceLE, Int.reduceLT, Int.reduceBEq, Int.reduceBNe, Int.reduceNeg, Int.reduceAdd, Int.reduceSub, Int.reduceMul, reduceCtorEq]) | (with_reducible refine And.intro (by first | omega | (show drawOk _ = true; kernel_rfl) | (simp only [ByteArray.size_append, ba_size, List.size_toArray, List.length_cons, List.length_nil]; omega)) ?_; try (repeat1' (first | simp -implicitDefEqProofs -dsimp only [go_sem, Nat.reduceSub, Nat.reduceAdd, Nat.reduceMul, Nat.reduceLT, Nat.reduceLeDiff, Nat.reduceEqDiff, Nat.reduceDiv, Nat.reduceMod, Int.reduceToNat, Int.reduceLE, Int.reduceLT, Int.reduceBEq, Int.reduceBNe, Int.reduceNeg, Int.reduceAdd, Int.reduceSub, Int.reduceMul, reduceCtorEq] | simp -implicitDefEqProofs -dsimp (disch := omega) only [wrap_i64]))))
    exact WeakR.drop' (by simp [shockText, shockHead, stateWord, ByteArray.append_assoc]) (by rfl)
end Go.Proofs
end
section
set_option linter.unusedSimpArgs false
set_option linter.unusedVariables false
set_option maxRecDepth 100000
namespace Go.Proofs
open Go.Lv
structure WeekRow where
  Week : Int
  Events : Int
  Felt : Int
  Picks : Int
  Lost : Int
def WeekRow.cs (r : WeekRow) : List V := [.int .i64 r.Week, .int .i64 r.Events, .int .i64 r.Felt, .int .i64 r.Picks, .int .i64 r.Lost]
def WeekRow.v (r : WeekRow) : V := .agg [.int .i64 r.Week, .int .i64 r.Events, .int .i64 r.Felt, .int .i64 r.Picks, .int .i64 r.Lost]
theorem WeekRow.csl (a : WeekRow) : a.cs.length = 5 := rfl
theorem WeekRow.csp (a : WeekRow) : a.cs.all (noOwn 2) = true := rfl
instance : FlatP WeekRow.cs 5 := ⟨fun _ => rfl, fun _ d => by cases d <;> rfl, fun _ => rfl, fun _ => rfl⟩
def WeekRow.ok (r : WeekRow) : Prop := i64R r.Week ∧ i64R r.Events ∧ i64R r.Felt ∧ i64R r.Picks ∧ i64R r.Lost
abbrev WeekRow.rows (L : List WeekRow) : List V := Go.Lv.rows WeekRow.cs L
abbrev WeekRow.sl (L : List WeekRow) : V := .sl L.length 5 (Go.Lv.rows WeekRow.cs L)
abbrev WeekRow.zs : List V := [.int .i64 0, .int .i64 0, .int .i64 0, .int .i64 0, .int .i64 0]
/-- What a mark writes. -/
def WeekRow.mk1 (k : Int) : WeekRow := ⟨k, k + 1, k + 1 + 1, k + 1 + 1 + 1, k + 1 + 1 + 1 + 1⟩
def WeekRow.marks (k : Int) (n : Nat) : List WeekRow := (List.range n).map fun i : Nat => WeekRow.mk1 (k + 5 * (i : Int))
@[simp] theorem WeekRow.marks_len (k : Int) (n : Nat) : (WeekRow.marks k n).length = n := by simp [WeekRow.marks]
end Go.Proofs
end
section
set_option linter.unusedSimpArgs false
set_option linter.unusedVariables false
set_option maxRecDepth 100000
namespace Go.Proofs
open Go.Lv
def textOf {α : Type} (line : α → ByteArray) (L : List α) : ByteArray := L.foldl (fun s r => s ++ (line r ++ ⟨#[10]⟩)) ⟨#[]⟩
theorem textOf_succ {α : Type} (line : α → ByteArray) {L : List α} {i : Nat} (hi : i < L.length) : textOf line (L.take (i + 1)) = textOf line (L.take i) ++ (line L[i] ++ ⟨#[10]⟩) := by
  rw [List.take_succ_eq_append_getElem hi, textOf, List.foldl_append]; rfl
theorem textOf_size {α : Type} {line : α → ByteArray} {L : List α} {B : Nat} (h : ∀ x ∈ L, (line x).size ≤ B) : ∀ i, i ≤ L.length → (textOf line (L.take i)).size ≤ i * (B + 1)
  | 0, _ => by simp [textOf, ba_size]
  | i + 1, hi => by
    have ih := textOf_size h i (by omega)
    have hx := h (L[i]'(by omega)) (List.getElem_mem _)
    rw [textOf_succ line (by omega : i < L.length), Nat.succ_mul]
    simp only [ByteArray.size_append, ba_size, List.size_toArray, List.length_cons, List.length_nil]
    omega
end Go.Proofs
end
section
set_option linter.unusedSimpArgs false
set_option linter.unusedVariables false
set_option maxRecDepth 100000
set_option maxHeartbeats 1000000
namespace Go.Proofs
open Go.Lv
def consB (c : Console) : Bool := wB c.Watch && logB c.Log
def Console.fits (c : Console) : Prop := c.Watch.Posts.length ≤ 1048576 ∧ c.Watch.Shocks.length ≤ 1048576 ∧ c.Log.Durable.size ≤ 4194304 ∧ c.Log.Pending.size ≤ 4194304
theorem iIsValidConsole_ok (c : Console) (hc : c.fits) : Ctr Tryd.prog 34 [c.v] [] (.bool (consB c)) [] := by
  obtain ⟨h0, h1, h2, h3⟩ := hc
  refine Ctr.intro Tryd.mixed Tryd.func34 rfl Tryd.okF34 ?_
  simp -implicitDefEqProofs -dsimp only [go_sem, Nat.reduceSub, Nat.reduceAdd, Nat.reduceMul, Nat.reduceLT, Nat.reduceLeDiff, Nat.reduceEqDiff, Nat.reduceDiv, Nat.reduceMod, Int.reduceToNat, Int.reduceLE, Int.reduceLT, Int.reduceBEq, Int.reduceBNe, Int.reduceNeg, Int.reduceAdd, Int.reduceSub, Int.reduceMul, reduceCtorEq, Tryd.ntmps34, Tryd.results34]
  simp -implicitDefEqProofs -dsimp only [go_sem, Nat.reduceSub, Nat.reduceAdd, Nat.reduceMul, Nat.reduceLT, Nat.reduceLeDiff, Nat.reduceEqDiff, Nat.reduceDiv, Nat.reduceMod, Int.reduceToNat, Int.reduceLE, Int.reduceLT, Int.reduceBEq, Int.reduceBNe, Int.reduceNeg, Int.reduceAdd, Int.reduceSub, Int.reduceMul, reduceCtorEq, Console.v]
  (first | refine callT.at (iIsWatch_ok c.Watch (by omega) (by omega)) ⟨leA, trivial⟩ ?_ | refine callS.at (iIsWatch_ok c.Watch (by omega) (by omega)) ⟨leA, trivial⟩ ?_)
  cases h : wB c.Watch with
  | false =>
    simp -implicitDefEqProofs -dsimp only [go_sem, Nat.reduceSub, Nat.reduceAdd, Nat.reduceMul, Nat.reduceLT, Nat.reduceLeDiff, Nat.reduceEqDiff, Nat.reduceDiv, Nat.reduceMod, Int.reduceToNat, Int.reduceLE, Int.reduceLT, Int.reduceBEq, Int.reduceBNe, Int.reduceNeg, Int.reduceAdd, Int.reduceSub, Int.reduceMul, reduceCtorEq, h]
    exact WeakR.drop' (by simp [consB, h]) (by rfl)
  | true =>
    simp -implicitDefEqProofs -dsimp only [go_sem, Nat.reduceSub, Nat.reduceAdd, Nat.reduceMul, Nat.reduceLT, Nat.reduceLeDiff, Nat.reduceEqDiff, Nat.reduceDiv, Nat.reduceMod, Int.reduceToNat, Int.reduceLE, Int.reduceLT, Int.reduceBEq, Int.reduceBNe, Int.reduceNeg, Int.reduceAdd, Int.reduceSub, Int.reduceMul, reduceCtorEq, h]
    (first | refine callT.at (iIsValidLog_ok c.Log h2 h3) ⟨leA, trivial⟩ ?_ | refine callS.at (iIsValidLog_ok c.Log h2 h3) ⟨leA, trivial⟩ ?_)
    simp -implicitDefEqProofs -dsimp only [go_sem, Nat.reduceSub, Nat.reduceAdd, Nat.reduceMul, Nat.reduceLT, Nat.reduceLeDiff, Nat.reduceEqDiff, Nat.reduceDiv, Nat.reduceMod, Int.reduceToNat, Int.reduceLE, Int.reduceLT, Int.reduceBEq, Int.reduceBNe, Int.reduceNeg, Int.reduceAdd, Int.reduceSub, Int.reduceMul, reduceCtorEq]
    exact WeakR.drop' (by simp [consB, h]) (by rfl)
theorem l28Good_ok (c : Console) (hc : c.fits) : Ctr Tryd.prog 59 [c.v] [] (.bool (consB c)) [] := by
  obtain ⟨h0, h1, h2, h3⟩ := hc
  refine Ctr.intro Tryd.mixed Tryd.func59 rfl Tryd.okF59 ?_
  simp -implicitDefEqProofs -dsimp only [go_sem, Nat.reduceSub, Nat.reduceAdd, Nat.reduceMul, Nat.reduceLT, Nat.reduceLeDiff, Nat.reduceEqDiff, Nat.reduceDiv, Nat.reduceMod, Int.reduceToNat, Int.reduceLE, Int.reduceLT, Int.reduceBEq, Int.reduceBNe, Int.reduceNeg, Int.reduceAdd, Int.reduceSub, Int.reduceMul, reduceCtorEq, Tryd.ntmps59, Tryd.results59]
  simp -implicitDefEqProofs -dsimp only [go_sem, Nat.reduceSub, Nat.reduceAdd, Nat.reduceMul, Nat.reduceLT, Nat.reduceLeDiff, Nat.reduceEqDiff, Nat.reduceDiv, Nat.reduceMod, Int.reduceToNat, Int.reduceLE, Int.reduceLT, Int.reduceBEq, Int.reduceBNe, Int.reduceNeg, Int.reduceAdd, Int.reduceSub, Int.reduceMul, reduceCtorEq, Console.v]
  (first | refine callT.at (l25Good_ok c.Watch (by omega) (by omega)) ⟨leA, trivial⟩ ?_ | refine callS.at (l25Good_ok c.Watch (by omega) (by omega)) ⟨leA, trivial⟩ ?_)
  cases h : wB c.Watch with
  | false =>
    simp -implicitDefEqProofs -dsimp only [go_sem, Nat.reduceSub, Nat.reduceAdd, Nat.reduceMul, Nat.reduceLT, Nat.reduceLeDiff, Nat.reduceEqDiff, Nat.reduceDiv, Nat.reduceMod, Int.reduceToNat, Int.reduceLE, Int.reduceLT, Int.reduceBEq, Int.reduceBNe, Int.reduceNeg, Int.reduceAdd, Int.reduceSub, Int.reduceMul, reduceCtorEq, h]
    exact WeakR.drop' (by simp [consB, h]) (by rfl)
  | true =>
    simp -implicitDefEqProofs -dsimp only [go_sem, Nat.reduceSub, Nat.reduceAdd, Nat.reduceMul, Nat.reduceLT, Nat.reduceLeDiff, Nat.reduceEqDiff, Nat.reduceDiv, Nat.reduceMod, Int.reduceToNat, Int.reduceLE, Int.reduceLT, Int.reduceBEq, Int.reduceBNe, Int.reduceNeg, Int.reduceAdd, Int.reduceSub, Int.reduceMul, reduceCtorEq, h]
    (first | refine callT.at (l27Log_ok c.Log h2 h3) ⟨leA, trivial⟩ ?_ | refine callS.at (l27Log_ok c.Log h2 h3) ⟨leA, trivial⟩ ?_)
    simp -implicitDefEqProofs -dsimp only [go_sem, Nat.reduceSub, Nat.reduceAdd, Nat.reduceMul, Nat.reduceLT, Nat.reduceLeDiff, Nat.reduceEqDiff, Nat.reduceDiv, Nat.reduceMod, Int.reduceToNat, Int.reduceLE, Int.reduceLT, Int.reduceBEq, Int.reduceBNe, Int.reduceNeg, Int.reduceAdd, Int.reduceSub, Int.reduceMul, reduceCtorEq]
    exact WeakR.drop' (by simp [consB, h]) (by rfl)
def shockRow (x : Shock) : ByteArray := (num x.Number ++ ⟨#[58, 32]⟩) ++ shockText x
def consText (c : Console) : ByteArray := ((((((textOf shockRow c.Watch.Shocks ++ ⟨#[110, 111, 119, 32]⟩) ++ num c.Watch.Now) ++ ⟨#[59, 32, 97, 114, 99, 104, 105, 118, 101, 100, 32]⟩) ++ num c.Watch.Archived) ++ ⟨#[59, 32, 114, 101, 99, 111, 114, 100, 115, 32]⟩) ++ num c.Log.Count) ++ ⟨#[10]⟩
def consTextR (c : Console) : V := if consB c = true then .tup [.str (consText c), .bool true] else .tup [.str ByteArray.empty, .bool false]
theorem stateWord_size (s : Int) : (stateWord s).size ≤ 9 := by
  unfold stateWord
  split
  · decide
  · split
    · decide
    · split <;> decide
theorem shockText_size {n t : Int} {x : Shock} (h : shockB n t x = true) : (shockText x).size ≤ 70 := by
  obtain ⟨h1, h2⟩ := shockNums h
  have h3 := stateWord_size x.State
  unfold shockText shockHead
  split <;> (simp only [ByteArray.size_append, ba_size, List.size_toArray, List.length_cons, List.length_nil]; omega)
theorem shockRow_size {n t : Int} {x : Shock} (h : shockB n t x = true) (hn : n ≤ 1000) : (shockRow x).size ≤ 100 := by
  have h1 := shockText_size h
  have h2 := shockB_iff.1 h
  have h3 := num_size' (n := x.Number) (by omega) (by omega)
  unfold shockRow
  simp only [ByteArray.size_append, ba_size, List.size_toArray, List.length_cons, List.length_nil]
  omega
theorem logB_cnt {l : Log} (h : logB l = true) : 0 ≤ l.Count ∧ l.Count ≤ 60 := by
  simp only [logB, Bool.and_eq_true, decide_eq_true_eq] at h
  have := (recs_len (l.Durable ++ l.Pending)).2.2.2
  omega
theorem iFormatConsole_ok (c : Console) (hc : c.fits) : Ctr Tryd.prog 37 [c.v] [] (consTextR c) [] := by
  refine Ctr.intro Tryd.mixed Tryd.func37 rfl Tryd.okF37 ?_
  simp -implicitDefEqProofs -dsimp only [go_sem, Nat.reduceSub, Nat.reduceAdd, Nat.reduceMul, Nat.reduceLT, Nat.reduceLeDiff, Nat.reduceEqDiff, Nat.reduceDiv, Nat.reduceMod, Int.reduceToNat, Int.reduceLE, Int.reduceLT, Int.reduceBEq, Int.reduceBNe, Int.reduceNeg, Int.reduceAdd, Int.reduceSub, Int.reduceMul, reduceCtorEq, Tryd.ntmps37, Tryd.results37]
  cases h : consB c with
  | false =>
    simp -implicitDefEqProofs -dsimp only [go_sem, Nat.reduceSub, Nat.reduceAdd, Nat.reduceMul, Nat.reduceLT, Nat.reduceLeDiff, Nat.reduceEqDiff, Nat.reduceDiv, Nat.reduceMod, Int.reduceToNat, Int.reduceLE, Int.reduceLT, Int.reduceBEq, Int.reduceBNe, Int.reduceNeg, Int.reduceAdd, Int.reduceSub, Int.reduceMul, reduceCtorEq, Console.v]
    repeat' (first | exact WeakR.refl _ _ _ | (refine WeakR.drop' ?_ (by rfl); first | rfl | (simp [consTextR, h, *]; done)) | ((first | refine callT.at (iIsValidConsole_ok c hc) ⟨leA, trivial⟩ ?_ | refine callS.at (iIsValidConsole_ok c hc) ⟨leA, trivial⟩ ?_); simp -implicitDefEqProofs -dsimp only [go_sem, Nat.reduceSub, Nat.reduceAdd, Nat.reduceMul, Nat.reduceLT, Nat.reduceLeDiff, Nat.reduceEqDiff, Nat.reduceDiv, Nat.reduceMod, Int.reduceToNat, Int.reduceLE, Int.reduceLT, Int.reduceBEq, Int.reduceBNe, Int.reduceNeg, Int.reduceAdd, Int.reduceSub, Int.reduceMul, reduceCtorEq, consTextR, h, *]) | (refine guardT.splitT (fun _ => ?_) (fun _ => ?_) <;> simp -implicitDefEqProofs -dsimp only [go_sem, Nat.reduceSub, Nat.reduceAdd, Nat.reduceMul, Nat.reduceLT, Nat.reduceLeDiff, Nat.reduceEqDiff, Nat.reduceDiv, Nat.reduceMod, Int.reduceToNat, Int.reduceLE, Int.reduceLT, Int.reduceBEq, Int.reduceBNe, Int.reduceNeg, Int.reduceAdd, Int.reduceSub, Int.reduceMul, reduceCtorEq, consTextR, h, *]) | (refine guardT.splitF (fun _ => ?_) (fun _ => ?_) <;> simp -implicitDefEqProofs -dsimp only [go_sem, Nat.reduceSub, Nat.reduceAdd, Nat.reduceMul, Nat.reduceLT, Nat.reduceLeDiff, Nat.reduceEqDiff, Nat.reduceDiv, Nat.reduceMod, Int.reduceToNat, Int.reduceLE, Int.reduceLT, Int.reduceBEq, Int.reduceBNe, Int.reduceNeg, Int.reduceAdd, Int.reduceSub, Int.reduceMul, reduceCtorEq, consTextR, h, *]) | (refine condT.split (fun _ => ?_) (fun _ => ?_) <;> simp -implicitDefEqProofs -dsimp only [go_sem, Nat.reduceSub, Nat.reduceAdd, Nat.reduceMul, Nat.reduceLT, Nat.reduceLeDiff, Nat.reduceEqDiff, Nat.reduceDiv, Nat.reduceMod, Int.reduceToNat, Int.reduceLE, Int.reduceLT, Int.reduceBEq, Int.reduceBNe, Int.reduceNeg, Int.reduceAdd, Int.reduceSub, Int.reduceMul, reduceCtorEq, consTextR, h, *]) | (exfalso; simp_all; done))
  | true =>
    obtain ⟨h0, h1, h2, h3⟩ := id hc
    have hcb := h
    simp only [consB, Bool.and_eq_true] at hcb
    have hw := wB_ok hcb.1
    have hct := logB_cnt hcb.2
    have hsh : ∀ x ∈ c.Watch.Shocks, shockB c.Watch.Next c.Watch.Now x = true := hw.shocks
    have hnx := hw.next
    have hnw := hw.now
    have har := hw.arch
    have hsl := hw.slen
    have s1 := num_size' (n := c.Watch.Now) (by omega) (by omega)
    have s2 := num_size' (n := c.Watch.Archived) (by omega) (by omega)
    have s3 := num_size' (n := c.Log.Count) (by omega) (by omega)
    simp -implicitDefEqProofs -dsimp only [go_sem, Nat.reduceSub, Nat.reduceAdd, Nat.reduceMul, Nat.reduceLT, Nat.reduceLeDiff, Nat.reduceEqDiff, Nat.reduceDiv, Nat.reduceMod, Int.reduceToNat, Int.reduceLE, Int.reduceLT, Int.reduceBEq, Int.reduceBNe, Int.reduceNeg, Int.reduceAdd, Int.reduceSub, Int.reduceMul, reduceCtorEq, Console.v]
    repeat (first | ((first | refine callT.at (iIsValidConsole_ok c hc) ⟨leA, trivial⟩ ?_ | refine callS.at (iIsValidConsole_ok c hc) ⟨leA, trivial⟩ ?_); simp -implicitDefEqProofs -dsimp only [go_sem, Nat.reduceSub, Nat.reduceAdd, Nat.reduceMul, Nat.reduceLT, Nat.reduceLeDiff, Nat.reduceEqDiff, Nat.reduceDiv, Nat.reduceMod, Int.reduceToNat, Int.reduceLE, Int.reduceLT, Int.reduceBEq, Int.reduceBNe, Int.reduceNeg, Int.reduceAdd, Int.reduceSub, Int.reduceMul, reduceCtorEq, h]) | (with_reducible refine And.intro (by first | omega | (show drawOk _ = true; kernel_rfl) | (simp only [ByteArray.size_append, ba_size, List.size_toArray, List.length_cons, List.length_nil]; omega)) ?_; try (repeat1' (first | simp -implicitDefEqProofs -dsimp only [go_sem, Nat.reduceSub, Nat.reduceAdd, Nat.reduceMul, Nat.reduceLT, Nat.reduceLeDiff, Nat.reduceEqDiff, Nat.reduceDiv, Nat.reduceMod, Int.reduceToNat, Int.reduceLE, Int.reduceLT, Int.reduceBEq, Int.reduceBNe, Int.reduceNeg, Int.reduceAdd, Int.reduceSub, Int.reduceMul, reduceCtorEq, h] | simp -implicitDefEqProofs -dsimp (disch := omega) only [wrap_i64]))))
    refine LoopT.intro (fun i : Nat => i ≤ c.Watch.Shocks.length) (fun i => ⟨[.undef, .ptr 0 0, .undef, .undef, .str (textOf shockRow (c.Watch.Shocks.take i)), .undef, .undef, .undef, .undef, .undef, .undef, .undef, Shock.sl c.Watch.Shocks, .int .i64 c.Watch.Shocks.length, .int .i64 i, .undef, .undef, .undef, .undef, .undef, .undef, .undef, .undef, .undef, .undef, .undef, .undef, .undef, .undef, .undef, .undef, .undef, .undef, .undef, .undef, .undef, .undef, .undef, .undef, .undef, .undef, .undef, .undef, .undef, .undef, .undef, .undef, .undef, .undef], [some c.cs], 0⟩) (fun i => c.Watch.Shocks.length - i) 0 (Nat.zero_le _) ?_ (fun i hi => ?_)
    · refine Weak.cut (1) (by simp) (by simp) ?_ ?_
      · simp [LeC, LeV, ren, cutF, textOf]
      · simp [cutH, cutB, ren, Console.cs, map_ren_rows]
    have ht := textOf_size (line := shockRow) (fun x hx => shockRow_size (hsh x hx) (by omega)) i hi
    simp -implicitDefEqProofs -dsimp only [go_sem, Nat.reduceSub, Nat.reduceAdd, Nat.reduceMul, Nat.reduceLT, Nat.reduceLeDiff, Nat.reduceEqDiff, Nat.reduceDiv, Nat.reduceMod, Int.reduceToNat, Int.reduceLE, Int.reduceLT, Int.reduceBEq, Int.reduceBNe, Int.reduceNeg, Int.reduceAdd, Int.reduceSub, Int.reduceMul, reduceCtorEq]
    refine condT.split (fun h1 => ?_) (fun h1 => ?_)
    · simp -implicitDefEqProofs -dsimp only [go_sem, Nat.reduceSub, Nat.reduceAdd, Nat.reduceMul, Nat.reduceLT, Nat.reduceLeDiff, Nat.reduceEqDiff, Nat.reduceDiv, Nat.reduceMod, Int.reduceToNat, Int.reduceLE, Int.reduceLT, Int.reduceBEq, Int.reduceBNe, Int.reduceNeg, Int.reduceAdd, Int.reduceSub, Int.reduceMul, reduceCtorEq, h1]
      have hi' : i < c.Watch.Shocks.length := by simpa using h1
      have h5 := Shock.csl c.Watch.Shocks[i]
      have hr := rows_at Shock.csl hi'
      have hx := hsh _ (List.getElem_mem hi')
      have hxv := shockB_iff.1 hx
      have hts := shockText_size hx
      have hns := num_size' (n := c.Watch.Shocks[i].Number) (by omega) (by omega)
      (repeat ((repeat1' (first | simp -implicitDefEqProofs -dsimp only [go_sem, Nat.reduceSub, Nat.reduceAdd, Nat.reduceMul, Nat.reduceLT, Nat.reduceLeDiff, Nat.reduceEqDiff, Nat.reduceDiv, Nat.reduceMod, Int.reduceToNat, Int.reduceLE, Int.reduceLT, Int.reduceBEq, Int.reduceBNe, Int.reduceNeg, Int.reduceAdd, Int.reduceSub, Int.reduceMul, reduceCtorEq, hr, Shock.cs] | simp -implicitDefEqProofs -dsimp (disch := omega) only [wrap_i64])); repeat (with_reducible refine And.intro ?_ ?_; focus (first | omega | with_reducible rfl | (show drawOk _ = true; kernel_rfl) | (simp only [rows_length, rows_cell, List.length_append, List.length_cons, List.length_nil, List.all_append, List.all_cons, List.all_nil, isCell, Nat.mul_one, Nat.one_mul, Bool.and_self]; first | done | omega) | (simp only [ByteArray.size_append, ba_size, List.size_toArray, List.length_cons, List.length_nil]; omega)))))
      repeat (first | ((first | refine callT.at (itoa_ok c.Watch.Shocks[i].Number ⟨by omega, by omega⟩) ⟨leA, trivial⟩ ?_ | refine callS.at (itoa_ok c.Watch.Shocks[i].Number ⟨by omega, by omega⟩) ⟨leA, trivial⟩ ?_); simp -implicitDefEqProofs -dsimp only [go_sem, Nat.reduceSub, Nat.reduceAdd, Nat.reduceMul, Nat.reduceLT, Nat.reduceLeDiff, Nat.reduceEqDiff, Nat.reduceDiv, Nat.reduceMod, Int.reduceToNat, Int.reduceLE, Int.reduceLT, Int.reduceBEq, Int.reduceBNe, Int.reduceNeg, Int.reduceAdd, Int.reduceSub, Int.reduceMul, reduceCtorEq]) | ((first | refine callT.at (shockText_ok _ _ c.Watch.Shocks[i] hx) ⟨leA, trivial⟩ ?_ | refine callS.at (shockText_ok _ _ c.Watch.Shocks[i] hx) ⟨leA, trivial⟩ ?_); simp -implicitDefEqProofs -dsimp only [go_sem, Nat.reduceSub, Nat.reduceAdd, Nat.reduceMul, Nat.reduceLT, Nat.reduceLeDiff, Nat.reduceEqDiff, Nat.reduceDiv, Nat.reduceMod, Int.reduceToNat, Int.reduceLE, Int.reduceLT, Int.reduceBEq, Int.reduceBNe, Int.reduceNeg, Int.reduceAdd, Int.reduceSub, Int.reduceMul, reduceCtorEq]) | (with_reducible refine And.intro (by first | omega | (show drawOk _ = true; kernel_rfl) | (simp only [ByteArray.size_append, ba_size, List.size_toArray, List.length_cons, List.length_nil]; omega)) ?_; try (repeat1' (first | simp -implicitDefEqProofs -dsimp only [go_sem, Nat.reduceSub, Nat.reduceAdd, Nat.reduceMul, Nat.reduceLT, Nat.reduceLeDiff, Nat.reduceEqDiff, Nat.reduceDiv, Nat.reduceMod, Int.reduceToNat, Int.reduceLE, Int.reduceLT, Int.reduceBEq, Int.reduceBNe, Int.reduceNeg, Int.reduceAdd, Int.reduceSub, Int.reduceMul, reduceCtorEq] | simp -implicitDefEqProofs -dsimp (disch := omega) only [wrap_i64]))))
      refine ⟨i + 1, hi', ?_, by omega⟩
      refine Weak.cut (1) (by simp) (by simp) ?_ ?_
      · rw [textOf_succ shockRow hi']
        simp [LeC, LeV, ren, cutF, shockRow]
      · simp [cutH, cutB, ren, Console.cs, map_ren_rows]
    · simp -implicitDefEqProofs -dsimp only [go_sem, Nat.reduceSub, Nat.reduceAdd, Nat.reduceMul, Nat.reduceLT, Nat.reduceLeDiff, Nat.reduceEqDiff, Nat.reduceDiv, Nat.reduceMod, Int.reduceToNat, Int.reduceLE, Int.reduceLT, Int.reduceBEq, Int.reduceBNe, Int.reduceNeg, Int.reduceAdd, Int.reduceSub, Int.reduceMul, reduceCtorEq, h1]
      have hi' : i = c.Watch.Shocks.length := by simp at h1; omega
      subst hi'
      rw [List.take_length] at ht ⊢
      simp -implicitDefEqProofs -dsimp only [go_sem, Nat.reduceSub, Nat.reduceAdd, Nat.reduceMul, Nat.reduceLT, Nat.reduceLeDiff, Nat.reduceEqDiff, Nat.reduceDiv, Nat.reduceMod, Int.reduceToNat, Int.reduceLE, Int.reduceLT, Int.reduceBEq, Int.reduceBNe, Int.reduceNeg, Int.reduceAdd, Int.reduceSub, Int.reduceMul, reduceCtorEq, Console.cs]
      repeat (first | ((first | refine callT.at (itoa_ok c.Watch.Now ⟨by omega, by omega⟩) ⟨leA, trivial⟩ ?_ | refine callS.at (itoa_ok c.Watch.Now ⟨by omega, by omega⟩) ⟨leA, trivial⟩ ?_); simp -implicitDefEqProofs -dsimp only [go_sem, Nat.reduceSub, Nat.reduceAdd, Nat.reduceMul, Nat.reduceLT, Nat.reduceLeDiff, Nat.reduceEqDiff, Nat.reduceDiv, Nat.reduceMod, Int.reduceToNat, Int.reduceLE, Int.reduceLT, Int.reduceBEq, Int.reduceBNe, Int.reduceNeg, Int.reduceAdd, Int.reduceSub, Int.reduceMul, reduceCtorEq, Console.cs]) | ((first | refine callT.at (itoa_ok c.Watch.Archived ⟨by omega, by omega⟩) ⟨leA, trivial⟩ ?_ | refine callS.at (itoa_ok c.Watch.Archived ⟨by omega, by omega⟩) ⟨leA, trivial⟩ ?_); simp -implicitDefEqProofs -dsimp only [go_sem, Nat.reduceSub, Nat.reduceAdd, Nat.reduceMul, Nat.reduceLT, Nat.reduceLeDiff, Nat.reduceEqDiff, Nat.reduceDiv, Nat.reduceMod, Int.reduceToNat, Int.reduceLE, Int.reduceLT, Int.reduceBEq, Int.reduceBNe, Int.reduceNeg, Int.reduceAdd, Int.reduceSub, Int.reduceMul, reduceCtorEq, Console.cs]) | ((first | refine callT.at (itoa_ok c.Log.Count ⟨by omega, by omega⟩) ⟨leA, trivial⟩ ?_ | refine callS.at (itoa_ok c.Log.Count ⟨by omega, by omega⟩) ⟨leA, trivial⟩ ?_); simp -implicitDefEqProofs -dsimp only [go_sem, Nat.reduceSub, Nat.reduceAdd, Nat.reduceMul, Nat.reduceLT, Nat.reduceLeDiff, Nat.reduceEqDiff, Nat.reduceDiv, Nat.reduceMod, Int.reduceToNat, Int.reduceLE, Int.reduceLT, Int.reduceBEq, Int.reduceBNe, Int.reduceNeg, Int.reduceAdd, Int.reduceSub, Int.reduceMul, reduceCtorEq, Console.cs]) | (with_reducible refine And.intro (by first | omega | (show drawOk _ = true; kernel_rfl) | (simp only [ByteArray.size_append, ba_size, List.size_toArray, List.length_cons, List.length_nil]; omega)) ?_; try (repeat1' (first | simp -implicitDefEqProofs -dsimp only [go_sem, Nat.reduceSub, Nat.reduceAdd, Nat.reduceMul, Nat.reduceLT, Nat.reduceLeDiff, Nat.reduceEqDiff, Nat.reduceDiv, Nat.reduceMod, Int.reduceToNat, Int.reduceLE, Int.reduceLT, Int.reduceBEq, Int.reduceBNe, Int.reduceNeg, Int.reduceAdd, Int.reduceSub, Int.reduceMul, reduceCtorEq, Console.cs] | simp -implicitDefEqProofs -dsimp (disch := omega) only [wrap_i64]))))
      exact WeakR.drop' (by simp [consTextR, h, consText]) (by rfl)
theorem sFormatConsole_ok (c : Console) (hc : c.fits) : Ctr Tryd.prog 36 [c.v] [] (consTextR c) [] := by
  refine Ctr.intro Tryd.mixed Tryd.func36 rfl Tryd.okF36 ?_
  simp -implicitDefEqProofs -dsimp only [go_sem, Nat.reduceSub, Nat.reduceAdd, Nat.reduceMul, Nat.reduceLT, Nat.reduceLeDiff, Nat.reduceEqDiff, Nat.reduceDiv, Nat.reduceMod, Int.reduceToNat, Int.reduceLE, Int.reduceLT, Int.reduceBEq, Int.reduceBNe, Int.reduceNeg, Int.reduceAdd, Int.reduceSub, Int.reduceMul, reduceCtorEq, Tryd.ntmps36, Tryd.results36]
  cases h : consB c with
  | false =>
    simp -implicitDefEqProofs -dsimp only [go_sem, Nat.reduceSub, Nat.reduceAdd, Nat.reduceMul, Nat.reduceLT, Nat.reduceLeDiff, Nat.reduceEqDiff, Nat.reduceDiv, Nat.reduceMod, Int.reduceToNat, Int.reduceLE, Int.reduceLT, Int.reduceBEq, Int.reduceBNe, Int.reduceNeg, Int.reduceAdd, Int.reduceSub, Int.reduceMul, reduceCtorEq, Console.v]
    repeat' (first | exact WeakR.refl _ _ _ | (refine WeakR.drop' ?_ (by rfl); first | rfl | (simp [consTextR, h, *]; done)) | ((first | refine callT.at (l28Good_ok c hc) ⟨leA, trivial⟩ ?_ | refine callS.at (l28Good_ok c hc) ⟨leA, trivial⟩ ?_); simp -implicitDefEqProofs -dsimp only [go_sem, Nat.reduceSub, Nat.reduceAdd, Nat.reduceMul, Nat.reduceLT, Nat.reduceLeDiff, Nat.reduceEqDiff, Nat.reduceDiv, Nat.reduceMod, Int.reduceToNat, Int.reduceLE, Int.reduceLT, Int.reduceBEq, Int.reduceBNe, Int.reduceNeg, Int.reduceAdd, Int.reduceSub, Int.reduceMul, reduceCtorEq, consTextR, h, *]) | (refine guardT.splitT (fun _ => ?_) (fun _ => ?_) <;> simp -implicitDefEqProofs -dsimp only [go_sem, Nat.reduceSub, Nat.reduceAdd, Nat.reduceMul, Nat.reduceLT, Nat.reduceLeDiff, Nat.reduceEqDiff, Nat.reduceDiv, Nat.reduceMod, Int.reduceToNat, Int.reduceLE, Int.reduceLT, Int.reduceBEq, Int.reduceBNe, Int.reduceNeg, Int.reduceAdd, Int.reduceSub, Int.reduceMul, reduceCtorEq, consTextR, h, *]) | (refine guardT.splitF (fun _ => ?_) (fun _ => ?_) <;> simp -implicitDefEqProofs -dsimp only [go_sem, Nat.reduceSub, Nat.reduceAdd, Nat.reduceMul, Nat.reduceLT, Nat.reduceLeDiff, Nat.reduceEqDiff, Nat.reduceDiv, Nat.reduceMod, Int.reduceToNat, Int.reduceLE, Int.reduceLT, Int.reduceBEq, Int.reduceBNe, Int.reduceNeg, Int.reduceAdd, Int.reduceSub, Int.reduceMul, reduceCtorEq, consTextR, h, *]) | (refine condT.split (fun _ => ?_) (fun _ => ?_) <;> simp -implicitDefEqProofs -dsimp only [go_sem, Nat.reduceSub, Nat.reduceAdd, Nat.reduceMul, Nat.reduceLT, Nat.reduceLeDiff, Nat.reduceEqDiff, Nat.reduceDiv, Nat.reduceMod, Int.reduceToNat, Int.reduceLE, Int.reduceLT, Int.reduceBEq, Int.reduceBNe, Int.reduceNeg, Int.reduceAdd, Int.reduceSub, Int.reduceMul, reduceCtorEq, consTextR, h, *]) | (exfalso; simp_all; done))
  | true =>
    obtain ⟨h0, h1, h2, h3⟩ := id hc
    have hcb := h
    simp only [consB, Bool.and_eq_true] at hcb
    have hw := wB_ok hcb.1
    have hct := logB_cnt hcb.2
    have hsh : ∀ x ∈ c.Watch.Shocks, shockB c.Watch.Next c.Watch.Now x = true := hw.shocks
    have hnx := hw.next
    have hnw := hw.now
    have har := hw.arch
    have hsl := hw.slen
    have s1 := num_size' (n := c.Watch.Now) (by omega) (by omega)
    have s2 := num_size' (n := c.Watch.Archived) (by omega) (by omega)
    have s3 := num_size' (n := c.Log.Count) (by omega) (by omega)
    simp -implicitDefEqProofs -dsimp only [go_sem, Nat.reduceSub, Nat.reduceAdd, Nat.reduceMul, Nat.reduceLT, Nat.reduceLeDiff, Nat.reduceEqDiff, Nat.reduceDiv, Nat.reduceMod, Int.reduceToNat, Int.reduceLE, Int.reduceLT, Int.reduceBEq, Int.reduceBNe, Int.reduceNeg, Int.reduceAdd, Int.reduceSub, Int.reduceMul, reduceCtorEq, Console.v]
    repeat (first | ((first | refine callT.at (l28Good_ok c hc) ⟨leA, trivial⟩ ?_ | refine callS.at (l28Good_ok c hc) ⟨leA, trivial⟩ ?_); simp -implicitDefEqProofs -dsimp only [go_sem, Nat.reduceSub, Nat.reduceAdd, Nat.reduceMul, Nat.reduceLT, Nat.reduceLeDiff, Nat.reduceEqDiff, Nat.reduceDiv, Nat.reduceMod, Int.reduceToNat, Int.reduceLE, Int.reduceLT, Int.reduceBEq, Int.reduceBNe, Int.reduceNeg, Int.reduceAdd, Int.reduceSub, Int.reduceMul, reduceCtorEq, h]) | (with_reducible refine And.intro (by first | omega | (show drawOk _ = true; kernel_rfl) | (simp only [ByteArray.size_append, ba_size, List.size_toArray, List.length_cons, List.length_nil]; omega)) ?_; try (repeat1' (first | simp -implicitDefEqProofs -dsimp only [go_sem, Nat.reduceSub, Nat.reduceAdd, Nat.reduceMul, Nat.reduceLT, Nat.reduceLeDiff, Nat.reduceEqDiff, Nat.reduceDiv, Nat.reduceMod, Int.reduceToNat, Int.reduceLE, Int.reduceLT, Int.reduceBEq, Int.reduceBNe, Int.reduceNeg, Int.reduceAdd, Int.reduceSub, Int.reduceMul, reduceCtorEq, h] | simp -implicitDefEqProofs -dsimp (disch := omega) only [wrap_i64]))))
    refine LoopT.intro (fun i : Nat => i ≤ c.Watch.Shocks.length) (fun i => ⟨[.undef, .ptr 0 0, .undef, .undef, .str (textOf shockRow (c.Watch.Shocks.take i)), .int .i64 i, .undef, .undef, .undef, .undef, .undef, .undef, .undef, .undef, .undef, .undef, .undef, .undef, .undef, .undef, .undef, .undef, .undef, .undef, .undef, .undef, .undef, .undef, .undef, .undef, .undef, .undef, .undef, .undef, .undef, .undef, .undef, .undef, .undef, .undef, .undef, .undef, .undef, .undef, .undef, .undef, .undef, .undef, .undef, .undef, .undef, .undef, .undef, .undef], [some c.cs], 0⟩) (fun i => c.Watch.Shocks.length - i) 0 (Nat.zero_le _) ?_ (fun i hi => ?_)
    · refine Weak.cut (1) (by simp) (by simp) ?_ ?_
      · simp [LeC, LeV, ren, cutF, textOf]
      · simp [cutH, cutB, ren, Console.cs, map_ren_rows]
    have ht := textOf_size (line := shockRow) (fun x hx => shockRow_size (hsh x hx) (by omega)) i hi
    simp -implicitDefEqProofs -dsimp only [go_sem, Nat.reduceSub, Nat.reduceAdd, Nat.reduceMul, Nat.reduceLT, Nat.reduceLeDiff, Nat.reduceEqDiff, Nat.reduceDiv, Nat.reduceMod, Int.reduceToNat, Int.reduceLE, Int.reduceLT, Int.reduceBEq, Int.reduceBNe, Int.reduceNeg, Int.reduceAdd, Int.reduceSub, Int.reduceMul, reduceCtorEq, Console.cs]
    refine condT.split (fun h1 => ?_) (fun h1 => ?_)
    · simp -implicitDefEqProofs -dsimp only [go_sem, Nat.reduceSub, Nat.reduceAdd, Nat.reduceMul, Nat.reduceLT, Nat.reduceLeDiff, Nat.reduceEqDiff, Nat.reduceDiv, Nat.reduceMod, Int.reduceToNat, Int.reduceLE, Int.reduceLT, Int.reduceBEq, Int.reduceBNe, Int.reduceNeg, Int.reduceAdd, Int.reduceSub, Int.reduceMul, reduceCtorEq, h1]
      have hi' : i < c.Watch.Shocks.length := by simpa using h1
      have h5 := Shock.csl c.Watch.Shocks[i]
      have hr := rows_at Shock.csl hi'
      have hx := hsh _ (List.getElem_mem hi')
      have hxv := shockB_iff.1 hx
      have hts := shockText_size hx
      have hns := num_size' (n := c.Watch.Shocks[i].Number) (by omega) (by omega)
      (repeat ((repeat1' (first | simp -implicitDefEqProofs -dsimp only [go_sem, Nat.reduceSub, Nat.reduceAdd, Nat.reduceMul, Nat.reduceLT, Nat.reduceLeDiff, Nat.reduceEqDiff, Nat.reduceDiv, Nat.reduceMod, Int.reduceToNat, Int.reduceLE, Int.reduceLT, Int.reduceBEq, Int.reduceBNe, Int.reduceNeg, Int.reduceAdd, Int.reduceSub, Int.reduceMul, reduceCtorEq, hr, Shock.cs] | simp -implicitDefEqProofs -dsimp (disch := omega) only [wrap_i64])); repeat (with_reducible refine And.intro ?_ ?_; focus (first | omega | with_reducible rfl | (show drawOk _ = true; kernel_rfl) | (simp only [rows_length, rows_cell, List.length_append, List.length_cons, List.length_nil, List.all_append, List.all_cons, List.all_nil, isCell, Nat.mul_one, Nat.one_mul, Bool.and_self]; first | done | omega) | (simp only [ByteArray.size_append, ba_size, List.size_toArray, List.length_cons, List.length_nil]; omega)))))
      repeat (first | ((first | refine callT.at (l1Num_ok c.Watch.Shocks[i].Number (by omega) (by omega)) ⟨leA, trivial⟩ ?_ | refine callS.at (l1Num_ok c.Watch.Shocks[i].Number (by omega) (by omega)) ⟨leA, trivial⟩ ?_); simp -implicitDefEqProofs -dsimp only [go_sem, Nat.reduceSub, Nat.reduceAdd, Nat.reduceMul, Nat.reduceLT, Nat.reduceLeDiff, Nat.reduceEqDiff, Nat.reduceDiv, Nat.reduceMod, Int.reduceToNat, Int.reduceLE, Int.reduceLT, Int.reduceBEq, Int.reduceBNe, Int.reduceNeg, Int.reduceAdd, Int.reduceSub, Int.reduceMul, reduceCtorEq]) | ((first | refine callT.at (l25Text_ok _ _ c.Watch.Shocks[i] hx) ⟨leA, trivial⟩ ?_ | refine callS.at (l25Text_ok _ _ c.Watch.Shocks[i] hx) ⟨leA, trivial⟩ ?_); simp -implicitDefEqProofs -dsimp only [go_sem, Nat.reduceSub, Nat.reduceAdd, Nat.reduceMul, Nat.reduceLT, Nat.reduceLeDiff, Nat.reduceEqDiff, Nat.reduceDiv, Nat.reduceMod, Int.reduceToNat, Int.reduceLE, Int.reduceLT, Int.reduceBEq, Int.reduceBNe, Int.reduceNeg, Int.reduceAdd, Int.reduceSub, Int.reduceMul, reduceCtorEq]) | (with_reducible refine And.intro (by first | omega | (show drawOk _ = true; kernel_rfl) | (simp only [ByteArray.size_append, ba_size, List.size_toArray, List.length_cons, List.length_nil]; omega)) ?_; try (repeat1' (first | simp -implicitDefEqProofs -dsimp only [go_sem, Nat.reduceSub, Nat.reduceAdd, Nat.reduceMul, Nat.reduceLT, Nat.reduceLeDiff, Nat.reduceEqDiff, Nat.reduceDiv, Nat.reduceMod, Int.reduceToNat, Int.reduceLE, Int.reduceLT, Int.reduceBEq, Int.reduceBNe, Int.reduceNeg, Int.reduceAdd, Int.reduceSub, Int.reduceMul, reduceCtorEq] | simp -implicitDefEqProofs -dsimp (disch := omega) only [wrap_i64]))))
      refine ⟨i + 1, hi', ?_, by omega⟩
      refine Weak.cut (1) (by simp) (by simp) ?_ ?_
      · rw [textOf_succ shockRow hi']
        simp [LeC, LeV, ren, cutF, shockRow, ByteArray.append_assoc]
      · simp [cutH, cutB, ren, Console.cs, map_ren_rows]
    · simp -implicitDefEqProofs -dsimp only [go_sem, Nat.reduceSub, Nat.reduceAdd, Nat.reduceMul, Nat.reduceLT, Nat.reduceLeDiff, Nat.reduceEqDiff, Nat.reduceDiv, Nat.reduceMod, Int.reduceToNat, Int.reduceLE, Int.reduceLT, Int.reduceBEq, Int.reduceBNe, Int.reduceNeg, Int.reduceAdd, Int.reduceSub, Int.reduceMul, reduceCtorEq, h1]
      have hi' : i = c.Watch.Shocks.length := by simp at h1; omega
      subst hi'
      rw [List.take_length] at ht ⊢
      repeat (first | ((first | refine callT.at (l1Num_ok c.Watch.Now (by omega) (by omega)) ⟨leA, trivial⟩ ?_ | refine callS.at (l1Num_ok c.Watch.Now (by omega) (by omega)) ⟨leA, trivial⟩ ?_); simp -implicitDefEqProofs -dsimp only [go_sem, Nat.reduceSub, Nat.reduceAdd, Nat.reduceMul, Nat.reduceLT, Nat.reduceLeDiff, Nat.reduceEqDiff, Nat.reduceDiv, Nat.reduceMod, Int.reduceToNat, Int.reduceLE, Int.reduceLT, Int.reduceBEq, Int.reduceBNe, Int.reduceNeg, Int.reduceAdd, Int.reduceSub, Int.reduceMul, reduceCtorEq, Console.cs]) | ((first | refine callT.at (l1Num_ok c.Watch.Archived (by omega) (by omega)) ⟨leA, trivial⟩ ?_ | refine callS.at (l1Num_ok c.Watch.Archived (by omega) (by omega)) ⟨leA, trivial⟩ ?_); simp -implicitDefEqProofs -dsimp only [go_sem, Nat.reduceSub, Nat.reduceAdd, Nat.reduceMul, Nat.reduceLT, Nat.reduceLeDiff, Nat.reduceEqDiff, Nat.reduceDiv, Nat.reduceMod, Int.reduceToNat, Int.reduceLE, Int.reduceLT, Int.reduceBEq, Int.reduceBNe, Int.reduceNeg, Int.reduceAdd, Int.reduceSub, Int.reduceMul, reduceCtorEq, Console.cs]) | ((first | refine callT.at (l1Num_ok c.Log.Count (by omega) (by omega)) ⟨leA, trivial⟩ ?_ | refine callS.at (l1Num_ok c.Log.Count (by omega) (by omega)) ⟨leA, trivial⟩ ?_); simp -implicitDefEqProofs -dsimp only [go_sem, Nat.reduceSub, Nat.reduceAdd, Nat.reduceMul, Nat.reduceLT, Nat.reduceLeDiff, Nat.reduceEqDiff, Nat.reduceDiv, Nat.reduceMod, Int.reduceToNat, Int.reduceLE, Int.reduceLT, Int.reduceBEq, Int.reduceBNe, Int.reduceNeg, Int.reduceAdd, Int.reduceSub, Int.reduceMul, reduceCtorEq, Console.cs]) | (with_reducible refine And.intro (by first | omega | (show drawOk _ = true; kernel_rfl) | (simp only [ByteArray.size_append, ba_size, List.size_toArray, List.length_cons, List.length_nil]; omega)) ?_; try (repeat1' (first | simp -implicitDefEqProofs -dsimp only [go_sem, Nat.reduceSub, Nat.reduceAdd, Nat.reduceMul, Nat.reduceLT, Nat.reduceLeDiff, Nat.reduceEqDiff, Nat.reduceDiv, Nat.reduceMod, Int.reduceToNat, Int.reduceLE, Int.reduceLT, Int.reduceBEq, Int.reduceBNe, Int.reduceNeg, Int.reduceAdd, Int.reduceSub, Int.reduceMul, reduceCtorEq, Console.cs] | simp -implicitDefEqProofs -dsimp (disch := omega) only [wrap_i64]))))
      exact WeakR.drop' (by simp [consTextR, h, consText]) (by rfl)
end Go.Proofs
end
section
set_option linter.unusedSimpArgs false
set_option linter.unusedVariables false
set_option maxRecDepth 100000
set_option maxHeartbeats 1000000
namespace Go.Proofs
open Go.Lv
theorem fnFormatConsole_ok (c : Console) (hc : c.ok) : Ctr Tryd.prog 8 [c.v] [] (.bool true) [] := by
  obtain ⟨z, hz, h0⟩ := szConsole_ok c hc 1048576 (by omega) (by omega)
  refine Ctr.intro Tryd.mixed Tryd.func8 rfl Tryd.okF8 ?_
  simp -implicitDefEqProofs -dsimp only [go_sem, Nat.reduceSub, Nat.reduceAdd, Nat.reduceMul, Nat.reduceLT, Nat.reduceLeDiff, Nat.reduceEqDiff, Nat.reduceDiv, Nat.reduceMod, Int.reduceToNat, Int.reduceLE, Int.reduceLT, Int.reduceBEq, Int.reduceBNe, Int.reduceNeg, Int.reduceAdd, Int.reduceSub, Int.reduceMul, reduceCtorEq, Tryd.ntmps8, Tryd.results8]
  simp -implicitDefEqProofs -dsimp only [go_sem, Nat.reduceSub, Nat.reduceAdd, Nat.reduceMul, Nat.reduceLT, Nat.reduceLeDiff, Nat.reduceEqDiff, Nat.reduceDiv, Nat.reduceMod, Int.reduceToNat, Int.reduceLE, Int.reduceLT, Int.reduceBEq, Int.reduceBNe, Int.reduceNeg, Int.reduceAdd, Int.reduceSub, Int.reduceMul, reduceCtorEq, Console.v]
  (first | refine callT.at (h0) ⟨(by first | exact leA | exact Console.le rfl rfl), (by first | exact leA | exact Console.le rfl rfl), trivial⟩ ?_ | refine callS.at (h0) ⟨(by first | exact leA | exact Console.le rfl rfl), (by first | exact leA | exact Console.le rfl rfl), trivial⟩ ?_)
  simp -implicitDefEqProofs -dsimp only [go_sem, Nat.reduceSub, Nat.reduceAdd, Nat.reduceMul, Nat.reduceLT, Nat.reduceLeDiff, Nat.reduceEqDiff, Nat.reduceDiv, Nat.reduceMod, Int.reduceToNat, Int.reduceLE, Int.reduceLT, Int.reduceBEq, Int.reduceBNe, Int.reduceNeg, Int.reduceAdd, Int.reduceSub, Int.reduceMul, reduceCtorEq]
  refine condT.split (fun h1 => ?_) (fun h1 => ?_) <;> simp -implicitDefEqProofs -dsimp only [go_sem, Nat.reduceSub, Nat.reduceAdd, Nat.reduceMul, Nat.reduceLT, Nat.reduceLeDiff, Nat.reduceEqDiff, Nat.reduceDiv, Nat.reduceMod, Int.reduceToNat, Int.reduceLE, Int.reduceLT, Int.reduceBEq, Int.reduceBNe, Int.reduceNeg, Int.reduceAdd, Int.reduceSub, Int.reduceMul, reduceCtorEq, h1]
  · exact WeakR.drop' rfl rfl
  obtain ⟨_, _, hp, hs, hd, hq⟩ : 0 ≤ z ∧ z ≤ 1048576 ∧ c.Watch.Posts.length ≤ 1048576 ∧ c.Watch.Shocks.length ≤ 1048576 ∧ c.Log.Durable.size ≤ 1048576 ∧ c.Log.Pending.size ≤ 1048576 := by
    simp at h1; rcases hz with hz | hz
    · omega
    · exact hz
  have hf : c.fits := ⟨by omega, by omega, by omega, by omega⟩
  obtain ⟨x, b, e⟩ : ∃ x b, consTextR c = .tup [.str x, .bool b] := by
    unfold consTextR; split
    · exact ⟨_, _, rfl⟩
    · exact ⟨_, _, rfl⟩
  have hs' := sFormatConsole_ok c hf
  have hi' := iFormatConsole_ok c hf
  rw [e] at hs' hi'
  repeat (first | ((first | refine callT.at (toConsole_ok c hp hs) ⟨(by first | exact leA | exact Console.le rfl rfl), trivial⟩ ?_ | refine callS.at (toConsole_ok c hp hs) ⟨(by first | exact leA | exact Console.le rfl rfl), trivial⟩ ?_); simp -implicitDefEqProofs -dsimp only [go_sem, Nat.reduceSub, Nat.reduceAdd, Nat.reduceMul, Nat.reduceLT, Nat.reduceLeDiff, Nat.reduceEqDiff, Nat.reduceDiv, Nat.reduceMod, Int.reduceToNat, Int.reduceLE, Int.reduceLT, Int.reduceBEq, Int.reduceBNe, Int.reduceNeg, Int.reduceAdd, Int.reduceSub, Int.reduceMul, reduceCtorEq, Console.o, take_rows]) | ((first | refine callT.at (hs') ⟨(by first | exact leA | exact Console.le rfl rfl), trivial⟩ ?_ | refine callS.at (hs') ⟨(by first | exact leA | exact Console.le rfl rfl), trivial⟩ ?_); simp -implicitDefEqProofs -dsimp only [go_sem, Nat.reduceSub, Nat.reduceAdd, Nat.reduceMul, Nat.reduceLT, Nat.reduceLeDiff, Nat.reduceEqDiff, Nat.reduceDiv, Nat.reduceMod, Int.reduceToNat, Int.reduceLE, Int.reduceLT, Int.reduceBEq, Int.reduceBNe, Int.reduceNeg, Int.reduceAdd, Int.reduceSub, Int.reduceMul, reduceCtorEq, Console.o, take_rows]) | ((first | refine callT.at (hi') ⟨(by first | exact leA | exact Console.le rfl rfl), trivial⟩ ?_ | refine callS.at (hi') ⟨(by first | exact leA | exact Console.le rfl rfl), trivial⟩ ?_); simp -implicitDefEqProofs -dsimp only [go_sem, Nat.reduceSub, Nat.reduceAdd, Nat.reduceMul, Nat.reduceLT, Nat.reduceLeDiff, Nat.reduceEqDiff, Nat.reduceDiv, Nat.reduceMod, Int.reduceToNat, Int.reduceLE, Int.reduceLT, Int.reduceBEq, Int.reduceBNe, Int.reduceNeg, Int.reduceAdd, Int.reduceSub, Int.reduceMul, reduceCtorEq, Console.o, take_rows]) | ((first | refine callT.at (eqConsole_ok c (by omega) (by omega)) ⟨(by first | exact leA | exact Console.le rfl rfl), (by first | exact leA | exact Console.le rfl rfl), trivial⟩ ?_ | refine callS.at (eqConsole_ok c (by omega) (by omega)) ⟨(by first | exact leA | exact Console.le rfl rfl), (by first | exact leA | exact Console.le rfl rfl), trivial⟩ ?_); simp -implicitDefEqProofs -dsimp only [go_sem, Nat.reduceSub, Nat.reduceAdd, Nat.reduceMul, Nat.reduceLT, Nat.reduceLeDiff, Nat.reduceEqDiff, Nat.reduceDiv, Nat.reduceMod, Int.reduceToNat, Int.reduceLE, Int.reduceLT, Int.reduceBEq, Int.reduceBNe, Int.reduceNeg, Int.reduceAdd, Int.reduceSub, Int.reduceMul, reduceCtorEq, Console.o, take_rows]) | (with_reducible refine And.intro (by show drawOk _ = true; kernel_rfl) ?_) | (refine guardT.splitF (fun hh => ?_) (fun hh => absurd hh (by first | (simp; done) | (simp; omega))); simp -implicitDefEqProofs -dsimp only [go_sem, Nat.reduceSub, Nat.reduceAdd, Nat.reduceMul, Nat.reduceLT, Nat.reduceLeDiff, Nat.reduceEqDiff, Nat.reduceDiv, Nat.reduceMod, Int.reduceToNat, Int.reduceLE, Int.reduceLT, Int.reduceBEq, Int.reduceBNe, Int.reduceNeg, Int.reduceAdd, Int.reduceSub, Int.reduceMul, reduceCtorEq, hh]) | (refine guardT.splitT (fun hh => absurd hh (by first | (simp; done) | (simp; omega))) (fun hh => ?_); simp -implicitDefEqProofs -dsimp only [go_sem, Nat.reduceSub, Nat.reduceAdd, Nat.reduceMul, Nat.reduceLT, Nat.reduceLeDiff, Nat.reduceEqDiff, Nat.reduceDiv, Nat.reduceMod, Int.reduceToNat, Int.reduceLE, Int.reduceLT, Int.reduceBEq, Int.reduceBNe, Int.reduceNeg, Int.reduceAdd, Int.reduceSub, Int.reduceMul, reduceCtorEq, hh]) | (refine condT.split (fun hh => absurd hh (by first | (simp; done) | (simp; omega))) (fun hh => ?_); simp -implicitDefEqProofs -dsimp only [go_sem, Nat.reduceSub, Nat.reduceAdd, Nat.reduceMul, Nat.reduceLT, Nat.reduceLeDiff, Nat.reduceEqDiff, Nat.reduceDiv, Nat.reduceMod, Int.reduceToNat, Int.reduceLE, Int.reduceLT, Int.reduceBEq, Int.reduceBNe, Int.reduceNeg, Int.reduceAdd, Int.reduceSub, Int.reduceMul, reduceCtorEq, hh]) | exact WeakR.drop' rfl (by rfl))
end Go.Proofs
end
section
set_option linter.unusedSimpArgs false
set_option linter.unusedVariables false
open Go.ChangeShapes Go.WideShapes
namespace Go.Lv

/-- The shapes of values of the plain types. -/
def ShC (P : Program) : Nat → TypeId → List V → Prop
  | 0, _, _ => False
  | n + 1, t, xs =>
    match P.underlying t with
    | some .bool => ∃ b, xs = [.bool b]
    | some (.int k) => ∃ z, xs = [.int k z] ∧ (Lit.int k z).wf = true
    | some .string => ∃ s : ByteArray, xs = [.str s] ∧ s.size ≤ maxLen
    | some (.slice e) => ∃ l cs, xs = [.sl l (P.cellsOf e) cs] ∧ l ≤ maxLen ∧ cs.length = l * P.cellsOf e ∧ ∀ i, i < l → ShC P n e ((cs.drop (i * P.cellsOf e)).take (P.cellsOf e))
    | some (.struct fs) => xs.length = P.cellsOf t ∧ ∀ f ∈ fs.toList, ShC P n f.type ((xs.drop f.offset).take (P.cellsOf f.type))
    | _ => False

/-- The fields of a struct lie one behind the other and fill it. -/
def tiled (P : Program) : List Field → Nat → Nat → Bool
  | [], off, n => off == n
  | f :: fs, off, n => f.offset == off && tiled P fs (off + P.cellsOf f.type) n

/-- A type that is built of bools, integers, strings, slices and structs. -/
def plainT (P : Program) : Nat → TypeId → Bool
  | 0, _ => false
  | n + 1, t =>
    match P.underlying t with
    | some .bool => true
    | some (.int _) => true
    | some .string => true
    | some (.slice e) => decide (0 < P.cellsOf e) && plainT P n e
    | some (.struct fs) => tiled P fs.toList 0 (P.cellsOf t) && fs.toList.all fun f => plainT P n f.type
    | _ => false

section
variable {P : Program} {w : World} {m : Nat → Nat}

/-- Cells that read as pure values. -/
def Rds (w : World) (m : Nat → Nat) (cs : List Value) (xs : List V) : Prop :=
  cs.length = xs.length ∧ ∀ i (hi : i < xs.length), RV w m [] (fun _ => False) false (cs.getD i Go.undef) xs[i]

theorem Rds.append {a b : List Value} {x y : List V} (h : Rds w m a x) (k : Rds w m b y) : Rds w m (a ++ b) (x ++ y) := by
  refine ⟨by simp [h.1, k.1], fun i hi => ?_⟩
  by_cases hlt : i < x.length
  · rw [List.getElem_append_left hlt]
    have := h.2 i hlt
    rw [List.getD_eq_getElem?_getD, List.getElem?_append_left (by rw [h.1]; exact hlt), ← List.getD_eq_getElem?_getD]
    exact this
  · rw [List.getElem_append_right (by omega)]
    have := k.2 (i - x.length) (by simp at hi; omega)
    rw [List.getD_eq_getElem?_getD, List.getElem?_append_right (by rw [h.1]; omega), ← List.getD_eq_getElem?_getD, h.1]
    exact this

theorem Rds.one {v : Value} {x : V} (h : RV w m [] (fun _ => False) false v x) : Rds w m [v] [x] :=
  ⟨rfl, fun i hi => by have : i = 0 := by simp at hi; omega
                       subst this; exact h⟩

theorem Rds.nil : Rds w m [] [] := ⟨rfl, fun i hi => by simp at hi⟩

/-- The fields of a struct, one behind the other. -/
theorem fields_sh {n : Nat} {cs : List Value} : ∀ (fs : List Field) (off : Nat), tiled P fs off cs.length = true → off ≤ cs.length →
    (∀ f ∈ fs, ∃ xs, Rds w m ((cs.drop f.offset).take (P.cellsOf f.type)) xs ∧ ShC P n f.type xs) →
    ∃ ys, Rds w m (cs.drop off) ys ∧ ∀ f ∈ fs, off ≤ f.offset ∧ ShC P n f.type ((ys.drop (f.offset - off)).take (P.cellsOf f.type))
  | [], off, ht, _, _ => by
    simp [tiled] at ht
    subst ht
    refine ⟨[], ?_, fun f hf => by simp at hf⟩
    rw [List.drop_of_length_le (Nat.le_refl _)]
    exact Rds.nil
  | f :: fs, off, ht, hle, h => by
    simp only [tiled, Bool.and_eq_true, beq_iff_eq] at ht
    obtain ⟨rfl, ht⟩ := ht
    have hlen : ∀ (fs : List Field) (o : Nat), tiled P fs o cs.length = true → o ≤ cs.length := by
      intro fs
      induction fs with
      | nil => intro o ht; simp [tiled] at ht; omega
      | cons g fs ih =>
        intro o ht
        simp only [tiled, Bool.and_eq_true, beq_iff_eq] at ht
        have := ih _ ht.2; omega
    have hk := hlen fs _ ht
    obtain ⟨x, hx1, hx2⟩ := h f (by simp)
    obtain ⟨ys, hy1, hy2⟩ := fields_sh fs _ ht hk (fun g hg => h g (by simp [hg]))
    have hxl : x.length = P.cellsOf f.type := by rw [← hx1.1]; simp; omega
    refine ⟨x ++ ys, ?_, fun g hg => ?_⟩
    · have : cs.drop f.offset = (cs.drop f.offset).take (P.cellsOf f.type) ++ cs.drop (f.offset + P.cellsOf f.type) := by
        rw [← List.drop_drop, List.take_append_drop]
      rw [this]
      exact hx1.append hy1
    · rcases List.mem_cons.1 hg with rfl | hg
      · refine ⟨Nat.le_refl _, ?_⟩
        rw [Nat.sub_self, List.drop_zero, List.take_append_of_le_length (by omega), List.take_of_length_le (by omega)]
        exact hx2
      · obtain ⟨h1, h2⟩ := hy2 g hg
        refine ⟨by omega, ?_⟩
        have : (x ++ ys).drop (g.offset - f.offset) = ys.drop (g.offset - (f.offset + P.cellsOf f.type)) := by
          rw [List.drop_append, List.drop_of_length_le (by omega), List.nil_append]
          congr 1
          omega
        rw [this]
        exact h2

/-- The elements of a slice, one behind the other. -/
theorem elems_sh {n e : Nat} {b off len : Nat} (h : ∀ i, i < len → ∃ cs xs, cs.length = P.cellsOf e ∧ (∀ j, j < P.cellsOf e → w.cell? ⟨b, off + (i * P.cellsOf e + j), none⟩ = cs[j]?) ∧ Rds w m cs xs ∧ ShC P n e xs) :
    ∀ k, k ≤ len → ∃ xs : List V, xs.length = k * P.cellsOf e ∧ (∀ j (hj : j < xs.length), ∃ v, w.cell? ⟨b, off + j, none⟩ = some v ∧ RV w m [] (fun _ => False) false v xs[j]) ∧
      ∀ i, i < k → ShC P n e ((xs.drop (i * P.cellsOf e)).take (P.cellsOf e))
  | 0, _ => ⟨[], by simp, fun j hj => by simp at hj, fun i hi => by omega⟩
  | k + 1, hk => by
    obtain ⟨xs, h1, h2, h3⟩ := elems_sh h k (by omega)
    obtain ⟨cs, ys, g1, g2, g3, g4⟩ := h k (by omega)
    have hyl : ys.length = P.cellsOf e := by rw [← g3.1, g1]
    refine ⟨xs ++ ys, by simp [h1, hyl, Nat.add_mul], fun j hj => ?_, fun i hi => ?_⟩
    · by_cases hlt : j < xs.length
      · rw [List.getElem_append_left hlt]
        exact h2 j hlt
      · rw [List.getElem_append_right (by omega)]
        have hj' : j - xs.length < ys.length := by simp at hj; omega
        have hr := g3.2 _ hj'
        have hc := g2 (j - xs.length) (by omega)
        have e1 : off + (k * P.cellsOf e + (j - xs.length)) = off + j := by omega
        rw [e1] at hc
        have hcl : j - xs.length < cs.length := by omega
        rw [List.getElem?_eq_getElem hcl] at hc
        refine ⟨_, hc, ?_⟩
        simpa [List.getD_eq_getElem?_getD, hcl] using hr
    · by_cases e2 : i = k
      · subst e2
        rw [← h1, List.drop_left, List.take_of_length_le (by omega)]
        exact g4
      · have hm : i * P.cellsOf e + P.cellsOf e ≤ xs.length := mul_room (n := k) (by omega) h1
        rw [List.drop_append_of_le_length (by omega), List.take_append_of_le_length (by simp; omega)]
        exact h3 i (by omega)

theorem trod_sh {H : Type} {enc : TypeId × Value → H} {spare : Nat → Bool} {held : Bool} : ∀ (n : Nat) (fuel : Nat) (t : TypeId) (cs : List Value) (x : DataW H × List MemPlace),
    DataW.trod enc P w 0 spare held fuel t cs = some x → plainT P n t = true → ∃ xs, Rds w m cs xs ∧ ShC P n t xs
  | 0, fuel, t, cs, x, _, hp => by simp [plainT] at hp
  | n + 1, fuel, t, cs, x, hx, hp => by
    unfold plainT at hp
    split at hp
    · rename_i hu
      obtain ⟨b, rfl, _⟩ := DataW.trod_bool hu hx
      exact ⟨[.bool b], Rds.one (.bool b), by unfold ShC; rw [hu]; exact ⟨b, rfl⟩⟩
    · rename_i k hu
      obtain ⟨z, rfl, _, hw⟩ := DataW.trod_int hu hx
      exact ⟨[.int k z], Rds.one (.int k z), by unfold ShC; rw [hu]; exact ⟨z, rfl, hw⟩⟩
    · rename_i hu
      obtain ⟨s, rfl, _, hs⟩ := DataW.trod_string hu hx
      exact ⟨[.str s], Rds.one (.str s), by unfold ShC; rw [hu]; exact ⟨s, rfl, hs⟩⟩
    · rename_i e hu
      simp only [Bool.and_eq_true, decide_eq_true_eq] at hp
      obtain ⟨hpos, hp⟩ := hp
      rcases Deep.open_slice hu hx with ⟨rfl, _⟩ | ⟨a, len, cap, mm, f, D, Pl, rfl, _, hle, hcap, hmm, _, hel⟩
      · refine ⟨[.sl 0 (P.cellsOf e) []], Rds.one (.slz _ _ _), ?_⟩
        unfold ShC; rw [hu]
        exact ⟨0, [], rfl, Nat.zero_le _, by simp, fun i hi => by omega⟩
      · by_cases h0 : len = 0
        · subst h0
          refine ⟨[.sl 0 (P.cellsOf e) []], Rds.one (.slz _ _ _), ?_⟩
          unfold ShC; rw [hu]
          exact ⟨0, [], rfl, Nat.zero_le _, by simp, fun i hi => by omega⟩
        · have hml : len ≤ mm := by rw [hmm]; split <;> omega
          obtain ⟨b, off, spot⟩ := a
          have hspot : spot = none := by
            obtain ⟨cs', hc, _⟩ := hel 0 (by omega)
            obtain ⟨_, hcl, hat⟩ := World.cells?_some hc
            have h1 := hat 0 hpos
            rw [List.getElem?_eq_getElem (by omega)] at h1
            simpa [Addr.add] using World.cell?_spot h1
          subst hspot
          have hall : ∀ i, i < len → ∃ cs xs, cs.length = P.cellsOf e ∧ (∀ j, j < P.cellsOf e → w.cell? ⟨b, off + (i * P.cellsOf e + j), none⟩ = cs[j]?) ∧ Rds w m cs xs ∧ ShC P n e xs := by
            intro i hi
            obtain ⟨cs', hc, ht⟩ := hel i (by omega)
            obtain ⟨_, hcl, hat⟩ := World.cells?_some hc
            obtain ⟨xs, h1, h2⟩ := trod_sh n _ e cs' _ ht hp
            refine ⟨cs', xs, hcl, fun j hj => ?_, h1, h2⟩
            have := hat j hj
            rw [Addr.add_lit, Addr.add_lit] at this
            rw [← this, Nat.add_assoc]
          obtain ⟨xs, h1, h2, h3⟩ := elems_sh hall len (Nat.le_refl _)
          refine ⟨[.sl len (P.cellsOf e) xs], Rds.one (.sl b off len cap (P.cellsOf e) xs (fun j => (w.cell? ⟨b, off + j, none⟩).getD Go.undef) h1 (fun _ h => h) hle (fun j hj => ?_) (fun j hj => ?_)), ?_⟩
          · obtain ⟨v, hv, _⟩ := h2 j hj
            simp [hv]
          · obtain ⟨v, hv, hr⟩ := h2 j hj
            simpa [hv] using hr
          · unfold ShC; rw [hu]
            exact ⟨len, xs, rfl, by omega, h1, h3⟩
    · rename_i fs hu
      simp only [Bool.and_eq_true, List.all_eq_true] at hp
      obtain ⟨xs, f, _, _, hl, hxl, hf⟩ := DataW.trod_struct hu hx
      have hfs : ∀ g ∈ fs.toList, ∃ ys, Rds w m ((cs.drop g.offset).take (P.cellsOf g.type)) ys ∧ ShC P n g.type ys := by
        intro g hg
        obtain ⟨i, hi, rfl⟩ := List.getElem_of_mem hg
        have hi' : i < fs.size := by simpa using hi
        have h1 := hf i fs[i] (Array.getElem?_eq_getElem hi')
        rw [List.getElem?_eq_getElem (by omega)] at h1
        exact trod_sh n _ _ _ _ (by simpa using h1) (hp.2 _ hg)
      obtain ⟨ys, h1, h2⟩ := fields_sh fs.toList 0 (by rw [hl]; exact hp.1) (Nat.zero_le _) hfs
      rw [List.drop_zero] at h1
      refine ⟨ys, h1, ?_⟩
      unfold ShC; rw [hu]
      exact ⟨by rw [← h1.1, hl], fun g hg => by simpa using (h2 g hg).2⟩
    · cases hp

end
section
variable {P : Program} {W : World}

theorem Rds.get {m : Nat → Nat} {a : List Value} {x : List V} (h : Rds W m a x) : a.length = x.length := h.1

/-- A struct by value. -/
theorem arg_agg {H : Type} {enc : TypeId × Value → H} {spare : Nat → Bool} {held : Bool} {r : Reach} {b0 n : Nat} {t : TypeId} {fs : Array Field} {v : Value} {d : DataW H} {p : List MemPlace} (m : Nat → Nat)
    (hs : P.underlying t = some (.struct fs)) (hv : Value.okWide P W r b0 t v) (h : DataW.Trod enc P W 0 spare held t v d p) (hp : plainT P n t = true) :
    ∃ xs, RV W m [] (fun _ => False) true v (.agg xs) ∧ ShC P n t xs := by
  obtain ⟨cs, rfl, hsz⟩ := okWide_struct hs hv
  obtain ⟨fuel, hf⟩ := h
  obtain ⟨xs, h1, h2⟩ := trod_sh (m := m) n fuel t _ _ hf hp
  refine ⟨xs, .agg cs xs (by simpa [Value.cells] using h1.1) (fun i hi => ?_), h2⟩
  have := h1.2 i hi
  simp only [Value.cells, List.getD_eq_getElem?_getD, Array.getElem?_toList] at this
  rw [Array.getD_eq_getD_getElem?]
  exact this.weak

/-- A law's walk out of its contract. -/
theorem law_walk {f : FuncId} {xs : List V} {vs : Array Value} (m : Nat → Nat) (hc : Ctr P f xs [] (.bool true) []) (hgl : GL W (fun _ => False)) (hsz : vs.size = xs.length)
    (hr : ∀ i (hi : i < xs.length), RV W m [] (fun _ => False) true (vs.getD i Go.undef) xs[i]) :
    Calls P f vs W fun e w' => e = .returned (.bool true) ∧ RowKit.Below W.heap.size W w' := by
  refine (hc.2 W vs m (fun _ => False) ⟨fun i j ci cj h => by simp at h, fun id cs h => by simp at h, fun id cs h => by simp at h⟩ (fun b h => h.elim) hgl hsz hr).mono ?_
  rintro e w' ⟨v, m', rfl, hE, _, hv, _⟩
  refine ⟨by cases hv; rfl, hE.os, hE.tape, hE.output, hE.size, fun k hk => hE.block k hk (fun ⟨id, cs, h, _⟩ => by simp at h)⟩

end
end Go.Lv
end
