/-
  A part of the proof: texts put together by a program of the prover. Conditions: none.
-/
import Derived.Test.YtfnlgojocgdmcaaDoorZCrashRecoveryLaw5
import Derived.Lib.AppendIntMem
set_option linter.unusedSimpArgs false
set_option linter.unusedVariables false
section
set_option linter.unusedSimpArgs false
set_option linter.unusedVariables false
set_option maxRecDepth 100000
namespace Go.Proofs
open Go.Lv
theorem tab_pow10 {w : World} {av : Nat → Prop} (h : GL w av) : Lib.TabIs Tryd.prog w "internal/strconv.uint64pow10" .u64 Lib.pow10Tab := by
  obtain ⟨_, T, fr, h2⟩ := h _ (List.mem_singleton.2 rfl)
  have hg : Tryd.prog.globalNamed "internal/strconv.uint64pow10" = some 1 := by kernel_rfl
  unfold Lib.TabIs World.var?
  rw [hg, Option.bind_some, h2]
  rfl
theorem gl_of_tab {W : World} (h : Lib.TabIs Tryd.prog W "internal/strconv.uint64pow10" .u64 Lib.pow10Tab) : GL W (fun _ => False) := by
  intro p hp
  have hp' := List.mem_singleton.1 hp
  subst hp'
  have hg : Tryd.prog.globalNamed "internal/strconv.uint64pow10" = some 1 := by kernel_rfl
  unfold Lib.TabIs World.var? at h
  rw [hg, Option.bind_some] at h
  dsimp only at h ⊢
  split at h
  · rename_i cs T fr hc
    refine ⟨fun h => h, T, fr, ?_⟩
    rw [hc]
    simp only [Option.some.injEq] at h
    subst h
    rfl
  · cases h
theorem itoaLib_ok (n : Int) (hn : i64R n) : Ctr Tryd.prog 44 [.int .i64 n] [] (.str (num n)) [] := by
  refine ⟨Tryd.okF44, fun w vs m av hH hav hgl hsz ha => ?_⟩
  obtain ⟨v, rfl⟩ : ∃ v, vs = #[v] := by
    match vs, hsz with
    | ⟨[v]⟩, _ => exact ⟨v, rfl⟩
  have h0 := ha 0 (by simp)
  simp only [List.getElem_cons_zero] at h0
  have hv : v = .int .i64 n := by
    have := rv_int h0
    simpa using this
  subst hv
  refine (Tryd.strconv_Itoa n hn.1 hn.2 w (tab_pow10 hgl)).mono ?_
  rintro e w' ⟨rfl, k, os, rfl⟩
  refine ⟨_, m, rfl, ?_, ⟨fun i j ci cj h => by simp at h, fun id cs h => by simp at h, fun id cs h => by simp at h⟩, .str _, fun id cs h => by simp at h⟩
  have hb : ∀ g, g < w.heap.size → (Sort.grow (w.drewN k) os).heap[g]? = w.heap[g]? := fun g hg => Lib.heap_grow_old w k os g hg
  exact ⟨rfl, rfl, rfl, Lib.size_grow w k os, fun g hg _ => hb g hg, fun g hg => Nat.le_of_eq (rowSize_of_block (hb g hg)).symm⟩
theorem l1Num_nat : ∀ (k u : Nat), u < k → u ≤ 9223372036854775807 → Ctr Tryd.prog 64 [.int .i64 u] [] (.str (num u)) [] := by
  intro k
  induction k with
  | zero => intro u h; omega
  | succ k ih =>
    intro u hu hb
    refine Ctr.intro Tryd.mixed Tryd.func64 rfl Tryd.okF64 ?_
    simp -implicitDefEqProofs -dsimp only [go_sem, Nat.reduceSub, Nat.reduceAdd, Nat.reduceMul, Nat.reduceLT, Nat.reduceLeDiff, Nat.reduceEqDiff, Nat.reduceDiv, Nat.reduceMod, Int.reduceToNat, Int.reduceLE, Int.reduceLT, Int.reduceBEq, Int.reduceBNe, Int.reduceNeg, Int.reduceAdd, Int.reduceSub, Int.reduceMul, reduceCtorEq, Tryd.ntmps64, Tryd.results64]
    refine condT.split (fun h => absurd h (by simp)) (fun h => ?_)
    simp -implicitDefEqProofs -dsimp only [go_sem, Nat.reduceSub, Nat.reduceAdd, Nat.reduceMul, Nat.reduceLT, Nat.reduceLeDiff, Nat.reduceEqDiff, Nat.reduceDiv, Nat.reduceMod, Int.reduceToNat, Int.reduceLE, Int.reduceLT, Int.reduceBEq, Int.reduceBNe, Int.reduceNeg, Int.reduceAdd, Int.reduceSub, Int.reduceMul, reduceCtorEq, h]
    refine condT.split (fun h2 => ?_) (fun h2 => ?_)
    · have hlt : u < 10 := by simp at h2; omega
      (repeat ((repeat1' (first | simp -implicitDefEqProofs -dsimp only [go_sem, Nat.reduceSub, Nat.reduceAdd, Nat.reduceMul, Nat.reduceLT, Nat.reduceLeDiff, Nat.reduceEqDiff, Nat.reduceDiv, Nat.reduceMod, Int.reduceToNat, Int.reduceLE, Int.reduceLT, Int.reduceBEq, Int.reduceBNe, Int.reduceNeg, Int.reduceAdd, Int.reduceSub, Int.reduceMul, reduceCtorEq, h2] | simp -implicitDefEqProofs -dsimp (disch := omega) only [wrap_i64])); repeat (with_reducible refine sideA ?_)))
      have e : ((u : Int) + 1).toNat = u + 1 := by omega
      have e2 : ((#[48, 49, 50, 51, 52, 53, 54, 55, 56, 57] : Array UInt8).size : Int) = 10 := rfl
      rw [e, e2]
      refine ⟨⟨by omega, by omega, by omega⟩, WeakR.drop' ?_ (by rfl)⟩
      rw [num_one hlt, digits]
    · have hge : ¬ u < 10 := by simp at h2; omega
      have t1 : Int.tdiv (u : Int) 10 = ((u / 10 : Nat) : Int) := rfl
      have t2 : Int.tmod (u : Int) 10 = ((u % 10 : Nat) : Int) := rfl
      (repeat ((repeat1' (first | simp -implicitDefEqProofs -dsimp only [go_sem, Nat.reduceSub, Nat.reduceAdd, Nat.reduceMul, Nat.reduceLT, Nat.reduceLeDiff, Nat.reduceEqDiff, Nat.reduceDiv, Nat.reduceMod, Int.reduceToNat, Int.reduceLE, Int.reduceLT, Int.reduceBEq, Int.reduceBNe, Int.reduceNeg, Int.reduceAdd, Int.reduceSub, Int.reduceMul, reduceCtorEq, h2, t1, t2] | simp -implicitDefEqProofs -dsimp (disch := omega) only [wrap_i64])); repeat (with_reducible refine sideA ?_)))
      (first | refine callT.at (ih (u / 10) (by omega) (by omega)) ⟨leA, trivial⟩ ?_ | refine callS.at (ih (u / 10) (by omega) (by omega)) ⟨leA, trivial⟩ ?_)
      have e : (((u % 10 : Nat) : Int) + 1).toNat = u % 10 + 1 := by omega
      have e2 : ((#[48, 49, 50, 51, 52, 53, 54, 55, 56, 57] : Array UInt8).size : Int) = 10 := rfl
      have hs := num_size' (n := ((u / 10 : Nat) : Int)) (by omega) (by omega)
      have hd : ({ data := #[48, 49, 50, 51, 52, 53, 54, 55, 56, 57] } : ByteArray).extract (u % 10) (u % 10 + 1) = ⟨#[UInt8.ofNat (48 + u % 10)]⟩ := digit_at (u % 10) (by omega)
      (repeat ((repeat1' (first | simp -implicitDefEqProofs -dsimp only [go_sem, Nat.reduceSub, Nat.reduceAdd, Nat.reduceMul, Nat.reduceLT, Nat.reduceLeDiff, Nat.reduceEqDiff, Nat.reduceDiv, Nat.reduceMod, Int.reduceToNat, Int.reduceLE, Int.reduceLT, Int.reduceBEq, Int.reduceBNe, Int.reduceNeg, Int.reduceAdd, Int.reduceSub, Int.reduceMul, reduceCtorEq, e, e2, hd, ba_size] | simp -implicitDefEqProofs -dsimp (disch := omega) only [wrap_i64])); repeat (with_reducible refine sideA ?_)))
      refine ⟨by simp only [List.size_toArray, List.length_cons, List.length_nil]; omega, WeakR.drop' ?_ (by rfl)⟩
      rw [num_more hge, digit_at (u % 10) (by omega)]
theorem l1Num_ok (n : Int) (h0 : -9223372036854775807 ≤ n) (h1 : n ≤ 9223372036854775807) : Ctr Tryd.prog 64 [.int .i64 n] [] (.str (num n)) [] := by
  rcases Int.lt_or_le n 0 with hn | hn
  · obtain ⟨u, rfl⟩ : ∃ u : Nat, n = -(u : Int) := ⟨n.natAbs, by omega⟩
    refine Ctr.intro Tryd.mixed Tryd.func64 rfl Tryd.okF64 ?_
    simp -implicitDefEqProofs -dsimp only [go_sem, Nat.reduceSub, Nat.reduceAdd, Nat.reduceMul, Nat.reduceLT, Nat.reduceLeDiff, Nat.reduceEqDiff, Nat.reduceDiv, Nat.reduceMod, Int.reduceToNat, Int.reduceLE, Int.reduceLT, Int.reduceBEq, Int.reduceBNe, Int.reduceNeg, Int.reduceAdd, Int.reduceSub, Int.reduceMul, reduceCtorEq, Tryd.ntmps64, Tryd.results64]
    refine condT.split (fun h => ?_) (fun h => absurd h (by simp; omega))
    have e : IntKind.i64.wrap (0 - -(u : Int)) = (u : Int) := by rw [wrap_i64 (by omega) (by omega)]; omega
    simp -implicitDefEqProofs -dsimp only [go_sem, Nat.reduceSub, Nat.reduceAdd, Nat.reduceMul, Nat.reduceLT, Nat.reduceLeDiff, Nat.reduceEqDiff, Nat.reduceDiv, Nat.reduceMod, Int.reduceToNat, Int.reduceLE, Int.reduceLT, Int.reduceBEq, Int.reduceBNe, Int.reduceNeg, Int.reduceAdd, Int.reduceSub, Int.reduceMul, reduceCtorEq, h, e]
    (first | refine callT.at (l1Num_nat (u + 1) u (by omega) (by omega)) ⟨leA, trivial⟩ ?_ | refine callS.at (l1Num_nat (u + 1) u (by omega) (by omega)) ⟨leA, trivial⟩ ?_)
    have hs := num_size' (n := (u : Int)) (by omega) (by omega)
    simp -implicitDefEqProofs -dsimp only [go_sem, Nat.reduceSub, Nat.reduceAdd, Nat.reduceMul, Nat.reduceLT, Nat.reduceLeDiff, Nat.reduceEqDiff, Nat.reduceDiv, Nat.reduceMod, Int.reduceToNat, Int.reduceLE, Int.reduceLT, Int.reduceBEq, Int.reduceBNe, Int.reduceNeg, Int.reduceAdd, Int.reduceSub, Int.reduceMul, reduceCtorEq, ba_size]
    refine ⟨by simp; omega, WeakR.drop' ?_ (by rfl)⟩
    rw [num_neg (by omega)]
  · obtain ⟨u, rfl⟩ : ∃ u : Nat, n = u := ⟨n.toNat, by omega⟩
    exact l1Num_nat (u + 1) u (by omega) (by omega)
end Go.Proofs
end
section
set_option linter.unusedSimpArgs false
set_option linter.unusedVariables false
set_option maxRecDepth 100000
set_option maxHeartbeats 1000000
namespace Go.Proofs
open Go.Lv
theorem allS_app (p : UInt8 → Bool) (a b : ByteArray) : allS p (a ++ b) = (allS p a && allS p b) := by
  simp [allS, ByteArray.data_append]
theorem num_plain : ∀ (n u : Nat), u < n → allS (fun b => !(b == 35)) (num u) = true
  | 0, u, h => by omega
  | n + 1, u, h => by
    have one : ∀ d, d < 10 → allS (fun b => !(b == 35)) (digits.extract d (d + 1)) = true := by
      intro d hd
      rw [digit_at d hd]
      match d, hd with
      | 0, _ => decide
      | 1, _ => decide
      | 2, _ => decide
      | 3, _ => decide
      | 4, _ => decide
      | 5, _ => decide
      | 6, _ => decide
      | 7, _ => decide
      | 8, _ => decide
      | 9, _ => decide
    by_cases c : u < 10
    · rw [num_one c]; exact one u c
    · rw [num_more c, allS_app, num_plain n (u / 10) (by omega), one (u % 10) (by omega)]; rfl
def ckStep (h : Int) (b : UInt8) : Int := (41 * h + b.toNat + 1) % 999979
def ckTo (s : ByteArray) (i : Nat) : Int := (s.data.toList.take i).foldl ckStep 7
def ckS (s : ByteArray) : Int := ckTo s s.size
theorem ckTo_succ {s : ByteArray} {i : Nat} (h : i < s.size) : ckTo s (i + 1) = ckStep (ckTo s i) (s[i]'h) := by
  have hl : i < s.data.toList.length := h
  rw [ckTo, List.take_succ_eq_append_getElem hl, List.foldl_append, ← ba_get s h]; rfl
theorem ckTo_bd (s : ByteArray) : ∀ i, i ≤ s.size → 0 ≤ ckTo s i ∧ ckTo s i < 999979
  | 0, _ => by simp [ckTo]
  | i + 1, h => by
    rw [ckTo_succ (by omega : i < s.size), ckStep]
    omega
theorem ckS_bd (s : ByteArray) : 0 ≤ ckS s ∧ ckS s < 999979 := ckTo_bd s s.size (Nat.le_refl _)
theorem ck_tmod {h : Int} {b : UInt8} (h0 : 0 ≤ h) : (41 * h + b.toNat + 1).tmod 999979 = ckStep h b := by
  rw [ckStep, Int.tmod_eq_emod_of_nonneg (by omega)]
theorem checksum_ok (s : ByteArray) (hs : s.size ≤ 4000) : Ctr Tryd.prog 69 [.str s] [] (.tup [.int .i64 (ckS s), .bool true]) [] := by
  refine Ctr.intro Tryd.mixed Tryd.func69 rfl Tryd.okF69 ?_
  simp -implicitDefEqProofs -dsimp only [go_sem, Nat.reduceSub, Nat.reduceAdd, Nat.reduceMul, Nat.reduceLT, Nat.reduceLeDiff, Nat.reduceEqDiff, Nat.reduceDiv, Nat.reduceMod, Int.reduceToNat, Int.reduceLE, Int.reduceLT, Int.reduceBEq, Int.reduceBNe, Int.reduceNeg, Int.reduceAdd, Int.reduceSub, Int.reduceMul, reduceCtorEq, Tryd.ntmps69, Tryd.results69]
  have c0 : decide ((4000 : Int) < s.size) = false := decide_eq_false (by omega)
  simp -implicitDefEqProofs -dsimp only [go_sem, Nat.reduceSub, Nat.reduceAdd, Nat.reduceMul, Nat.reduceLT, Nat.reduceLeDiff, Nat.reduceEqDiff, Nat.reduceDiv, Nat.reduceMod, Int.reduceToNat, Int.reduceLE, Int.reduceLT, Int.reduceBEq, Int.reduceBNe, Int.reduceNeg, Int.reduceAdd, Int.reduceSub, Int.reduceMul, reduceCtorEq, c0]
  refine LoopT.intro (fun i : Nat => i ≤ s.size) (fun i => ⟨[.str s, .undef, .undef, .undef, .int .i64 (ckTo s i), .undef, .undef, .undef, .undef, .undef, .int .i64 s.size, .int .i64 i, .undef, .undef, .undef, .undef, .undef, .undef, .undef, .undef, .undef, .undef, .undef, .undef, .undef], [], 0⟩) (fun i => s.size - i) 0 (Nat.zero_le _) ?_ (fun i hi => ?_)
  · refine Weak.cut (0) (by simp) (by simp) ?_ ?_
    · simp [LeC, LeV, ren, cutF, ckTo]
    · rfl
  simp -implicitDefEqProofs -dsimp only [go_sem, Nat.reduceSub, Nat.reduceAdd, Nat.reduceMul, Nat.reduceLT, Nat.reduceLeDiff, Nat.reduceEqDiff, Nat.reduceDiv, Nat.reduceMod, Int.reduceToNat, Int.reduceLE, Int.reduceLT, Int.reduceBEq, Int.reduceBNe, Int.reduceNeg, Int.reduceAdd, Int.reduceSub, Int.reduceMul, reduceCtorEq]
  refine condT.split (fun h1 => ?_) (fun h1 => ?_)
  · simp -implicitDefEqProofs -dsimp only [go_sem, Nat.reduceSub, Nat.reduceAdd, Nat.reduceMul, Nat.reduceLT, Nat.reduceLeDiff, Nat.reduceEqDiff, Nat.reduceDiv, Nat.reduceMod, Int.reduceToNat, Int.reduceLE, Int.reduceLT, Int.reduceBEq, Int.reduceBNe, Int.reduceNeg, Int.reduceAdd, Int.reduceSub, Int.reduceMul, reduceCtorEq, h1]
    have hi' : i < s.size := by simpa using h1
    have hu := UInt8.toNat_lt (s[i]'hi')
    have hbd := ckTo_bd s i hi
    have hw1 : IntKind.i64.wrap ((s[i]'hi').toNat : Int) = ((s[i]'hi').toNat : Int) := wrap_i64 (by omega) (by omega)
    have hw2 : IntKind.i64.wrap (41 * ckTo s i) = 41 * ckTo s i := wrap_i64 (by omega) (by omega)
    have hw3 : IntKind.i64.wrap (41 * ckTo s i + ((s[i]'hi').toNat : Int)) = 41 * ckTo s i + ((s[i]'hi').toNat : Int) := wrap_i64 (by omega) (by omega)
    have hw4 : IntKind.i64.wrap (41 * ckTo s i + ((s[i]'hi').toNat : Int) + 1) = 41 * ckTo s i + ((s[i]'hi').toNat : Int) + 1 := wrap_i64 (by omega) (by omega)
    have hq := ck_tmod (b := s[i]'hi') hbd.1
    refine ⟨⟨by omega, hi'⟩, ?_⟩
    try (repeat1' (first | simp -implicitDefEqProofs -dsimp only [go_sem, Nat.reduceSub, Nat.reduceAdd, Nat.reduceMul, Nat.reduceLT, Nat.reduceLeDiff, Nat.reduceEqDiff, Nat.reduceDiv, Nat.reduceMod, Int.reduceToNat, Int.reduceLE, Int.reduceLT, Int.reduceBEq, Int.reduceBNe, Int.reduceNeg, Int.reduceAdd, Int.reduceSub, Int.reduceMul, reduceCtorEq, hw1, hw2, hw3, hw4, hq] | simp -implicitDefEqProofs -dsimp (disch := omega) only [wrap_i64]))
    repeat (with_reducible refine And.intro ?_ ?_; focus (first | omega | with_reducible rfl | (show drawOk _ = true; kernel_rfl) | (simp only [rows_length, rows_cell, List.length_append, List.length_cons, List.length_nil, List.all_append, List.all_cons, List.all_nil, isCell, Nat.mul_one, Nat.one_mul, Bool.and_self]; first | done | omega) | (simp only [ByteArray.size_append, ba_size, List.size_toArray, List.length_cons, List.length_nil]; omega)))
    refine ⟨i + 1, hi', ?_, by omega⟩
    refine Weak.cut (0) (by simp) (by simp) ?_ ?_
    · rw [ckTo_succ hi']
      try rw [wrap_i64 (by omega) (by omega)]
      simp [LeC, LeV, ren, cutF]
    · rfl
  · simp -implicitDefEqProofs -dsimp only [go_sem, Nat.reduceSub, Nat.reduceAdd, Nat.reduceMul, Nat.reduceLT, Nat.reduceLeDiff, Nat.reduceEqDiff, Nat.reduceDiv, Nat.reduceMod, Int.reduceToNat, Int.reduceLE, Int.reduceLT, Int.reduceBEq, Int.reduceBNe, Int.reduceNeg, Int.reduceAdd, Int.reduceSub, Int.reduceMul, reduceCtorEq, h1]
    have hi' : i = s.size := by simp at h1; omega
    subst hi'
    exact WeakR.drop' rfl (by rfl)
theorem l1Sum_ok (s : ByteArray) (hs : s.size ≤ 4000) : Ctr Tryd.prog 98 [.str s] [] (.int .i64 (ckS s)) [] := by
  refine Ctr.intro Tryd.mixed Tryd.func98 rfl Tryd.okF98 ?_
  simp -implicitDefEqProofs -dsimp only [go_sem, Nat.reduceSub, Nat.reduceAdd, Nat.reduceMul, Nat.reduceLT, Nat.reduceLeDiff, Nat.reduceEqDiff, Nat.reduceDiv, Nat.reduceMod, Int.reduceToNat, Int.reduceLE, Int.reduceLT, Int.reduceBEq, Int.reduceBNe, Int.reduceNeg, Int.reduceAdd, Int.reduceSub, Int.reduceMul, reduceCtorEq, Tryd.ntmps98, Tryd.results98]
  refine LoopT.intro (fun i : Nat => i ≤ s.size) (fun i => ⟨[.str s, .undef, .undef, .int .i64 (ckTo s i), .int .i64 i, .undef, .undef, .undef, .undef, .undef, .undef, .undef, .undef, .undef, .undef, .undef, .undef, .undef, .undef, .undef, .undef], [], 0⟩) (fun i => s.size - i) 0 (Nat.zero_le _) ?_ (fun i hi => ?_)
  · refine Weak.cut (0) (by simp) (by simp) ?_ ?_
    · simp [LeC, LeV, ren, cutF, ckTo]
    · rfl
  simp -implicitDefEqProofs -dsimp only [go_sem, Nat.reduceSub, Nat.reduceAdd, Nat.reduceMul, Nat.reduceLT, Nat.reduceLeDiff, Nat.reduceEqDiff, Nat.reduceDiv, Nat.reduceMod, Int.reduceToNat, Int.reduceLE, Int.reduceLT, Int.reduceBEq, Int.reduceBNe, Int.reduceNeg, Int.reduceAdd, Int.reduceSub, Int.reduceMul, reduceCtorEq]
  refine condT.split (fun h1 => ?_) (fun h1 => ?_)
  · simp -implicitDefEqProofs -dsimp only [go_sem, Nat.reduceSub, Nat.reduceAdd, Nat.reduceMul, Nat.reduceLT, Nat.reduceLeDiff, Nat.reduceEqDiff, Nat.reduceDiv, Nat.reduceMod, Int.reduceToNat, Int.reduceLE, Int.reduceLT, Int.reduceBEq, Int.reduceBNe, Int.reduceNeg, Int.reduceAdd, Int.reduceSub, Int.reduceMul, reduceCtorEq, h1]
    have hi' : i < s.size := by simpa using h1
    have hu := UInt8.toNat_lt (s[i]'hi')
    have hbd := ckTo_bd s i hi
    have hw1 : IntKind.i64.wrap ((s[i]'hi').toNat : Int) = ((s[i]'hi').toNat : Int) := wrap_i64 (by omega) (by omega)
    have hw2 : IntKind.i64.wrap (41 * ckTo s i) = 41 * ckTo s i := wrap_i64 (by omega) (by omega)
    have hw3 : IntKind.i64.wrap (41 * ckTo s i + ((s[i]'hi').toNat : Int)) = 41 * ckTo s i + ((s[i]'hi').toNat : Int) := wrap_i64 (by omega) (by omega)
    have hw4 : IntKind.i64.wrap (41 * ckTo s i + ((s[i]'hi').toNat : Int) + 1) = 41 * ckTo s i + ((s[i]'hi').toNat : Int) + 1 := wrap_i64 (by omega) (by omega)
    have hq := ck_tmod (b := s[i]'hi') hbd.1
    refine ⟨⟨by omega, hi'⟩, ?_⟩
    try (repeat1' (first | simp -implicitDefEqProofs -dsimp only [go_sem, Nat.reduceSub, Nat.reduceAdd, Nat.reduceMul, Nat.reduceLT, Nat.reduceLeDiff, Nat.reduceEqDiff, Nat.reduceDiv, Nat.reduceMod, Int.reduceToNat, Int.reduceLE, Int.reduceLT, Int.reduceBEq, Int.reduceBNe, Int.reduceNeg, Int.reduceAdd, Int.reduceSub, Int.reduceMul, reduceCtorEq, hw1, hw2, hw3, hw4, hq] | simp -implicitDefEqProofs -dsimp (disch := omega) only [wrap_i64]))
    repeat (with_reducible refine And.intro ?_ ?_; focus (first | omega | with_reducible rfl | (show drawOk _ = true; kernel_rfl) | (simp only [rows_length, rows_cell, List.length_append, List.length_cons, List.length_nil, List.all_append, List.all_cons, List.all_nil, isCell, Nat.mul_one, Nat.one_mul, Bool.and_self]; first | done | omega) | (simp only [ByteArray.size_append, ba_size, List.size_toArray, List.length_cons, List.length_nil]; omega)))
    refine ⟨i + 1, hi', ?_, by omega⟩
    refine Weak.cut (0) (by simp) (by simp) ?_ ?_
    · rw [ckTo_succ hi']
      try rw [wrap_i64 (by omega) (by omega)]
      simp [LeC, LeV, ren, cutF]
    · rfl
  · simp -implicitDefEqProofs -dsimp only [go_sem, Nat.reduceSub, Nat.reduceAdd, Nat.reduceMul, Nat.reduceLT, Nat.reduceLeDiff, Nat.reduceEqDiff, Nat.reduceDiv, Nat.reduceMod, Int.reduceToNat, Int.reduceLE, Int.reduceLT, Int.reduceBEq, Int.reduceBNe, Int.reduceNeg, Int.reduceAdd, Int.reduceSub, Int.reduceMul, reduceCtorEq, h1]
    have hi' : i = s.size := by simp at h1; omega
    subst hi'
    exact WeakR.drop' rfl (by rfl)
/-- A text with its checksum. -/
def sealS (s : ByteArray) : ByteArray := (s ++ ⟨#[35]⟩) ++ num (ckS s)
theorem ckS_size (s : ByteArray) : (num (ckS s)).size ≤ 21 := by
  have := ckS_bd s
  exact num_size' (by omega) (by omega)
theorem sealS_size (s : ByteArray) : (sealS s).size ≤ s.size + 22 := by
  have := ckS_size s
  unfold sealS
  simp only [ByteArray.size_append, ba_size, List.size_toArray, List.length_cons, List.length_nil]; omega
theorem l1Seal_ok (s : ByteArray) (hs : s.size ≤ 4000) : Ctr Tryd.prog 73 [.str s] [] (.str (sealS s)) [] := by
  have hc := ckS_bd s
  have hz := ckS_size s
  refine Ctr.intro Tryd.mixed Tryd.func73 rfl Tryd.okF73 ?_
  simp -implicitDefEqProofs -dsimp only [go_sem, Nat.reduceSub, Nat.reduceAdd, Nat.reduceMul, Nat.reduceLT, Nat.reduceLeDiff, Nat.reduceEqDiff, Nat.reduceDiv, Nat.reduceMod, Int.reduceToNat, Int.reduceLE, Int.reduceLT, Int.reduceBEq, Int.reduceBNe, Int.reduceNeg, Int.reduceAdd, Int.reduceSub, Int.reduceMul, reduceCtorEq, Tryd.ntmps73, Tryd.results73]
  repeat (first | ((first | refine callT.at (l1Sum_ok s hs) ⟨leA, trivial⟩ ?_ | refine callS.at (l1Sum_ok s hs) ⟨leA, trivial⟩ ?_); simp -implicitDefEqProofs -dsimp only [go_sem, Nat.reduceSub, Nat.reduceAdd, Nat.reduceMul, Nat.reduceLT, Nat.reduceLeDiff, Nat.reduceEqDiff, Nat.reduceDiv, Nat.reduceMod, Int.reduceToNat, Int.reduceLE, Int.reduceLT, Int.reduceBEq, Int.reduceBNe, Int.reduceNeg, Int.reduceAdd, Int.reduceSub, Int.reduceMul, reduceCtorEq]) | ((first | refine callT.at (l1Num_ok (ckS s) (by omega) (by omega)) ⟨leA, trivial⟩ ?_ | refine callS.at (l1Num_ok (ckS s) (by omega) (by omega)) ⟨leA, trivial⟩ ?_); simp -implicitDefEqProofs -dsimp only [go_sem, Nat.reduceSub, Nat.reduceAdd, Nat.reduceMul, Nat.reduceLT, Nat.reduceLeDiff, Nat.reduceEqDiff, Nat.reduceDiv, Nat.reduceMod, Int.reduceToNat, Int.reduceLE, Int.reduceLT, Int.reduceBEq, Int.reduceBNe, Int.reduceNeg, Int.reduceAdd, Int.reduceSub, Int.reduceMul, reduceCtorEq]) | (with_reducible refine And.intro (by first | omega | (show drawOk _ = true; kernel_rfl) | (simp only [ByteArray.size_append, ba_size, List.size_toArray, List.length_cons, List.length_nil]; omega)) ?_; try (repeat1' (first | simp -implicitDefEqProofs -dsimp only [go_sem, Nat.reduceSub, Nat.reduceAdd, Nat.reduceMul, Nat.reduceLT, Nat.reduceLeDiff, Nat.reduceEqDiff, Nat.reduceDiv, Nat.reduceMod, Int.reduceToNat, Int.reduceLE, Int.reduceLT, Int.reduceBEq, Int.reduceBNe, Int.reduceNeg, Int.reduceAdd, Int.reduceSub, Int.reduceMul, reduceCtorEq] | simp -implicitDefEqProofs -dsimp (disch := omega) only [wrap_i64]))))
  exact WeakR.drop' rfl (by rfl)
theorem appendChecksum_ok (s : ByteArray) (hs : s.size ≤ 1000) (hp : allS (fun b => !(b == 35)) s = true) : Ctr Tryd.prog 43 [.str s] [] (.tup [.str (sealS s), .bool true]) [] := by
  have hc := ckS_bd s
  have hz := ckS_size s
  have hss := sealS_size s
  have hno : decide (0 ≤ Lib.indexByte s.data.toList 35) = false := by
    rw [indexByte_all]
    show (!(allS (fun b => !(b == 35)) s)) = false
    rw [hp]; rfl
  have hlong : decide ((4000 : Int) < ((sealS s).size : Int)) = false := decide_eq_false (by omega)
  refine Ctr.intro Tryd.mixed Tryd.func43 rfl Tryd.okF43 ?_
  simp -implicitDefEqProofs -dsimp only [go_sem, Nat.reduceSub, Nat.reduceAdd, Nat.reduceMul, Nat.reduceLT, Nat.reduceLeDiff, Nat.reduceEqDiff, Nat.reduceDiv, Nat.reduceMod, Int.reduceToNat, Int.reduceLE, Int.reduceLT, Int.reduceBEq, Int.reduceBNe, Int.reduceNeg, Int.reduceAdd, Int.reduceSub, Int.reduceMul, reduceCtorEq, Tryd.ntmps43, Tryd.results43]
  repeat (first | ((first | refine callT.at (checksum_ok s (by omega)) ⟨leA, trivial⟩ ?_ | refine callS.at (checksum_ok s (by omega)) ⟨leA, trivial⟩ ?_); simp -implicitDefEqProofs -dsimp only [go_sem, Nat.reduceSub, Nat.reduceAdd, Nat.reduceMul, Nat.reduceLT, Nat.reduceLeDiff, Nat.reduceEqDiff, Nat.reduceDiv, Nat.reduceMod, Int.reduceToNat, Int.reduceLE, Int.reduceLT, Int.reduceBEq, Int.reduceBNe, Int.reduceNeg, Int.reduceAdd, Int.reduceSub, Int.reduceMul, reduceCtorEq]) | ((first | refine callT.at (itoaLib_ok (ckS s) ⟨by omega, by omega⟩) ⟨leA, trivial⟩ ?_ | refine callS.at (itoaLib_ok (ckS s) ⟨by omega, by omega⟩) ⟨leA, trivial⟩ ?_); simp -implicitDefEqProofs -dsimp only [go_sem, Nat.reduceSub, Nat.reduceAdd, Nat.reduceMul, Nat.reduceLT, Nat.reduceLeDiff, Nat.reduceEqDiff, Nat.reduceDiv, Nat.reduceMod, Int.reduceToNat, Int.reduceLE, Int.reduceLT, Int.reduceBEq, Int.reduceBNe, Int.reduceNeg, Int.reduceAdd, Int.reduceSub, Int.reduceMul, reduceCtorEq]) | (with_reducible refine And.intro (by first | omega | (show drawOk _ = true; kernel_rfl) | (simp only [ByteArray.size_append, ba_size, List.size_toArray, List.length_cons, List.length_nil]; omega)) ?_; try (repeat1' (first | simp -implicitDefEqProofs -dsimp only [go_sem, Nat.reduceSub, Nat.reduceAdd, Nat.reduceMul, Nat.reduceLT, Nat.reduceLeDiff, Nat.reduceEqDiff, Nat.reduceDiv, Nat.reduceMod, Int.reduceToNat, Int.reduceLE, Int.reduceLT, Int.reduceBEq, Int.reduceBNe, Int.reduceNeg, Int.reduceAdd, Int.reduceSub, Int.reduceMul, reduceCtorEq] | simp -implicitDefEqProofs -dsimp (disch := omega) only [wrap_i64]))))
  (first | refine callT.at (containsOne_ok s 35) ⟨leA, leA, trivial⟩ ?_ | refine callS.at (containsOne_ok s 35) ⟨leA, leA, trivial⟩ ?_)
  have e : (s ++ (⟨#[35]⟩ : ByteArray)) ++ num (ckS s) = sealS s := rfl
  rw [e]
  simp -implicitDefEqProofs -dsimp only [go_sem, Nat.reduceSub, Nat.reduceAdd, Nat.reduceMul, Nat.reduceLT, Nat.reduceLeDiff, Nat.reduceEqDiff, Nat.reduceDiv, Nat.reduceMod, Int.reduceToNat, Int.reduceLE, Int.reduceLT, Int.reduceBEq, Int.reduceBNe, Int.reduceNeg, Int.reduceAdd, Int.reduceSub, Int.reduceMul, reduceCtorEq, hno, hlong]
  exact WeakR.drop' rfl (by rfl)
/-- What is sealed of a record. -/
def recText (k : Int) (e : LogRecord) : ByteArray := (((num k ++ ⟨#[32]⟩) ++ e.Command) ++ ⟨#[64]⟩) ++ e.Reply
def recLine (k : Int) (e : LogRecord) : ByteArray := sealS (recText k e) ++ ⟨#[10]⟩
theorem recB_ok {e : LogRecord} (h : recB e = true) : e.Command.size ≤ 160 ∧ e.Reply.size ≤ 200 ∧ allS (fun b => plainByte b && !(b == 64)) e.Command = true ∧ allS plainByte e.Reply = true ∧ 1 ≤ e.Command.size := by
  simp [recB] at h
  exact ⟨h.1.1.2, h.2.1, h.1.2, h.2.2, h.1.1.1⟩
theorem recText_size {k : Int} {e : LogRecord} (hk : 0 ≤ k ∧ k ≤ 59) (h : recB e = true) : (recText k e).size ≤ 400 := by
  have := recB_ok h
  have := num_size' (n := k) (by omega) (by omega)
  unfold recText
  simp only [ByteArray.size_append, ba_size, List.size_toArray, List.length_cons, List.length_nil]; omega
theorem allS_mono {p q : UInt8 → Bool} {s : ByteArray} (h : allS p s = true) (hpq : ∀ b, p b = true → q b = true) : allS q s = true :=
  List.all_eq_true.2 fun x hx => hpq x (List.all_eq_true.1 h x hx)
theorem recText_plain {k : Int} {e : LogRecord} (hk : 0 ≤ k ∧ k ≤ 59) (h : recB e = true) : allS (fun b => !(b == 35)) (recText k e) = true := by
  obtain ⟨_, _, h3, h4, _⟩ := recB_ok h
  obtain ⟨u, rfl⟩ := Int.eq_ofNat_of_zero_le hk.1
  have n1 : allS (fun b => !(b == 35)) (num (u : Int)) = true := num_plain (u + 1) u (by omega)
  have c1 : allS (fun b => !(b == 35)) e.Command = true := allS_mono h3 (fun b hb => by simp [plainByte] at hb ⊢; exact hb.1.2)
  have c2 : allS (fun b => !(b == 35)) e.Reply = true := allS_mono h4 (fun b hb => by simp [plainByte] at hb ⊢; exact hb.2)
  unfold recText
  simp only [allS_app, n1, c1, c2, Bool.true_and, Bool.and_true]
  rfl
def encR (k : Int) (e : LogRecord) : List V := if inB' k 0 59 = true ∧ recB e = true then [.str (recLine k e), .bool true] else [.str ⟨#[]⟩, .bool false]
theorem iEncodeRecord_ok (k : Int) (e : LogRecord) (hc : e.Command.size ≤ 281474976710656) (hr : e.Reply.size ≤ 281474976710656) : Ctr Tryd.prog 15 [.int .i64 k, e.v] [] (.tup (encR k e)) [] := by
  refine Ctr.intro Tryd.mixed Tryd.func15 rfl Tryd.okF15 ?_
  simp -implicitDefEqProofs -dsimp only [go_sem, Nat.reduceSub, Nat.reduceAdd, Nat.reduceMul, Nat.reduceLT, Nat.reduceLeDiff, Nat.reduceEqDiff, Nat.reduceDiv, Nat.reduceMod, Int.reduceToNat, Int.reduceLE, Int.reduceLT, Int.reduceBEq, Int.reduceBNe, Int.reduceNeg, Int.reduceAdd, Int.reduceSub, Int.reduceMul, reduceCtorEq, Tryd.ntmps15, Tryd.results15]
  simp -implicitDefEqProofs -dsimp only [go_sem, Nat.reduceSub, Nat.reduceAdd, Nat.reduceMul, Nat.reduceLT, Nat.reduceLeDiff, Nat.reduceEqDiff, Nat.reduceDiv, Nat.reduceMod, Int.reduceToNat, Int.reduceLE, Int.reduceLT, Int.reduceBEq, Int.reduceBNe, Int.reduceNeg, Int.reduceAdd, Int.reduceSub, Int.reduceMul, reduceCtorEq, LogRecord.v]
  (first | refine callT.at (in_ok k 0 59) ⟨leA, leA, leA, trivial⟩ ?_ | refine callS.at (in_ok k 0 59) ⟨leA, leA, leA, trivial⟩ ?_)
  simp -implicitDefEqProofs -dsimp only [go_sem, Nat.reduceSub, Nat.reduceAdd, Nat.reduceMul, Nat.reduceLT, Nat.reduceLeDiff, Nat.reduceEqDiff, Nat.reduceDiv, Nat.reduceMod, Int.reduceToNat, Int.reduceLE, Int.reduceLT, Int.reduceBEq, Int.reduceBNe, Int.reduceNeg, Int.reduceAdd, Int.reduceSub, Int.reduceMul, reduceCtorEq]
  refine guardT.splitF (fun g1 => ?_) (fun g1 => ?_) <;> simp -implicitDefEqProofs -dsimp only [go_sem, Nat.reduceSub, Nat.reduceAdd, Nat.reduceMul, Nat.reduceLT, Nat.reduceLeDiff, Nat.reduceEqDiff, Nat.reduceDiv, Nat.reduceMod, Int.reduceToNat, Int.reduceLE, Int.reduceLT, Int.reduceBEq, Int.reduceBNe, Int.reduceNeg, Int.reduceAdd, Int.reduceSub, Int.reduceMul, reduceCtorEq, g1]
  rotate_left
  · exact WeakR.drop' (by rw [encR, if_neg (by simp at g1; simp [g1])]) (by rfl)
  (first | refine callT.at (iIsValidRecord_ok e hc hr) ⟨leA, trivial⟩ ?_ | refine callS.at (iIsValidRecord_ok e hc hr) ⟨leA, trivial⟩ ?_)
  simp -implicitDefEqProofs -dsimp only [go_sem, Nat.reduceSub, Nat.reduceAdd, Nat.reduceMul, Nat.reduceLT, Nat.reduceLeDiff, Nat.reduceEqDiff, Nat.reduceDiv, Nat.reduceMod, Int.reduceToNat, Int.reduceLE, Int.reduceLT, Int.reduceBEq, Int.reduceBNe, Int.reduceNeg, Int.reduceAdd, Int.reduceSub, Int.reduceMul, reduceCtorEq]
  refine condT.split (fun g2 => ?_) (fun g2 => ?_) <;> simp -implicitDefEqProofs -dsimp only [go_sem, Nat.reduceSub, Nat.reduceAdd, Nat.reduceMul, Nat.reduceLT, Nat.reduceLeDiff, Nat.reduceEqDiff, Nat.reduceDiv, Nat.reduceMod, Int.reduceToNat, Int.reduceLE, Int.reduceLT, Int.reduceBEq, Int.reduceBNe, Int.reduceNeg, Int.reduceAdd, Int.reduceSub, Int.reduceMul, reduceCtorEq, g2]
  · exact WeakR.drop' (by rw [encR, if_neg (by simp at g2; simp [g2])]) (by rfl)
  have hk : inB' k 0 59 = true := by simpa using g1
  have he : recB e = true := by simpa using g2
  have hk' := inB'_iff.1 hk
  have z1 := num_size' (n := k) (by omega) (by omega)
  have z2 := recB_ok he
  have z3 := recText_size hk' he
  have z4 := sealS_size (recText k e)
  have e1 : (((num k ++ (⟨#[32]⟩ : ByteArray)) ++ e.Command) ++ (⟨#[64]⟩ : ByteArray)) ++ e.Reply = recText k e := rfl
  repeat (first | ((first | refine callT.at (itoaLib_ok k ⟨by omega, by omega⟩) ⟨leA, trivial⟩ ?_ | refine callS.at (itoaLib_ok k ⟨by omega, by omega⟩) ⟨leA, trivial⟩ ?_); simp -implicitDefEqProofs -dsimp only [go_sem, Nat.reduceSub, Nat.reduceAdd, Nat.reduceMul, Nat.reduceLT, Nat.reduceLeDiff, Nat.reduceEqDiff, Nat.reduceDiv, Nat.reduceMod, Int.reduceToNat, Int.reduceLE, Int.reduceLT, Int.reduceBEq, Int.reduceBNe, Int.reduceNeg, Int.reduceAdd, Int.reduceSub, Int.reduceMul, reduceCtorEq]) | (with_reducible refine And.intro (by first | omega | (show drawOk _ = true; kernel_rfl) | (simp only [ByteArray.size_append, ba_size, List.size_toArray, List.length_cons, List.length_nil]; omega)) ?_; try (repeat1' (first | simp -implicitDefEqProofs -dsimp only [go_sem, Nat.reduceSub, Nat.reduceAdd, Nat.reduceMul, Nat.reduceLT, Nat.reduceLeDiff, Nat.reduceEqDiff, Nat.reduceDiv, Nat.reduceMod, Int.reduceToNat, Int.reduceLE, Int.reduceLT, Int.reduceBEq, Int.reduceBNe, Int.reduceNeg, Int.reduceAdd, Int.reduceSub, Int.reduceMul, reduceCtorEq] | simp -implicitDefEqProofs -dsimp (disch := omega) only [wrap_i64]))))
  rw [e1]
  repeat (first | ((first | refine callT.at (appendChecksum_ok (recText k e) (by omega) (recText_plain hk' he)) ⟨leA, trivial⟩ ?_ | refine callS.at (appendChecksum_ok (recText k e) (by omega) (recText_plain hk' he)) ⟨leA, trivial⟩ ?_); simp -implicitDefEqProofs -dsimp only [go_sem, Nat.reduceSub, Nat.reduceAdd, Nat.reduceMul, Nat.reduceLT, Nat.reduceLeDiff, Nat.reduceEqDiff, Nat.reduceDiv, Nat.reduceMod, Int.reduceToNat, Int.reduceLE, Int.reduceLT, Int.reduceBEq, Int.reduceBNe, Int.reduceNeg, Int.reduceAdd, Int.reduceSub, Int.reduceMul, reduceCtorEq]) | (with_reducible refine And.intro (by first | omega | (show drawOk _ = true; kernel_rfl) | (simp only [ByteArray.size_append, ba_size, List.size_toArray, List.length_cons, List.length_nil]; omega)) ?_; try (repeat1' (first | simp -implicitDefEqProofs -dsimp only [go_sem, Nat.reduceSub, Nat.reduceAdd, Nat.reduceMul, Nat.reduceLT, Nat.reduceLeDiff, Nat.reduceEqDiff, Nat.reduceDiv, Nat.reduceMod, Int.reduceToNat, Int.reduceLE, Int.reduceLT, Int.reduceBEq, Int.reduceBNe, Int.reduceNeg, Int.reduceAdd, Int.reduceSub, Int.reduceMul, reduceCtorEq] | simp -implicitDefEqProofs -dsimp (disch := omega) only [wrap_i64]))))
  exact WeakR.drop' (by rw [encR, if_pos ⟨hk, he⟩]; rfl) (by rfl)
theorem l27Line_ok (k : Int) (e : LogRecord) (hk : 0 ≤ k ∧ k ≤ 59) (he : recB e = true) : Ctr Tryd.prog 46 [.int .i64 k, e.v] [] (.str (recLine k e)) [] := by
  have z1 := num_size' (n := k) (by omega) (by omega)
  have z2 := recB_ok he
  have z3 := recText_size hk he
  have z4 := sealS_size (recText k e)
  have e1 : (((num k ++ (⟨#[32]⟩ : ByteArray)) ++ e.Command) ++ (⟨#[64]⟩ : ByteArray)) ++ e.Reply = recText k e := rfl
  refine Ctr.intro Tryd.mixed Tryd.func46 rfl Tryd.okF46 ?_
  simp -implicitDefEqProofs -dsimp only [go_sem, Nat.reduceSub, Nat.reduceAdd, Nat.reduceMul, Nat.reduceLT, Nat.reduceLeDiff, Nat.reduceEqDiff, Nat.reduceDiv, Nat.reduceMod, Int.reduceToNat, Int.reduceLE, Int.reduceLT, Int.reduceBEq, Int.reduceBNe, Int.reduceNeg, Int.reduceAdd, Int.reduceSub, Int.reduceMul, reduceCtorEq, Tryd.ntmps46, Tryd.results46]
  simp -implicitDefEqProofs -dsimp only [go_sem, Nat.reduceSub, Nat.reduceAdd, Nat.reduceMul, Nat.reduceLT, Nat.reduceLeDiff, Nat.reduceEqDiff, Nat.reduceDiv, Nat.reduceMod, Int.reduceToNat, Int.reduceLE, Int.reduceLT, Int.reduceBEq, Int.reduceBNe, Int.reduceNeg, Int.reduceAdd, Int.reduceSub, Int.reduceMul, reduceCtorEq, LogRecord.v]
  repeat (first | ((first | refine callT.at (l1Num_ok k (by omega) (by omega)) ⟨leA, trivial⟩ ?_ | refine callS.at (l1Num_ok k (by omega) (by omega)) ⟨leA, trivial⟩ ?_); simp -implicitDefEqProofs -dsimp only [go_sem, Nat.reduceSub, Nat.reduceAdd, Nat.reduceMul, Nat.reduceLT, Nat.reduceLeDiff, Nat.reduceEqDiff, Nat.reduceDiv, Nat.reduceMod, Int.reduceToNat, Int.reduceLE, Int.reduceLT, Int.reduceBEq, Int.reduceBNe, Int.reduceNeg, Int.reduceAdd, Int.reduceSub, Int.reduceMul, reduceCtorEq]) | (with_reducible refine And.intro (by first | omega | (show drawOk _ = true; kernel_rfl) | (simp only [ByteArray.size_append, ba_size, List.size_toArray, List.length_cons, List.length_nil]; omega)) ?_; try (repeat1' (first | simp -implicitDefEqProofs -dsimp only [go_sem, Nat.reduceSub, Nat.reduceAdd, Nat.reduceMul, Nat.reduceLT, Nat.reduceLeDiff, Nat.reduceEqDiff, Nat.reduceDiv, Nat.reduceMod, Int.reduceToNat, Int.reduceLE, Int.reduceLT, Int.reduceBEq, Int.reduceBNe, Int.reduceNeg, Int.reduceAdd, Int.reduceSub, Int.reduceMul, reduceCtorEq] | simp -implicitDefEqProofs -dsimp (disch := omega) only [wrap_i64]))))
  rw [e1]
  repeat (first | ((first | refine callT.at (l1Seal_ok (recText k e) (by omega)) ⟨leA, trivial⟩ ?_ | refine callS.at (l1Seal_ok (recText k e) (by omega)) ⟨leA, trivial⟩ ?_); simp -implicitDefEqProofs -dsimp only [go_sem, Nat.reduceSub, Nat.reduceAdd, Nat.reduceMul, Nat.reduceLT, Nat.reduceLeDiff, Nat.reduceEqDiff, Nat.reduceDiv, Nat.reduceMod, Int.reduceToNat, Int.reduceLE, Int.reduceLT, Int.reduceBEq, Int.reduceBNe, Int.reduceNeg, Int.reduceAdd, Int.reduceSub, Int.reduceMul, reduceCtorEq]) | (with_reducible refine And.intro (by first | omega | (show drawOk _ = true; kernel_rfl) | (simp only [ByteArray.size_append, ba_size, List.size_toArray, List.length_cons, List.length_nil]; omega)) ?_; try (repeat1' (first | simp -implicitDefEqProofs -dsimp only [go_sem, Nat.reduceSub, Nat.reduceAdd, Nat.reduceMul, Nat.reduceLT, Nat.reduceLeDiff, Nat.reduceEqDiff, Nat.reduceDiv, Nat.reduceMod, Int.reduceToNat, Int.reduceLE, Int.reduceLT, Int.reduceBEq, Int.reduceBNe, Int.reduceNeg, Int.reduceAdd, Int.reduceSub, Int.reduceMul, reduceCtorEq] | simp -implicitDefEqProofs -dsimp (disch := omega) only [wrap_i64]))))
  exact WeakR.drop' rfl (by rfl)
end Go.Proofs
end
section
set_option linter.unusedSimpArgs false
set_option linter.unusedVariables false
set_option maxRecDepth 100000
namespace Go.Proofs
open Go.Lv
def StringS.cs (x : ByteArray) : List V := [.str x]
instance : FlatP StringS.cs 1 := ⟨fun _ => rfl, fun _ d => by cases d <;> rfl, fun _ => rfl, fun _ => rfl⟩
theorem StringS.csl (a : ByteArray) : (StringS.cs a).length = 1 := rfl
abbrev StringS.ok (x : ByteArray) : Prop := strR x
abbrev StringS.sl (L : List ByteArray) : V := .sl L.length 1 (Go.Lv.rows StringS.cs L)
abbrev StringS.zs : List V := [.str ByteArray.empty]
abbrev StringS.v (x : ByteArray) : V := .str x
end Go.Proofs
end
section
set_option linter.unusedSimpArgs false
set_option linter.unusedVariables false
set_option maxRecDepth 100000
set_option maxHeartbeats 1000000
namespace Go.Proofs
open Go.Lv
theorem ba_ext {a b : ByteArray} (h : a.data.toList = b.data.toList) : a = b := by
  apply ByteArray.ext
  exact Array.toList_inj.1 h
theorem ba_app (a b : ByteArray) : (a ++ b).data.toList = a.data.toList ++ b.data.toList := by simp [ByteArray.data_append]
theorem ba_ext_list (s : ByteArray) (a b : Nat) : (s.extract a b).data.toList = (s.data.toList.take b).drop a := by
  rw [ByteArray.data_extract, Array.toList_extract, List.extract_eq_take_drop, List.drop_take]
def idx (c : UInt8) (s : ByteArray) : Int := Lib.indexByte s.data.toList c
def fnd (c : UInt8) (s : ByteArray) : Bool := decide (0 ≤ idx c s)
def bef (c : UInt8) (s : ByteArray) : ByteArray := if 0 ≤ idx c s then s.extract 0 (idx c s).toNat else s
def aft (c : UInt8) (s : ByteArray) : ByteArray := if 0 ≤ idx c s then s.extract ((idx c s).toNat + 1) s.size else ⟨#[]⟩
theorem ib_app {c : UInt8} : ∀ {x : List UInt8} (y : List UInt8), (x.all fun b => !(b == c)) = true → Lib.indexByte (x ++ c :: y) c = x.length
  | [], y, _ => by simp [Lib.indexByte]
  | a :: x, y, h => by
    simp only [List.all_cons, Bool.and_eq_true] at h
    have hf : (a == c) = false := by simpa using h.1
    rw [List.cons_append, Lib.indexByte, hf, ib_app y h.2]
    have : ((x.length : Int) == -1) = false := by simp
    simp [this]
theorem ib_none {c : UInt8} : ∀ {x : List UInt8}, (x.all fun b => !(b == c)) = true → Lib.indexByte x c = -1
  | [], _ => rfl
  | a :: x, h => by
    simp only [List.all_cons, Bool.and_eq_true] at h
    have hf : (a == c) = false := by simpa using h.1
    rw [Lib.indexByte, hf, ib_none h.2]
    rfl
theorem ib_find {c : UInt8} : ∀ {l : List UInt8}, 0 ≤ Lib.indexByte l c → ∃ x y, l = x ++ c :: y ∧ (x.all fun b => !(b == c)) = true
  | [], h => by simp [Lib.indexByte] at h
  | a :: l, h => by
    by_cases e : a = c
    · exact ⟨[], l, by simp [e], rfl⟩
    · have hf : (a == c) = false := by simpa using e
      rw [Lib.indexByte, hf] at h
      by_cases e2 : Lib.indexByte l c = -1
      · simp [e2] at h
      · have hg := Lib.indexByte_ge l c
        obtain ⟨x, y, h1, h2⟩ := ib_find (l := l) (c := c) (by omega)
        refine ⟨a :: x, y, by rw [h1]; rfl, ?_⟩
        rw [List.all_cons, hf, h2]; rfl
def noB (c : UInt8) (s : ByteArray) : Bool := allS (fun b => !(b == c)) s
theorem cut_at {c : UInt8} {x y : ByteArray} (h : noB c x = true) : idx c (x ++ (⟨#[c]⟩ ++ y)) = x.size ∧ bef c (x ++ (⟨#[c]⟩ ++ y)) = x ∧ aft c (x ++ (⟨#[c]⟩ ++ y)) = y ∧ fnd c (x ++ (⟨#[c]⟩ ++ y)) = true := by
  have e : (x ++ (⟨#[c]⟩ ++ y)).data.toList = x.data.toList ++ c :: y.data.toList := by rw [ba_app, ba_app]; rfl
  have hi : idx c (x ++ (⟨#[c]⟩ ++ y)) = x.size := by
    rw [idx, e, ib_app _ h, ba_len]
  have hp : (0 : Int) ≤ x.size := by omega
  refine ⟨hi, ?_, ?_, ?_⟩
  · rw [bef, hi, if_pos hp]
    apply ba_ext
    rw [ba_ext_list, e, Int.toNat_natCast, List.drop_zero]
    exact List.take_left' (ba_len x)
  · rw [aft, hi, if_pos hp]
    apply ba_ext
    have hl : (x ++ (⟨#[c]⟩ ++ y)).size = (x ++ (⟨#[c]⟩ ++ y)).data.toList.length := rfl
    rw [ba_ext_list, Int.toNat_natCast, hl, List.take_length, e]
    have e2 : x.data.toList ++ c :: y.data.toList = (x.data.toList ++ [c]) ++ y.data.toList := by simp
    rw [e2]
    exact List.drop_left' (by rw [List.length_append, ba_len]; rfl)
  · rw [fnd, hi]; exact decide_eq_true hp
theorem cut_none {c : UInt8} {x : ByteArray} (h : noB c x = true) : idx c x = -1 ∧ bef c x = x ∧ aft c x = ⟨#[]⟩ ∧ fnd c x = false := by
  have hi : idx c x = -1 := ib_none h
  refine ⟨hi, ?_, ?_, ?_⟩
  · rw [bef, hi]; rfl
  · rw [aft, hi]; rfl
  · rw [fnd, hi]; rfl
theorem cut_find {c : UInt8} {s : ByteArray} (h : fnd c s = true) : ∃ x y, s = x ++ (⟨#[c]⟩ ++ y) ∧ noB c x = true := by
  obtain ⟨x, y, h1, h2⟩ := ib_find (of_decide_eq_true h)
  refine ⟨⟨x.toArray⟩, ⟨y.toArray⟩, ?_, ?_⟩
  · apply ba_ext
    rw [ba_app, ba_app, h1]
    simp
  · unfold noB allS; simpa using h2
theorem idx_le (c : UInt8) (s : ByteArray) : -1 ≤ idx c s ∧ idx c s < s.size := by
  refine ⟨Lib.indexByte_ge _ _, ?_⟩
  by_cases h : 0 ≤ idx c s
  · obtain ⟨x, y, e, hx⟩ := cut_find (c := c) (s := s) (decide_eq_true h)
    rw [e, (cut_at hx).1]
    simp only [ByteArray.size_append]
    have : (⟨#[c]⟩ : ByteArray).size = 1 := rfl
    omega
  · omega
theorem bef_size (c : UInt8) (s : ByteArray) : (bef c s).size ≤ s.size := by
  have := idx_le c s
  unfold bef; split
  · rw [ByteArray.size_extract]; omega
  · exact Nat.le_refl _
theorem aft_size (c : UInt8) (s : ByteArray) : (aft c s).size ≤ s.size := by
  unfold aft; split
  · rw [ByteArray.size_extract]; omega
  · exact Nat.zero_le _
theorem indexOne_ok (s : ByteArray) (c : UInt8) : Ctr Tryd.prog 104 [.str s, .str ⟨#[c]⟩] [] (.int .i64 (idx c s)) [] := by
  refine ⟨Tryd.okF104, fun w vs m av hH hav hgl hsz ha => ?_⟩
  obtain ⟨v, u, rfl⟩ : ∃ v u, vs = #[v, u] := by
    match vs, hsz with
    | ⟨[v, u]⟩, _ => exact ⟨v, u, rfl⟩
  have h0 := ha 0 (by simp)
  have h1 := ha 1 (by simp)
  simp only [List.getElem_cons_zero, List.getElem_cons_succ] at h0 h1
  obtain rfl : v = .string s := by
    simp at h0; cases h0; rfl
  obtain rfl : u = .string ⟨#[c]⟩ := by
    simp at h1; cases h1; rfl
  refine (Tryd.stringslite_Index_one s c w).mono ?_
  rintro e w' ⟨rfl, rfl⟩
  exact ⟨_, m, rfl, Ext.refl _ _, ⟨fun i j ci cj h => by simp at h, fun id cs h => by simp at h, fun id cs h => by simp at h⟩, .int _ _, fun id cs h => by simp at h⟩
theorem liteCut_ok (s : ByteArray) (c : UInt8) (hs : s.size ≤ 281474976710656) : Ctr Tryd.prog 115 [.str s, .str ⟨#[c]⟩] [] (.tup [.str (bef c s), .str (aft c s), .bool (fnd c s)]) [] := by
  have hi := idx_le c s
  refine Ctr.intro Tryd.mixed Tryd.func115 rfl Tryd.okF115 ?_
  simp -implicitDefEqProofs -dsimp only [go_sem, Nat.reduceSub, Nat.reduceAdd, Nat.reduceMul, Nat.reduceLT, Nat.reduceLeDiff, Nat.reduceEqDiff, Nat.reduceDiv, Nat.reduceMod, Int.reduceToNat, Int.reduceLE, Int.reduceLT, Int.reduceBEq, Int.reduceBNe, Int.reduceNeg, Int.reduceAdd, Int.reduceSub, Int.reduceMul, reduceCtorEq, Tryd.ntmps115, Tryd.results115]
  (first | refine callT.at (indexOne_ok s c) ⟨leA, leA, trivial⟩ ?_ | refine callS.at (indexOne_ok s c) ⟨leA, leA, trivial⟩ ?_)
  simp -implicitDefEqProofs -dsimp only [go_sem, Nat.reduceSub, Nat.reduceAdd, Nat.reduceMul, Nat.reduceLT, Nat.reduceLeDiff, Nat.reduceEqDiff, Nat.reduceDiv, Nat.reduceMod, Int.reduceToNat, Int.reduceLE, Int.reduceLT, Int.reduceBEq, Int.reduceBNe, Int.reduceNeg, Int.reduceAdd, Int.reduceSub, Int.reduceMul, reduceCtorEq]
  refine condT.split (fun h1 => ?_) (fun h1 => ?_) <;> simp -implicitDefEqProofs -dsimp only [go_sem, Nat.reduceSub, Nat.reduceAdd, Nat.reduceMul, Nat.reduceLT, Nat.reduceLeDiff, Nat.reduceEqDiff, Nat.reduceDiv, Nat.reduceMod, Int.reduceToNat, Int.reduceLE, Int.reduceLT, Int.reduceBEq, Int.reduceBNe, Int.reduceNeg, Int.reduceAdd, Int.reduceSub, Int.reduceMul, reduceCtorEq, h1]
  · have h1' := of_decide_eq_true h1
    repeat (with_reducible refine sideA ?_)
    have e1 : ((#[c] : Array UInt8).size : Int) = 1 := rfl
    have e2 : (idx c s + 1).toNat = (idx c s).toNat + 1 := by omega
    rw [e1, wrap_i64 (by omega) (by omega), e2]
    refine ⟨⟨by omega, by omega⟩, WeakR.drop' ?_ (by rfl)⟩
    rw [bef, aft, fnd, if_pos h1', if_pos h1', h1]
  · have h1' := of_decide_eq_false h1
    exact WeakR.drop' (by rw [bef, aft, fnd, if_neg h1', if_neg h1', h1]) (by rfl)
theorem cut_ok (s : ByteArray) (c : UInt8) (hs : s.size ≤ 281474976710656) : Ctr Tryd.prog 99 [.str s, .str ⟨#[c]⟩] [] (.tup [.str (bef c s), .str (aft c s), .bool (fnd c s)]) [] := by
  refine Ctr.intro Tryd.mixed Tryd.func99 rfl Tryd.okF99 ?_
  simp -implicitDefEqProofs -dsimp only [go_sem, Nat.reduceSub, Nat.reduceAdd, Nat.reduceMul, Nat.reduceLT, Nat.reduceLeDiff, Nat.reduceEqDiff, Nat.reduceDiv, Nat.reduceMod, Int.reduceToNat, Int.reduceLE, Int.reduceLT, Int.reduceBEq, Int.reduceBNe, Int.reduceNeg, Int.reduceAdd, Int.reduceSub, Int.reduceMul, reduceCtorEq, Tryd.ntmps99, Tryd.results99]
  (first | refine callT.at (liteCut_ok s c hs) ⟨leA, leA, trivial⟩ ?_ | refine callS.at (liteCut_ok s c hs) ⟨leA, leA, trivial⟩ ?_)
  simp -implicitDefEqProofs -dsimp only [go_sem, Nat.reduceSub, Nat.reduceAdd, Nat.reduceMul, Nat.reduceLT, Nat.reduceLeDiff, Nat.reduceEqDiff, Nat.reduceDiv, Nat.reduceMod, Int.reduceToNat, Int.reduceLE, Int.reduceLT, Int.reduceBEq, Int.reduceBNe, Int.reduceNeg, Int.reduceAdd, Int.reduceSub, Int.reduceMul, reduceCtorEq]
  exact WeakR.drop' rfl (by rfl)
/-- The pieces, and where the next begins, after i bytes. -/
def splTo (c : UInt8) (s : ByteArray) : Nat → List ByteArray × Nat
  | 0 => ([], 0)
  | i + 1 => if h : i < s.size then (if (s[i]'h == c) = true then ((splTo c s i).1 ++ [s.extract (splTo c s i).2 i], i + 1) else splTo c s i) else splTo c s i
theorem splTo_yes {c : UInt8} {s : ByteArray} {i : Nat} (h : i < s.size) (hc : (s[i]'h == c) = true) : splTo c s (i + 1) = ((splTo c s i).1 ++ [s.extract (splTo c s i).2 i], i + 1) := by
  rw [splTo, dif_pos h, if_pos hc]
theorem splTo_no {c : UInt8} {s : ByteArray} {i : Nat} (h : i < s.size) (hc : (s[i]'h == c) = false) : splTo c s (i + 1) = splTo c s i := by
  rw [splTo, dif_pos h, if_neg (by simp [hc])]
theorem splTo_bd (c : UInt8) (s : ByteArray) : ∀ i, i ≤ s.size → (splTo c s i).2 ≤ i ∧ (splTo c s i).1.length ≤ i
  | 0, _ => by simp [splTo]
  | i + 1, h => by
    have ih := splTo_bd c s i (by omega)
    have hi : i < s.size := by omega
    cases hc : (s[i]'hi == c) with
    | true => rw [splTo_yes hi hc]; simp; omega
    | false => rw [splTo_no hi hc]; omega
def splS (c : UInt8) (s : ByteArray) : List ByteArray := (splTo c s s.size).1 ++ [s.extract (splTo c s s.size).2 s.size]
theorem idx_first {c : UInt8} {s : ByteArray} {i : Nat} (h : i < s.size) (h0 : allTo (fun b => !(b == c)) s i = true) (hc : (s[i]'h == c) = true) : idx c s = i := by
  have hl : i < s.data.toList.length := h
  have e : s.data.toList = s.data.toList.take i ++ c :: s.data.toList.drop (i + 1) := by
    have : s.data.toList[i] = c := by rw [ba_get s h]; simpa using hc
    rw [← this, ← List.drop_eq_getElem_cons hl, List.take_append_drop]
  rw [idx, e, ib_app _ h0]
  simp
  omega
theorem spl_first (c : UInt8) (s : ByteArray) : ∀ i, i ≤ s.size → (allTo (fun b => !(b == c)) s i = true → splTo c s i = ([], 0)) ∧ (allTo (fun b => !(b == c)) s i = false → fnd c s = true ∧ ∃ l, (splTo c s i).1 = bef c s :: l)
  | 0, _ => ⟨fun _ => rfl, fun h => by simp [allTo] at h⟩
  | i + 1, h => by
    have hi : i < s.size := by omega
    obtain ⟨h1, h2⟩ := spl_first c s i (by omega)
    cases hc : (s[i]'hi == c) with
    | true =>
      rw [splTo_yes hi hc, allTo_succ hi]
      refine ⟨fun g => by simp [hc] at g, fun _ => ?_⟩
      cases ha : allTo (fun b => !(b == c)) s i with
      | true =>
        have hx := idx_first hi ha hc
        refine ⟨by rw [fnd, hx]; exact decide_eq_true (by omega), [], ?_⟩
        rw [h1 ha, bef, hx, if_pos (by omega)]
        simp
      | false =>
        obtain ⟨g1, l, g2⟩ := h2 ha
        refine ⟨g1, l ++ [s.extract (splTo c s i).2 i], ?_⟩
        rw [g2]; rfl
    | false =>
      rw [splTo_no hi hc, allTo_succ hi]
      have e : (allTo (fun b => !(b == c)) s i && !(s[i]'hi == c)) = allTo (fun b => !(b == c)) s i := by rw [hc]; simp
      rw [e]
      exact ⟨h1, h2⟩
theorem splS_spec (c : UInt8) (s : ByteArray) : ∃ l, splS c s = bef c s :: l ∧ (l = [] ↔ fnd c s = false) := by
  obtain ⟨h1, h2⟩ := spl_first c s s.size (Nat.le_refl _)
  rw [allTo_end] at h1 h2
  cases ha : allS (fun b => !(b == c)) s with
  | true =>
    obtain ⟨_, g2, _, g4⟩ := cut_none (c := c) (x := s) ha
    refine ⟨[], ?_, by simp [g4]⟩
    rw [splS, h1 ha, g2]
    simp
  | false =>
    obtain ⟨g1, l, g2⟩ := h2 ha
    refine ⟨l ++ [s.extract (splTo c s s.size).2 s.size], by rw [splS, g2]; rfl, ?_⟩
    rw [g1]
    simp
theorem l1Split_ok (s : ByteArray) (c : UInt8) (hs : s.size ≤ 16777216) : Ctr Tryd.prog 77 [.str s, .int .u8 c.toNat] [] (.osl 0 0 (splS c s).length 1) [some (rows StringS.cs (splS c s))] := by
  refine Ctr.intro Tryd.mixed Tryd.func77 rfl Tryd.okF77 ?_
  simp -implicitDefEqProofs -dsimp only [go_sem, Nat.reduceSub, Nat.reduceAdd, Nat.reduceMul, Nat.reduceLT, Nat.reduceLeDiff, Nat.reduceEqDiff, Nat.reduceDiv, Nat.reduceMod, Int.reduceToNat, Int.reduceLE, Int.reduceLT, Int.reduceBEq, Int.reduceBNe, Int.reduceNeg, Int.reduceAdd, Int.reduceSub, Int.reduceMul, reduceCtorEq, Tryd.ntmps77, Tryd.results77]
  refine LoopT.intro (fun i : Nat => i ≤ s.size) (fun i => ⟨[.str s, .int .u8 c.toNat, .undef, .undef, .undef, .osl 0 0 (splTo c s i).1.length 1, .int .i64 (splTo c s i).2, .int .i64 i, .undef, .undef, .undef, .undef, .undef, .undef, .undef, .undef, .undef, .undef, .undef, .undef, .undef, .undef, .undef, .undef, .undef, .undef, .undef, .undef, .undef, .undef, .undef, .undef, .undef, .undef, .undef], [some (rows StringS.cs (splTo c s i).1)], 0⟩) (fun i => s.size - i) 0 (Nat.zero_le _) ?_ (fun i hi => ?_)
  · refine Weak.cut (1) (by simp) (by simp) ?_ ?_
    · simp [LeC, LeV, ren, cutF, splTo]
    · simp [cutH, cutB, splTo, rows]
  have hbd := splTo_bd c s i hi
  simp -implicitDefEqProofs -dsimp only [go_sem, Nat.reduceSub, Nat.reduceAdd, Nat.reduceMul, Nat.reduceLT, Nat.reduceLeDiff, Nat.reduceEqDiff, Nat.reduceDiv, Nat.reduceMod, Int.reduceToNat, Int.reduceLE, Int.reduceLT, Int.reduceBEq, Int.reduceBNe, Int.reduceNeg, Int.reduceAdd, Int.reduceSub, Int.reduceMul, reduceCtorEq]
  refine condT.split (fun h1 => ?_) (fun h1 => ?_)
  · simp -implicitDefEqProofs -dsimp only [go_sem, Nat.reduceSub, Nat.reduceAdd, Nat.reduceMul, Nat.reduceLT, Nat.reduceLeDiff, Nat.reduceEqDiff, Nat.reduceDiv, Nat.reduceMod, Int.reduceToNat, Int.reduceLE, Int.reduceLT, Int.reduceBEq, Int.reduceBNe, Int.reduceNeg, Int.reduceAdd, Int.reduceSub, Int.reduceMul, reduceCtorEq, h1]
    have hi' : i < s.size := by simpa using h1
    refine ⟨⟨by omega, hi'⟩, ?_⟩
    have hbb : ((s[i]'hi') == c) = (((s[i]'hi').toNat : Int) == (c.toNat : Int)) := by
      rw [Bool.eq_iff_iff]; simp only [beq_iff_eq]
      constructor
      · intro g; rw [g]
      · intro g; exact UInt8.toNat_inj.1 (by omega)
    refine condT.split (fun h2 => ?_) (fun h2 => ?_) <;> simp -implicitDefEqProofs -dsimp only [go_sem, Nat.reduceSub, Nat.reduceAdd, Nat.reduceMul, Nat.reduceLT, Nat.reduceLeDiff, Nat.reduceEqDiff, Nat.reduceDiv, Nat.reduceMod, Int.reduceToNat, Int.reduceLE, Int.reduceLT, Int.reduceBEq, Int.reduceBNe, Int.reduceNeg, Int.reduceAdd, Int.reduceSub, Int.reduceMul, reduceCtorEq, h2]
    · (repeat ((repeat1' (first | simp -implicitDefEqProofs -dsimp only [go_sem, Nat.reduceSub, Nat.reduceAdd, Nat.reduceMul, Nat.reduceLT, Nat.reduceLeDiff, Nat.reduceEqDiff, Nat.reduceDiv, Nat.reduceMod, Int.reduceToNat, Int.reduceLE, Int.reduceLT, Int.reduceBEq, Int.reduceBNe, Int.reduceNeg, Int.reduceAdd, Int.reduceSub, Int.reduceMul, reduceCtorEq, rows_length, rows_cell, Nat.mul_one] | simp -implicitDefEqProofs -dsimp (disch := omega) only [wrap_i64])); repeat (with_reducible refine sideA ?_)))
      refine ⟨i + 1, hi', ?_, by omega⟩
      refine Weak.cut (1) (by simp) (by simp) ?_ ?_
      · rw [splTo_yes hi' (by rw [hbb]; exact h2)]
        simp [LeC, LeV, ren, cutF]
      · rw [splTo_yes hi' (by rw [hbb]; exact h2), ← rows_snoc]
        simp [cutH, cutB, ren, cutF, map_ren_rows, killC, StringS.cs]
    · try (repeat1' (first | simp -implicitDefEqProofs -dsimp only [go_sem, Nat.reduceSub, Nat.reduceAdd, Nat.reduceMul, Nat.reduceLT, Nat.reduceLeDiff, Nat.reduceEqDiff, Nat.reduceDiv, Nat.reduceMod, Int.reduceToNat, Int.reduceLE, Int.reduceLT, Int.reduceBEq, Int.reduceBNe, Int.reduceNeg, Int.reduceAdd, Int.reduceSub, Int.reduceMul, reduceCtorEq] | simp -implicitDefEqProofs -dsimp (disch := omega) only [wrap_i64]))
      refine ⟨i + 1, hi', ?_, by omega⟩
      refine Weak.cut (1) (by simp) (by simp) ?_ ?_
      · rw [splTo_no hi' (by rw [hbb]; exact h2)]
        simp [LeC, LeV, ren, cutF]
      · rw [splTo_no hi' (by rw [hbb]; exact h2)]
        simp [cutH, cutB, map_ren_rows]
  · simp -implicitDefEqProofs -dsimp only [go_sem, Nat.reduceSub, Nat.reduceAdd, Nat.reduceMul, Nat.reduceLT, Nat.reduceLeDiff, Nat.reduceEqDiff, Nat.reduceDiv, Nat.reduceMod, Int.reduceToNat, Int.reduceLE, Int.reduceLT, Int.reduceBEq, Int.reduceBNe, Int.reduceNeg, Int.reduceAdd, Int.reduceSub, Int.reduceMul, reduceCtorEq, h1]
    have hi' : i = s.size := by simp at h1; omega
    subst hi'
    (repeat ((repeat1' (first | simp -implicitDefEqProofs -dsimp only [go_sem, Nat.reduceSub, Nat.reduceAdd, Nat.reduceMul, Nat.reduceLT, Nat.reduceLeDiff, Nat.reduceEqDiff, Nat.reduceDiv, Nat.reduceMod, Int.reduceToNat, Int.reduceLE, Int.reduceLT, Int.reduceBEq, Int.reduceBNe, Int.reduceNeg, Int.reduceAdd, Int.reduceSub, Int.reduceMul, reduceCtorEq, rows_length, rows_cell, Nat.mul_one] | simp -implicitDefEqProofs -dsimp (disch := omega) only [wrap_i64])); repeat (with_reducible refine sideA ?_)))
    have hl : (splS c s).length = (splTo c s s.size).1.length + 1 := by simp [splS]
    rw [hl]
    refine WeakR.pick [0] (by decide) (fun j hj => by omega) (.inl ?_) ?_
    · rfl
    · simp only [pickH, List.map_cons, List.map_nil, pickB, List.getElem?_cons_zero, splS, ← rows_snoc]
      simp [ren, pickF, posOf, map_ren_rows, StringS.cs, killC]
end Go.Proofs
end
section
set_option linter.unusedSimpArgs false
set_option linter.unusedVariables false
set_option maxRecDepth 100000
set_option maxHeartbeats 1000000
namespace Go.Proofs
open Go.Lv
theorem num_noB (c : UInt8) (hc : c.toNat < 48) : ∀ (n u : Nat), u < n → noB c (num u) = true
  | 0, u, h => by omega
  | n + 1, u, h => by
    have one : ∀ d, d < 10 → noB c (digits.extract d (d + 1)) = true := by
      intro d hd
      rw [digit_at d hd]
      have hne : (UInt8.ofNat (48 + d) == c) = false := by
        rw [beq_eq_false_iff_ne]
        intro e
        have h1 : (UInt8.ofNat (48 + d)).toNat = c.toNat := by rw [e]
        rw [UInt8.toNat_ofNat'] at h1
        omega
      show (!(UInt8.ofNat (48 + d) == c) && true) = true
      rw [hne]; rfl
    by_cases h1 : u < 10
    · rw [num_one h1]; exact one u h1
    · rw [num_more h1, noB, allS_app]
      have g1 := num_noB c hc n (u / 10) (by omega)
      have g2 := one (u % 10) (by omega)
      unfold noB at g1 g2
      rw [g1, g2]; rfl
def parseI (line : ByteArray) : LogRecord := ⟨bef 64 (aft 32 (bef 35 line)), aft 64 (aft 32 (bef 35 line))⟩
theorem seal_eq (s : ByteArray) : sealS s = s ++ (⟨#[35]⟩ ++ num (ckS s)) := by rw [sealS, ByteArray.append_assoc]
theorem text_eq (k : Int) (e : LogRecord) : recText k e = num k ++ (⟨#[32]⟩ ++ (e.Command ++ (⟨#[64]⟩ ++ e.Reply))) := by
  simp only [recText, ByteArray.append_assoc]
theorem cmd_noB {e : LogRecord} (h : recB e = true) : noB 64 e.Command = true :=
  allS_mono (recB_ok h).2.2.1 (fun b hb => by simp at hb ⊢; exact hb.2)
theorem text_bef {k : Int} {e : LogRecord} (hk : 0 ≤ k ∧ k ≤ 59) (h : recB e = true) : bef 35 (sealS (recText k e)) = recText k e := by
  rw [seal_eq]
  exact (cut_at (recText_plain hk h)).2.1
theorem parseI_ok {k : Int} {e : LogRecord} (hk : 0 ≤ k ∧ k ≤ 59) (h : recB e = true) : parseI (sealS (recText k e)) = e := by
  obtain ⟨u, rfl⟩ := Int.eq_ofNat_of_zero_le hk.1
  have n1 : noB 32 (num (u : Int)) = true := num_noB 32 (by decide) (u + 1) u (by omega)
  have a1 : aft 32 (recText u e) = e.Command ++ (⟨#[64]⟩ ++ e.Reply) := by
    rw [text_eq]; exact (cut_at n1).2.2.1
  have c := cut_at (y := e.Reply) (cmd_noB h)
  rw [parseI, text_bef hk h, a1, c.2.1, c.2.2.1]
def decE (k : Int) (line : ByteArray) : Option LogRecord := if inB' k 0 59 = true ∧ recB (parseI line) = true ∧ sealS (recText k (parseI line)) = line then some (parseI line) else none
theorem decE_some {k : Int} {line : ByteArray} {e : LogRecord} : decE k line = some e ↔ (0 ≤ k ∧ k ≤ 59) ∧ recB e = true ∧ sealS (recText k e) = line := by
  unfold decE
  constructor
  · intro g
    split at g
    · rename_i c
      simp only [Option.some.injEq] at g
      subst g
      exact ⟨inB'_iff.1 c.1, c.2.1, c.2.2⟩
    · cases g
  · rintro ⟨hk, he, rfl⟩
    rw [parseI_ok hk he, if_pos ⟨inB'_iff.2 hk, he, rfl⟩]
theorem decE_none {k : Int} {line : ByteArray} (h : ∀ e, ¬ ((0 ≤ k ∧ k ≤ 59) ∧ recB e = true ∧ sealS (recText k e) = line)) : decE k line = none := by
  cases g : decE k line with
  | none => rfl
  | some e => exact absurd (decE_some.1 g) (h e)
theorem append_right_inj {a b c : ByteArray} (h : a ++ c = b ++ c) : a = b := by
  apply ba_ext
  have := congrArg (fun x : ByteArray => x.data.toList) h
  simp only [ba_app] at this
  exact List.append_cancel_right this
theorem ba_beq (a b : ByteArray) : (a.toList == b.toList) = decide (a = b) := by
  rw [ba_list, ba_list, Bool.eq_iff_iff]
  simp only [beq_iff_eq, decide_eq_true_eq]
  exact ⟨fun h => ba_ext h, fun h => by rw [h]⟩
def decL (k : Int) (s : ByteArray) : Option (LogRecord × Nat) := if fnd 10 s = true then (decE k (bef 10 s)).map fun e => (e, (bef 10 s).size + 1) else none
/-- The reference's parse of what stands behind the number. -/
def parseR (k : Int) (line R : ByteArray) : LogRecord × Bool :=
  if (bef 64 R).size = R.size then (⟨⟨#[]⟩, ⟨#[]⟩⟩, false)
  else (⟨bef 64 R, R.extract ((bef 64 R).size + 1) R.size⟩, recB ⟨bef 64 R, R.extract ((bef 64 R).size + 1) R.size⟩ && decide (recLine k ⟨bef 64 R, R.extract ((bef 64 R).size + 1) R.size⟩ = line ++ ⟨#[10]⟩))
def parseS (k : Int) (line : ByteArray) : LogRecord × Bool :=
  if (bef 35 line).size < (num k ++ (⟨#[32]⟩ : ByteArray)).size ∨ ¬ (bef 35 line).extract 0 (num k ++ (⟨#[32]⟩ : ByteArray)).size = num k ++ (⟨#[32]⟩ : ByteArray) then (⟨⟨#[]⟩, ⟨#[]⟩⟩, false)
  else parseR k line ((bef 35 line).extract (num k ++ (⟨#[32]⟩ : ByteArray)).size (bef 35 line).size)
theorem parseS_some {k : Int} {line : ByteArray} (hk : 0 ≤ k ∧ k ≤ 59) (h : (parseS k line).2 = true) : decE k line = some (parseS k line).1 := by
  unfold parseS at h ⊢
  split
  · rename_i c; rw [if_pos c] at h; cases h
  · rename_i c
    rw [if_neg c] at h
    unfold parseR at h ⊢
    split
    · rename_i c2; rw [if_pos c2] at h; cases h
    · rename_i c2
      rw [if_neg c2] at h
      simp only [Bool.and_eq_true, decide_eq_true_eq] at h
      exact decE_some.2 ⟨hk, h.1, append_right_inj h.2⟩
theorem ext_left (a b : ByteArray) : (a ++ b).extract 0 a.size = a := by
  apply ba_ext
  rw [ba_ext_list, ba_app, List.drop_zero]
  exact List.take_left' (ba_len a)
theorem ext_right (a b : ByteArray) : (a ++ b).extract a.size (a ++ b).size = b := by
  apply ba_ext
  have hl : (a ++ b).size = (a ++ b).data.toList.length := rfl
  rw [ba_ext_list, hl, List.take_length, ba_app]
  exact List.drop_left' (ba_len a)
theorem parseS_of {k : Int} {line : ByteArray} {e : LogRecord} (h : decE k line = some e) : parseS k line = (e, true) := by
  obtain ⟨hk, he, hl⟩ := decE_some.1 h
  have ht : bef 35 line = (num k ++ (⟨#[32]⟩ : ByteArray)) ++ (e.Command ++ (⟨#[64]⟩ ++ e.Reply)) := by
    rw [← hl, text_bef hk he, text_eq]
    simp only [ByteArray.append_assoc]
  have hs : ((num k ++ (⟨#[32]⟩ : ByteArray)) ++ (e.Command ++ (⟨#[64]⟩ ++ e.Reply))).size = (num k ++ (⟨#[32]⟩ : ByteArray)).size + (e.Command ++ (⟨#[64]⟩ ++ e.Reply)).size := ByteArray.size_append
  have c := cut_at (y := e.Reply) (cmd_noB he)
  have hz : (e.Command ++ ((⟨#[64]⟩ : ByteArray) ++ e.Reply)).size = e.Command.size + (1 + e.Reply.size) := by
    rw [ByteArray.size_append, ByteArray.size_append]; rfl
  have hx : (e.Command ++ ((⟨#[64]⟩ : ByteArray) ++ e.Reply)).extract (e.Command.size + 1) (e.Command ++ ((⟨#[64]⟩ : ByteArray) ++ e.Reply)).size = e.Reply := by
    have h2 := ext_right (e.Command ++ (⟨#[64]⟩ : ByteArray)) e.Reply
    have h3 : (e.Command ++ (⟨#[64]⟩ : ByteArray)).size = e.Command.size + 1 := by rw [ByteArray.size_append]; rfl
    rw [h3, ByteArray.append_assoc] at h2
    exact h2
  have ee : (⟨e.Command, e.Reply⟩ : LogRecord) = e := rfl
  unfold parseS
  rw [ht, ext_left, ext_right, if_neg (by rw [hs]; simp), parseR, c.2.1, if_neg (by rw [hz]; omega), hx, ee, he]
  have hr : recLine k e = line ++ ⟨#[10]⟩ := by rw [recLine, hl]
  rw [hr]
  simp
/-- The records at the beginning of a text, and where the next would begin, after n rounds. -/
def rdN (s : ByteArray) : Nat → List LogRecord × Nat
  | 0 => ([], 0)
  | n + 1 => match decL (rdN s n).1.length (s.extract (rdN s n).2 s.size) with
    | some r => ((rdN s n).1 ++ [r.1], (rdN s n).2 + r.2)
    | none => rdN s n
theorem rdN_some {s : ByteArray} {n : Nat} {r : LogRecord × Nat} (h : decL (rdN s n).1.length (s.extract (rdN s n).2 s.size) = some r) : rdN s (n + 1) = ((rdN s n).1 ++ [r.1], (rdN s n).2 + r.2) := by rw [rdN, h]
theorem rdN_none {s : ByteArray} {n : Nat} (h : decL (rdN s n).1.length (s.extract (rdN s n).2 s.size) = none) : rdN s (n + 1) = rdN s n := by rw [rdN, h]
theorem rdN_stuck {s : ByteArray} {n : Nat} (h : decL (rdN s n).1.length (s.extract (rdN s n).2 s.size) = none) : ∀ m, rdN s (n + m) = rdN s n
  | 0 => rfl
  | m + 1 => by
    have ih := rdN_stuck h m
    rw [← Nat.add_assoc, rdN_none (by rw [ih]; exact h), ih]
theorem fnd_size {c : UInt8} {s : ByteArray} (h : fnd c s = true) : (bef c s).size + 1 ≤ s.size := by
  obtain ⟨x, y, e, hx⟩ := cut_find h
  have h1 := (cut_at (y := y) hx).2.1
  have h2 : (x ++ ((⟨#[c]⟩ : ByteArray) ++ y)).size = x.size + (1 + y.size) := by rw [ByteArray.size_append, ByteArray.size_append]; rfl
  rw [e, h1, h2]; omega
theorem decL_some {k : Int} {s : ByteArray} {r : LogRecord × Nat} (h : decL k s = some r) : fnd 10 s = true ∧ decE k (bef 10 s) = some r.1 ∧ r.2 = (bef 10 s).size + 1 := by
  unfold decL at h
  split at h
  · rename_i c
    cases g : decE k (bef 10 s) with
    | none => rw [g] at h; cases h
    | some e =>
      rw [g] at h
      simp only [Option.map_some, Option.some.injEq] at h
      subst h
      exact ⟨c, rfl, rfl⟩
  · cases h
theorem decL_size {k : Int} {s : ByteArray} {r : LogRecord × Nat} (h : decL k s = some r) : 1 ≤ r.2 ∧ r.2 ≤ s.size ∧ r.2 ≤ 423 := by
  obtain ⟨h1, h2, h3⟩ := decL_some h
  have := fnd_size h1
  obtain ⟨hk, he, hl⟩ := decE_some.1 h2
  have g1 := recText_size hk he
  have g2 := sealS_size (recText k r.1)
  rw [hl] at g2
  omega
theorem rdN_bd (s : ByteArray) : ∀ n, (rdN s n).2 ≤ s.size ∧ (rdN s n).2 ≤ 423 * (rdN s n).1.length ∧ (rdN s n).1.length ≤ n
  | 0 => by simp [rdN]
  | n + 1 => by
    have ih := rdN_bd s n
    cases h : decL (rdN s n).1.length (s.extract (rdN s n).2 s.size) with
    | none => rw [rdN_none h]; omega
    | some r =>
      have hz := decL_size h
      rw [ByteArray.size_extract] at hz
      rw [rdN_some h]
      simp only [List.length_append, List.length_singleton]
      omega
theorem decL_k {k : Int} {s : ByteArray} {r : LogRecord × Nat} (h : decL k s = some r) : 0 ≤ k ∧ k ≤ 59 := (decE_some.1 (decL_some h).2.1).1
theorem rdN_60 (s : ByteArray) : ∀ n, (rdN s n).1.length ≤ 60
  | 0 => by simp [rdN]
  | n + 1 => by
    have ih := rdN_60 s n
    cases h : decL (rdN s n).1.length (s.extract (rdN s n).2 s.size) with
    | none => rw [rdN_none h]; exact ih
    | some r =>
      have hz := decL_k h
      rw [rdN_some h]
      simp only [List.length_append, List.length_singleton]
      omega
def recsOf (s : ByteArray) : List LogRecord := (rdN s 60).1
def atOf (s : ByteArray) : Nat := (rdN s 60).2
/-- At the first round that finds nothing. -/
theorem rdN_done {s : ByteArray} {i : Nat} (hl : (rdN s i).1.length = i) (h : decL i (s.extract (rdN s i).2 s.size) = none) : rdN s 60 = rdN s i := by
  have h60 := rdN_60 s i
  have := rdN_stuck (s := s) (n := i) (by rw [hl]; exact h) (60 - i)
  rw [← this]
  congr 1; omega
theorem rdN_len {s : ByteArray} : ∀ {i j : Nat}, (rdN s i).1.length = i → j ≤ i → (rdN s j).1.length = j
  | 0, j, _, hj => by have : j = 0 := by omega
                      subst this; rfl
  | i + 1, j, h, hj => by
    by_cases e : j = i + 1
    · subst e; exact h
    · refine rdN_len (i := i) ?_ (by omega)
      have hb := (rdN_bd s i).2.2
      cases g : decL (rdN s i).1.length (s.extract (rdN s i).2 s.size) with
      | none => rw [rdN_none g] at h; omega
      | some r => rw [rdN_some g] at h; simp at h; exact h
def endsTo (s : ByteArray) (i : Nat) : List Int := (List.range i).map fun j => ((rdN s (j + 1)).2 : Int)
theorem endsTo_succ (s : ByteArray) (i : Nat) : endsTo s (i + 1) = endsTo s i ++ [((rdN s (i + 1)).2 : Int)] := by simp [endsTo, List.range_succ]
theorem endsTo_len (s : ByteArray) (i : Nat) : (endsTo s i).length = i := by simp [endsTo]
end Go.Proofs
end
section
set_option linter.unusedSimpArgs false
set_option linter.unusedVariables false
set_option maxRecDepth 100000
set_option maxHeartbeats 2000000
namespace Go.Proofs
open Go.Lv
def decV : Option (LogRecord × Nat) → V
  | some r => .tup [r.1.v, .int .i64 r.2, .bool true]
  | none => .tup [.agg [.str ⟨#[]⟩, .str ⟨#[]⟩], .int .i64 0, .bool false]
theorem decode_ok (k : Int) (s : ByteArray) (hs : s.size ≤ 16777216) : Ctr Tryd.prog 76 [.int .i64 k, .str s] [] (decV (decL k s)) [] := by
  have z1 := bef_size 10 s
  have z2 := bef_size 35 (bef 10 s)
  have z3 := aft_size 32 (bef 35 (bef 10 s))
  have z4 := bef_size 64 (aft 32 (bef 35 (bef 10 s)))
  have z5 := aft_size 64 (aft 32 (bef 35 (bef 10 s)))
  refine Ctr.intro Tryd.mixed Tryd.func76 rfl Tryd.okF76 ?_
  simp -implicitDefEqProofs -dsimp only [go_sem, Nat.reduceSub, Nat.reduceAdd, Nat.reduceMul, Nat.reduceLT, Nat.reduceLeDiff, Nat.reduceEqDiff, Nat.reduceDiv, Nat.reduceMod, Int.reduceToNat, Int.reduceLE, Int.reduceLT, Int.reduceBEq, Int.reduceBNe, Int.reduceNeg, Int.reduceAdd, Int.reduceSub, Int.reduceMul, reduceCtorEq, Tryd.ntmps76, Tryd.results76]
  repeat (with_reducible refine And.intro ?_ ?_; focus (first | omega | with_reducible rfl | (show drawOk _ = true; kernel_rfl) | (simp only [rows_length, rows_cell, List.length_append, List.length_cons, List.length_nil, List.all_append, List.all_cons, List.all_nil, isCell, Nat.mul_one, Nat.one_mul, Bool.and_self]; first | done | omega) | (simp only [ByteArray.size_append, ba_size, List.size_toArray, List.length_cons, List.length_nil]; omega)))
  (first | refine callT.at (cut_ok s 10 (by omega)) ⟨leA, leA, trivial⟩ ?_ | refine callS.at (cut_ok s 10 (by omega)) ⟨leA, leA, trivial⟩ ?_)
  simp -implicitDefEqProofs -dsimp only [go_sem, Nat.reduceSub, Nat.reduceAdd, Nat.reduceMul, Nat.reduceLT, Nat.reduceLeDiff, Nat.reduceEqDiff, Nat.reduceDiv, Nat.reduceMod, Int.reduceToNat, Int.reduceLE, Int.reduceLT, Int.reduceBEq, Int.reduceBNe, Int.reduceNeg, Int.reduceAdd, Int.reduceSub, Int.reduceMul, reduceCtorEq]
  have no : decL k s = none → ∀ h, WeakR 0 (.tup [.agg [.str ByteArray.empty, .str ByteArray.empty], .int .i64 0, .bool false]) h (decV (decL k s)) [] := fun e h => WeakR.drop' (by rw [e]; rfl) (by rfl)
  cases hf : fnd 10 s with
  | false =>
    have hn : decL k s = none := by rw [decL, hf]; rfl
    simp -implicitDefEqProofs -dsimp only [go_sem, Nat.reduceSub, Nat.reduceAdd, Nat.reduceMul, Nat.reduceLT, Nat.reduceLeDiff, Nat.reduceEqDiff, Nat.reduceDiv, Nat.reduceMod, Int.reduceToNat, Int.reduceLE, Int.reduceLT, Int.reduceBEq, Int.reduceBNe, Int.reduceNeg, Int.reduceAdd, Int.reduceSub, Int.reduceMul, reduceCtorEq, hf, Bool.not_false]
    repeat (with_reducible refine And.intro ?_ ?_; focus (first | omega | with_reducible rfl | (show drawOk _ = true; kernel_rfl) | (simp only [rows_length, rows_cell, List.length_append, List.length_cons, List.length_nil, List.all_append, List.all_cons, List.all_nil, isCell, Nat.mul_one, Nat.one_mul, Bool.and_self]; first | done | omega) | (simp only [ByteArray.size_append, ba_size, List.size_toArray, List.length_cons, List.length_nil]; omega)))
    exact no hn _
  | true =>
    have hd : decL k s = (decE k (bef 10 s)).map fun e => (e, (bef 10 s).size + 1) := by rw [decL, if_pos hf]
    have hsz := fnd_size hf
    simp -implicitDefEqProofs -dsimp only [go_sem, Nat.reduceSub, Nat.reduceAdd, Nat.reduceMul, Nat.reduceLT, Nat.reduceLeDiff, Nat.reduceEqDiff, Nat.reduceDiv, Nat.reduceMod, Int.reduceToNat, Int.reduceLE, Int.reduceLT, Int.reduceBEq, Int.reduceBNe, Int.reduceNeg, Int.reduceAdd, Int.reduceSub, Int.reduceMul, reduceCtorEq, hf, Bool.not_true]
    refine condT.split (fun g1 => ?_) (fun g1 => ?_) <;> (repeat ((repeat1' (first | simp -implicitDefEqProofs -dsimp only [go_sem, Nat.reduceSub, Nat.reduceAdd, Nat.reduceMul, Nat.reduceLT, Nat.reduceLeDiff, Nat.reduceEqDiff, Nat.reduceDiv, Nat.reduceMod, Int.reduceToNat, Int.reduceLE, Int.reduceLT, Int.reduceBEq, Int.reduceBNe, Int.reduceNeg, Int.reduceAdd, Int.reduceSub, Int.reduceMul, reduceCtorEq, g1] | simp -implicitDefEqProofs -dsimp (disch := omega) only [wrap_i64])); repeat (with_reducible refine And.intro ?_ ?_; focus (first | omega | with_reducible rfl | (show drawOk _ = true; kernel_rfl) | (simp only [rows_length, rows_cell, List.length_append, List.length_cons, List.length_nil, List.all_append, List.all_cons, List.all_nil, isCell, Nat.mul_one, Nat.one_mul, Bool.and_self]; first | done | omega) | (simp only [ByteArray.size_append, ba_size, List.size_toArray, List.length_cons, List.length_nil]; omega)))))
    · refine no ?_ _
      rw [hd, decE_none]
      · rfl
      · rintro e ⟨hk, he, hl⟩
        have := recText_size hk he
        have := sealS_size (recText k e)
        rw [hl] at this
        simp at g1
        omega
    (first | refine callT.at (cut_ok (bef 10 s) 35 (by omega)) ⟨leA, leA, trivial⟩ ?_ | refine callS.at (cut_ok (bef 10 s) 35 (by omega)) ⟨leA, leA, trivial⟩ ?_)
    simp -implicitDefEqProofs -dsimp only [go_sem, Nat.reduceSub, Nat.reduceAdd, Nat.reduceMul, Nat.reduceLT, Nat.reduceLeDiff, Nat.reduceEqDiff, Nat.reduceDiv, Nat.reduceMod, Int.reduceToNat, Int.reduceLE, Int.reduceLT, Int.reduceBEq, Int.reduceBNe, Int.reduceNeg, Int.reduceAdd, Int.reduceSub, Int.reduceMul, reduceCtorEq]
    (first | refine callT.at (cut_ok (bef 35 (bef 10 s)) 32 (by omega)) ⟨leA, leA, trivial⟩ ?_ | refine callS.at (cut_ok (bef 35 (bef 10 s)) 32 (by omega)) ⟨leA, leA, trivial⟩ ?_)
    simp -implicitDefEqProofs -dsimp only [go_sem, Nat.reduceSub, Nat.reduceAdd, Nat.reduceMul, Nat.reduceLT, Nat.reduceLeDiff, Nat.reduceEqDiff, Nat.reduceDiv, Nat.reduceMod, Int.reduceToNat, Int.reduceLE, Int.reduceLT, Int.reduceBEq, Int.reduceBNe, Int.reduceNeg, Int.reduceAdd, Int.reduceSub, Int.reduceMul, reduceCtorEq]
    (first | refine callT.at (cut_ok (aft 32 (bef 35 (bef 10 s))) 64 (by omega)) ⟨leA, leA, trivial⟩ ?_ | refine callS.at (cut_ok (aft 32 (bef 35 (bef 10 s))) 64 (by omega)) ⟨leA, leA, trivial⟩ ?_)
    (repeat ((repeat1' (first | simp -implicitDefEqProofs -dsimp only [go_sem, Nat.reduceSub, Nat.reduceAdd, Nat.reduceMul, Nat.reduceLT, Nat.reduceLeDiff, Nat.reduceEqDiff, Nat.reduceDiv, Nat.reduceMod, Int.reduceToNat, Int.reduceLE, Int.reduceLT, Int.reduceBEq, Int.reduceBNe, Int.reduceNeg, Int.reduceAdd, Int.reduceSub, Int.reduceMul, reduceCtorEq] | simp -implicitDefEqProofs -dsimp (disch := omega) only [wrap_i64])); repeat (with_reducible refine And.intro ?_ ?_; focus (first | omega | with_reducible rfl | (show drawOk _ = true; kernel_rfl) | (simp only [rows_length, rows_cell, List.length_append, List.length_cons, List.length_nil, List.all_append, List.all_cons, List.all_nil, isCell, Nat.mul_one, Nat.one_mul, Bool.and_self]; first | done | omega) | (simp only [ByteArray.size_append, ba_size, List.size_toArray, List.length_cons, List.length_nil]; omega)))))
    have hE := iEncodeRecord_ok k (parseI (bef 10 s)) (by show (bef 64 _).size ≤ _; omega) (by show (aft 64 _).size ≤ _; omega)
    have pc : (parseI (bef 10 s)).Command = bef 64 (aft 32 (bef 35 (bef 10 s))) := rfl
    have pr : (parseI (bef 10 s)).Reply = aft 64 (aft 32 (bef 35 (bef 10 s))) := rfl
    by_cases hc : inB' k 0 59 = true ∧ recB (parseI (bef 10 s)) = true
    · rw [encR, if_pos hc] at hE
      have t1 := recText_size (inB'_iff.1 hc.1) hc.2
      have t2 := sealS_size (recText k (parseI (bef 10 s)))
      have t3 : (recLine k (parseI (bef 10 s))).size = (sealS (recText k (parseI (bef 10 s)))).size + 1 := by rw [recLine, ByteArray.size_append]; rfl
      (first | refine callT.at (hE) ⟨leA, leA, trivial⟩ ?_ | refine callS.at (hE) ⟨leA, leA, trivial⟩ ?_)
      (repeat ((repeat1' (first | simp -implicitDefEqProofs -dsimp only [go_sem, Nat.reduceSub, Nat.reduceAdd, Nat.reduceMul, Nat.reduceLT, Nat.reduceLeDiff, Nat.reduceEqDiff, Nat.reduceDiv, Nat.reduceMod, Int.reduceToNat, Int.reduceLE, Int.reduceLT, Int.reduceBEq, Int.reduceBNe, Int.reduceNeg, Int.reduceAdd, Int.reduceSub, Int.reduceMul, reduceCtorEq, ba_beq] | simp -implicitDefEqProofs -dsimp (disch := omega) only [wrap_i64])); repeat (with_reducible refine And.intro ?_ ?_; focus (first | omega | with_reducible rfl | (show drawOk _ = true; kernel_rfl) | (simp only [rows_length, rows_cell, List.length_append, List.length_cons, List.length_nil, List.all_append, List.all_cons, List.all_nil, isCell, Nat.mul_one, Nat.one_mul, Bool.and_self]; first | done | omega) | (simp only [ByteArray.size_append, ba_size, List.size_toArray, List.length_cons, List.length_nil]; omega)))))
      by_cases hq : recLine k (parseI (bef 10 s)) = bef 10 s ++ ⟨#[10]⟩
      · have hdq : decide (recLine k (parseI (bef 10 s)) = bef 10 s ++ (⟨#[10]⟩ : ByteArray)) = true := decide_eq_true hq
        have hs' : decE k (bef 10 s) = some (parseI (bef 10 s)) := decE_some.2 ⟨inB'_iff.1 hc.1, hc.2, append_right_inj hq⟩
        (repeat ((repeat1' (first | simp -implicitDefEqProofs -dsimp only [go_sem, Nat.reduceSub, Nat.reduceAdd, Nat.reduceMul, Nat.reduceLT, Nat.reduceLeDiff, Nat.reduceEqDiff, Nat.reduceDiv, Nat.reduceMod, Int.reduceToNat, Int.reduceLE, Int.reduceLT, Int.reduceBEq, Int.reduceBNe, Int.reduceNeg, Int.reduceAdd, Int.reduceSub, Int.reduceMul, reduceCtorEq, hdq, Bool.not_true] | simp -implicitDefEqProofs -dsimp (disch := omega) only [wrap_i64])); repeat (with_reducible refine And.intro ?_ ?_; focus (first | omega | with_reducible rfl | (show drawOk _ = true; kernel_rfl) | (simp only [rows_length, rows_cell, List.length_append, List.length_cons, List.length_nil, List.all_append, List.all_cons, List.all_nil, isCell, Nat.mul_one, Nat.one_mul, Bool.and_self]; first | done | omega) | (simp only [ByteArray.size_append, ba_size, List.size_toArray, List.length_cons, List.length_nil]; omega)))))
        refine WeakR.drop' ?_ (by rfl)
        rw [hd, hs']
        simp only [Option.map_some, decV, LogRecord.v, pc, pr]
        rfl
      · have hdq : decide (recLine k (parseI (bef 10 s)) = bef 10 s ++ (⟨#[10]⟩ : ByteArray)) = false := decide_eq_false hq
        have hn : decL k s = none := by
          rw [hd, decE_none]
          · rfl
          · rintro e ⟨hk, he, hl⟩
            have := parseI_ok hk he
            rw [hl] at this
            rw [this] at hq
            exact hq (by rw [recLine, hl])
        (repeat ((repeat1' (first | simp -implicitDefEqProofs -dsimp only [go_sem, Nat.reduceSub, Nat.reduceAdd, Nat.reduceMul, Nat.reduceLT, Nat.reduceLeDiff, Nat.reduceEqDiff, Nat.reduceDiv, Nat.reduceMod, Int.reduceToNat, Int.reduceLE, Int.reduceLT, Int.reduceBEq, Int.reduceBNe, Int.reduceNeg, Int.reduceAdd, Int.reduceSub, Int.reduceMul, reduceCtorEq, hdq, Bool.not_false] | simp -implicitDefEqProofs -dsimp (disch := omega) only [wrap_i64])); repeat (with_reducible refine And.intro ?_ ?_; focus (first | omega | with_reducible rfl | (show drawOk _ = true; kernel_rfl) | (simp only [rows_length, rows_cell, List.length_append, List.length_cons, List.length_nil, List.all_append, List.all_cons, List.all_nil, isCell, Nat.mul_one, Nat.one_mul, Bool.and_self]; first | done | omega) | (simp only [ByteArray.size_append, ba_size, List.size_toArray, List.length_cons, List.length_nil]; omega)))))
        exact no hn _
    · rw [encR, if_neg hc] at hE
      have hn : decL k s = none := by
        rw [hd, decE_none]
        · rfl
        · rintro e ⟨hk, he, hl⟩
          have := parseI_ok hk he
          rw [hl] at this
          rw [this] at hc
          exact hc ⟨inB'_iff.2 hk, he⟩
      (first | refine callT.at (hE) ⟨leA, leA, trivial⟩ ?_ | refine callS.at (hE) ⟨leA, leA, trivial⟩ ?_)
      (repeat ((repeat1' (first | simp -implicitDefEqProofs -dsimp only [go_sem, Nat.reduceSub, Nat.reduceAdd, Nat.reduceMul, Nat.reduceLT, Nat.reduceLeDiff, Nat.reduceEqDiff, Nat.reduceDiv, Nat.reduceMod, Int.reduceToNat, Int.reduceLE, Int.reduceLT, Int.reduceBEq, Int.reduceBNe, Int.reduceNeg, Int.reduceAdd, Int.reduceSub, Int.reduceMul, reduceCtorEq, Bool.not_false] | simp -implicitDefEqProofs -dsimp (disch := omega) only [wrap_i64])); repeat (with_reducible refine And.intro ?_ ?_; focus (first | omega | with_reducible rfl | (show drawOk _ = true; kernel_rfl) | (simp only [rows_length, rows_cell, List.length_append, List.length_cons, List.length_nil, List.all_append, List.all_cons, List.all_nil, isCell, Nat.mul_one, Nat.one_mul, Bool.and_self]; first | done | omega) | (simp only [ByteArray.size_append, ba_size, List.size_toArray, List.length_cons, List.length_nil]; omega)))))
      exact no hn _
def readV (s : ByteArray) : V := .tup [.osl 0 0 (recsOf s).length 2, .osl 1 0 (recsOf s).length 1]
def readH (s : ByteArray) : Hp := [some (rows LogRecord.cs (recsOf s)), some (rows IntS.cs (endsTo s (recsOf s).length))]
theorem read_ok (s : ByteArray) (hs : s.size ≤ 16777216) : Ctr Tryd.prog 51 [.str s] [] (readV s) (readH s) := by
  refine Ctr.intro Tryd.mixed Tryd.func51 rfl Tryd.okF51 ?_
  simp -implicitDefEqProofs -dsimp only [go_sem, Nat.reduceSub, Nat.reduceAdd, Nat.reduceMul, Nat.reduceLT, Nat.reduceLeDiff, Nat.reduceEqDiff, Nat.reduceDiv, Nat.reduceMod, Int.reduceToNat, Int.reduceLE, Int.reduceLT, Int.reduceBEq, Int.reduceBNe, Int.reduceNeg, Int.reduceAdd, Int.reduceSub, Int.reduceMul, reduceCtorEq, Tryd.ntmps51, Tryd.results51]
  refine LoopT.intro (fun i : Nat => (rdN s i).1.length = i) (fun i => ⟨[.str s, .undef, .undef, .undef, .osl 0 0 i 2, .osl 1 0 i 1, .int .i64 (rdN s i).2, .undef, .undef, .undef, .undef, .undef, .undef, .undef, .undef, .undef, .undef, .undef, .undef, .undef, .undef, .undef, .undef, .undef, .undef, .undef, .undef, .undef, .undef, .undef, .undef, .undef, .undef, .undef, .undef, .undef, .undef], [some (rows LogRecord.cs (rdN s i).1), some (rows IntS.cs (endsTo s i))], 0⟩) (fun i => 61 - i) 0 rfl ?_ (fun i hi => ?_)
  · refine Weak.cut (2) (by simp) (by simp) ?_ ?_
    · simp [LeC, LeV, ren, cutF, rdN]
    · simp [cutH, cutB, rdN, rows, endsTo]
  have hb := rdN_bd s i
  have h60 := rdN_60 s i
  have hez : (s.extract (rdN s i).2 s.size).size ≤ 16777216 := by rw [ByteArray.size_extract]; omega
  have hen := endsTo_len s i
  rw [hi] at h60
  simp -implicitDefEqProofs -dsimp only [go_sem, Nat.reduceSub, Nat.reduceAdd, Nat.reduceMul, Nat.reduceLT, Nat.reduceLeDiff, Nat.reduceEqDiff, Nat.reduceDiv, Nat.reduceMod, Int.reduceToNat, Int.reduceLE, Int.reduceLT, Int.reduceBEq, Int.reduceBNe, Int.reduceNeg, Int.reduceAdd, Int.reduceSub, Int.reduceMul, reduceCtorEq]
  repeat (with_reducible refine And.intro ?_ ?_; focus (first | omega | with_reducible rfl | (show drawOk _ = true; kernel_rfl) | (simp only [rows_length, rows_cell, List.length_append, List.length_cons, List.length_nil, List.all_append, List.all_cons, List.all_nil, isCell, Nat.mul_one, Nat.one_mul, Bool.and_self]; first | done | omega) | (simp only [ByteArray.size_append, ba_size, List.size_toArray, List.length_cons, List.length_nil]; omega)))
  (first | refine callT.at (decode_ok (i : Int) (s.extract (rdN s i).2 s.size) hez) ⟨leA, leA, trivial⟩ ?_ | refine callS.at (decode_ok (i : Int) (s.extract (rdN s i).2 s.size) hez) ⟨leA, leA, trivial⟩ ?_)
  cases hd : decL (i : Int) (s.extract (rdN s i).2 s.size) with
  | none =>
    have e := rdN_done hi hd
    (repeat ((repeat1' (first | simp -implicitDefEqProofs -dsimp only [go_sem, Nat.reduceSub, Nat.reduceAdd, Nat.reduceMul, Nat.reduceLT, Nat.reduceLeDiff, Nat.reduceEqDiff, Nat.reduceDiv, Nat.reduceMod, Int.reduceToNat, Int.reduceLE, Int.reduceLT, Int.reduceBEq, Int.reduceBNe, Int.reduceNeg, Int.reduceAdd, Int.reduceSub, Int.reduceMul, reduceCtorEq, decV, Bool.not_false] | simp -implicitDefEqProofs -dsimp (disch := omega) only [wrap_i64])); repeat (with_reducible refine And.intro ?_ ?_; focus (first | omega | with_reducible rfl | (show drawOk _ = true; kernel_rfl) | (simp only [rows_length, rows_cell, List.length_append, List.length_cons, List.length_nil, List.all_append, List.all_cons, List.all_nil, isCell, Nat.mul_one, Nat.one_mul, Bool.and_self]; first | done | omega) | (simp only [ByteArray.size_append, ba_size, List.size_toArray, List.length_cons, List.length_nil]; omega)))))
    have e1 : recsOf s = (rdN s i).1 := by rw [recsOf, e]
    rw [readV, readH, e1, hi]
    refine WeakR.pick [0, 1] (by decide) (fun j hj => by omega) (.inl ?_) ?_
    · first | rfl | (simp [ren, pickF, posOf]; done)
    · simp only [pickH, List.map_cons, List.map_nil, pickB, List.getElem?_cons_zero, List.getElem?_cons_succ, map_ren_rows]
  | some r =>
    have hz := decL_size hd
    rw [ByteArray.size_extract] at hz
    have hk := decL_k hd
    have hS : rdN s (i + 1) = ((rdN s i).1 ++ [r.1], (rdN s i).2 + r.2) := rdN_some (by rw [hi]; exact hd)
    (repeat ((repeat1' (first | simp -implicitDefEqProofs -dsimp only [go_sem, Nat.reduceSub, Nat.reduceAdd, Nat.reduceMul, Nat.reduceLT, Nat.reduceLeDiff, Nat.reduceEqDiff, Nat.reduceDiv, Nat.reduceMod, Int.reduceToNat, Int.reduceLE, Int.reduceLT, Int.reduceBEq, Int.reduceBNe, Int.reduceNeg, Int.reduceAdd, Int.reduceSub, Int.reduceMul, reduceCtorEq, decV, Bool.not_true, LogRecord.v] | simp -implicitDefEqProofs -dsimp (disch := omega) only [wrap_i64])); repeat (with_reducible refine And.intro ?_ ?_; focus (first | omega | with_reducible rfl | (show drawOk _ = true; kernel_rfl) | (simp only [rows_length, rows_cell, List.length_append, List.length_cons, List.length_nil, List.all_append, List.all_cons, List.all_nil, isCell, Nat.mul_one, Nat.one_mul, Bool.and_self]; first | done | omega) | (simp only [ByteArray.size_append, ba_size, List.size_toArray, List.length_cons, List.length_nil]; omega)))))
    refine ⟨i + 1, by rw [hS]; simp [hi], ?_, by omega⟩
    have e2 := endsTo_succ s i
    rw [hS] at e2
    refine Weak.cut (2) (by simp) (by simp) ?_ ?_
    · rw [hS]; simp [LeC, LeV, ren, cutF]
    · rw [e2, hS, ← rows_snoc, ← rows_snoc]
      simp [cutH, cutB, ren, cutF, map_ren_rows, killC, killF, LogRecord.cs, IntS.cs]
theorem l27Read_ok (k : Int) (s : ByteArray) (hk : 0 ≤ k ∧ k ≤ 59) (hs : s.size ≤ 16777216) : Ctr Tryd.prog 78 [.str s, .int .i64 k] [] (.tup [(parseS k s).1.v, .bool (parseS k s).2]) [] := by
  have n1 := num_size' (n := k) (by omega) (by omega)
  have z2 := bef_size 35 s
  obtain ⟨l, hl, _⟩ := splS_spec 35 s
  have hsp := l1Split_ok s 35 hs
  rw [hl] at hsp
  have c35 : (((35 : UInt8).toNat : Nat) : Int) = 35 := rfl
  have c64 : (((64 : UInt8).toNat : Nat) : Int) = 64 := rfl
  rw [c35] at hsp
  refine Ctr.intro Tryd.mixed Tryd.func78 rfl Tryd.okF78 ?_
  simp -implicitDefEqProofs -dsimp only [go_sem, Nat.reduceSub, Nat.reduceAdd, Nat.reduceMul, Nat.reduceLT, Nat.reduceLeDiff, Nat.reduceEqDiff, Nat.reduceDiv, Nat.reduceMod, Int.reduceToNat, Int.reduceLE, Int.reduceLT, Int.reduceBEq, Int.reduceBNe, Int.reduceNeg, Int.reduceAdd, Int.reduceSub, Int.reduceMul, reduceCtorEq, Tryd.ntmps78, Tryd.results78]
  repeat (with_reducible refine And.intro ?_ ?_; focus (first | omega | with_reducible rfl | (show drawOk _ = true; kernel_rfl) | (simp only [rows_length, rows_cell, List.length_append, List.length_cons, List.length_nil, List.all_append, List.all_cons, List.all_nil, isCell, Nat.mul_one, Nat.one_mul, Bool.and_self]; first | done | omega) | (simp only [ByteArray.size_append, ba_size, List.size_toArray, List.length_cons, List.length_nil]; omega)))
  repeat (first | ((first | refine callT.at (l1Num_ok k (by omega) (by omega)) ⟨leA, trivial⟩ ?_ | refine callS.at (l1Num_ok k (by omega) (by omega)) ⟨leA, trivial⟩ ?_); simp -implicitDefEqProofs -dsimp only [go_sem, Nat.reduceSub, Nat.reduceAdd, Nat.reduceMul, Nat.reduceLT, Nat.reduceLeDiff, Nat.reduceEqDiff, Nat.reduceDiv, Nat.reduceMod, Int.reduceToNat, Int.reduceLE, Int.reduceLT, Int.reduceBEq, Int.reduceBNe, Int.reduceNeg, Int.reduceAdd, Int.reduceSub, Int.reduceMul, reduceCtorEq]) | (with_reducible refine And.intro (by first | omega | (show drawOk _ = true; kernel_rfl) | (simp only [ByteArray.size_append, ba_size, List.size_toArray, List.length_cons, List.length_nil]; omega)) ?_; try (repeat1' (first | simp -implicitDefEqProofs -dsimp only [go_sem, Nat.reduceSub, Nat.reduceAdd, Nat.reduceMul, Nat.reduceLT, Nat.reduceLeDiff, Nat.reduceEqDiff, Nat.reduceDiv, Nat.reduceMod, Int.reduceToNat, Int.reduceLE, Int.reduceLT, Int.reduceBEq, Int.reduceBNe, Int.reduceNeg, Int.reduceAdd, Int.reduceSub, Int.reduceMul, reduceCtorEq] | simp -implicitDefEqProofs -dsimp (disch := omega) only [wrap_i64]))))
  (first | refine callT.at (hsp) ⟨leA, leA, trivial⟩ ?_ | refine callS.at (hsp) ⟨leA, leA, trivial⟩ ?_)
  (repeat ((repeat1' (first | simp -implicitDefEqProofs -dsimp only [go_sem, Nat.reduceSub, Nat.reduceAdd, Nat.reduceMul, Nat.reduceLT, Nat.reduceLeDiff, Nat.reduceEqDiff, Nat.reduceDiv, Nat.reduceMod, Int.reduceToNat, Int.reduceLE, Int.reduceLT, Int.reduceBEq, Int.reduceBNe, Int.reduceNeg, Int.reduceAdd, Int.reduceSub, Int.reduceMul, reduceCtorEq, List.length_cons, rows_cons, StringS.cs] | simp -implicitDefEqProofs -dsimp (disch := omega) only [wrap_i64])); repeat (with_reducible refine And.intro ?_ ?_; focus (first | omega | with_reducible rfl | (show drawOk _ = true; kernel_rfl) | (simp only [rows_length, rows_cell, List.length_append, List.length_cons, List.length_nil, List.all_append, List.all_cons, List.all_nil, isCell, Nat.mul_one, Nat.one_mul, Bool.and_self]; first | done | omega) | (simp only [ByteArray.size_append, ba_size, List.size_toArray, List.length_cons, List.length_nil]; omega)))))
  have h32 : ((#[32] : Array UInt8).size) = 1 := rfl
  have hN : (num k ++ (⟨#[32]⟩ : ByteArray)).size = (num k).size + 1 := ByteArray.size_append
  rw [h32]
  refine guardT.splitF (fun g1 => ?_) (fun g1 => ?_) <;> simp -implicitDefEqProofs -dsimp only [go_sem, Nat.reduceSub, Nat.reduceAdd, Nat.reduceMul, Nat.reduceLT, Nat.reduceLeDiff, Nat.reduceEqDiff, Nat.reduceDiv, Nat.reduceMod, Int.reduceToNat, Int.reduceLE, Int.reduceLT, Int.reduceBEq, Int.reduceBNe, Int.reduceNeg, Int.reduceAdd, Int.reduceSub, Int.reduceMul, reduceCtorEq, g1, h32]
  rotate_left
  · repeat (with_reducible refine And.intro ?_ ?_; focus (first | omega | with_reducible rfl | (show drawOk _ = true; kernel_rfl) | (simp only [rows_length, rows_cell, List.length_append, List.length_cons, List.length_nil, List.all_append, List.all_cons, List.all_nil, isCell, Nat.mul_one, Nat.one_mul, Bool.and_self]; first | done | omega) | (simp only [ByteArray.size_append, ba_size, List.size_toArray, List.length_cons, List.length_nil]; omega)))
    refine WeakR.drop' ?_ (by rfl)
    rw [parseS, if_pos (.inl (by rw [hN]; simp at g1; omega))]
    rfl
  repeat (with_reducible refine And.intro ?_ ?_; focus (first | omega | with_reducible rfl | (show drawOk _ = true; kernel_rfl) | (simp only [rows_length, rows_cell, List.length_append, List.length_cons, List.length_nil, List.all_append, List.all_cons, List.all_nil, isCell, Nat.mul_one, Nat.one_mul, Bool.and_self]; first | done | omega) | (simp only [ByteArray.size_append, ba_size, List.size_toArray, List.length_cons, List.length_nil]; omega)))
  simp -implicitDefEqProofs -dsimp only [go_sem, Nat.reduceSub, Nat.reduceAdd, Nat.reduceMul, Nat.reduceLT, Nat.reduceLeDiff, Nat.reduceEqDiff, Nat.reduceDiv, Nat.reduceMod, Int.reduceToNat, Int.reduceLE, Int.reduceLT, Int.reduceBEq, Int.reduceBNe, Int.reduceNeg, Int.reduceAdd, Int.reduceSub, Int.reduceMul, reduceCtorEq, ba_beq]
  have g1' : (num k).size + 1 ≤ (bef 35 s).size := by simp at g1; omega
  refine ⟨by omega, ?_⟩
  refine condT.split (fun g2 => ?_) (fun g2 => ?_) <;> simp -implicitDefEqProofs -dsimp only [go_sem, Nat.reduceSub, Nat.reduceAdd, Nat.reduceMul, Nat.reduceLT, Nat.reduceLeDiff, Nat.reduceEqDiff, Nat.reduceDiv, Nat.reduceMod, Int.reduceToNat, Int.reduceLE, Int.reduceLT, Int.reduceBEq, Int.reduceBNe, Int.reduceNeg, Int.reduceAdd, Int.reduceSub, Int.reduceMul, reduceCtorEq, g2, h32]
  · repeat (with_reducible refine And.intro ?_ ?_; focus (first | omega | with_reducible rfl | (show drawOk _ = true; kernel_rfl) | (simp only [rows_length, rows_cell, List.length_append, List.length_cons, List.length_nil, List.all_append, List.all_cons, List.all_nil, isCell, Nat.mul_one, Nat.one_mul, Bool.and_self]; first | done | omega) | (simp only [ByteArray.size_append, ba_size, List.size_toArray, List.length_cons, List.length_nil]; omega)))
    refine WeakR.drop' ?_ (by rfl)
    rw [parseS, if_pos (.inr (by rw [hN]; simpa using g2))]
    rfl
  have hno : ¬ ((bef 35 s).size < (num k ++ (⟨#[32]⟩ : ByteArray)).size ∨ ¬ (bef 35 s).extract 0 (num k ++ (⟨#[32]⟩ : ByteArray)).size = num k ++ (⟨#[32]⟩ : ByteArray)) := by
    rw [hN]
    rintro (q | q)
    · omega
    · simp at g2; exact q g2
  have hP : parseS k s = parseR k s ((bef 35 s).extract ((num k).size + 1) (bef 35 s).size) := by rw [parseS, if_neg hno, hN]
  have hRs : ((bef 35 s).extract ((num k).size + 1) (bef 35 s).size).size ≤ s.size := by rw [ByteArray.size_extract]; omega
  repeat (with_reducible refine And.intro ?_ ?_; focus (first | omega | with_reducible rfl | (show drawOk _ = true; kernel_rfl) | (simp only [rows_length, rows_cell, List.length_append, List.length_cons, List.length_nil, List.all_append, List.all_cons, List.all_nil, isCell, Nat.mul_one, Nat.one_mul, Bool.and_self]; first | done | omega) | (simp only [ByteArray.size_append, ba_size, List.size_toArray, List.length_cons, List.length_nil]; omega)))
  generalize hR : (bef 35 s).extract ((num k).size + 1) (bef 35 s).size = R at hP hRs ⊢
  have hz4 := bef_size 64 R
  obtain ⟨l2, hl2, _⟩ := splS_spec 64 R
  have hsp2 := l1Split_ok R 64 (by omega)
  rw [hl2, c64] at hsp2
  (first | refine callT.at (hsp2) ⟨leA, leA, trivial⟩ ?_ | refine callS.at (hsp2) ⟨leA, leA, trivial⟩ ?_)
  (repeat ((repeat1' (first | simp -implicitDefEqProofs -dsimp only [go_sem, Nat.reduceSub, Nat.reduceAdd, Nat.reduceMul, Nat.reduceLT, Nat.reduceLeDiff, Nat.reduceEqDiff, Nat.reduceDiv, Nat.reduceMod, Int.reduceToNat, Int.reduceLE, Int.reduceLT, Int.reduceBEq, Int.reduceBNe, Int.reduceNeg, Int.reduceAdd, Int.reduceSub, Int.reduceMul, reduceCtorEq, List.length_cons, rows_cons, StringS.cs] | simp -implicitDefEqProofs -dsimp (disch := omega) only [wrap_i64])); repeat (with_reducible refine And.intro ?_ ?_; focus (first | omega | with_reducible rfl | (show drawOk _ = true; kernel_rfl) | (simp only [rows_length, rows_cell, List.length_append, List.length_cons, List.length_nil, List.all_append, List.all_cons, List.all_nil, isCell, Nat.mul_one, Nat.one_mul, Bool.and_self]; first | done | omega) | (simp only [ByteArray.size_append, ba_size, List.size_toArray, List.length_cons, List.length_nil]; omega)))))
  refine condT.split (fun g3 => ?_) (fun g3 => ?_) <;> simp -implicitDefEqProofs -dsimp only [go_sem, Nat.reduceSub, Nat.reduceAdd, Nat.reduceMul, Nat.reduceLT, Nat.reduceLeDiff, Nat.reduceEqDiff, Nat.reduceDiv, Nat.reduceMod, Int.reduceToNat, Int.reduceLE, Int.reduceLT, Int.reduceBEq, Int.reduceBNe, Int.reduceNeg, Int.reduceAdd, Int.reduceSub, Int.reduceMul, reduceCtorEq, g3]
  · repeat (with_reducible refine And.intro ?_ ?_; focus (first | omega | with_reducible rfl | (show drawOk _ = true; kernel_rfl) | (simp only [rows_length, rows_cell, List.length_append, List.length_cons, List.length_nil, List.all_append, List.all_cons, List.all_nil, isCell, Nat.mul_one, Nat.one_mul, Bool.and_self]; first | done | omega) | (simp only [ByteArray.size_append, ba_size, List.size_toArray, List.length_cons, List.length_nil]; omega)))
    refine WeakR.drop' ?_ (by rfl)
    rw [hP, parseR, if_pos (by simp at g3; omega)]
    rfl
  have g3' : (bef 64 R).size + 1 ≤ R.size := by simp at g3; omega
  have hP2 : parseR k s R = (⟨bef 64 R, R.extract ((bef 64 R).size + 1) R.size⟩, recB ⟨bef 64 R, R.extract ((bef 64 R).size + 1) R.size⟩ && decide (recLine k ⟨bef 64 R, R.extract ((bef 64 R).size + 1) R.size⟩ = s ++ ⟨#[10]⟩)) := by
    rw [parseR, if_neg (by omega)]
  have hq : IntKind.i64.wrap (((bef 64 R).size : Int) + 1) = (((bef 64 R).size + 1 : Nat) : Int) := by rw [wrap_i64 (by omega) (by omega)]; omega
  have hEz : (R.extract ((bef 64 R).size + 1) R.size).size ≤ R.size := by rw [ByteArray.size_extract]; omega
  (repeat ((repeat1' (first | simp -implicitDefEqProofs -dsimp only [go_sem, Nat.reduceSub, Nat.reduceAdd, Nat.reduceMul, Nat.reduceLT, Nat.reduceLeDiff, Nat.reduceEqDiff, Nat.reduceDiv, Nat.reduceMod, Int.reduceToNat, Int.reduceLE, Int.reduceLT, Int.reduceBEq, Int.reduceBNe, Int.reduceNeg, Int.reduceAdd, Int.reduceSub, Int.reduceMul, reduceCtorEq, hq] | simp -implicitDefEqProofs -dsimp (disch := omega) only [wrap_i64])); repeat (with_reducible refine And.intro ?_ ?_; focus (first | omega | with_reducible rfl | (show drawOk _ = true; kernel_rfl) | (simp only [rows_length, rows_cell, List.length_append, List.length_cons, List.length_nil, List.all_append, List.all_cons, List.all_nil, isCell, Nat.mul_one, Nat.one_mul, Bool.and_self]; first | done | omega) | (simp only [ByteArray.size_append, ba_size, List.size_toArray, List.length_cons, List.length_nil]; omega)))))
  have hE1 : R.extract (IntKind.i64.wrap (((bef 64 R).size : Int) + 1)).toNat R.size = R.extract ((bef 64 R).size + 1) R.size := by rw [hq]; rfl
  rw [hE1]
  generalize hE : R.extract ((bef 64 R).size + 1) R.size = E at hP2 hEz ⊢
  (first | refine callT.at (l27Good_ok ⟨bef 64 R, E⟩ (by show (bef 64 R).size ≤ _; omega) (by show E.size ≤ _; omega)) ⟨leA, trivial⟩ ?_ | refine callS.at (l27Good_ok ⟨bef 64 R, E⟩ (by show (bef 64 R).size ≤ _; omega) (by show E.size ≤ _; omega)) ⟨leA, trivial⟩ ?_)
  cases hb : recB ⟨bef 64 R, E⟩ with
  | false =>
    simp -implicitDefEqProofs -dsimp only [go_sem, Nat.reduceSub, Nat.reduceAdd, Nat.reduceMul, Nat.reduceLT, Nat.reduceLeDiff, Nat.reduceEqDiff, Nat.reduceDiv, Nat.reduceMod, Int.reduceToNat, Int.reduceLE, Int.reduceLT, Int.reduceBEq, Int.reduceBNe, Int.reduceNeg, Int.reduceAdd, Int.reduceSub, Int.reduceMul, reduceCtorEq]
    repeat (with_reducible refine And.intro ?_ ?_; focus (first | omega | with_reducible rfl | (show drawOk _ = true; kernel_rfl) | (simp only [rows_length, rows_cell, List.length_append, List.length_cons, List.length_nil, List.all_append, List.all_cons, List.all_nil, isCell, Nat.mul_one, Nat.one_mul, Bool.and_self]; first | done | omega) | (simp only [ByteArray.size_append, ba_size, List.size_toArray, List.length_cons, List.length_nil]; omega)))
    refine WeakR.drop' ?_ (by rfl)
    rw [hP, hP2, hb]
    rfl
  | true =>
    have t1 := recText_size hk hb
    have t2 := sealS_size (recText k ⟨bef 64 R, E⟩)
    simp -implicitDefEqProofs -dsimp only [go_sem, Nat.reduceSub, Nat.reduceAdd, Nat.reduceMul, Nat.reduceLT, Nat.reduceLeDiff, Nat.reduceEqDiff, Nat.reduceDiv, Nat.reduceMod, Int.reduceToNat, Int.reduceLE, Int.reduceLT, Int.reduceBEq, Int.reduceBNe, Int.reduceNeg, Int.reduceAdd, Int.reduceSub, Int.reduceMul, reduceCtorEq]
    have hLn := l27Line_ok k ⟨bef 64 R, E⟩ hk hb
    simp only [LogRecord.v] at hLn
    (first | refine callT.at (hLn) ⟨leA, leA, trivial⟩ ?_ | refine callS.at (hLn) ⟨leA, leA, trivial⟩ ?_)
    (repeat ((repeat1' (first | simp -implicitDefEqProofs -dsimp only [go_sem, Nat.reduceSub, Nat.reduceAdd, Nat.reduceMul, Nat.reduceLT, Nat.reduceLeDiff, Nat.reduceEqDiff, Nat.reduceDiv, Nat.reduceMod, Int.reduceToNat, Int.reduceLE, Int.reduceLT, Int.reduceBEq, Int.reduceBNe, Int.reduceNeg, Int.reduceAdd, Int.reduceSub, Int.reduceMul, reduceCtorEq, ba_beq] | simp -implicitDefEqProofs -dsimp (disch := omega) only [wrap_i64])); repeat (with_reducible refine And.intro ?_ ?_; focus (first | omega | with_reducible rfl | (show drawOk _ = true; kernel_rfl) | (simp only [rows_length, rows_cell, List.length_append, List.length_cons, List.length_nil, List.all_append, List.all_cons, List.all_nil, isCell, Nat.mul_one, Nat.one_mul, Bool.and_self]; first | done | omega) | (simp only [ByteArray.size_append, ba_size, List.size_toArray, List.length_cons, List.length_nil]; omega)))))
    refine WeakR.drop' ?_ (by rfl)
    rw [hP, hP2, hb, Bool.true_and]
    rfl
end Go.Proofs
end
section
set_option linter.unusedSimpArgs false
set_option linter.unusedVariables false
set_option maxRecDepth 100000
set_option maxHeartbeats 2000000
namespace Go.Proofs
open Go.Lv
def openV (s : ByteArray) : V := .tup [.osl 0 0 (recsOf s).length 2, .int .i64 (atOf s)]
def openH (s : ByteArray) : Hp := [some (rows LogRecord.cs (recsOf s))]
theorem decL_empty {k : Int} {s : ByteArray} (h : s.size = 0) : decL k s = none := by
  cases g : decL k s with
  | none => rfl
  | some r => have := decL_size g; omega
theorem l27Open_ok (s : ByteArray) (hs : s.size ≤ 16777216) : Ctr Tryd.prog 52 [.str s] [] (openV s) (openH s) := by
  refine Ctr.intro Tryd.mixed Tryd.func52 rfl Tryd.okF52 ?_
  simp -implicitDefEqProofs -dsimp only [go_sem, Nat.reduceSub, Nat.reduceAdd, Nat.reduceMul, Nat.reduceLT, Nat.reduceLeDiff, Nat.reduceEqDiff, Nat.reduceDiv, Nat.reduceMod, Int.reduceToNat, Int.reduceLE, Int.reduceLT, Int.reduceBEq, Int.reduceBNe, Int.reduceNeg, Int.reduceAdd, Int.reduceSub, Int.reduceMul, reduceCtorEq, Tryd.ntmps52, Tryd.results52]
  refine LoopT.intro (fun i : Nat => (rdN s i).1.length = i) (fun i => ⟨[.str s, .undef, .undef, .undef, .osl 0 0 i 2, .int .i64 (rdN s i).2, .undef, .undef, .undef, .undef, .undef, .undef, .undef, .undef, .undef, .undef, .undef, .undef, .undef, .undef, .undef, .undef, .undef, .undef, .undef, .undef, .undef, .undef, .undef, .undef, .undef, .undef, .undef, .undef, .undef, .undef, .undef, .undef, .undef, .undef, .undef, .undef, .undef, .undef, .undef, .undef, .undef, .undef, .undef, .undef, .undef, .undef], [some (rows LogRecord.cs (rdN s i).1)], 0⟩) (fun i => 61 - i) 0 rfl ?_ (fun i hi => ?_)
  · refine Weak.cut (1) (by simp) (by simp) ?_ ?_
    · simp [LeC, LeV, ren, cutF, rdN]
    · simp [cutH, cutB, rdN, rows]
  have hb := rdN_bd s i
  have h60 := rdN_60 s i
  have hez : (s.extract (rdN s i).2 s.size).size ≤ 16777216 := by rw [ByteArray.size_extract]; omega
  rw [hi] at h60
  have stop : decL (i : Int) (s.extract (rdN s i).2 s.size) = none → (recsOf s = (rdN s i).1 ∧ atOf s = (rdN s i).2) := fun hd => by
    have e := rdN_done hi hd
    exact ⟨by rw [recsOf, e], by rw [atOf, e]⟩
  simp -implicitDefEqProofs -dsimp only [go_sem, Nat.reduceSub, Nat.reduceAdd, Nat.reduceMul, Nat.reduceLT, Nat.reduceLeDiff, Nat.reduceEqDiff, Nat.reduceDiv, Nat.reduceMod, Int.reduceToNat, Int.reduceLE, Int.reduceLT, Int.reduceBEq, Int.reduceBNe, Int.reduceNeg, Int.reduceAdd, Int.reduceSub, Int.reduceMul, reduceCtorEq]
  refine guardT.splitT (fun g1 => ?_) (fun g1 => ?_) <;> simp -implicitDefEqProofs -dsimp only [go_sem, Nat.reduceSub, Nat.reduceAdd, Nat.reduceMul, Nat.reduceLT, Nat.reduceLeDiff, Nat.reduceEqDiff, Nat.reduceDiv, Nat.reduceMod, Int.reduceToNat, Int.reduceLE, Int.reduceLT, Int.reduceBEq, Int.reduceBNe, Int.reduceNeg, Int.reduceAdd, Int.reduceSub, Int.reduceMul, reduceCtorEq, g1]
  rotate_left
  · obtain ⟨e1, e2⟩ := stop (decL_empty (by rw [ByteArray.size_extract]; simp at g1; omega))
    rw [openV, openH, e1, e2, hi]
    refine WeakR.pick [0] (by decide) (fun j hj => by omega) (.inl ?_) ?_
    · first | rfl | (simp [ren, pickF, posOf]; done)
    · simp only [pickH, List.map_cons, List.map_nil, pickB, List.getElem?_cons_zero, List.getElem?_cons_succ, map_ren_rows]
  refine condT.split (fun g2 => ?_) (fun g2 => ?_) <;> simp -implicitDefEqProofs -dsimp only [go_sem, Nat.reduceSub, Nat.reduceAdd, Nat.reduceMul, Nat.reduceLT, Nat.reduceLeDiff, Nat.reduceEqDiff, Nat.reduceDiv, Nat.reduceMod, Int.reduceToNat, Int.reduceLE, Int.reduceLT, Int.reduceBEq, Int.reduceBNe, Int.reduceNeg, Int.reduceAdd, Int.reduceSub, Int.reduceMul, reduceCtorEq, g2]
  rotate_left
  · have hn : decL (i : Int) (s.extract (rdN s i).2 s.size) = none := by
      cases g : decL (i : Int) (s.extract (rdN s i).2 s.size) with
      | none => rfl
      | some r => have := decL_k g; simp at g2; omega
    obtain ⟨e1, e2⟩ := stop hn
    rw [openV, openH, e1, e2, hi]
    refine WeakR.pick [0] (by decide) (fun j hj => by omega) (.inl ?_) ?_
    · first | rfl | (simp [ren, pickF, posOf]; done)
    · simp only [pickH, List.map_cons, List.map_nil, pickB, List.getElem?_cons_zero, List.getElem?_cons_succ, map_ren_rows]
  have hk : (0 : Int) ≤ (i : Int) ∧ (i : Int) ≤ 59 := by simp at g2; omega
  repeat (with_reducible refine And.intro ?_ ?_; focus (first | omega | with_reducible rfl | (show drawOk _ = true; kernel_rfl) | (simp only [rows_length, rows_cell, List.length_append, List.length_cons, List.length_nil, List.all_append, List.all_cons, List.all_nil, isCell, Nat.mul_one, Nat.one_mul, Bool.and_self]; first | done | omega) | (simp only [ByteArray.size_append, ba_size, List.size_toArray, List.length_cons, List.length_nil]; omega)))
  generalize hR : s.extract (rdN s i).2 s.size = R at hez stop ⊢
  obtain ⟨l, hl, hl0⟩ := splS_spec 10 R
  have hsp := l1Split_ok R 10 hez
  have c10 : (((10 : UInt8).toNat : Nat) : Int) = 10 := rfl
  rw [hl, c10] at hsp
  (first | refine callT.at (hsp) ⟨leA, leA, trivial⟩ ?_ | refine callS.at (hsp) ⟨leA, leA, trivial⟩ ?_)
  have hz := bef_size 10 R
  (repeat ((repeat1' (first | simp -implicitDefEqProofs -dsimp only [go_sem, Nat.reduceSub, Nat.reduceAdd, Nat.reduceMul, Nat.reduceLT, Nat.reduceLeDiff, Nat.reduceEqDiff, Nat.reduceDiv, Nat.reduceMod, Int.reduceToNat, Int.reduceLE, Int.reduceLT, Int.reduceBEq, Int.reduceBNe, Int.reduceNeg, Int.reduceAdd, Int.reduceSub, Int.reduceMul, reduceCtorEq, List.length_cons, rows_cons, StringS.cs] | simp -implicitDefEqProofs -dsimp (disch := omega) only [wrap_i64])); repeat (with_reducible refine And.intro ?_ ?_; focus (first | omega | with_reducible rfl | (show drawOk _ = true; kernel_rfl) | (simp only [rows_length, rows_cell, List.length_append, List.length_cons, List.length_nil, List.all_append, List.all_cons, List.all_nil, isCell, Nat.mul_one, Nat.one_mul, Bool.and_self]; first | done | omega) | (simp only [ByteArray.size_append, ba_size, List.size_toArray, List.length_cons, List.length_nil]; omega)))))
  (first | refine callT.at (l27Read_ok (i : Int) (bef 10 R) hk (by omega)) ⟨leA, leA, trivial⟩ ?_ | refine callS.at (l27Read_ok (i : Int) (bef 10 R) hk (by omega)) ⟨leA, leA, trivial⟩ ?_)
  (repeat ((repeat1' (first | simp -implicitDefEqProofs -dsimp only [go_sem, Nat.reduceSub, Nat.reduceAdd, Nat.reduceMul, Nat.reduceLT, Nat.reduceLeDiff, Nat.reduceEqDiff, Nat.reduceDiv, Nat.reduceMod, Int.reduceToNat, Int.reduceLE, Int.reduceLT, Int.reduceBEq, Int.reduceBNe, Int.reduceNeg, Int.reduceAdd, Int.reduceSub, Int.reduceMul, reduceCtorEq, LogRecord.v] | simp -implicitDefEqProofs -dsimp (disch := omega) only [wrap_i64])); repeat (with_reducible refine And.intro ?_ ?_; focus (first | omega | with_reducible rfl | (show drawOk _ = true; kernel_rfl) | (simp only [rows_length, rows_cell, List.length_append, List.length_cons, List.length_nil, List.all_append, List.all_cons, List.all_nil, isCell, Nat.mul_one, Nat.one_mul, Bool.and_self]; first | done | omega) | (simp only [ByteArray.size_append, ba_size, List.size_toArray, List.length_cons, List.length_nil]; omega)))))
  refine guardT.splitF (fun g3 => ?_) (fun g3 => ?_) <;> simp -implicitDefEqProofs -dsimp only [go_sem, Nat.reduceSub, Nat.reduceAdd, Nat.reduceMul, Nat.reduceLT, Nat.reduceLeDiff, Nat.reduceEqDiff, Nat.reduceDiv, Nat.reduceMod, Int.reduceToNat, Int.reduceLE, Int.reduceLT, Int.reduceBEq, Int.reduceBNe, Int.reduceNeg, Int.reduceAdd, Int.reduceSub, Int.reduceMul, reduceCtorEq, g3]
  rotate_left
  · have hf : fnd 10 R = false := hl0.1 (by
      cases l with
      | nil => rfl
      | cons a l => simp at g3; omega)
    obtain ⟨e1, e2⟩ := stop (by rw [decL, hf]; rfl)
    rw [openV, openH, e1, e2, hi]
    refine WeakR.pick [0] (by decide) (fun j hj => by omega) (.inl ?_) ?_
    · first | rfl | (simp [ren, pickF, posOf]; done)
    · simp only [pickH, List.map_cons, List.map_nil, pickB, List.getElem?_cons_zero, List.getElem?_cons_succ, map_ren_rows]
  have hf : fnd 10 R = true := by
    cases q : fnd 10 R with
    | true => rfl
    | false => rw [hl0.2 q] at g3; simp at g3
  have hd : decL (i : Int) R = (decE (i : Int) (bef 10 R)).map fun e => (e, (bef 10 R).size + 1) := by rw [decL, if_pos hf]
  have hfs := fnd_size hf
  have hRs : R.size + (rdN s i).2 ≤ s.size := by
    rw [← hR, ByteArray.size_extract]; omega
  refine condT.split (fun g4 => ?_) (fun g4 => ?_)
  · simp -implicitDefEqProofs -dsimp only [go_sem, Nat.reduceSub, Nat.reduceAdd, Nat.reduceMul, Nat.reduceLT, Nat.reduceLeDiff, Nat.reduceEqDiff, Nat.reduceDiv, Nat.reduceMod, Int.reduceToNat, Int.reduceLE, Int.reduceLT, Int.reduceBEq, Int.reduceBNe, Int.reduceNeg, Int.reduceAdd, Int.reduceSub, Int.reduceMul, reduceCtorEq, g4]
    have hp : (parseS (i : Int) (bef 10 R)).2 = false := by simpa using g4
    obtain ⟨e1, e2⟩ := stop (by
      rw [hd]
      cases q : decE (i : Int) (bef 10 R) with
      | none => rfl
      | some e => rw [parseS_of q] at hp; cases hp)
    rw [openV, openH, e1, e2, hi]
    refine WeakR.pick [0] (by decide) (fun j hj => by omega) (.inl ?_) ?_
    · first | rfl | (simp [ren, pickF, posOf]; done)
    · simp only [pickH, List.map_cons, List.map_nil, pickB, List.getElem?_cons_zero, List.getElem?_cons_succ, map_ren_rows]
  · have hp : (parseS (i : Int) (bef 10 R)).2 = true := by simpa using g4
    have hs' := parseS_some hk hp
    rw [hs'] at hd
    have hS : rdN s (i + 1) = ((rdN s i).1 ++ [(parseS (i : Int) (bef 10 R)).1], (rdN s i).2 + ((bef 10 R).size + 1)) := rdN_some (r := ((parseS (i : Int) (bef 10 R)).1, (bef 10 R).size + 1)) (by rw [hi, hR, hd]; rfl)
    (repeat ((repeat1' (first | simp -implicitDefEqProofs -dsimp only [go_sem, Nat.reduceSub, Nat.reduceAdd, Nat.reduceMul, Nat.reduceLT, Nat.reduceLeDiff, Nat.reduceEqDiff, Nat.reduceDiv, Nat.reduceMod, Int.reduceToNat, Int.reduceLE, Int.reduceLT, Int.reduceBEq, Int.reduceBNe, Int.reduceNeg, Int.reduceAdd, Int.reduceSub, Int.reduceMul, reduceCtorEq, g4, rows_length, rows_cell, hi, Nat.mul_one, List.length_cons, rows_cons, StringS.cs] | simp -implicitDefEqProofs -dsimp (disch := omega) only [wrap_i64])); repeat (with_reducible refine And.intro ?_ ?_; focus (first | omega | with_reducible rfl | (show drawOk _ = true; kernel_rfl) | (simp only [rows_length, rows_cell, List.length_append, List.length_cons, List.length_nil, List.all_append, List.all_cons, List.all_nil, isCell, Nat.mul_one, Nat.one_mul, Bool.and_self]; first | done | omega) | (simp only [ByteArray.size_append, ba_size, List.size_toArray, List.length_cons, List.length_nil]; omega)))))
    refine ⟨i + 1, by rw [hS]; simp [hi], ?_, by omega⟩
    refine Weak.cut (1) (by simp) (by simp) ?_ ?_
    · rw [hS]; (simp [LeC, LeV, ren, cutF]; try omega)
    · rw [hS, ← rows_snoc]
      simp [cutH, cutB, ren, cutF, map_ren_rows, killC, killF, LogRecord.cs]
end Go.Proofs
end
section
set_option linter.unusedSimpArgs false
set_option linter.unusedVariables false
set_option maxRecDepth 100000
namespace Go.Proofs
open Go.Lv
structure Log where
  Durable : ByteArray
  Pending : ByteArray
  Count : Int
def Log.cs (r : Log) : List V := [.str r.Durable, .str r.Pending, .int .i64 r.Count]
def Log.v (r : Log) : V := .agg [.str r.Durable, .str r.Pending, .int .i64 r.Count]
theorem Log.csl (a : Log) : a.cs.length = 3 := rfl
instance : FlatP Log.cs 3 := ⟨fun _ => rfl, fun _ d => by cases d <;> rfl, fun _ => rfl, fun _ => rfl⟩
def Log.ok (r : Log) : Prop := strR r.Durable ∧ strR r.Pending ∧ i64R r.Count
abbrev Log.rows (L : List Log) : List V := Go.Lv.rows Log.cs L
abbrev Log.sl (L : List Log) : V := .sl L.length 3 (Go.Lv.rows Log.cs L)
abbrev Log.zs : List V := [.str ByteArray.empty, .str ByteArray.empty, .int .i64 0]
end Go.Proofs
end
section
set_option linter.unusedSimpArgs false
set_option linter.unusedVariables false
set_option maxRecDepth 100000
set_option maxHeartbeats 2000000
namespace Go.Proofs
open Go.Lv
/-- Where the reading stops. -/
theorem rd_stop (s : ByteArray) : ∃ i, i ≤ 60 ∧ (rdN s i).1.length = i ∧ rdN s 60 = rdN s i ∧ decL i (s.extract (rdN s i).2 s.size) = none := by
  have key : ∀ m, (rdN s m).1.length = m ∨ ∃ i, (rdN s i).1.length = i ∧ decL i (s.extract (rdN s i).2 s.size) = none := by
    intro m
    induction m with
    | zero => exact .inl rfl
    | succ m ih =>
      rcases ih with h | h
      · cases g : decL (m : Int) (s.extract (rdN s m).2 s.size) with
        | none => exact .inr ⟨m, h, g⟩
        | some r =>
          refine .inl ?_
          rw [rdN_some (r := r) (by rw [h]; exact g)]
          simp [h]
      · exact .inr h
  rcases key 61 with h | ⟨i, h1, h2⟩
  · have := rdN_60 s 61; omega
  · have := rdN_60 s i
    exact ⟨i, by omega, h1, rdN_done h1 h2, h2⟩
theorem recs_len (s : ByteArray) : (rdN s (recsOf s).length).1.length = (recsOf s).length ∧ rdN s 60 = rdN s (recsOf s).length ∧ decL (recsOf s).length (s.extract (atOf s) s.size) = none ∧ (recsOf s).length ≤ 60 := by
  obtain ⟨i, h0, h1, h2, h3⟩ := rd_stop s
  have e : (recsOf s).length = i := by rw [recsOf, h2, h1]
  have e2 : atOf s = (rdN s i).2 := by rw [atOf, h2]
  rw [e, e2]
  exact ⟨h1, h2, h3, h0⟩
theorem atOf_eq (s : ByteArray) : atOf s = (rdN s (recsOf s).length).2 := by rw [atOf, (recs_len s).2.1]
theorem atOf_bd (s : ByteArray) : atOf s ≤ s.size ∧ atOf s ≤ 25380 := by
  have h1 := rdN_bd s 60
  have h2 := rdN_60 s 60
  unfold atOf; omega
theorem cut_app {c : UInt8} {x y : ByteArray} (h : fnd c x = true) : fnd c (x ++ y) = true ∧ bef c (x ++ y) = bef c x := by
  obtain ⟨a, b, rfl, ha⟩ := cut_find h
  have e : (a ++ (⟨#[c]⟩ ++ b)) ++ y = a ++ (⟨#[c]⟩ ++ (b ++ y)) := by simp only [ByteArray.append_assoc]
  rw [e]
  exact ⟨(cut_at ha).2.2.2, by rw [(cut_at ha).2.1, (cut_at ha).2.1]⟩
theorem decL_app {k : Int} {x y : ByteArray} {r : LogRecord × Nat} (h : decL k x = some r) : decL k (x ++ y) = some r := by
  obtain ⟨h1, h2, h3⟩ := decL_some h
  obtain ⟨g1, g2⟩ := cut_app (y := y) h1
  rw [decL, if_pos g1, g2, h2]
  simp only [Option.map_some]
  rw [← h3]
theorem fnd_pre {c : UInt8} {x y : ByteArray} (h : fnd c (x ++ y) = true) (hs : (bef c (x ++ y)).size + 1 ≤ x.size) : fnd c x = true := by
  cases g : fnd c x with
  | true => rfl
  | false =>
    exfalso
    obtain ⟨a, b, e, ha⟩ := cut_find h
    rw [e, (cut_at ha).2.1] at hs
    have hx : x.data.toList ++ y.data.toList = a.data.toList ++ c :: b.data.toList := by
      rw [← ba_app, e, ba_app, ba_app]; rfl
    have hc : x.data.toList[a.size]? = some c := by
      have h1 : (x.data.toList ++ y.data.toList)[a.size]? = some c := by
        rw [hx, List.getElem?_append_right (by rw [ba_len]; exact Nat.le_refl _), ba_len]
        simp
      rwa [List.getElem?_append_left (by rw [ba_len]; omega)] at h1
    have hne : Lib.indexByte x.data.toList c = -1 := by
      have h1 := Lib.indexByte_ge x.data.toList c
      have h2 : ¬ 0 ≤ Lib.indexByte x.data.toList c := by
        intro q
        have : fnd c x = true := decide_eq_true q
        rw [this] at g; cases g
      omega
    exact Lib.indexByte_none hne a.size hc
theorem decL_pre {k : Int} {x y : ByteArray} {r : LogRecord × Nat} (h : decL k (x ++ y) = some r) (hs : r.2 ≤ x.size) : decL k x = some r := by
  obtain ⟨h1, h2, h3⟩ := decL_some h
  have g1 := fnd_pre h1 (by omega)
  have g2 := (cut_app (y := y) g1).2
  rw [g2] at h2 h3
  rw [decL, if_pos g1, h2]
  simp only [Option.map_some]
  rw [← h3]
theorem ext_app {D P : ByteArray} {a : Nat} (h : a ≤ D.size) : (D ++ P).extract a (D ++ P).size = D.extract a D.size ++ P := by
  apply ba_ext
  have hl : (D ++ P).size = (D ++ P).data.toList.length := rfl
  have hl2 : D.size = D.data.toList.length := rfl
  rw [ba_app, ba_ext_list, ba_ext_list, hl, List.take_length, hl2, List.take_length, ba_app]
  exact List.drop_append_of_le_length (by rw [ba_len]; exact h)
theorem rd_app {D P : ByteArray} : ∀ {j : Nat}, (rdN D j).1.length = j → rdN (D ++ P) j = rdN D j
  | 0, _ => rfl
  | j + 1, h => by
    have hj := rdN_len h (Nat.le_succ j)
    have ih := rd_app (P := P) hj
    cases g : decL (j : Int) (D.extract (rdN D j).2 D.size) with
    | none => rw [rdN_none (by rw [hj]; exact g)] at h; omega
    | some r =>
      rw [rdN_some (s := D) (r := r) (by rw [hj]; exact g)]
      rw [rdN_some (s := D ++ P) (r := r) (by rw [ih, hj, ext_app (rdN_bd D j).1]; exact decL_app g), ih]
theorem rd_pre {D P : ByteArray} : ∀ {j : Nat}, (rdN (D ++ P) j).1.length = j → (rdN (D ++ P) j).2 ≤ D.size → rdN D j = rdN (D ++ P) j
  | 0, _, _ => rfl
  | j + 1, h, hs => by
    have hj := rdN_len h (Nat.le_succ j)
    cases g : decL (j : Int) ((D ++ P).extract (rdN (D ++ P) j).2 (D ++ P).size) with
    | none => rw [rdN_none (by rw [hj]; exact g)] at h; omega
    | some r =>
      have hS := rdN_some (s := D ++ P) (n := j) (r := r) (by rw [hj]; exact g)
      rw [hS] at hs ⊢
      simp only at hs
      have ih := rd_pre hj (by omega)
      rw [← ih] at g hs
      rw [ext_app (rdN_bd D j).1] at g
      have g2 := decL_pre g (by rw [ByteArray.size_extract]; omega)
      rw [rdN_some (s := D) (r := r) (by
        have e : (rdN D j).1.length = j := by rw [ih]; exact hj
        rw [e]; exact g2), ih]
/-- A record of the longer text begins where the shorter one ends exactly if the shorter one is read whole. -/
theorem durable_iff {D P : ByteArray} : (∃ j, j ≤ (recsOf (D ++ P)).length ∧ (rdN (D ++ P) j).2 = D.size) ↔ atOf D = D.size := by
  obtain ⟨h1, h2, h3, h4⟩ := recs_len (D ++ P)
  constructor
  · rintro ⟨j, hj, e⟩
    have hl := rdN_len h1 hj
    have hp := rd_pre hl (by omega)
    have hd : decL (j : Int) (D.extract (rdN D j).2 D.size) = none := decL_empty (by rw [hp, e, ByteArray.size_extract]; omega)
    have := rdN_done (s := D) (by rw [hp]; exact hl) hd
    rw [atOf, this, hp, e]
  · intro e
    obtain ⟨i, k0, k1, k2, k3⟩ := rd_stop D
    have ha := rd_app (P := P) k1
    have hi : (rdN (D ++ P) i).1.length = i := by rw [ha]; exact k1
    refine ⟨i, ?_, by rw [ha, ← e, atOf, k2]⟩
    by_cases c : i ≤ (recsOf (D ++ P)).length
    · exact c
    · exfalso
      have h5 : decL ((recsOf (D ++ P)).length : Int) ((D ++ P).extract (rdN (D ++ P) (recsOf (D ++ P)).length).2 (D ++ P).size) = none := by
        rw [← atOf_eq]; exact h3
      have := rdN_stuck (s := D ++ P) (n := (recsOf (D ++ P)).length) (by rw [h1]; exact h5) (i - (recsOf (D ++ P)).length)
      have e2 : (recsOf (D ++ P)).length + (i - (recsOf (D ++ P)).length) = i := by omega
      rw [e2] at this
      rw [this, h1] at hi
      omega
def logB (l : Log) : Bool := decide (l.Durable.size + l.Pending.size ≤ 30000) && (decide (atOf (l.Durable ++ l.Pending) = l.Durable.size + l.Pending.size) && (decide (atOf l.Durable = l.Durable.size) && decide (((recsOf (l.Durable ++ l.Pending)).length : Int) = l.Count)))
theorem l27Log_ok (l : Log) (hd : l.Durable.size ≤ 4194304) (hp : l.Pending.size ≤ 4194304) : Ctr Tryd.prog 38 [l.v] [] (.bool (logB l)) [] := by
  have hsz : (l.Durable ++ l.Pending).size = l.Durable.size + l.Pending.size := ByteArray.size_append
  have hw : IntKind.i64.wrap ((l.Durable.size : Int) + (l.Pending.size : Int)) = (l.Durable.size : Int) + (l.Pending.size : Int) := wrap_i64 (by omega) (by omega)
  refine Ctr.intro Tryd.mixed Tryd.func38 rfl Tryd.okF38 ?_
  simp -implicitDefEqProofs -dsimp only [go_sem, Nat.reduceSub, Nat.reduceAdd, Nat.reduceMul, Nat.reduceLT, Nat.reduceLeDiff, Nat.reduceEqDiff, Nat.reduceDiv, Nat.reduceMod, Int.reduceToNat, Int.reduceLE, Int.reduceLT, Int.reduceBEq, Int.reduceBNe, Int.reduceNeg, Int.reduceAdd, Int.reduceSub, Int.reduceMul, reduceCtorEq, Tryd.ntmps38, Tryd.results38]
  (repeat ((repeat1' (first | simp -implicitDefEqProofs -dsimp only [go_sem, Nat.reduceSub, Nat.reduceAdd, Nat.reduceMul, Nat.reduceLT, Nat.reduceLeDiff, Nat.reduceEqDiff, Nat.reduceDiv, Nat.reduceMod, Int.reduceToNat, Int.reduceLE, Int.reduceLT, Int.reduceBEq, Int.reduceBNe, Int.reduceNeg, Int.reduceAdd, Int.reduceSub, Int.reduceMul, reduceCtorEq, Log.v, hw] | simp -implicitDefEqProofs -dsimp (disch := omega) only [wrap_i64])); repeat (with_reducible refine And.intro ?_ ?_; focus (first | omega | with_reducible rfl | (show drawOk _ = true; kernel_rfl) | (simp only [rows_length, rows_cell, List.length_append, List.length_cons, List.length_nil, List.all_append, List.all_cons, List.all_nil, isCell, Nat.mul_one, Nat.one_mul, Bool.and_self]; first | done | omega) | (simp only [ByteArray.size_append, ba_size, List.size_toArray, List.length_cons, List.length_nil]; omega)))))
  refine condT.split (fun g1 => ?_) (fun g1 => ?_) <;> (repeat ((repeat1' (first | simp -implicitDefEqProofs -dsimp only [go_sem, Nat.reduceSub, Nat.reduceAdd, Nat.reduceMul, Nat.reduceLT, Nat.reduceLeDiff, Nat.reduceEqDiff, Nat.reduceDiv, Nat.reduceMod, Int.reduceToNat, Int.reduceLE, Int.reduceLT, Int.reduceBEq, Int.reduceBNe, Int.reduceNeg, Int.reduceAdd, Int.reduceSub, Int.reduceMul, reduceCtorEq, g1] | simp -implicitDefEqProofs -dsimp (disch := omega) only [wrap_i64])); repeat (with_reducible refine And.intro ?_ ?_; focus (first | omega | with_reducible rfl | (show drawOk _ = true; kernel_rfl) | (simp only [rows_length, rows_cell, List.length_append, List.length_cons, List.length_nil, List.all_append, List.all_cons, List.all_nil, isCell, Nat.mul_one, Nat.one_mul, Bool.and_self]; first | done | omega) | (simp only [ByteArray.size_append, ba_size, List.size_toArray, List.length_cons, List.length_nil]; omega)))))
  · refine WeakR.drop' ?_ (by rfl)
    have : ¬ l.Durable.size + l.Pending.size ≤ 30000 := by simp at g1; omega
    simp [logB, this]
  (first | refine callT.at (l27Open_ok (l.Durable ++ l.Pending) (by rw [hsz]; omega)) ⟨leA, trivial⟩ ?_ | refine callS.at (l27Open_ok (l.Durable ++ l.Pending) (by rw [hsz]; omega)) ⟨leA, trivial⟩ ?_)
  (repeat ((repeat1' (first | simp -implicitDefEqProofs -dsimp only [go_sem, Nat.reduceSub, Nat.reduceAdd, Nat.reduceMul, Nat.reduceLT, Nat.reduceLeDiff, Nat.reduceEqDiff, Nat.reduceDiv, Nat.reduceMod, Int.reduceToNat, Int.reduceLE, Int.reduceLT, Int.reduceBEq, Int.reduceBNe, Int.reduceNeg, Int.reduceAdd, Int.reduceSub, Int.reduceMul, reduceCtorEq, openV, openH, hw] | simp -implicitDefEqProofs -dsimp (disch := omega) only [wrap_i64])); repeat (with_reducible refine And.intro ?_ ?_; focus (first | omega | with_reducible rfl | (show drawOk _ = true; kernel_rfl) | (simp only [rows_length, rows_cell, List.length_append, List.length_cons, List.length_nil, List.all_append, List.all_cons, List.all_nil, isCell, Nat.mul_one, Nat.one_mul, Bool.and_self]; first | done | omega) | (simp only [ByteArray.size_append, ba_size, List.size_toArray, List.length_cons, List.length_nil]; omega)))))
  (first | refine callT.at (l27Open_ok l.Durable (by omega)) ⟨leA, trivial⟩ ?_ | refine callS.at (l27Open_ok l.Durable (by omega)) ⟨leA, trivial⟩ ?_)
  (repeat ((repeat1' (first | simp -implicitDefEqProofs -dsimp only [go_sem, Nat.reduceSub, Nat.reduceAdd, Nat.reduceMul, Nat.reduceLT, Nat.reduceLeDiff, Nat.reduceEqDiff, Nat.reduceDiv, Nat.reduceMod, Int.reduceToNat, Int.reduceLE, Int.reduceLT, Int.reduceBEq, Int.reduceBNe, Int.reduceNeg, Int.reduceAdd, Int.reduceSub, Int.reduceMul, reduceCtorEq, openV, openH, hw] | simp -implicitDefEqProofs -dsimp (disch := omega) only [wrap_i64])); repeat (with_reducible refine And.intro ?_ ?_; focus (first | omega | with_reducible rfl | (show drawOk _ = true; kernel_rfl) | (simp only [rows_length, rows_cell, List.length_append, List.length_cons, List.length_nil, List.all_append, List.all_cons, List.all_nil, isCell, Nat.mul_one, Nat.one_mul, Bool.and_self]; first | done | omega) | (simp only [ByteArray.size_append, ba_size, List.size_toArray, List.length_cons, List.length_nil]; omega)))))
  have hb : decide (l.Durable.size + l.Pending.size ≤ 30000) = true := by simp at g1 ⊢; omega
  have c1 : (((atOf (l.Durable ++ l.Pending) : Nat) : Int) == (l.Durable.size : Int) + (l.Pending.size : Int)) = decide (atOf (l.Durable ++ l.Pending) = l.Durable.size + l.Pending.size) := by rw [Bool.eq_iff_iff]; simp; omega
  have c2 : (((atOf l.Durable : Nat) : Int) == (l.Durable.size : Int)) = decide (atOf l.Durable = l.Durable.size) := by rw [Bool.eq_iff_iff]; simp; omega
  refine guardT.splitT (fun g2 => ?_) (fun g2 => ?_) <;> simp -implicitDefEqProofs -dsimp only [go_sem, Nat.reduceSub, Nat.reduceAdd, Nat.reduceMul, Nat.reduceLT, Nat.reduceLeDiff, Nat.reduceEqDiff, Nat.reduceDiv, Nat.reduceMod, Int.reduceToNat, Int.reduceLE, Int.reduceLT, Int.reduceBEq, Int.reduceBNe, Int.reduceNeg, Int.reduceAdd, Int.reduceSub, Int.reduceMul, reduceCtorEq, g2, hw]
  rotate_left
  · refine WeakR.drop' ?_ (by rfl)
    rw [c1] at g2
    simp only [logB, g2, Bool.false_and, Bool.and_false]
  refine guardT.splitT (fun g3 => ?_) (fun g3 => ?_) <;> simp -implicitDefEqProofs -dsimp only [go_sem, Nat.reduceSub, Nat.reduceAdd, Nat.reduceMul, Nat.reduceLT, Nat.reduceLeDiff, Nat.reduceEqDiff, Nat.reduceDiv, Nat.reduceMod, Int.reduceToNat, Int.reduceLE, Int.reduceLT, Int.reduceBEq, Int.reduceBNe, Int.reduceNeg, Int.reduceAdd, Int.reduceSub, Int.reduceMul, reduceCtorEq, g3, hw]
  rotate_left
  · refine WeakR.drop' ?_ (by rfl)
    rw [c2] at g3
    simp only [logB, g3, Bool.false_and, Bool.and_false]
  refine WeakR.drop' ?_ (by rfl)
  rw [c1] at g2
  rw [c2] at g3
  simp only [logB, hb, g2, g3, Bool.true_and]
  congr 1
/-- Where records begin, and where the last one ends. -/
def startsOf (s : ByteArray) : List Int := 0 :: endsTo s (recsOf s).length
theorem startsOf_len (s : ByteArray) : (startsOf s).length = (recsOf s).length + 1 := by simp [startsOf, endsTo_len]
theorem startsOf_get {s : ByteArray} {i : Nat} (h : i < (startsOf s).length) : (startsOf s)[i] = ((rdN s i).2 : Int) := by
  cases i with
  | zero => rfl
  | succ i => simp [startsOf, endsTo]
def durB (l : Log) : Bool := (startsOf (l.Durable ++ l.Pending)).any fun a => a == (l.Durable.size : Int)
theorem durB_eq (l : Log) : durB l = decide (atOf l.Durable = l.Durable.size) := by
  rw [Bool.eq_iff_iff, decide_eq_true_eq, ← durable_iff (P := l.Pending), durB, List.any_eq_true]
  constructor
  · rintro ⟨a, ha, e⟩
    obtain ⟨i, hi, rfl⟩ := List.getElem_of_mem ha
    rw [startsOf_get hi] at e
    rw [startsOf_len] at hi
    exact ⟨i, by omega, by simp at e; omega⟩
  · rintro ⟨j, hj, e⟩
    have hi : j < (startsOf (l.Durable ++ l.Pending)).length := by rw [startsOf_len]; omega
    exact ⟨_, List.getElem_mem hi, by rw [startsOf_get hi, e]; simp⟩
def recsV (l : Log) : V := .tup [.osl 0 0 (recsOf (l.Durable ++ l.Pending)).length 2, .bool (logB l)]
def recsH (l : Log) : Hp := [some (rows LogRecord.cs (recsOf (l.Durable ++ l.Pending)))]
theorem records_ok (l : Log) (hd : l.Durable.size ≤ 4194304) (hp : l.Pending.size ≤ 4194304) : Ctr Tryd.prog 53 [l.v] [] (recsV l) (recsH l) := by
  have hsz : (l.Durable ++ l.Pending).size = l.Durable.size + l.Pending.size := ByteArray.size_append
  refine Ctr.intro Tryd.mixed Tryd.func53 rfl Tryd.okF53 ?_
  simp -implicitDefEqProofs -dsimp only [go_sem, Nat.reduceSub, Nat.reduceAdd, Nat.reduceMul, Nat.reduceLT, Nat.reduceLeDiff, Nat.reduceEqDiff, Nat.reduceDiv, Nat.reduceMod, Int.reduceToNat, Int.reduceLE, Int.reduceLT, Int.reduceBEq, Int.reduceBNe, Int.reduceNeg, Int.reduceAdd, Int.reduceSub, Int.reduceMul, reduceCtorEq, Tryd.ntmps53, Tryd.results53]
  (repeat ((repeat1' (first | simp -implicitDefEqProofs -dsimp only [go_sem, Nat.reduceSub, Nat.reduceAdd, Nat.reduceMul, Nat.reduceLT, Nat.reduceLeDiff, Nat.reduceEqDiff, Nat.reduceDiv, Nat.reduceMod, Int.reduceToNat, Int.reduceLE, Int.reduceLT, Int.reduceBEq, Int.reduceBNe, Int.reduceNeg, Int.reduceAdd, Int.reduceSub, Int.reduceMul, reduceCtorEq, Log.v] | simp -implicitDefEqProofs -dsimp (disch := omega) only [wrap_i64])); repeat (with_reducible refine And.intro ?_ ?_; focus (first | omega | with_reducible rfl | (show drawOk _ = true; kernel_rfl) | (simp only [rows_length, rows_cell, List.length_append, List.length_cons, List.length_nil, List.all_append, List.all_cons, List.all_nil, isCell, Nat.mul_one, Nat.one_mul, Bool.and_self]; first | done | omega) | (simp only [ByteArray.size_append, ba_size, List.size_toArray, List.length_cons, List.length_nil]; omega)))))
  (first | refine callT.at (read_ok (l.Durable ++ l.Pending) (by rw [hsz]; omega)) ⟨leA, trivial⟩ ?_ | refine callS.at (read_ok (l.Durable ++ l.Pending) (by rw [hsz]; omega)) ⟨leA, trivial⟩ ?_)
  have h60 := (recs_len (l.Durable ++ l.Pending)).2.2.2
  have hen := endsTo_len (l.Durable ++ l.Pending) (recsOf (l.Durable ++ l.Pending)).length
  have htk : List.take (recsOf (l.Durable ++ l.Pending)).length (rows IntS.cs (endsTo (l.Durable ++ l.Pending) (recsOf (l.Durable ++ l.Pending)).length)) = rows IntS.cs (endsTo (l.Durable ++ l.Pending) (recsOf (l.Durable ++ l.Pending)).length) :=
    List.take_of_length_le (by rw [rows_length, hen]; omega)
  (repeat ((repeat1' (first | simp -implicitDefEqProofs -dsimp only [go_sem, Nat.reduceSub, Nat.reduceAdd, Nat.reduceMul, Nat.reduceLT, Nat.reduceLeDiff, Nat.reduceEqDiff, Nat.reduceDiv, Nat.reduceMod, Int.reduceToNat, Int.reduceLE, Int.reduceLT, Int.reduceBEq, Int.reduceBNe, Int.reduceNeg, Int.reduceAdd, Int.reduceSub, Int.reduceMul, reduceCtorEq, readV, readH, rows_length, rows_cell, hen, htk, Nat.mul_one, List.length_cons, List.length_nil] | simp -implicitDefEqProofs -dsimp (disch := omega) only [wrap_i64])); repeat (with_reducible refine And.intro ?_ ?_; focus (first | omega | with_reducible rfl | (show drawOk _ = true; kernel_rfl) | (simp only [rows_length, rows_cell, List.length_append, List.length_cons, List.length_nil, List.all_append, List.all_cons, List.all_nil, isCell, Nat.mul_one, Nat.one_mul, Bool.and_self]; first | done | omega) | (simp only [ByteArray.size_append, ba_size, List.size_toArray, List.length_cons, List.length_nil]; omega)))))
  have hsl := startsOf_len (l.Durable ++ l.Pending)
  have hw : IntKind.i64.wrap ((l.Durable.size : Int) + (l.Pending.size : Int)) = (l.Durable.size : Int) + (l.Pending.size : Int) := wrap_i64 (by omega) (by omega)
  refine LoopT.intro (fun i : Nat => i ≤ (startsOf (l.Durable ++ l.Pending)).length) (fun i => ⟨[.undef, .ptr 0 0, .undef, .undef, .str (l.Durable ++ l.Pending), .osl 1 0 (recsOf (l.Durable ++ l.Pending)).length 2, .undef, .osl 2 0 (startsOf (l.Durable ++ l.Pending)).length 1, .bool (((startsOf (l.Durable ++ l.Pending)).take i).any fun a => a == (l.Durable.size : Int)), .undef, .undef, .undef, .undef, .undef, .undef, .undef, .undef, .undef, .undef, .undef, .undef, .undef, .undef, .undef, .osl 2 0 (startsOf (l.Durable ++ l.Pending)).length 1, .int .i64 (startsOf (l.Durable ++ l.Pending)).length, .int .i64 i, .undef, .undef, .undef, .undef, .undef, .undef, .undef, .undef, .undef, .undef, .undef, .undef, .undef, .undef, .undef, .undef, .undef, .undef, .undef, .undef, .undef, .undef, .undef, .undef, .undef, .undef, .undef, .undef, .undef, .undef, .undef, .undef], [some l.cs, some (rows LogRecord.cs (recsOf (l.Durable ++ l.Pending))), some (rows IntS.cs (startsOf (l.Durable ++ l.Pending)))], 0⟩) (fun i => (startsOf (l.Durable ++ l.Pending)).length - i) 0 (Nat.zero_le _) ?_ (fun i hi => ?_)
  · refine Weak.pick [0, 1, 3] (by decide) (fun j hj => by omega) ?_ ?_
    · simp [LeG, LeV, ren, pickF, posOf, hsl]
      omega
    · simp [pickH, pickB, ren, pickF, posOf, map_ren_rows, Log.cs]
      rw [startsOf, rows_cons]
      simp only [IntS.cs, List.cons_append, List.nil_append]
  simp -implicitDefEqProofs -dsimp only [go_sem, Nat.reduceSub, Nat.reduceAdd, Nat.reduceMul, Nat.reduceLT, Nat.reduceLeDiff, Nat.reduceEqDiff, Nat.reduceDiv, Nat.reduceMod, Int.reduceToNat, Int.reduceLE, Int.reduceLT, Int.reduceBEq, Int.reduceBNe, Int.reduceNeg, Int.reduceAdd, Int.reduceSub, Int.reduceMul, reduceCtorEq, Log.cs]
  refine condT.split (fun h1 => ?_) (fun h1 => ?_)
  · simp -implicitDefEqProofs -dsimp only [go_sem, Nat.reduceSub, Nat.reduceAdd, Nat.reduceMul, Nat.reduceLT, Nat.reduceLeDiff, Nat.reduceEqDiff, Nat.reduceDiv, Nat.reduceMod, Int.reduceToNat, Int.reduceLE, Int.reduceLT, Int.reduceBEq, Int.reduceBNe, Int.reduceNeg, Int.reduceAdd, Int.reduceSub, Int.reduceMul, reduceCtorEq, h1]
    have hi' : i < (startsOf (l.Durable ++ l.Pending)).length := by simpa using h1
    have hr := rows_at IntS.csl hi'
    repeat (with_reducible refine And.intro ?_ ?_; focus (first | omega | with_reducible rfl | (show drawOk _ = true; kernel_rfl) | (simp only [rows_length, rows_cell, List.length_append, List.length_cons, List.length_nil, List.all_append, List.all_cons, List.all_nil, isCell, Nat.mul_one, Nat.one_mul, Bool.and_self]; first | done | omega) | (simp only [ByteArray.size_append, ba_size, List.size_toArray, List.length_cons, List.length_nil]; omega)))
    have e1 : ((startsOf (l.Durable ++ l.Pending)).take (i + 1)).any (fun a => a == (l.Durable.size : Int)) = (((startsOf (l.Durable ++ l.Pending)).take i).any (fun a => a == (l.Durable.size : Int)) || ((startsOf (l.Durable ++ l.Pending))[i] == (l.Durable.size : Int))) := by
      rw [List.take_succ_eq_append_getElem hi', List.any_append]; simp
    rw [hr]
    refine guardT.splitF (fun h2 => ?_) (fun h2 => ?_) <;> (repeat ((repeat1' (first | simp -implicitDefEqProofs -dsimp only [go_sem, Nat.reduceSub, Nat.reduceAdd, Nat.reduceMul, Nat.reduceLT, Nat.reduceLeDiff, Nat.reduceEqDiff, Nat.reduceDiv, Nat.reduceMod, Int.reduceToNat, Int.reduceLE, Int.reduceLT, Int.reduceBEq, Int.reduceBNe, Int.reduceNeg, Int.reduceAdd, Int.reduceSub, Int.reduceMul, reduceCtorEq, h2, IntS.cs, Log.cs] | simp -implicitDefEqProofs -dsimp (disch := omega) only [wrap_i64])); repeat (with_reducible refine And.intro ?_ ?_; focus (first | omega | with_reducible rfl | (show drawOk _ = true; kernel_rfl) | (simp only [rows_length, rows_cell, List.length_append, List.length_cons, List.length_nil, List.all_append, List.all_cons, List.all_nil, isCell, Nat.mul_one, Nat.one_mul, Bool.and_self]; first | done | omega) | (simp only [ByteArray.size_append, ba_size, List.size_toArray, List.length_cons, List.length_nil]; omega)))))
    · refine ⟨i + 1, hi', ?_, by omega⟩
      refine Weak.cut (3) (by simp) (by simp) ?_ ?_
      · rw [e1, h2]; simp [LeC, LeV, ren, cutF]
      · simp [cutH, cutB, ren, map_ren_rows, Log.cs]
    · refine ⟨i + 1, hi', ?_, by omega⟩
      refine Weak.cut (3) (by simp) (by simp) ?_ ?_
      · rw [e1, h2]; simp [LeC, LeV, ren, cutF]
      · simp [cutH, cutB, ren, map_ren_rows, Log.cs]
  · simp -implicitDefEqProofs -dsimp only [go_sem, Nat.reduceSub, Nat.reduceAdd, Nat.reduceMul, Nat.reduceLT, Nat.reduceLeDiff, Nat.reduceEqDiff, Nat.reduceDiv, Nat.reduceMod, Int.reduceToNat, Int.reduceLE, Int.reduceLT, Int.reduceBEq, Int.reduceBNe, Int.reduceNeg, Int.reduceAdd, Int.reduceSub, Int.reduceMul, reduceCtorEq, h1]
    have hi' : i = (startsOf (l.Durable ++ l.Pending)).length := by simp at h1; omega
    subst hi'
    rw [List.take_length]
    have hdu : ((startsOf (l.Durable ++ l.Pending)).any fun a => a == (l.Durable.size : Int)) = durB l := rfl
    rw [hdu]
    repeat (with_reducible refine And.intro ?_ ?_; focus (first | omega | with_reducible rfl | (show drawOk _ = true; kernel_rfl) | (simp only [rows_length, rows_cell, List.length_append, List.length_cons, List.length_nil, List.all_append, List.all_cons, List.all_nil, isCell, Nat.mul_one, Nat.one_mul, Bool.and_self]; first | done | omega) | (simp only [ByteArray.size_append, ba_size, List.size_toArray, List.length_cons, List.length_nil]; omega)))
    have hlast : (recsOf (l.Durable ++ l.Pending)).length < (startsOf (l.Durable ++ l.Pending)).length := by rw [hsl]; omega
    have hr2 := rows_at IntS.csl hlast
    rw [startsOf_get hlast, ← atOf_eq] at hr2
    have hw2 : IntKind.i64.wrap (((startsOf (l.Durable ++ l.Pending)).length : Int) - 1) = ((recsOf (l.Durable ++ l.Pending)).length : Int) := by rw [wrap_i64 (by omega) (by omega)]; omega
    have hdb := durB_eq l
    refine guardT.splitT (fun g1 => ?_) (fun g1 => ?_) <;> simp -implicitDefEqProofs -dsimp only [go_sem, Nat.reduceSub, Nat.reduceAdd, Nat.reduceMul, Nat.reduceLT, Nat.reduceLeDiff, Nat.reduceEqDiff, Nat.reduceDiv, Nat.reduceMod, Int.reduceToNat, Int.reduceLE, Int.reduceLT, Int.reduceBEq, Int.reduceBNe, Int.reduceNeg, Int.reduceAdd, Int.reduceSub, Int.reduceMul, reduceCtorEq, g1]
    · (repeat ((repeat1' (first | simp -implicitDefEqProofs -dsimp only [go_sem, Nat.reduceSub, Nat.reduceAdd, Nat.reduceMul, Nat.reduceLT, Nat.reduceLeDiff, Nat.reduceEqDiff, Nat.reduceDiv, Nat.reduceMod, Int.reduceToNat, Int.reduceLE, Int.reduceLT, Int.reduceBEq, Int.reduceBNe, Int.reduceNeg, Int.reduceAdd, Int.reduceSub, Int.reduceMul, reduceCtorEq, hr2, hw2, hsz, IntS.cs] | simp -implicitDefEqProofs -dsimp (disch := omega) only [wrap_i64])); repeat (with_reducible refine And.intro ?_ ?_; focus (first | omega | with_reducible rfl | (show drawOk _ = true; kernel_rfl) | (simp only [rows_length, rows_cell, List.length_append, List.length_cons, List.length_nil, List.all_append, List.all_cons, List.all_nil, isCell, Nat.mul_one, Nat.one_mul, Bool.and_self]; first | done | omega) | (simp only [ByteArray.size_append, ba_size, List.size_toArray, List.length_cons, List.length_nil]; omega)))))
      rw [hdb] at g1
      have hab := (atOf_bd (l.Durable ++ l.Pending)).2
      have c1 : (((atOf (l.Durable ++ l.Pending) : Nat) : Int) == ((l.Durable.size + l.Pending.size : Nat) : Int)) = decide (atOf (l.Durable ++ l.Pending) = l.Durable.size + l.Pending.size) := by rw [Bool.eq_iff_iff]; simp; omega
      refine guardT.splitT (fun g2 => ?_) (fun g2 => ?_) <;> simp -implicitDefEqProofs -dsimp only [go_sem, Nat.reduceSub, Nat.reduceAdd, Nat.reduceMul, Nat.reduceLT, Nat.reduceLeDiff, Nat.reduceEqDiff, Nat.reduceDiv, Nat.reduceMod, Int.reduceToNat, Int.reduceLE, Int.reduceLT, Int.reduceBEq, Int.reduceBNe, Int.reduceNeg, Int.reduceAdd, Int.reduceSub, Int.reduceMul, reduceCtorEq, g2]
      · rw [c1] at g2
        have hb : decide (l.Durable.size + l.Pending.size ≤ 30000) = true := by simp at g2 ⊢; omega
        have hL : logB l = (l.Count == ((recsOf (l.Durable ++ l.Pending)).length : Int)) := by
          simp only [logB, hb, g1, g2, Bool.true_and]
          rw [Bool.eq_iff_iff]
          simp
          exact ⟨fun h => h.symm, fun h => h.symm⟩
        repeat (with_reducible refine And.intro ?_ ?_; focus (first | omega | with_reducible rfl | (show drawOk _ = true; kernel_rfl) | (simp only [rows_length, rows_cell, List.length_append, List.length_cons, List.length_nil, List.all_append, List.all_cons, List.all_nil, isCell, Nat.mul_one, Nat.one_mul, Bool.and_self]; first | done | omega) | (simp only [ByteArray.size_append, ba_size, List.size_toArray, List.length_cons, List.length_nil]; omega)))
        rw [recsV, recsH, hL]
        refine WeakR.pick [1] (by decide) (fun j hj => by omega) (.inl ?_) ?_
        · first | rfl | (simp [ren, pickF, posOf]; done)
        · simp only [pickH, List.map_cons, List.map_nil, pickB, List.getElem?_cons_zero, List.getElem?_cons_succ, map_ren_rows]
      · rw [c1] at g2
        have hL : logB l = false := by simp only [logB, g2, Bool.false_and, Bool.and_false]
        repeat (with_reducible refine And.intro ?_ ?_; focus (first | omega | with_reducible rfl | (show drawOk _ = true; kernel_rfl) | (simp only [rows_length, rows_cell, List.length_append, List.length_cons, List.length_nil, List.all_append, List.all_cons, List.all_nil, isCell, Nat.mul_one, Nat.one_mul, Bool.and_self]; first | done | omega) | (simp only [ByteArray.size_append, ba_size, List.size_toArray, List.length_cons, List.length_nil]; omega)))
        rw [recsV, recsH, hL]
        refine WeakR.pick [1] (by decide) (fun j hj => by omega) (.inl ?_) ?_
        · first | rfl | (simp [ren, pickF, posOf]; done)
        · simp only [pickH, List.map_cons, List.map_nil, pickB, List.getElem?_cons_zero, List.getElem?_cons_succ, map_ren_rows]
    · rw [hdb] at g1
      have hL : logB l = false := by simp only [logB, g1, Bool.false_and, Bool.and_false]
      rw [recsV, recsH, hL]
      refine WeakR.pick [1] (by decide) (fun j hj => by omega) (.inl ?_) ?_
      · first | rfl | (simp [ren, pickF, posOf]; done)
      · simp only [pickH, List.map_cons, List.map_nil, pickB, List.getElem?_cons_zero, List.getElem?_cons_succ, map_ren_rows]
theorem iIsValidLog_ok (l : Log) (hd : l.Durable.size ≤ 4194304) (hp : l.Pending.size ≤ 4194304) : Ctr Tryd.prog 21 [l.v] [] (.bool (logB l)) [] := by
  refine Ctr.intro Tryd.mixed Tryd.func21 rfl Tryd.okF21 ?_
  simp -implicitDefEqProofs -dsimp only [go_sem, Nat.reduceSub, Nat.reduceAdd, Nat.reduceMul, Nat.reduceLT, Nat.reduceLeDiff, Nat.reduceEqDiff, Nat.reduceDiv, Nat.reduceMod, Int.reduceToNat, Int.reduceLE, Int.reduceLT, Int.reduceBEq, Int.reduceBNe, Int.reduceNeg, Int.reduceAdd, Int.reduceSub, Int.reduceMul, reduceCtorEq, Tryd.ntmps21, Tryd.results21]
  simp -implicitDefEqProofs -dsimp only [go_sem, Nat.reduceSub, Nat.reduceAdd, Nat.reduceMul, Nat.reduceLT, Nat.reduceLeDiff, Nat.reduceEqDiff, Nat.reduceDiv, Nat.reduceMod, Int.reduceToNat, Int.reduceLE, Int.reduceLT, Int.reduceBEq, Int.reduceBNe, Int.reduceNeg, Int.reduceAdd, Int.reduceSub, Int.reduceMul, reduceCtorEq, Log.v]
  (first | refine callT.at (records_ok l hd hp) ⟨leA, trivial⟩ ?_ | refine callS.at (records_ok l hd hp) ⟨leA, trivial⟩ ?_)
  simp -implicitDefEqProofs -dsimp only [go_sem, Nat.reduceSub, Nat.reduceAdd, Nat.reduceMul, Nat.reduceLT, Nat.reduceLeDiff, Nat.reduceEqDiff, Nat.reduceDiv, Nat.reduceMod, Int.reduceToNat, Int.reduceLE, Int.reduceLT, Int.reduceBEq, Int.reduceBNe, Int.reduceNeg, Int.reduceAdd, Int.reduceSub, Int.reduceMul, reduceCtorEq, recsV]
  exact WeakR.drop' rfl (by rfl)
end Go.Proofs
end
section
set_option linter.unusedSimpArgs false
set_option linter.unusedVariables false
set_option maxRecDepth 100000
set_option maxHeartbeats 2000000
namespace Go.Proofs
open Go.Lv
def logN : V := .agg [.str ByteArray.empty, .str ByteArray.empty, .int .i64 0]
def syncR (l : Log) : List V := if logB l = true then [.agg [.str (l.Durable ++ l.Pending), .str ByteArray.empty, .int .i64 l.Count], .bool true] else [logN, .bool false]
theorem sSyncLog_ok (l : Log) (hd : l.Durable.size ≤ 4194304) (hp : l.Pending.size ≤ 4194304) : Ctr Tryd.prog 74 [l.v] [] (.tup (syncR l)) [] := by
  refine Ctr.intro Tryd.mixed Tryd.func74 rfl Tryd.okF74 ?_
  simp -implicitDefEqProofs -dsimp only [go_sem, Nat.reduceSub, Nat.reduceAdd, Nat.reduceMul, Nat.reduceLT, Nat.reduceLeDiff, Nat.reduceEqDiff, Nat.reduceDiv, Nat.reduceMod, Int.reduceToNat, Int.reduceLE, Int.reduceLT, Int.reduceBEq, Int.reduceBNe, Int.reduceNeg, Int.reduceAdd, Int.reduceSub, Int.reduceMul, reduceCtorEq, Tryd.ntmps74, Tryd.results74]
  simp -implicitDefEqProofs -dsimp only [go_sem, Nat.reduceSub, Nat.reduceAdd, Nat.reduceMul, Nat.reduceLT, Nat.reduceLeDiff, Nat.reduceEqDiff, Nat.reduceDiv, Nat.reduceMod, Int.reduceToNat, Int.reduceLE, Int.reduceLT, Int.reduceBEq, Int.reduceBNe, Int.reduceNeg, Int.reduceAdd, Int.reduceSub, Int.reduceMul, reduceCtorEq, Log.v]
  repeat (with_reducible refine And.intro ?_ ?_; focus (first | omega | with_reducible rfl | (show drawOk _ = true; kernel_rfl) | (simp only [rows_length, rows_cell, List.length_append, List.length_cons, List.length_nil, List.all_append, List.all_cons, List.all_nil, isCell, Nat.mul_one, Nat.one_mul, Bool.and_self]; first | done | omega) | (simp only [ByteArray.size_append, ba_size, List.size_toArray, List.length_cons, List.length_nil]; omega)))
  (first | refine callT.at (l27Log_ok l hd hp) ⟨leA, trivial⟩ ?_ | refine callS.at (l27Log_ok l hd hp) ⟨leA, trivial⟩ ?_)
  cases h : logB l with
  | false =>
    (repeat ((repeat1' (first | simp -implicitDefEqProofs -dsimp only [go_sem, Nat.reduceSub, Nat.reduceAdd, Nat.reduceMul, Nat.reduceLT, Nat.reduceLeDiff, Nat.reduceEqDiff, Nat.reduceDiv, Nat.reduceMod, Int.reduceToNat, Int.reduceLE, Int.reduceLT, Int.reduceBEq, Int.reduceBNe, Int.reduceNeg, Int.reduceAdd, Int.reduceSub, Int.reduceMul, reduceCtorEq, Bool.not_false] | simp -implicitDefEqProofs -dsimp (disch := omega) only [wrap_i64])); repeat (with_reducible refine And.intro ?_ ?_; focus (first | omega | with_reducible rfl | (show drawOk _ = true; kernel_rfl) | (simp only [rows_length, rows_cell, List.length_append, List.length_cons, List.length_nil, List.all_append, List.all_cons, List.all_nil, isCell, Nat.mul_one, Nat.one_mul, Bool.and_self]; first | done | omega) | (simp only [ByteArray.size_append, ba_size, List.size_toArray, List.length_cons, List.length_nil]; omega)))))
    exact WeakR.drop' (by simp [syncR, h, logN]) (by rfl)
  | true =>
    (repeat ((repeat1' (first | simp -implicitDefEqProofs -dsimp only [go_sem, Nat.reduceSub, Nat.reduceAdd, Nat.reduceMul, Nat.reduceLT, Nat.reduceLeDiff, Nat.reduceEqDiff, Nat.reduceDiv, Nat.reduceMod, Int.reduceToNat, Int.reduceLE, Int.reduceLT, Int.reduceBEq, Int.reduceBNe, Int.reduceNeg, Int.reduceAdd, Int.reduceSub, Int.reduceMul, reduceCtorEq, Bool.not_true] | simp -implicitDefEqProofs -dsimp (disch := omega) only [wrap_i64])); repeat (with_reducible refine And.intro ?_ ?_; focus (first | omega | with_reducible rfl | (show drawOk _ = true; kernel_rfl) | (simp only [rows_length, rows_cell, List.length_append, List.length_cons, List.length_nil, List.all_append, List.all_cons, List.all_nil, isCell, Nat.mul_one, Nat.one_mul, Bool.and_self]; first | done | omega) | (simp only [ByteArray.size_append, ba_size, List.size_toArray, List.length_cons, List.length_nil]; omega)))))
    exact WeakR.drop' (by simp [syncR, h]) (by rfl)
def logRecsR (l : Log) : Option (List LogRecord) := if logB l = true then some (recsOf (l.Durable ++ l.Pending)) else none
theorem iLogRecords_ok (l : Log) (hd : l.Durable.size ≤ 4194304) (hp : l.Pending.size ≤ 4194304) : Ctr Tryd.prog 28 [l.v] [] (optN 2 (logRecsR l)) (optNh LogRecord.cs (logRecsR l)) := by
  refine Ctr.intro Tryd.mixed Tryd.func28 rfl Tryd.okF28 ?_
  simp -implicitDefEqProofs -dsimp only [go_sem, Nat.reduceSub, Nat.reduceAdd, Nat.reduceMul, Nat.reduceLT, Nat.reduceLeDiff, Nat.reduceEqDiff, Nat.reduceDiv, Nat.reduceMod, Int.reduceToNat, Int.reduceLE, Int.reduceLT, Int.reduceBEq, Int.reduceBNe, Int.reduceNeg, Int.reduceAdd, Int.reduceSub, Int.reduceMul, reduceCtorEq, Tryd.ntmps28, Tryd.results28]
  simp -implicitDefEqProofs -dsimp only [go_sem, Nat.reduceSub, Nat.reduceAdd, Nat.reduceMul, Nat.reduceLT, Nat.reduceLeDiff, Nat.reduceEqDiff, Nat.reduceDiv, Nat.reduceMod, Int.reduceToNat, Int.reduceLE, Int.reduceLT, Int.reduceBEq, Int.reduceBNe, Int.reduceNeg, Int.reduceAdd, Int.reduceSub, Int.reduceMul, reduceCtorEq, Log.v]
  (first | refine callT.at (records_ok l hd hp) ⟨leA, trivial⟩ ?_ | refine callS.at (records_ok l hd hp) ⟨leA, trivial⟩ ?_)
  simp -implicitDefEqProofs -dsimp only [go_sem, Nat.reduceSub, Nat.reduceAdd, Nat.reduceMul, Nat.reduceLT, Nat.reduceLeDiff, Nat.reduceEqDiff, Nat.reduceDiv, Nat.reduceMod, Int.reduceToNat, Int.reduceLE, Int.reduceLT, Int.reduceBEq, Int.reduceBNe, Int.reduceNeg, Int.reduceAdd, Int.reduceSub, Int.reduceMul, reduceCtorEq, recsV, recsH]
  cases h : logB l with
  | false =>
    simp -implicitDefEqProofs -dsimp only [go_sem, Nat.reduceSub, Nat.reduceAdd, Nat.reduceMul, Nat.reduceLT, Nat.reduceLeDiff, Nat.reduceEqDiff, Nat.reduceDiv, Nat.reduceMod, Int.reduceToNat, Int.reduceLE, Int.reduceLT, Int.reduceBEq, Int.reduceBNe, Int.reduceNeg, Int.reduceAdd, Int.reduceSub, Int.reduceMul, reduceCtorEq]
    have e : logRecsR l = none := by simp [logRecsR, h]
    rw [e]
    exact WeakR.drop' rfl (by rfl)
  | true =>
    simp -implicitDefEqProofs -dsimp only [go_sem, Nat.reduceSub, Nat.reduceAdd, Nat.reduceMul, Nat.reduceLT, Nat.reduceLeDiff, Nat.reduceEqDiff, Nat.reduceDiv, Nat.reduceMod, Int.reduceToNat, Int.reduceLE, Int.reduceLT, Int.reduceBEq, Int.reduceBNe, Int.reduceNeg, Int.reduceAdd, Int.reduceSub, Int.reduceMul, reduceCtorEq]
    have e : logRecsR l = some (recsOf (l.Durable ++ l.Pending)) := by simp [logRecsR, h]
    rw [e]
    simp only [optN, optNh]
    refine WeakR.pick [1] (by decide) (fun j hj => by omega) (.inl ?_) ?_
    · first | rfl | (simp [ren, pickF, posOf]; done)
    · simp only [pickH, List.map_cons, List.map_nil, pickB, List.getElem?_cons_zero, List.getElem?_cons_succ, map_ren_rows]
theorem sLogRecords_ok (l : Log) (hd : l.Durable.size ≤ 4194304) (hp : l.Pending.size ≤ 4194304) : Ctr Tryd.prog 30 [l.v] [] (optO 2 (logRecsR l)) (optOh LogRecord.cs (logRecsR l)) := by
  have hsz : (l.Durable ++ l.Pending).size = l.Durable.size + l.Pending.size := ByteArray.size_append
  refine Ctr.intro Tryd.mixed Tryd.func30 rfl Tryd.okF30 ?_
  simp -implicitDefEqProofs -dsimp only [go_sem, Nat.reduceSub, Nat.reduceAdd, Nat.reduceMul, Nat.reduceLT, Nat.reduceLeDiff, Nat.reduceEqDiff, Nat.reduceDiv, Nat.reduceMod, Int.reduceToNat, Int.reduceLE, Int.reduceLT, Int.reduceBEq, Int.reduceBNe, Int.reduceNeg, Int.reduceAdd, Int.reduceSub, Int.reduceMul, reduceCtorEq, Tryd.ntmps30, Tryd.results30]
  simp -implicitDefEqProofs -dsimp only [go_sem, Nat.reduceSub, Nat.reduceAdd, Nat.reduceMul, Nat.reduceLT, Nat.reduceLeDiff, Nat.reduceEqDiff, Nat.reduceDiv, Nat.reduceMod, Int.reduceToNat, Int.reduceLE, Int.reduceLT, Int.reduceBEq, Int.reduceBNe, Int.reduceNeg, Int.reduceAdd, Int.reduceSub, Int.reduceMul, reduceCtorEq, Log.v]
  (first | refine callT.at (l27Log_ok l hd hp) ⟨leA, trivial⟩ ?_ | refine callS.at (l27Log_ok l hd hp) ⟨leA, trivial⟩ ?_)
  cases h : logB l with
  | false =>
    (repeat ((repeat1' (first | simp -implicitDefEqProofs -dsimp only [go_sem, Nat.reduceSub, Nat.reduceAdd, Nat.reduceMul, Nat.reduceLT, Nat.reduceLeDiff, Nat.reduceEqDiff, Nat.reduceDiv, Nat.reduceMod, Int.reduceToNat, Int.reduceLE, Int.reduceLT, Int.reduceBEq, Int.reduceBNe, Int.reduceNeg, Int.reduceAdd, Int.reduceSub, Int.reduceMul, reduceCtorEq, Bool.not_false] | simp -implicitDefEqProofs -dsimp (disch := omega) only [wrap_i64])); repeat (with_reducible refine And.intro ?_ ?_; focus (first | omega | with_reducible rfl | (show drawOk _ = true; kernel_rfl) | (simp only [rows_length, rows_cell, List.length_append, List.length_cons, List.length_nil, List.all_append, List.all_cons, List.all_nil, isCell, Nat.mul_one, Nat.one_mul, Bool.and_self]; first | done | omega) | (simp only [ByteArray.size_append, ba_size, List.size_toArray, List.length_cons, List.length_nil]; omega)))))
    have e : logRecsR l = none := by simp [logRecsR, h]
    rw [e]
    simp only [optO, optOh]
    refine WeakR.pick [1] (by decide) (fun j hj => by omega) (.inl ?_) ?_
    · first | rfl | (simp [ren, pickF, posOf]; done)
    · simp only [pickH, List.map_cons, List.map_nil, pickB, List.getElem?_cons_zero, List.getElem?_cons_succ, map_ren_rows]
  | true =>
    (repeat ((repeat1' (first | simp -implicitDefEqProofs -dsimp only [go_sem, Nat.reduceSub, Nat.reduceAdd, Nat.reduceMul, Nat.reduceLT, Nat.reduceLeDiff, Nat.reduceEqDiff, Nat.reduceDiv, Nat.reduceMod, Int.reduceToNat, Int.reduceLE, Int.reduceLT, Int.reduceBEq, Int.reduceBNe, Int.reduceNeg, Int.reduceAdd, Int.reduceSub, Int.reduceMul, reduceCtorEq, Bool.not_true] | simp -implicitDefEqProofs -dsimp (disch := omega) only [wrap_i64])); repeat (with_reducible refine And.intro ?_ ?_; focus (first | omega | with_reducible rfl | (show drawOk _ = true; kernel_rfl) | (simp only [rows_length, rows_cell, List.length_append, List.length_cons, List.length_nil, List.all_append, List.all_cons, List.all_nil, isCell, Nat.mul_one, Nat.one_mul, Bool.and_self]; first | done | omega) | (simp only [ByteArray.size_append, ba_size, List.size_toArray, List.length_cons, List.length_nil]; omega)))))
    (first | refine callT.at (l27Open_ok (l.Durable ++ l.Pending) (by rw [hsz]; omega)) ⟨leA, trivial⟩ ?_ | refine callS.at (l27Open_ok (l.Durable ++ l.Pending) (by rw [hsz]; omega)) ⟨leA, trivial⟩ ?_)
    (repeat ((repeat1' (first | simp -implicitDefEqProofs -dsimp only [go_sem, Nat.reduceSub, Nat.reduceAdd, Nat.reduceMul, Nat.reduceLT, Nat.reduceLeDiff, Nat.reduceEqDiff, Nat.reduceDiv, Nat.reduceMod, Int.reduceToNat, Int.reduceLE, Int.reduceLT, Int.reduceBEq, Int.reduceBNe, Int.reduceNeg, Int.reduceAdd, Int.reduceSub, Int.reduceMul, reduceCtorEq, openV, openH] | simp -implicitDefEqProofs -dsimp (disch := omega) only [wrap_i64])); repeat (with_reducible refine And.intro ?_ ?_; focus (first | omega | with_reducible rfl | (show drawOk _ = true; kernel_rfl) | (simp only [rows_length, rows_cell, List.length_append, List.length_cons, List.length_nil, List.all_append, List.all_cons, List.all_nil, isCell, Nat.mul_one, Nat.one_mul, Bool.and_self]; first | done | omega) | (simp only [ByteArray.size_append, ba_size, List.size_toArray, List.length_cons, List.length_nil]; omega)))))
    have e : logRecsR l = some (recsOf (l.Durable ++ l.Pending)) := by simp [logRecsR, h]
    rw [e]
    simp only [optO, optOh]
    refine WeakR.pick [1] (by decide) (fun j hj => by omega) (.inl ?_) ?_
    · first | rfl | (simp [ren, pickF, posOf]; done)
    · simp only [pickH, List.map_cons, List.map_nil, pickB, List.getElem?_cons_zero, List.getElem?_cons_succ, map_ren_rows]
def recovR (s : ByteArray) : List V := if s.size ≤ 30000 then [.agg [.str (s.extract 0 (atOf s)), .str ByteArray.empty, .int .i64 (recsOf s).length], .int .i64 (atOf s), .bool true] else [logN, .int .i64 0, .bool false]
theorem iRecoverLog_ok (s : ByteArray) (hs : s.size ≤ 281474976710656) : Ctr Tryd.prog 18 [.str s] [] (.tup (recovR s)) [] := by
  refine Ctr.intro Tryd.mixed Tryd.func18 rfl Tryd.okF18 ?_
  simp -implicitDefEqProofs -dsimp only [go_sem, Nat.reduceSub, Nat.reduceAdd, Nat.reduceMul, Nat.reduceLT, Nat.reduceLeDiff, Nat.reduceEqDiff, Nat.reduceDiv, Nat.reduceMod, Int.reduceToNat, Int.reduceLE, Int.reduceLT, Int.reduceBEq, Int.reduceBNe, Int.reduceNeg, Int.reduceAdd, Int.reduceSub, Int.reduceMul, reduceCtorEq, Tryd.ntmps18, Tryd.results18]
  repeat (with_reducible refine And.intro ?_ ?_; focus (first | omega | with_reducible rfl | (show drawOk _ = true; kernel_rfl) | (simp only [rows_length, rows_cell, List.length_append, List.length_cons, List.length_nil, List.all_append, List.all_cons, List.all_nil, isCell, Nat.mul_one, Nat.one_mul, Bool.and_self]; first | done | omega) | (simp only [ByteArray.size_append, ba_size, List.size_toArray, List.length_cons, List.length_nil]; omega)))
  refine condT.split (fun g1 => ?_) (fun g1 => ?_) <;> simp -implicitDefEqProofs -dsimp only [go_sem, Nat.reduceSub, Nat.reduceAdd, Nat.reduceMul, Nat.reduceLT, Nat.reduceLeDiff, Nat.reduceEqDiff, Nat.reduceDiv, Nat.reduceMod, Int.reduceToNat, Int.reduceLE, Int.reduceLT, Int.reduceBEq, Int.reduceBNe, Int.reduceNeg, Int.reduceAdd, Int.reduceSub, Int.reduceMul, reduceCtorEq, g1]
  · repeat (with_reducible refine And.intro ?_ ?_; focus (first | omega | with_reducible rfl | (show drawOk _ = true; kernel_rfl) | (simp only [rows_length, rows_cell, List.length_append, List.length_cons, List.length_nil, List.all_append, List.all_cons, List.all_nil, isCell, Nat.mul_one, Nat.one_mul, Bool.and_self]; first | done | omega) | (simp only [ByteArray.size_append, ba_size, List.size_toArray, List.length_cons, List.length_nil]; omega)))
    exact WeakR.drop' (by rw [recovR, if_neg (by simp at g1; omega)]; rfl) (by rfl)
  have g1' : s.size ≤ 30000 := by simp at g1; omega
  have hb := atOf_bd s
  (first | refine callT.at (read_ok s (by omega)) ⟨leA, trivial⟩ ?_ | refine callS.at (read_ok s (by omega)) ⟨leA, trivial⟩ ?_)
  have h60 := (recs_len s).2.2.2
  have hen := endsTo_len s (recsOf s).length
  have htk : List.take (recsOf s).length (rows IntS.cs (endsTo s (recsOf s).length)) = rows IntS.cs (endsTo s (recsOf s).length) := List.take_of_length_le (by rw [rows_length, hen]; omega)
  have hsl := startsOf_len s
  have hlast : (recsOf s).length < (startsOf s).length := by omega
  have hr2 := rows_at IntS.csl hlast
  rw [startsOf_get hlast, ← atOf_eq] at hr2
  have hst : rows IntS.cs (startsOf s) = V.int .i64 0 :: rows IntS.cs (endsTo s (recsOf s).length) := by rw [startsOf, rows_cons]; simp only [IntS.cs, List.cons_append, List.nil_append]
  rw [hst, Nat.mul_one] at hr2
  (repeat ((repeat1' (first | simp -implicitDefEqProofs -dsimp only [go_sem, Nat.reduceSub, Nat.reduceAdd, Nat.reduceMul, Nat.reduceLT, Nat.reduceLeDiff, Nat.reduceEqDiff, Nat.reduceDiv, Nat.reduceMod, Int.reduceToNat, Int.reduceLE, Int.reduceLT, Int.reduceBEq, Int.reduceBNe, Int.reduceNeg, Int.reduceAdd, Int.reduceSub, Int.reduceMul, reduceCtorEq, readV, readH, rows_length, rows_cell, hen, htk, Nat.mul_one, List.length_cons, List.length_nil, hr2, IntS.cs] | simp -implicitDefEqProofs -dsimp (disch := omega) only [wrap_i64])); repeat (with_reducible refine And.intro ?_ ?_; focus (first | omega | with_reducible rfl | (show drawOk _ = true; kernel_rfl) | (simp only [rows_length, rows_cell, List.length_append, List.length_cons, List.length_nil, List.all_append, List.all_cons, List.all_nil, isCell, Nat.mul_one, Nat.one_mul, Bool.and_self]; first | done | omega) | (simp only [ByteArray.size_append, ba_size, List.size_toArray, List.length_cons, List.length_nil]; omega)))))
  exact WeakR.drop' (by rw [recovR, if_pos g1']) (by rfl)
end Go.Proofs
end
section
set_option linter.unusedSimpArgs false
set_option linter.unusedVariables false
set_option maxRecDepth 100000
set_option maxHeartbeats 2000000
namespace Go.Proofs
open Go.Lv
def appR (l : Log) (e : LogRecord) : List V := if logB l = true ∧ recB e = true then (if l.Count = 60 then [l.v, .int .i64 2] else [.agg [.str l.Durable, .str (l.Pending ++ recLine l.Count e), .int .i64 (l.Count + 1)], .int .i64 0]) else [l.v, .int .i64 1]
theorem logB_count {l : Log} (h : logB l = true) : 0 ≤ l.Count ∧ l.Count ≤ 60 := by
  simp [logB] at h
  have := (recs_len (l.Durable ++ l.Pending)).2.2.2
  omega
theorem sAppendRecord_ok (l : Log) (e : LogRecord) (hd : l.Durable.size ≤ 4194304) (hp : l.Pending.size ≤ 4194304) (hc : e.Command.size ≤ 4194304) (hr : e.Reply.size ≤ 4194304) : Ctr Tryd.prog 24 [l.v, e.v] [] (.tup (appR l e)) [] := by
  refine Ctr.intro Tryd.mixed Tryd.func24 rfl Tryd.okF24 ?_
  simp -implicitDefEqProofs -dsimp only [go_sem, Nat.reduceSub, Nat.reduceAdd, Nat.reduceMul, Nat.reduceLT, Nat.reduceLeDiff, Nat.reduceEqDiff, Nat.reduceDiv, Nat.reduceMod, Int.reduceToNat, Int.reduceLE, Int.reduceLT, Int.reduceBEq, Int.reduceBNe, Int.reduceNeg, Int.reduceAdd, Int.reduceSub, Int.reduceMul, reduceCtorEq, Tryd.ntmps24, Tryd.results24]
  simp -implicitDefEqProofs -dsimp only [go_sem, Nat.reduceSub, Nat.reduceAdd, Nat.reduceMul, Nat.reduceLT, Nat.reduceLeDiff, Nat.reduceEqDiff, Nat.reduceDiv, Nat.reduceMod, Int.reduceToNat, Int.reduceLE, Int.reduceLT, Int.reduceBEq, Int.reduceBNe, Int.reduceNeg, Int.reduceAdd, Int.reduceSub, Int.reduceMul, reduceCtorEq, Log.v, LogRecord.v]
  repeat (with_reducible refine And.intro ?_ ?_; focus (first | omega | with_reducible rfl | (show drawOk _ = true; kernel_rfl) | (simp only [rows_length, rows_cell, List.length_append, List.length_cons, List.length_nil, List.all_append, List.all_cons, List.all_nil, isCell, Nat.mul_one, Nat.one_mul, Bool.and_self]; first | done | omega) | (simp only [ByteArray.size_append, ba_size, List.size_toArray, List.length_cons, List.length_nil]; omega)))
  (first | refine callT.at (l27Log_ok l hd hp) ⟨leA, trivial⟩ ?_ | refine callS.at (l27Log_ok l hd hp) ⟨leA, trivial⟩ ?_)
  simp -implicitDefEqProofs -dsimp only [go_sem, Nat.reduceSub, Nat.reduceAdd, Nat.reduceMul, Nat.reduceLT, Nat.reduceLeDiff, Nat.reduceEqDiff, Nat.reduceDiv, Nat.reduceMod, Int.reduceToNat, Int.reduceLE, Int.reduceLT, Int.reduceBEq, Int.reduceBNe, Int.reduceNeg, Int.reduceAdd, Int.reduceSub, Int.reduceMul, reduceCtorEq]
  refine guardT.splitF (fun g1 => ?_) (fun g1 => ?_) <;> (repeat ((repeat1' (first | simp -implicitDefEqProofs -dsimp only [go_sem, Nat.reduceSub, Nat.reduceAdd, Nat.reduceMul, Nat.reduceLT, Nat.reduceLeDiff, Nat.reduceEqDiff, Nat.reduceDiv, Nat.reduceMod, Int.reduceToNat, Int.reduceLE, Int.reduceLT, Int.reduceBEq, Int.reduceBNe, Int.reduceNeg, Int.reduceAdd, Int.reduceSub, Int.reduceMul, reduceCtorEq, g1] | simp -implicitDefEqProofs -dsimp (disch := omega) only [wrap_i64])); repeat (with_reducible refine And.intro ?_ ?_; focus (first | omega | with_reducible rfl | (show drawOk _ = true; kernel_rfl) | (simp only [rows_length, rows_cell, List.length_append, List.length_cons, List.length_nil, List.all_append, List.all_cons, List.all_nil, isCell, Nat.mul_one, Nat.one_mul, Bool.and_self]; first | done | omega) | (simp only [ByteArray.size_append, ba_size, List.size_toArray, List.length_cons, List.length_nil]; omega)))))
  rotate_left
  · exact WeakR.drop' (by rw [appR, if_neg (by simp at g1; simp [g1])]; rfl) (by rfl)
  (first | refine callT.at (l27Good_ok e (by omega) (by omega)) ⟨leA, trivial⟩ ?_ | refine callS.at (l27Good_ok e (by omega) (by omega)) ⟨leA, trivial⟩ ?_)
  simp -implicitDefEqProofs -dsimp only [go_sem, Nat.reduceSub, Nat.reduceAdd, Nat.reduceMul, Nat.reduceLT, Nat.reduceLeDiff, Nat.reduceEqDiff, Nat.reduceDiv, Nat.reduceMod, Int.reduceToNat, Int.reduceLE, Int.reduceLT, Int.reduceBEq, Int.reduceBNe, Int.reduceNeg, Int.reduceAdd, Int.reduceSub, Int.reduceMul, reduceCtorEq]
  refine condT.split (fun g2 => ?_) (fun g2 => ?_) <;> (repeat ((repeat1' (first | simp -implicitDefEqProofs -dsimp only [go_sem, Nat.reduceSub, Nat.reduceAdd, Nat.reduceMul, Nat.reduceLT, Nat.reduceLeDiff, Nat.reduceEqDiff, Nat.reduceDiv, Nat.reduceMod, Int.reduceToNat, Int.reduceLE, Int.reduceLT, Int.reduceBEq, Int.reduceBNe, Int.reduceNeg, Int.reduceAdd, Int.reduceSub, Int.reduceMul, reduceCtorEq, g2] | simp -implicitDefEqProofs -dsimp (disch := omega) only [wrap_i64])); repeat (with_reducible refine And.intro ?_ ?_; focus (first | omega | with_reducible rfl | (show drawOk _ = true; kernel_rfl) | (simp only [rows_length, rows_cell, List.length_append, List.length_cons, List.length_nil, List.all_append, List.all_cons, List.all_nil, isCell, Nat.mul_one, Nat.one_mul, Bool.and_self]; first | done | omega) | (simp only [ByteArray.size_append, ba_size, List.size_toArray, List.length_cons, List.length_nil]; omega)))))
  · exact WeakR.drop' (by rw [appR, if_neg (by simp at g2; simp [g2])]; rfl) (by rfl)
  have hL : logB l = true := by simpa using g1
  have hE : recB e = true := by simpa using g2
  have hb := logB_count hL
  refine condT.split (fun g3 => ?_) (fun g3 => ?_) <;> (repeat ((repeat1' (first | simp -implicitDefEqProofs -dsimp only [go_sem, Nat.reduceSub, Nat.reduceAdd, Nat.reduceMul, Nat.reduceLT, Nat.reduceLeDiff, Nat.reduceEqDiff, Nat.reduceDiv, Nat.reduceMod, Int.reduceToNat, Int.reduceLE, Int.reduceLT, Int.reduceBEq, Int.reduceBNe, Int.reduceNeg, Int.reduceAdd, Int.reduceSub, Int.reduceMul, reduceCtorEq, g3] | simp -implicitDefEqProofs -dsimp (disch := omega) only [wrap_i64])); repeat (with_reducible refine And.intro ?_ ?_; focus (first | omega | with_reducible rfl | (show drawOk _ = true; kernel_rfl) | (simp only [rows_length, rows_cell, List.length_append, List.length_cons, List.length_nil, List.all_append, List.all_cons, List.all_nil, isCell, Nat.mul_one, Nat.one_mul, Bool.and_self]; first | done | omega) | (simp only [ByteArray.size_append, ba_size, List.size_toArray, List.length_cons, List.length_nil]; omega)))))
  · exact WeakR.drop' (by rw [appR, if_pos ⟨hL, hE⟩, if_pos (by simpa using g3)]; rfl) (by rfl)
  have g3' : ¬ l.Count = 60 := by simpa using g3
  have hk : 0 ≤ l.Count ∧ l.Count ≤ 59 := by omega
  have z1 := recText_size hk hE
  have z2 := sealS_size (recText l.Count e)
  have z3 : (recLine l.Count e).size = (sealS (recText l.Count e)).size + 1 := by rw [recLine, ByteArray.size_append]; rfl
  (first | refine callT.at (l27Line_ok l.Count e hk hE) ⟨leA, leA, trivial⟩ ?_ | refine callS.at (l27Line_ok l.Count e hk hE) ⟨leA, leA, trivial⟩ ?_)
  (repeat ((repeat1' (first | simp -implicitDefEqProofs -dsimp only [go_sem, Nat.reduceSub, Nat.reduceAdd, Nat.reduceMul, Nat.reduceLT, Nat.reduceLeDiff, Nat.reduceEqDiff, Nat.reduceDiv, Nat.reduceMod, Int.reduceToNat, Int.reduceLE, Int.reduceLT, Int.reduceBEq, Int.reduceBNe, Int.reduceNeg, Int.reduceAdd, Int.reduceSub, Int.reduceMul, reduceCtorEq] | simp -implicitDefEqProofs -dsimp (disch := omega) only [wrap_i64])); repeat (with_reducible refine And.intro ?_ ?_; focus (first | omega | with_reducible rfl | (show drawOk _ = true; kernel_rfl) | (simp only [rows_length, rows_cell, List.length_append, List.length_cons, List.length_nil, List.all_append, List.all_cons, List.all_nil, isCell, Nat.mul_one, Nat.one_mul, Bool.and_self]; first | done | omega) | (simp only [ByteArray.size_append, ba_size, List.size_toArray, List.length_cons, List.length_nil]; omega)))))
  exact WeakR.drop' (by rw [appR, if_pos ⟨hL, hE⟩, if_neg g3']) (by rfl)
end Go.Proofs
end
section
set_option linter.unusedSimpArgs false
set_option linter.unusedVariables false
set_option maxRecDepth 100000
set_option maxHeartbeats 2000000
namespace Go.Proofs
open Go.Lv
def ofV (B : List Int) (K : List ByteArray) (c : Cur) : ByteArray := K.getD (pickV B K.length c).toNat ByteArray.empty
theorem ofV_mem {B : List Int} (hB : CB B) {K : List ByteArray} (hK : 0 < K.length) {c : Cur} (h : 0 ≤ c.a) : ofV B K c ∈ K := by
  obtain ⟨h1, h2⟩ := pickV_bd hB (n := K.length) h
  have hi : (pickV B K.length c).toNat < K.length := by omega
  simp [ofV, List.getD, hi]
theorem lmono' {c : Cur} {a b : Int} (h : c.le a) (hab : a ≤ b) : c.le b := ⟨h.1, Int.le_trans h.2 hab⟩
theorem of_ok {B : List Int} (hB : CB B) {c : Cur} (hc : c.le 4611686018427387903) (K : List ByteArray) (hK0 : 0 < K.length) (hK : K.length ≤ 1000000000) : Ctr Tryd.prog 68 [.ptr 0 0, .osl 1 0 K.length 1] [some (c.cs B), some (rows StringS.cs K)] (.str (ofV B K c)) [some ((pickC B K.length c).cs B), some (rows StringS.cs K)] := by
  obtain ⟨h1, h2⟩ := pickV_bd hB (n := K.length) hc.1
  obtain ⟨i, hi'⟩ : ∃ i : Nat, pickV B K.length c = i := ⟨(pickV B K.length c).toNat, by omega⟩
  have hi : i < K.length := by omega
  have hr := rows_at StringS.csl hi
  have e : ofV B K c = K[i] := by simp [ofV, hi', List.getD, hi]
  have hp := pick_ok hB hc K.length (by omega)
  rw [hi'] at hp
  rw [e]
  refine Ctr.intro Tryd.mixed Tryd.func68 rfl Tryd.okF68 ?_
  simp -implicitDefEqProofs -dsimp only [go_sem, Nat.reduceSub, Nat.reduceAdd, Nat.reduceMul, Nat.reduceLT, Nat.reduceLeDiff, Nat.reduceEqDiff, Nat.reduceDiv, Nat.reduceMod, Int.reduceToNat, Int.reduceLE, Int.reduceLT, Int.reduceBEq, Int.reduceBNe, Int.reduceNeg, Int.reduceAdd, Int.reduceSub, Int.reduceMul, reduceCtorEq, Tryd.ntmps68, Tryd.results68]
  (repeat ((repeat1' (first | simp -implicitDefEqProofs -dsimp only [go_sem, Nat.reduceSub, Nat.reduceAdd, Nat.reduceMul, Nat.reduceLT, Nat.reduceLeDiff, Nat.reduceEqDiff, Nat.reduceDiv, Nat.reduceMod, Int.reduceToNat, Int.reduceLE, Int.reduceLT, Int.reduceBEq, Int.reduceBNe, Int.reduceNeg, Int.reduceAdd, Int.reduceSub, Int.reduceMul, reduceCtorEq] | simp -implicitDefEqProofs -dsimp (disch := omega) only [wrap_i64])); repeat (with_reducible refine And.intro ?_ ?_; focus (first | omega | with_reducible rfl | (show drawOk _ = true; kernel_rfl) | (simp only [rows_length, rows_cell, List.length_append, List.length_cons, List.length_nil, List.all_append, List.all_cons, List.all_nil, isCell, Nat.mul_one, Nat.one_mul, Bool.and_self]; first | done | omega) | (simp only [ByteArray.size_append, ba_size, List.size_toArray, List.length_cons, List.length_nil]; omega)))))
  refine callS.lend [0] false hp (by decide) ⟨leO, leO, trivial⟩ (lendCur rfl) (growCur B _ _) (.inl rfl) ?_
  (repeat ((repeat1' (first | simp -implicitDefEqProofs -dsimp only [go_sem, Nat.reduceSub, Nat.reduceAdd, Nat.reduceMul, Nat.reduceLT, Nat.reduceLeDiff, Nat.reduceEqDiff, Nat.reduceDiv, Nat.reduceMod, Int.reduceToNat, Int.reduceLE, Int.reduceLT, Int.reduceBEq, Int.reduceBNe, Int.reduceNeg, Int.reduceAdd, Int.reduceSub, Int.reduceMul, reduceCtorEq, Cur.ren, hr, StringS.cs] | simp -implicitDefEqProofs -dsimp (disch := omega) only [wrap_i64])); repeat (with_reducible refine And.intro ?_ ?_; focus (first | omega | with_reducible rfl | (show drawOk _ = true; kernel_rfl) | (simp only [rows_length, rows_cell, List.length_append, List.length_cons, List.length_nil, List.all_append, List.all_cons, List.all_nil, isCell, Nat.mul_one, Nat.one_mul, Bool.and_self]; first | done | omega) | (simp only [ByteArray.size_append, ba_size, List.size_toArray, List.length_cons, List.length_nil]; omega)))))
  exact WeakR.refl _ _ _
def recP (B : List Int) (k : Int) (r : V) (hout : Hp) : Prop := ∃ (e : LogRecord) (c : Cur), e.Command.size ≤ 100 ∧ e.Reply.size ≤ 100 ∧ c.le k ∧ r = e.v ∧ hout = [some (c.cs B)]
theorem rec_fin {B : List Int} {k : Int} {h : Hp} {x y : ByteArray} {c : Cur} (h0 : h[0]? = some (some (c.cs B))) (hx : x.size ≤ 100) (hy : y.size ≤ 100) (hc : c.le k) : RelR 1 (.agg [.str x, .str y]) h (recP B k) := by
  refine ⟨_, _, ⟨⟨x, y⟩, c, hx, hy, hc, rfl, rfl⟩, WeakR.pick [0] (by decide) (fun j hj => by cases j <;> simp_all) (.inl rfl) ?_⟩
  simp only [pickH, List.map_cons, List.map_nil, pickB, h0, Cur.ren]
theorem small_of {K : List ByteArray} {v : ByteArray} (h : v ∈ K) (hk : K.all (fun x => decide (x.size ≤ 100)) = true) : v.size ≤ 100 := by
  have := List.all_eq_true.1 hk v h
  simpa using this
theorem logRecord_ok {B : List Int} (hB : CB B) {k : Int} (hk : k ≤ 1000000) {c : Cur} (hc : c.le k) : CtrP Tryd.prog 42 [.ptr 0 0] [some (c.cs B)] (recP B (k + 20)) := by
  have hcb : ∀ {c' : Cur} {k' : Int}, c'.le k' → k' ≤ 4000000 → c'.le 4611686018427387903 := fun h h' => ⟨h.1, by have := h.2; omega⟩
  refine CtrP.intro Tryd.mixed Tryd.func42 rfl Tryd.okF42 ?_
  simp -implicitDefEqProofs -dsimp only [go_sem, Nat.reduceSub, Nat.reduceAdd, Nat.reduceMul, Nat.reduceLT, Nat.reduceLeDiff, Nat.reduceEqDiff, Nat.reduceDiv, Nat.reduceMod, Int.reduceToNat, Int.reduceLE, Int.reduceLT, Int.reduceBEq, Int.reduceBNe, Int.reduceNeg, Int.reduceAdd, Int.reduceSub, Int.reduceMul, reduceCtorEq, Tryd.ntmps42, Tryd.results42]
  (repeat ((repeat1' (first | simp -implicitDefEqProofs -dsimp only [go_sem, Nat.reduceSub, Nat.reduceAdd, Nat.reduceMul, Nat.reduceLT, Nat.reduceLeDiff, Nat.reduceEqDiff, Nat.reduceDiv, Nat.reduceMod, Int.reduceToNat, Int.reduceLE, Int.reduceLT, Int.reduceBEq, Int.reduceBNe, Int.reduceNeg, Int.reduceAdd, Int.reduceSub, Int.reduceMul, reduceCtorEq] | simp -implicitDefEqProofs -dsimp (disch := omega) only [wrap_i64])); repeat (with_reducible refine And.intro ?_ ?_; focus (first | omega | with_reducible rfl | (show drawOk _ = true; kernel_rfl) | (simp only [rows_length, rows_cell, List.length_append, List.length_cons, List.length_nil, List.all_append, List.all_cons, List.all_nil, isCell, Nat.mul_one, Nat.one_mul, Bool.and_self]; first | done | omega) | (simp only [ByteArray.size_append, ba_size, List.size_toArray, List.length_cons, List.length_nil]; omega)))))
  have pc1 := of_ok hB (hcb hc (by omega)) [⟨#[99, 111, 117, 110, 116]⟩, ⟨#[115, 111, 114, 116, 32, 109, 101, 114, 103, 101]⟩, ⟨#[120]⟩, ⟨#[115, 101, 108, 101, 99, 116, 32, 50]⟩, ⟨#[48, 32, 49]⟩] (by simp) (by simp); have hc1 := pickC_le (B := B) (n := (([⟨#[99, 111, 117, 110, 116]⟩, ⟨#[115, 111, 114, 116, 32, 109, 101, 114, 103, 101]⟩, ⟨#[120]⟩, ⟨#[115, 101, 108, 101, 99, 116, 32, 50]⟩, ⟨#[48, 32, 49]⟩] : List ByteArray).length : Int)) hc; have pvc1 := ofV_mem hB (K := [⟨#[99, 111, 117, 110, 116]⟩, ⟨#[115, 111, 114, 116, 32, 109, 101, 114, 103, 101]⟩, ⟨#[120]⟩, ⟨#[115, 101, 108, 101, 99, 116, 32, 50]⟩, ⟨#[48, 32, 49]⟩]) (by simp) hc.1; generalize ofV B [⟨#[99, 111, 117, 110, 116]⟩, ⟨#[115, 111, 114, 116, 32, 109, 101, 114, 103, 101]⟩, ⟨#[120]⟩, ⟨#[115, 101, 108, 101, 99, 116, 32, 50]⟩, ⟨#[48, 32, 49]⟩] c = vc1 at pc1 pvc1; generalize pickC B (([⟨#[99, 111, 117, 110, 116]⟩, ⟨#[115, 111, 114, 116, 32, 109, 101, 114, 103, 101]⟩, ⟨#[120]⟩, ⟨#[115, 101, 108, 101, 99, 116, 32, 50]⟩, ⟨#[48, 32, 49]⟩] : List ByteArray).length : Int) c = c1 at pc1 hc1; (first | refine callS.lend [0, 1] false pc1 (by decide) ⟨leO, leO, trivial⟩ (lendCur2 rfl rfl) (growCur2 B _ _) (.inl rfl) ?_ | refine callS.lend [0, 2] false pc1 (by decide) ⟨leO, leO, trivial⟩ (lendCur2 rfl rfl) (growCur2 B _ _) (.inl rfl) ?_ | refine callS.lend [0, 3] false pc1 (by decide) ⟨leO, leO, trivial⟩ (lendCur2 rfl rfl) (growCur2 B _ _) (.inl rfl) ?_ | refine callS.lend [0, 4] false pc1 (by decide) ⟨leO, leO, trivial⟩ (lendCur2 rfl rfl) (growCur2 B _ _) (.inl rfl) ?_ | refine callS.lend [0, 5] false pc1 (by decide) ⟨leO, leO, trivial⟩ (lendCur2 rfl rfl) (growCur2 B _ _) (.inl rfl) ?_ | refine callS.lend [0, 6] false pc1 (by decide) ⟨leO, leO, trivial⟩ (lendCur2 rfl rfl) (growCur2 B _ _) (.inl rfl) ?_ | refine callS.lend [0, 7] false pc1 (by decide) ⟨leO, leO, trivial⟩ (lendCur2 rfl rfl) (growCur2 B _ _) (.inl rfl) ?_ | refine callS.lend [0, 8] false pc1 (by decide) ⟨leO, leO, trivial⟩ (lendCur2 rfl rfl) (growCur2 B _ _) (.inl rfl) ?_)
  (repeat ((repeat1' (first | simp -implicitDefEqProofs -dsimp only [go_sem, Nat.reduceSub, Nat.reduceAdd, Nat.reduceMul, Nat.reduceLT, Nat.reduceLeDiff, Nat.reduceEqDiff, Nat.reduceDiv, Nat.reduceMod, Int.reduceToNat, Int.reduceLE, Int.reduceLT, Int.reduceBEq, Int.reduceBNe, Int.reduceNeg, Int.reduceAdd, Int.reduceSub, Int.reduceMul, reduceCtorEq, Cur.ren, map_ren_rows] | simp -implicitDefEqProofs -dsimp (disch := omega) only [wrap_i64])); repeat (with_reducible refine And.intro ?_ ?_; focus (first | omega | with_reducible rfl | (show drawOk _ = true; kernel_rfl) | (simp only [rows_length, rows_cell, List.length_append, List.length_cons, List.length_nil, List.all_append, List.all_cons, List.all_nil, isCell, Nat.mul_one, Nat.one_mul, Bool.and_self]; first | done | omega) | (simp only [ByteArray.size_append, ba_size, List.size_toArray, List.length_cons, List.length_nil]; omega)))))
  have pc2 := of_ok hB (hcb hc1 (by omega)) [⟨#[]⟩, ⟨#[51]⟩, ⟨#[63]⟩, ⟨#[97, 64, 98]⟩, ⟨#[51, 32, 49, 32, 50]⟩] (by simp) (by simp); have hc2 := pickC_le (B := B) (n := (([⟨#[]⟩, ⟨#[51]⟩, ⟨#[63]⟩, ⟨#[97, 64, 98]⟩, ⟨#[51, 32, 49, 32, 50]⟩] : List ByteArray).length : Int)) hc1; have pvc2 := ofV_mem hB (K := [⟨#[]⟩, ⟨#[51]⟩, ⟨#[63]⟩, ⟨#[97, 64, 98]⟩, ⟨#[51, 32, 49, 32, 50]⟩]) (by simp) hc1.1; generalize ofV B [⟨#[]⟩, ⟨#[51]⟩, ⟨#[63]⟩, ⟨#[97, 64, 98]⟩, ⟨#[51, 32, 49, 32, 50]⟩] c1 = vc2 at pc2 pvc2; generalize pickC B (([⟨#[]⟩, ⟨#[51]⟩, ⟨#[63]⟩, ⟨#[97, 64, 98]⟩, ⟨#[51, 32, 49, 32, 50]⟩] : List ByteArray).length : Int) c1 = c2 at pc2 hc2; (first | refine callS.lend [0, 1] false pc2 (by decide) ⟨leO, leO, trivial⟩ (lendCur2 rfl rfl) (growCur2 B _ _) (.inl rfl) ?_ | refine callS.lend [0, 2] false pc2 (by decide) ⟨leO, leO, trivial⟩ (lendCur2 rfl rfl) (growCur2 B _ _) (.inl rfl) ?_ | refine callS.lend [0, 3] false pc2 (by decide) ⟨leO, leO, trivial⟩ (lendCur2 rfl rfl) (growCur2 B _ _) (.inl rfl) ?_ | refine callS.lend [0, 4] false pc2 (by decide) ⟨leO, leO, trivial⟩ (lendCur2 rfl rfl) (growCur2 B _ _) (.inl rfl) ?_ | refine callS.lend [0, 5] false pc2 (by decide) ⟨leO, leO, trivial⟩ (lendCur2 rfl rfl) (growCur2 B _ _) (.inl rfl) ?_ | refine callS.lend [0, 6] false pc2 (by decide) ⟨leO, leO, trivial⟩ (lendCur2 rfl rfl) (growCur2 B _ _) (.inl rfl) ?_ | refine callS.lend [0, 7] false pc2 (by decide) ⟨leO, leO, trivial⟩ (lendCur2 rfl rfl) (growCur2 B _ _) (.inl rfl) ?_ | refine callS.lend [0, 8] false pc2 (by decide) ⟨leO, leO, trivial⟩ (lendCur2 rfl rfl) (growCur2 B _ _) (.inl rfl) ?_)
  (repeat ((repeat1' (first | simp -implicitDefEqProofs -dsimp only [go_sem, Nat.reduceSub, Nat.reduceAdd, Nat.reduceMul, Nat.reduceLT, Nat.reduceLeDiff, Nat.reduceEqDiff, Nat.reduceDiv, Nat.reduceMod, Int.reduceToNat, Int.reduceLE, Int.reduceLT, Int.reduceBEq, Int.reduceBNe, Int.reduceNeg, Int.reduceAdd, Int.reduceSub, Int.reduceMul, reduceCtorEq, Cur.ren, map_ren_rows] | simp -implicitDefEqProofs -dsimp (disch := omega) only [wrap_i64])); repeat (with_reducible refine And.intro ?_ ?_; focus (first | omega | with_reducible rfl | (show drawOk _ = true; kernel_rfl) | (simp only [rows_length, rows_cell, List.length_append, List.length_cons, List.length_nil, List.all_append, List.all_cons, List.all_nil, isCell, Nat.mul_one, Nat.one_mul, Bool.and_self]; first | done | omega) | (simp only [ByteArray.size_append, ba_size, List.size_toArray, List.length_cons, List.length_nil]; omega)))))
  have pc3 := pick_ok hB (hcb hc2 (by omega)) 24 (by omega); have hc3 := pickC_le (B := B) (n := 24) hc2; have pvc3 := pickV_bd hB (n := 24) hc2.1; generalize pickV B 24 c2 = vc3 at pc3 pvc3; generalize pickC B 24 c2 = c3 at pc3 hc3; refine callS.lend [0] false pc3 (by decide) ⟨leO, leO, trivial⟩ (lendCur rfl) (growCur B _ _) (.inl rfl) ?_
  (repeat ((repeat1' (first | simp -implicitDefEqProofs -dsimp only [go_sem, Nat.reduceSub, Nat.reduceAdd, Nat.reduceMul, Nat.reduceLT, Nat.reduceLeDiff, Nat.reduceEqDiff, Nat.reduceDiv, Nat.reduceMod, Int.reduceToNat, Int.reduceLE, Int.reduceLT, Int.reduceBEq, Int.reduceBNe, Int.reduceNeg, Int.reduceAdd, Int.reduceSub, Int.reduceMul, reduceCtorEq, Cur.ren, map_ren_rows] | simp -implicitDefEqProofs -dsimp (disch := omega) only [wrap_i64])); repeat (with_reducible refine And.intro ?_ ?_; focus (first | omega | with_reducible rfl | (show drawOk _ = true; kernel_rfl) | (simp only [rows_length, rows_cell, List.length_append, List.length_cons, List.length_nil, List.all_append, List.all_cons, List.all_nil, isCell, Nat.mul_one, Nat.one_mul, Bool.and_self]; first | done | omega) | (simp only [ByteArray.size_append, ba_size, List.size_toArray, List.length_cons, List.length_nil]; omega)))))
  have hx := small_of pvc1 (by rfl)
  have hy := small_of pvc2 (by rfl)
  refine condT.split (fun h1 => ?_) (fun h1 => ?_)
  · (repeat ((repeat1' (first | simp -implicitDefEqProofs -dsimp only [go_sem, Nat.reduceSub, Nat.reduceAdd, Nat.reduceMul, Nat.reduceLT, Nat.reduceLeDiff, Nat.reduceEqDiff, Nat.reduceDiv, Nat.reduceMod, Int.reduceToNat, Int.reduceLE, Int.reduceLT, Int.reduceBEq, Int.reduceBNe, Int.reduceNeg, Int.reduceAdd, Int.reduceSub, Int.reduceMul, reduceCtorEq, h1] | simp -implicitDefEqProofs -dsimp (disch := omega) only [wrap_i64])); repeat (with_reducible refine And.intro ?_ ?_; focus (first | omega | with_reducible rfl | (show drawOk _ = true; kernel_rfl) | (simp only [rows_length, rows_cell, List.length_append, List.length_cons, List.length_nil, List.all_append, List.all_cons, List.all_nil, isCell, Nat.mul_one, Nat.one_mul, Bool.and_self]; first | done | omega) | (simp only [ByteArray.size_append, ba_size, List.size_toArray, List.length_cons, List.length_nil]; omega)))))
    have hz : bytesL (List.take 3 (zrow 3 [V.int .u8 0])) = some [0, 0, 0] := rfl
    rw [hz]
    (repeat ((repeat1' (first | simp -implicitDefEqProofs -dsimp only [go_sem, Nat.reduceSub, Nat.reduceAdd, Nat.reduceMul, Nat.reduceLT, Nat.reduceLeDiff, Nat.reduceEqDiff, Nat.reduceDiv, Nat.reduceMod, Int.reduceToNat, Int.reduceLE, Int.reduceLT, Int.reduceBEq, Int.reduceBNe, Int.reduceNeg, Int.reduceAdd, Int.reduceSub, Int.reduceMul, reduceCtorEq] | simp -implicitDefEqProofs -dsimp (disch := omega) only [wrap_i64])); repeat (with_reducible refine And.intro ?_ ?_; focus (first | omega | with_reducible rfl | (show drawOk _ = true; kernel_rfl) | (simp only [rows_length, rows_cell, List.length_append, List.length_cons, List.length_nil, List.all_append, List.all_cons, List.all_nil, isCell, Nat.mul_one, Nat.one_mul, Bool.and_self]; first | done | omega) | (simp only [ByteArray.size_append, ba_size, List.size_toArray, List.length_cons, List.length_nil]; omega)))))
    have pc4 := of_ok hB (hcb hc3 (by omega)) [⟨#[]⟩, ⟨#[97, 64, 98]⟩, ⟨#[97, 35]⟩, ⟨#[10]⟩, strOfNums [0, 0, 0]] (by simp) (by simp); have hc4 := pickC_le (B := B) (n := (([⟨#[]⟩, ⟨#[97, 64, 98]⟩, ⟨#[97, 35]⟩, ⟨#[10]⟩, strOfNums [0, 0, 0]] : List ByteArray).length : Int)) hc3; have pvc4 := ofV_mem hB (K := [⟨#[]⟩, ⟨#[97, 64, 98]⟩, ⟨#[97, 35]⟩, ⟨#[10]⟩, strOfNums [0, 0, 0]]) (by simp) hc3.1; generalize ofV B [⟨#[]⟩, ⟨#[97, 64, 98]⟩, ⟨#[97, 35]⟩, ⟨#[10]⟩, strOfNums [0, 0, 0]] c3 = vc4 at pc4 pvc4; generalize pickC B (([⟨#[]⟩, ⟨#[97, 64, 98]⟩, ⟨#[97, 35]⟩, ⟨#[10]⟩, strOfNums [0, 0, 0]] : List ByteArray).length : Int) c3 = c4 at pc4 hc4; (first | refine callS.lend [0, 1] false pc4 (by decide) ⟨leO, leO, trivial⟩ (lendCur2 rfl rfl) (growCur2 B _ _) (.inl rfl) ?_ | refine callS.lend [0, 2] false pc4 (by decide) ⟨leO, leO, trivial⟩ (lendCur2 rfl rfl) (growCur2 B _ _) (.inl rfl) ?_ | refine callS.lend [0, 3] false pc4 (by decide) ⟨leO, leO, trivial⟩ (lendCur2 rfl rfl) (growCur2 B _ _) (.inl rfl) ?_ | refine callS.lend [0, 4] false pc4 (by decide) ⟨leO, leO, trivial⟩ (lendCur2 rfl rfl) (growCur2 B _ _) (.inl rfl) ?_ | refine callS.lend [0, 5] false pc4 (by decide) ⟨leO, leO, trivial⟩ (lendCur2 rfl rfl) (growCur2 B _ _) (.inl rfl) ?_ | refine callS.lend [0, 6] false pc4 (by decide) ⟨leO, leO, trivial⟩ (lendCur2 rfl rfl) (growCur2 B _ _) (.inl rfl) ?_ | refine callS.lend [0, 7] false pc4 (by decide) ⟨leO, leO, trivial⟩ (lendCur2 rfl rfl) (growCur2 B _ _) (.inl rfl) ?_ | refine callS.lend [0, 8] false pc4 (by decide) ⟨leO, leO, trivial⟩ (lendCur2 rfl rfl) (growCur2 B _ _) (.inl rfl) ?_)
    (repeat ((repeat1' (first | simp -implicitDefEqProofs -dsimp only [go_sem, Nat.reduceSub, Nat.reduceAdd, Nat.reduceMul, Nat.reduceLT, Nat.reduceLeDiff, Nat.reduceEqDiff, Nat.reduceDiv, Nat.reduceMod, Int.reduceToNat, Int.reduceLE, Int.reduceLT, Int.reduceBEq, Int.reduceBNe, Int.reduceNeg, Int.reduceAdd, Int.reduceSub, Int.reduceMul, reduceCtorEq, Cur.ren, map_ren_rows] | simp -implicitDefEqProofs -dsimp (disch := omega) only [wrap_i64])); repeat (with_reducible refine And.intro ?_ ?_; focus (first | omega | with_reducible rfl | (show drawOk _ = true; kernel_rfl) | (simp only [rows_length, rows_cell, List.length_append, List.length_cons, List.length_nil, List.all_append, List.all_cons, List.all_nil, isCell, Nat.mul_one, Nat.one_mul, Bool.and_self]; first | done | omega) | (simp only [ByteArray.size_append, ba_size, List.size_toArray, List.length_cons, List.length_nil]; omega)))))
    exact rec_fin rfl (small_of pvc4 (by decide)) hy (lmono' hc4 (by simp only [List.length_cons, List.length_nil] at *; omega))
  · (repeat ((repeat1' (first | simp -implicitDefEqProofs -dsimp only [go_sem, Nat.reduceSub, Nat.reduceAdd, Nat.reduceMul, Nat.reduceLT, Nat.reduceLeDiff, Nat.reduceEqDiff, Nat.reduceDiv, Nat.reduceMod, Int.reduceToNat, Int.reduceLE, Int.reduceLT, Int.reduceBEq, Int.reduceBNe, Int.reduceNeg, Int.reduceAdd, Int.reduceSub, Int.reduceMul, reduceCtorEq, h1] | simp -implicitDefEqProofs -dsimp (disch := omega) only [wrap_i64])); repeat (with_reducible refine And.intro ?_ ?_; focus (first | omega | with_reducible rfl | (show drawOk _ = true; kernel_rfl) | (simp only [rows_length, rows_cell, List.length_append, List.length_cons, List.length_nil, List.all_append, List.all_cons, List.all_nil, isCell, Nat.mul_one, Nat.one_mul, Bool.and_self]; first | done | omega) | (simp only [ByteArray.size_append, ba_size, List.size_toArray, List.length_cons, List.length_nil]; omega)))))
    refine condT.split (fun h2 => ?_) (fun h2 => ?_)
    · (repeat ((repeat1' (first | simp -implicitDefEqProofs -dsimp only [go_sem, Nat.reduceSub, Nat.reduceAdd, Nat.reduceMul, Nat.reduceLT, Nat.reduceLeDiff, Nat.reduceEqDiff, Nat.reduceDiv, Nat.reduceMod, Int.reduceToNat, Int.reduceLE, Int.reduceLT, Int.reduceBEq, Int.reduceBNe, Int.reduceNeg, Int.reduceAdd, Int.reduceSub, Int.reduceMul, reduceCtorEq, h2] | simp -implicitDefEqProofs -dsimp (disch := omega) only [wrap_i64])); repeat (with_reducible refine And.intro ?_ ?_; focus (first | omega | with_reducible rfl | (show drawOk _ = true; kernel_rfl) | (simp only [rows_length, rows_cell, List.length_append, List.length_cons, List.length_nil, List.all_append, List.all_cons, List.all_nil, isCell, Nat.mul_one, Nat.one_mul, Bool.and_self]; first | done | omega) | (simp only [ByteArray.size_append, ba_size, List.size_toArray, List.length_cons, List.length_nil]; omega)))))
      have pc4 := of_ok hB (hcb hc3 (by omega)) [⟨#[35]⟩, ⟨#[10]⟩, ⟨#[127]⟩] (by simp) (by simp); have hc4 := pickC_le (B := B) (n := (([⟨#[35]⟩, ⟨#[10]⟩, ⟨#[127]⟩] : List ByteArray).length : Int)) hc3; have pvc4 := ofV_mem hB (K := [⟨#[35]⟩, ⟨#[10]⟩, ⟨#[127]⟩]) (by simp) hc3.1; generalize ofV B [⟨#[35]⟩, ⟨#[10]⟩, ⟨#[127]⟩] c3 = vc4 at pc4 pvc4; generalize pickC B (([⟨#[35]⟩, ⟨#[10]⟩, ⟨#[127]⟩] : List ByteArray).length : Int) c3 = c4 at pc4 hc4; (first | refine callS.lend [0, 1] false pc4 (by decide) ⟨leO, leO, trivial⟩ (lendCur2 rfl rfl) (growCur2 B _ _) (.inl rfl) ?_ | refine callS.lend [0, 2] false pc4 (by decide) ⟨leO, leO, trivial⟩ (lendCur2 rfl rfl) (growCur2 B _ _) (.inl rfl) ?_ | refine callS.lend [0, 3] false pc4 (by decide) ⟨leO, leO, trivial⟩ (lendCur2 rfl rfl) (growCur2 B _ _) (.inl rfl) ?_ | refine callS.lend [0, 4] false pc4 (by decide) ⟨leO, leO, trivial⟩ (lendCur2 rfl rfl) (growCur2 B _ _) (.inl rfl) ?_ | refine callS.lend [0, 5] false pc4 (by decide) ⟨leO, leO, trivial⟩ (lendCur2 rfl rfl) (growCur2 B _ _) (.inl rfl) ?_ | refine callS.lend [0, 6] false pc4 (by decide) ⟨leO, leO, trivial⟩ (lendCur2 rfl rfl) (growCur2 B _ _) (.inl rfl) ?_ | refine callS.lend [0, 7] false pc4 (by decide) ⟨leO, leO, trivial⟩ (lendCur2 rfl rfl) (growCur2 B _ _) (.inl rfl) ?_ | refine callS.lend [0, 8] false pc4 (by decide) ⟨leO, leO, trivial⟩ (lendCur2 rfl rfl) (growCur2 B _ _) (.inl rfl) ?_)
      (repeat ((repeat1' (first | simp -implicitDefEqProofs -dsimp only [go_sem, Nat.reduceSub, Nat.reduceAdd, Nat.reduceMul, Nat.reduceLT, Nat.reduceLeDiff, Nat.reduceEqDiff, Nat.reduceDiv, Nat.reduceMod, Int.reduceToNat, Int.reduceLE, Int.reduceLT, Int.reduceBEq, Int.reduceBNe, Int.reduceNeg, Int.reduceAdd, Int.reduceSub, Int.reduceMul, reduceCtorEq, Cur.ren, map_ren_rows] | simp -implicitDefEqProofs -dsimp (disch := omega) only [wrap_i64])); repeat (with_reducible refine And.intro ?_ ?_; focus (first | omega | with_reducible rfl | (show drawOk _ = true; kernel_rfl) | (simp only [rows_length, rows_cell, List.length_append, List.length_cons, List.length_nil, List.all_append, List.all_cons, List.all_nil, isCell, Nat.mul_one, Nat.one_mul, Bool.and_self]; first | done | omega) | (simp only [ByteArray.size_append, ba_size, List.size_toArray, List.length_cons, List.length_nil]; omega)))))
      exact rec_fin rfl hx (small_of pvc4 (by rfl)) (lmono' hc4 (by simp only [List.length_cons, List.length_nil] at *; omega))
    · (repeat ((repeat1' (first | simp -implicitDefEqProofs -dsimp only [go_sem, Nat.reduceSub, Nat.reduceAdd, Nat.reduceMul, Nat.reduceLT, Nat.reduceLeDiff, Nat.reduceEqDiff, Nat.reduceDiv, Nat.reduceMod, Int.reduceToNat, Int.reduceLE, Int.reduceLT, Int.reduceBEq, Int.reduceBNe, Int.reduceNeg, Int.reduceAdd, Int.reduceSub, Int.reduceMul, reduceCtorEq, h2] | simp -implicitDefEqProofs -dsimp (disch := omega) only [wrap_i64])); repeat (with_reducible refine And.intro ?_ ?_; focus (first | omega | with_reducible rfl | (show drawOk _ = true; kernel_rfl) | (simp only [rows_length, rows_cell, List.length_append, List.length_cons, List.length_nil, List.all_append, List.all_cons, List.all_nil, isCell, Nat.mul_one, Nat.one_mul, Bool.and_self]; first | done | omega) | (simp only [ByteArray.size_append, ba_size, List.size_toArray, List.length_cons, List.length_nil]; omega)))))
      exact rec_fin rfl hx hy (lmono' hc3 (by omega))
def logP (B : List Int) (b : Nat) (k : Int) (r : V) (hout : Hp) : Prop := ∃ (l : Log) (c : Cur), l.Durable.size ≤ b ∧ l.Pending.size ≤ b ∧ i64R l.Count ∧ c.le k ∧ r = l.v ∧ hout = [some (c.cs B)]
theorem log_fin {B : List Int} {b : Nat} {k : Int} {h : Hp} {x y : ByteArray} {n : Int} {c : Cur} (h0 : h[0]? = some (some (c.cs B))) (hx : x.size ≤ b) (hy : y.size ≤ b) (hn : i64R n) (hc : c.le k) : RelR 1 (.agg [.str x, .str y, .int .i64 n]) h (logP B b k) := by
  refine ⟨_, _, ⟨⟨x, y, n⟩, c, hx, hy, hn, hc, rfl, rfl⟩, WeakR.pick [0] (by decide) (fun j hj => by cases j <;> simp_all) (.inl rfl) ?_⟩
  simp only [pickH, List.map_cons, List.map_nil, pickB, h0, Cur.ren]
theorem logB_size {l : Log} (h : logB l = true) : l.Durable.size + l.Pending.size ≤ 30000 := by
  simp only [logB, Bool.and_eq_true, decide_eq_true_eq] at h
  exact h.1
theorem appR_cases (l : Log) (e : LogRecord) (hd : l.Durable.size ≤ 40000) (hp : l.Pending.size ≤ 40000) (hn : i64R l.Count) : ∃ (l' : Log) (n : Int), appR l e = [l'.v, .int .i64 n] ∧ l'.Durable.size ≤ 40000 ∧ l'.Pending.size ≤ 40000 ∧ i64R l'.Count := by
  unfold appR
  split
  · rename_i h
    split
    · exact ⟨l, 2, rfl, hd, hp, hn⟩
    · rename_i h2
      have h3 := logB_size h.1
      have h4 := logB_count h.1
      have hk : 0 ≤ l.Count ∧ l.Count ≤ 59 := by omega
      have z1 := recText_size hk h.2
      have z2 := sealS_size (recText l.Count e)
      have z3 : (recLine l.Count e).size = (sealS (recText l.Count e)).size + 1 := by rw [recLine, ByteArray.size_append]; rfl
      refine ⟨⟨l.Durable, l.Pending ++ recLine l.Count e, l.Count + 1⟩, 0, rfl, hd, ?_, ⟨by simp only []; omega, by simp only []; omega⟩⟩
      simp only [ByteArray.size_append]
      omega
  · exact ⟨l, 1, rfl, hd, hp, hn⟩
theorem syncR_cases (l : Log) (hd : l.Durable.size ≤ 40000) (hp : l.Pending.size ≤ 40000) (hn : i64R l.Count) : ∃ (l' : Log) (b : Bool), syncR l = [l'.v, .bool b] ∧ l'.Durable.size ≤ 40000 ∧ l'.Pending.size ≤ 40000 ∧ i64R l'.Count := by
  unfold syncR
  split
  · rename_i h
    have h3 := logB_size h
    exact ⟨⟨l.Durable ++ l.Pending, ByteArray.empty, l.Count⟩, true, rfl, by simp only [ByteArray.size_append]; omega, by simp, hn⟩
  · exact ⟨⟨ByteArray.empty, ByteArray.empty, 0⟩, false, rfl, by simp, by simp, by simp [i64R]⟩
theorem log_ok {B : List Int} (hB : CB B) {k : Int} (hk : k ≤ 100000) {c : Cur} (hc : c.le k) : CtrP Tryd.prog 47 [.ptr 0 0] [some (c.cs B)] (logP B 40000 (k + 1000)) := by
  have hcb : ∀ {c' : Cur} {k' : Int}, c'.le k' → k' ≤ 4000000 → c'.le 4611686018427387903 := fun h h' => ⟨h.1, by have := h.2; omega⟩
  refine CtrP.intro Tryd.mixed Tryd.func47 rfl Tryd.okF47 ?_
  simp -implicitDefEqProofs -dsimp only [go_sem, Nat.reduceSub, Nat.reduceAdd, Nat.reduceMul, Nat.reduceLT, Nat.reduceLeDiff, Nat.reduceEqDiff, Nat.reduceDiv, Nat.reduceMod, Int.reduceToNat, Int.reduceLE, Int.reduceLT, Int.reduceBEq, Int.reduceBNe, Int.reduceNeg, Int.reduceAdd, Int.reduceSub, Int.reduceMul, reduceCtorEq, Tryd.ntmps47, Tryd.results47]
  (repeat ((repeat1' (first | simp -implicitDefEqProofs -dsimp only [go_sem, Nat.reduceSub, Nat.reduceAdd, Nat.reduceMul, Nat.reduceLT, Nat.reduceLeDiff, Nat.reduceEqDiff, Nat.reduceDiv, Nat.reduceMod, Int.reduceToNat, Int.reduceLE, Int.reduceLT, Int.reduceBEq, Int.reduceBNe, Int.reduceNeg, Int.reduceAdd, Int.reduceSub, Int.reduceMul, reduceCtorEq] | simp -implicitDefEqProofs -dsimp (disch := omega) only [wrap_i64])); repeat (with_reducible refine And.intro ?_ ?_; focus (first | omega | with_reducible rfl | (show drawOk _ = true; kernel_rfl) | (simp only [rows_length, rows_cell, List.length_append, List.length_cons, List.length_nil, List.all_append, List.all_cons, List.all_nil, isCell, Nat.mul_one, Nat.one_mul, Bool.and_self]; first | done | omega) | (simp only [ByteArray.size_append, ba_size, List.size_toArray, List.length_cons, List.length_nil]; omega)))))
  have pc1 := pick_ok hB (hcb hc (by omega)) 7 (by omega); have hc1 := pickC_le (B := B) (n := 7) hc; have pvc1 := pickV_bd hB (n := 7) hc.1; generalize pickV B 7 c = vc1 at pc1 pvc1; generalize pickC B 7 c = c1 at pc1 hc1; refine callS.lend [0] false pc1 (by decide) ⟨leO, leO, trivial⟩ (lendCur rfl) (growCur B _ _) (.inl rfl) ?_
  (repeat ((repeat1' (first | simp -implicitDefEqProofs -dsimp only [go_sem, Nat.reduceSub, Nat.reduceAdd, Nat.reduceMul, Nat.reduceLT, Nat.reduceLeDiff, Nat.reduceEqDiff, Nat.reduceDiv, Nat.reduceMod, Int.reduceToNat, Int.reduceLE, Int.reduceLT, Int.reduceBEq, Int.reduceBNe, Int.reduceNeg, Int.reduceAdd, Int.reduceSub, Int.reduceMul, reduceCtorEq, Cur.ren] | simp -implicitDefEqProofs -dsimp (disch := omega) only [wrap_i64])); repeat (with_reducible refine And.intro ?_ ?_; focus (first | omega | with_reducible rfl | (show drawOk _ = true; kernel_rfl) | (simp only [rows_length, rows_cell, List.length_append, List.length_cons, List.length_nil, List.all_append, List.all_cons, List.all_nil, isCell, Nat.mul_one, Nat.one_mul, Bool.and_self]; first | done | omega) | (simp only [ByteArray.size_append, ba_size, List.size_toArray, List.length_cons, List.length_nil]; omega)))))
  obtain ⟨n0, hn0⟩ : ∃ n : Nat, vc1 = n := ⟨vc1.toNat, by omega⟩
  subst hn0
  refine LoopT.intro (fun x : Nat × Log × Cur => x.1 ≤ 7 ∧ x.2.1.Durable.size ≤ 40000 ∧ x.2.1.Pending.size ≤ 40000 ∧ i64R x.2.1.Count ∧ x.2.2.le (k + 2 + 30 * (7 - (x.1 : Int)))) (fun x => ⟨[.ptr 0 0, .undef, .ptr 1 0, .ptr 2 0, .int .i64 x.1, .undef, .undef, .undef, .undef, .undef, .undef, .undef, .undef, .undef, .undef, .undef, .undef, .undef, .undef, .undef, .undef, .undef, .undef, .undef, .undef, .undef, .undef], [some (x.2.2.cs B), some Log.zs, some x.2.1.cs], 1⟩) (fun x => x.1) (n0, ⟨ByteArray.empty, ByteArray.empty, 0⟩, c1) ⟨by simp only []; omega, by simp, by simp, by simp [i64R], lmono' hc1 (by simp only []; omega)⟩ ?_ (fun x hx => ?_)
  · refine Weak.cut (3) (by simp) (by simp) ?_ ?_
    · simp [LeC, LeV, ren, cutF]
    · simp [cutH, cutB, Cur.ren, ren, Log.zs, Log.cs]
  obtain ⟨n, l, c2⟩ := x
  obtain ⟨x1, x2, x3, x4, hc2⟩ := hx
  dsimp only at x1 x2 x3 x4 hc2
  simp -implicitDefEqProofs -dsimp only [go_sem, Nat.reduceSub, Nat.reduceAdd, Nat.reduceMul, Nat.reduceLT, Nat.reduceLeDiff, Nat.reduceEqDiff, Nat.reduceDiv, Nat.reduceMod, Int.reduceToNat, Int.reduceLE, Int.reduceLT, Int.reduceBEq, Int.reduceBNe, Int.reduceNeg, Int.reduceAdd, Int.reduceSub, Int.reduceMul, reduceCtorEq]
  refine condT.split (fun h1 => ?_) (fun h1 => ?_)
  · have hn : 0 < n := by have := of_decide_eq_true h1; omega
    (repeat ((repeat1' (first | simp -implicitDefEqProofs -dsimp only [go_sem, Nat.reduceSub, Nat.reduceAdd, Nat.reduceMul, Nat.reduceLT, Nat.reduceLeDiff, Nat.reduceEqDiff, Nat.reduceDiv, Nat.reduceMod, Int.reduceToNat, Int.reduceLE, Int.reduceLT, Int.reduceBEq, Int.reduceBNe, Int.reduceNeg, Int.reduceAdd, Int.reduceSub, Int.reduceMul, reduceCtorEq, h1] | simp -implicitDefEqProofs -dsimp (disch := omega) only [wrap_i64])); repeat (with_reducible refine And.intro ?_ ?_; focus (first | omega | with_reducible rfl | (show drawOk _ = true; kernel_rfl) | (simp only [rows_length, rows_cell, List.length_append, List.length_cons, List.length_nil, List.all_append, List.all_cons, List.all_nil, isCell, Nat.mul_one, Nat.one_mul, Bool.and_self]; first | done | omega) | (simp only [ByteArray.size_append, ba_size, List.size_toArray, List.length_cons, List.length_nil]; omega)))))
    refine clT.tree (fun s2 => ∃ (l' : Log) (c4 : Cur), l'.Durable.size ≤ 40000 ∧ l'.Pending.size ≤ 40000 ∧ i64R l'.Count ∧ c4.le (k + 2 + 30 * (7 - (n : Int)) + 20) ∧ s2 = ⟨[.ptr 0 0, .undef, .ptr 1 0, .ptr 2 0, .int .i64 n, .undef, .undef, .undef, .undef, .undef, .undef, .undef, .undef, .undef, .undef, .undef, .undef, .undef, .undef, .undef, .undef, .undef, .undef, .undef, .undef, .undef, .undef], [some (c4.cs B), some Log.zs, some l'.cs], 1⟩) (.take 1 (.alt 0 (.alt 2 (.alt 3 (.take 4 (.take 5 (.take 6 (.alt 7 .done .stop)))) .stop) .stop) (.alt 2 (.alt 0 (.alt 3 (.take 4 (.take 5 (.take 6 (.alt 7 .done .stop)))) .stop) .stop) .stop))) (by kernel_rfl) (fun s2 hs2 => ?_) ?_
    · obtain ⟨l', c4, y1, y2, y3, hc4, rfl⟩ := hs2
      (repeat ((repeat1' (first | simp -implicitDefEqProofs -dsimp only [go_sem, Nat.reduceSub, Nat.reduceAdd, Nat.reduceMul, Nat.reduceLT, Nat.reduceLeDiff, Nat.reduceEqDiff, Nat.reduceDiv, Nat.reduceMod, Int.reduceToNat, Int.reduceLE, Int.reduceLT, Int.reduceBEq, Int.reduceBNe, Int.reduceNeg, Int.reduceAdd, Int.reduceSub, Int.reduceMul, reduceCtorEq] | simp -implicitDefEqProofs -dsimp (disch := omega) only [wrap_i64])); repeat (with_reducible refine And.intro ?_ ?_; focus (first | omega | with_reducible rfl | (show drawOk _ = true; kernel_rfl) | (simp only [rows_length, rows_cell, List.length_append, List.length_cons, List.length_nil, List.all_append, List.all_cons, List.all_nil, isCell, Nat.mul_one, Nat.one_mul, Bool.and_self]; first | done | omega) | (simp only [ByteArray.size_append, ba_size, List.size_toArray, List.length_cons, List.length_nil]; omega)))))
      have pc5 := one_ok hB (hcb hc4 (by omega)) 4 (by omega); have hc5 := pickC_le (B := B) (n := 4) hc4; generalize oneV B 4 c4 = vc5 at pc5; generalize pickC B 4 c4 = c5 at pc5 hc5; refine callS.lend [0] false pc5 (by decide) ⟨leO, leO, trivial⟩ (lendCur rfl) (growCur B _ _) (.inl rfl) ?_
      (repeat ((repeat1' (first | simp -implicitDefEqProofs -dsimp only [go_sem, Nat.reduceSub, Nat.reduceAdd, Nat.reduceMul, Nat.reduceLT, Nat.reduceLeDiff, Nat.reduceEqDiff, Nat.reduceDiv, Nat.reduceMod, Int.reduceToNat, Int.reduceLE, Int.reduceLT, Int.reduceBEq, Int.reduceBNe, Int.reduceNeg, Int.reduceAdd, Int.reduceSub, Int.reduceMul, reduceCtorEq, Cur.ren, Log.zs, Log.cs] | simp -implicitDefEqProofs -dsimp (disch := omega) only [wrap_i64])); repeat (with_reducible refine And.intro ?_ ?_; focus (first | omega | with_reducible rfl | (show drawOk _ = true; kernel_rfl) | (simp only [rows_length, rows_cell, List.length_append, List.length_cons, List.length_nil, List.all_append, List.all_cons, List.all_nil, isCell, Nat.mul_one, Nat.one_mul, Bool.and_self]; first | done | omega) | (simp only [ByteArray.size_append, ba_size, List.size_toArray, List.length_cons, List.length_nil]; omega)))))
      have hn1 : ((n - 1 : Nat) : Int) = (n : Int) - 1 := by omega
      refine condT.split (fun h2 => ?_) (fun h2 => ?_)
      · (repeat ((repeat1' (first | simp -implicitDefEqProofs -dsimp only [go_sem, Nat.reduceSub, Nat.reduceAdd, Nat.reduceMul, Nat.reduceLT, Nat.reduceLeDiff, Nat.reduceEqDiff, Nat.reduceDiv, Nat.reduceMod, Int.reduceToNat, Int.reduceLE, Int.reduceLT, Int.reduceBEq, Int.reduceBNe, Int.reduceNeg, Int.reduceAdd, Int.reduceSub, Int.reduceMul, reduceCtorEq, h2, Log.cs] | simp -implicitDefEqProofs -dsimp (disch := omega) only [wrap_i64])); repeat (with_reducible refine And.intro ?_ ?_; focus (first | omega | with_reducible rfl | (show drawOk _ = true; kernel_rfl) | (simp only [rows_length, rows_cell, List.length_append, List.length_cons, List.length_nil, List.all_append, List.all_cons, List.all_nil, isCell, Nat.mul_one, Nat.one_mul, Bool.and_self]; first | done | omega) | (simp only [ByteArray.size_append, ba_size, List.size_toArray, List.length_cons, List.length_nil]; omega)))))
        obtain ⟨l2, b2, e2, z1, z2, z3⟩ := syncR_cases l' y1 y2 y3
        have hs := sSyncLog_ok l' (by omega) (by omega)
        rw [e2] at hs
        (first | refine callT.at (hs) ⟨leA, trivial⟩ ?_ | refine callS.at (hs) ⟨leA, trivial⟩ ?_)
        (repeat ((repeat1' (first | simp -implicitDefEqProofs -dsimp only [go_sem, Nat.reduceSub, Nat.reduceAdd, Nat.reduceMul, Nat.reduceLT, Nat.reduceLeDiff, Nat.reduceEqDiff, Nat.reduceDiv, Nat.reduceMod, Int.reduceToNat, Int.reduceLE, Int.reduceLT, Int.reduceBEq, Int.reduceBNe, Int.reduceNeg, Int.reduceAdd, Int.reduceSub, Int.reduceMul, reduceCtorEq, Log.v] | simp -implicitDefEqProofs -dsimp (disch := omega) only [wrap_i64])); repeat (with_reducible refine And.intro ?_ ?_; focus (first | omega | with_reducible rfl | (show drawOk _ = true; kernel_rfl) | (simp only [rows_length, rows_cell, List.length_append, List.length_cons, List.length_nil, List.all_append, List.all_cons, List.all_nil, isCell, Nat.mul_one, Nat.one_mul, Bool.and_self]; first | done | omega) | (simp only [ByteArray.size_append, ba_size, List.size_toArray, List.length_cons, List.length_nil]; omega)))))
        refine ⟨(n - 1, l2, c5), ⟨by simp only []; omega, z1, z2, z3, lmono' hc5 (by simp only []; omega)⟩, ?_, by simp only []; omega⟩
        refine Weak.cut (3) (by simp) (by simp) ?_ ?_
        · simp [LeC, LeV, ren, cutF, hn1]
        · simp [cutH, cutB, Cur.ren, ren, Log.zs, Log.cs]
      · (repeat ((repeat1' (first | simp -implicitDefEqProofs -dsimp only [go_sem, Nat.reduceSub, Nat.reduceAdd, Nat.reduceMul, Nat.reduceLT, Nat.reduceLeDiff, Nat.reduceEqDiff, Nat.reduceDiv, Nat.reduceMod, Int.reduceToNat, Int.reduceLE, Int.reduceLT, Int.reduceBEq, Int.reduceBNe, Int.reduceNeg, Int.reduceAdd, Int.reduceSub, Int.reduceMul, reduceCtorEq, h2] | simp -implicitDefEqProofs -dsimp (disch := omega) only [wrap_i64])); repeat (with_reducible refine And.intro ?_ ?_; focus (first | omega | with_reducible rfl | (show drawOk _ = true; kernel_rfl) | (simp only [rows_length, rows_cell, List.length_append, List.length_cons, List.length_nil, List.all_append, List.all_cons, List.all_nil, isCell, Nat.mul_one, Nat.one_mul, Bool.and_self]; first | done | omega) | (simp only [ByteArray.size_append, ba_size, List.size_toArray, List.length_cons, List.length_nil]; omega)))))
        refine ⟨(n - 1, l', c5), ⟨by simp only []; omega, y1, y2, y3, lmono' hc5 (by simp only []; omega)⟩, ?_, by simp only []; omega⟩
        refine Weak.cut (3) (by simp) (by simp) ?_ ?_
        · simp [LeC, LeV, ren, cutF, hn1]
        · simp [cutH, cutB, Cur.ren, ren, Log.zs, Log.cs]
    · (repeat ((repeat1' (first | simp -implicitDefEqProofs -dsimp only [go_sem, Nat.reduceSub, Nat.reduceAdd, Nat.reduceMul, Nat.reduceLT, Nat.reduceLeDiff, Nat.reduceEqDiff, Nat.reduceDiv, Nat.reduceMod, Int.reduceToNat, Int.reduceLE, Int.reduceLT, Int.reduceBEq, Int.reduceBNe, Int.reduceNeg, Int.reduceAdd, Int.reduceSub, Int.reduceMul, reduceCtorEq, Log.cs] | simp -implicitDefEqProofs -dsimp (disch := omega) only [wrap_i64])); repeat (with_reducible refine And.intro ?_ ?_; focus (first | omega | with_reducible rfl | (show drawOk _ = true; kernel_rfl) | (simp only [rows_length, rows_cell, List.length_append, List.length_cons, List.length_nil, List.all_append, List.all_cons, List.all_nil, isCell, Nat.mul_one, Nat.one_mul, Bool.and_self]; first | done | omega) | (simp only [ByteArray.size_append, ba_size, List.size_toArray, List.length_cons, List.length_nil]; omega)))))
      repeat' (first | (refine callS.rel [0] (logRecord_ok hB (by omega) hc2) (by decide) ⟨leO, trivial⟩ (lendCur rfl) rfl (fun r hout hΦ => ?_); obtain ⟨e, c4, he1, he2, hc4, rfl, rfl⟩ := hΦ; refine ⟨⟨⟨rfl, rfl⟩, trivial⟩, ?_⟩; obtain ⟨l2, n2, e2, z1, z2, z3⟩ := appR_cases l e x2 x3 x4; have ha := sAppendRecord_ok l e (by omega) (by omega) (by omega) (by omega); rw [e2] at ha; (repeat ((repeat1' (first | simp -implicitDefEqProofs -dsimp only [go_sem, Nat.reduceSub, Nat.reduceAdd, Nat.reduceMul, Nat.reduceLT, Nat.reduceLeDiff, Nat.reduceEqDiff, Nat.reduceDiv, Nat.reduceMod, Int.reduceToNat, Int.reduceLE, Int.reduceLT, Int.reduceBEq, Int.reduceBNe, Int.reduceNeg, Int.reduceAdd, Int.reduceSub, Int.reduceMul, reduceCtorEq, Cur.ren, Log.cs, LogRecord.v, Log.zs] | simp -implicitDefEqProofs -dsimp (disch := omega) only [wrap_i64])); repeat (with_reducible refine And.intro ?_ ?_; focus (first | omega | with_reducible rfl | (show drawOk _ = true; kernel_rfl) | (simp only [rows_length, rows_cell, List.length_append, List.length_cons, List.length_nil, List.all_append, List.all_cons, List.all_nil, isCell, Nat.mul_one, Nat.one_mul, Bool.and_self]; first | done | omega) | (simp only [ByteArray.size_append, ba_size, List.size_toArray, List.length_cons, List.length_nil]; omega)))))) | ((first | refine callT.at (ha) ⟨leA, leA, trivial⟩ ?_ | refine callS.at (ha) ⟨leA, leA, trivial⟩ ?_); (repeat ((repeat1' (first | simp -implicitDefEqProofs -dsimp only [go_sem, Nat.reduceSub, Nat.reduceAdd, Nat.reduceMul, Nat.reduceLT, Nat.reduceLeDiff, Nat.reduceEqDiff, Nat.reduceDiv, Nat.reduceMod, Int.reduceToNat, Int.reduceLE, Int.reduceLT, Int.reduceBEq, Int.reduceBNe, Int.reduceNeg, Int.reduceAdd, Int.reduceSub, Int.reduceMul, reduceCtorEq, Log.v] | simp -implicitDefEqProofs -dsimp (disch := omega) only [wrap_i64])); repeat (with_reducible refine And.intro ?_ ?_; focus (first | omega | with_reducible rfl | (show drawOk _ = true; kernel_rfl) | (simp only [rows_length, rows_cell, List.length_append, List.length_cons, List.length_nil, List.all_append, List.all_cons, List.all_nil, isCell, Nat.mul_one, Nat.one_mul, Bool.and_self]; first | done | omega) | (simp only [ByteArray.size_append, ba_size, List.size_toArray, List.length_cons, List.length_nil]; omega)))))) | (refine And.intro ?_ ?_) | exact trivial)
      all_goals
        refine ⟨_, ⟨l2, c4, z1, z2, z3, lmono' hc4 (by omega), rfl⟩, ?_⟩
        refine Weak.cut (3) (by simp) (by simp) ?_ ?_
        · simp [LeC, LeV, ren, cutF]
        · simp [cutH, cutB, Cur.ren, ren, Log.zs, Log.cs]
  · (repeat ((repeat1' (first | simp -implicitDefEqProofs -dsimp only [go_sem, Nat.reduceSub, Nat.reduceAdd, Nat.reduceMul, Nat.reduceLT, Nat.reduceLeDiff, Nat.reduceEqDiff, Nat.reduceDiv, Nat.reduceMod, Int.reduceToNat, Int.reduceLE, Int.reduceLT, Int.reduceBEq, Int.reduceBNe, Int.reduceNeg, Int.reduceAdd, Int.reduceSub, Int.reduceMul, reduceCtorEq, h1, Log.cs] | simp -implicitDefEqProofs -dsimp (disch := omega) only [wrap_i64])); repeat (with_reducible refine And.intro ?_ ?_; focus (first | omega | with_reducible rfl | (show drawOk _ = true; kernel_rfl) | (simp only [rows_length, rows_cell, List.length_append, List.length_cons, List.length_nil, List.all_append, List.all_cons, List.all_nil, isCell, Nat.mul_one, Nat.one_mul, Bool.and_self]; first | done | omega) | (simp only [ByteArray.size_append, ba_size, List.size_toArray, List.length_cons, List.length_nil]; omega)))))
    exact log_fin rfl x2 x3 x4 (lmono' hc2 (by omega))
end Go.Proofs
end
section
set_option linter.unusedSimpArgs false
set_option linter.unusedVariables false
set_option maxRecDepth 100000
set_option maxHeartbeats 2000000
namespace Go.Proofs
open Go.Lv
def txtP (B : List Int) (b : Nat) (k : Int) (r : V) (hout : Hp) : Prop := ∃ (s : ByteArray) (c : Cur), s.size ≤ b ∧ c.le k ∧ r = .str s ∧ hout = [some (c.cs B)]
theorem txt_fin {B : List Int} {b : Nat} {k : Int} {h : Hp} {x : ByteArray} {c : Cur} (h0 : h[0]? = some (some (c.cs B))) (hx : x.size ≤ b) (hc : c.le k) : RelR 1 (.str x) h (txtP B b k) := by
  refine ⟨_, _, ⟨x, c, hx, hc, rfl, rfl⟩, WeakR.pick [0] (by decide) (fun j hj => by cases j <;> simp_all) (.inl rfl) ?_⟩
  simp only [pickH, List.map_cons, List.map_nil, pickB, h0, Cur.ren]
theorem spoilt_ok {B : List Int} (hB : CB B) {k : Int} (hk : k ≤ 1000000) {c : Cur} (hc : c.le k) (t w : ByteArray) (ht : t.size ≤ 1000000) (hw : 1 ≤ w.size ∧ w.size ≤ 100) : CtrP Tryd.prog 49 [.ptr 0 0, .str t, .str w] [some (c.cs B)] (txtP B (t.size + 1) (k + 20)) := by
  have hcb : ∀ {c' : Cur} {k' : Int}, c'.le k' → k' ≤ 4000000 → c'.le 4611686018427387903 := fun h h' => ⟨h.1, by have := h.2; omega⟩
  refine CtrP.intro Tryd.mixed Tryd.func49 rfl Tryd.okF49 ?_
  simp -implicitDefEqProofs -dsimp only [go_sem, Nat.reduceSub, Nat.reduceAdd, Nat.reduceMul, Nat.reduceLT, Nat.reduceLeDiff, Nat.reduceEqDiff, Nat.reduceDiv, Nat.reduceMod, Int.reduceToNat, Int.reduceLE, Int.reduceLT, Int.reduceBEq, Int.reduceBNe, Int.reduceNeg, Int.reduceAdd, Int.reduceSub, Int.reduceMul, reduceCtorEq, Tryd.ntmps49, Tryd.results49]
  (repeat ((repeat1' (first | simp -implicitDefEqProofs -dsimp only [go_sem, Nat.reduceSub, Nat.reduceAdd, Nat.reduceMul, Nat.reduceLT, Nat.reduceLeDiff, Nat.reduceEqDiff, Nat.reduceDiv, Nat.reduceMod, Int.reduceToNat, Int.reduceLE, Int.reduceLT, Int.reduceBEq, Int.reduceBNe, Int.reduceNeg, Int.reduceAdd, Int.reduceSub, Int.reduceMul, reduceCtorEq] | simp -implicitDefEqProofs -dsimp (disch := omega) only [wrap_i64])); repeat (with_reducible refine And.intro ?_ ?_; focus (first | omega | with_reducible rfl | (show drawOk _ = true; kernel_rfl) | (simp only [rows_length, rows_cell, List.length_append, List.length_cons, List.length_nil, List.all_append, List.all_cons, List.all_nil, isCell, Nat.mul_one, Nat.one_mul, Bool.and_self]; first | done | omega) | (simp only [ByteArray.size_append, ba_size, List.size_toArray, List.length_cons, List.length_nil]; omega)))))
  refine condT.split (fun h1 => ?_) (fun h1 => ?_)
  · (repeat ((repeat1' (first | simp -implicitDefEqProofs -dsimp only [go_sem, Nat.reduceSub, Nat.reduceAdd, Nat.reduceMul, Nat.reduceLT, Nat.reduceLeDiff, Nat.reduceEqDiff, Nat.reduceDiv, Nat.reduceMod, Int.reduceToNat, Int.reduceLE, Int.reduceLT, Int.reduceBEq, Int.reduceBNe, Int.reduceNeg, Int.reduceAdd, Int.reduceSub, Int.reduceMul, reduceCtorEq, h1] | simp -implicitDefEqProofs -dsimp (disch := omega) only [wrap_i64])); repeat (with_reducible refine And.intro ?_ ?_; focus (first | omega | with_reducible rfl | (show drawOk _ = true; kernel_rfl) | (simp only [rows_length, rows_cell, List.length_append, List.length_cons, List.length_nil, List.all_append, List.all_cons, List.all_nil, isCell, Nat.mul_one, Nat.one_mul, Bool.and_self]; first | done | omega) | (simp only [ByteArray.size_append, ba_size, List.size_toArray, List.length_cons, List.length_nil]; omega)))))
    exact txt_fin rfl (by rw [ByteArray.size_extract]; omega) (lmono' hc (by omega))
  · (repeat ((repeat1' (first | simp -implicitDefEqProofs -dsimp only [go_sem, Nat.reduceSub, Nat.reduceAdd, Nat.reduceMul, Nat.reduceLT, Nat.reduceLeDiff, Nat.reduceEqDiff, Nat.reduceDiv, Nat.reduceMod, Int.reduceToNat, Int.reduceLE, Int.reduceLT, Int.reduceBEq, Int.reduceBNe, Int.reduceNeg, Int.reduceAdd, Int.reduceSub, Int.reduceMul, reduceCtorEq, h1] | simp -implicitDefEqProofs -dsimp (disch := omega) only [wrap_i64])); repeat (with_reducible refine And.intro ?_ ?_; focus (first | omega | with_reducible rfl | (show drawOk _ = true; kernel_rfl) | (simp only [rows_length, rows_cell, List.length_append, List.length_cons, List.length_nil, List.all_append, List.all_cons, List.all_nil, isCell, Nat.mul_one, Nat.one_mul, Bool.and_self]; first | done | omega) | (simp only [ByteArray.size_append, ba_size, List.size_toArray, List.length_cons, List.length_nil]; omega)))))
    have ht0 : 0 < t.size := by
      rcases Nat.eq_zero_or_pos t.size with h | h
      · have : t = ByteArray.empty := by
          apply ByteArray.ext
          exact Array.eq_empty_of_size_eq_zero h
        subst this
        simp at h1
      · exact h
    have pc1 := pick_ok hB (hcb hc (by omega)) (t.size : Int) (by omega); have hc1 := pickC_le (B := B) (n := (t.size : Int)) hc; have pvc1 := pickV_bd hB (n := (t.size : Int)) hc.1; generalize pickV B (t.size : Int) c = vc1 at pc1 pvc1; generalize pickC B (t.size : Int) c = c1 at pc1 hc1; refine callS.lend [0] false pc1 (by decide) ⟨leO, leO, trivial⟩ (lendCur rfl) (growCur B _ _) (.inl rfl) ?_
    (repeat ((repeat1' (first | simp -implicitDefEqProofs -dsimp only [go_sem, Nat.reduceSub, Nat.reduceAdd, Nat.reduceMul, Nat.reduceLT, Nat.reduceLeDiff, Nat.reduceEqDiff, Nat.reduceDiv, Nat.reduceMod, Int.reduceToNat, Int.reduceLE, Int.reduceLT, Int.reduceBEq, Int.reduceBNe, Int.reduceNeg, Int.reduceAdd, Int.reduceSub, Int.reduceMul, reduceCtorEq, Cur.ren] | simp -implicitDefEqProofs -dsimp (disch := omega) only [wrap_i64])); repeat (with_reducible refine And.intro ?_ ?_; focus (first | omega | with_reducible rfl | (show drawOk _ = true; kernel_rfl) | (simp only [rows_length, rows_cell, List.length_append, List.length_cons, List.length_nil, List.all_append, List.all_cons, List.all_nil, isCell, Nat.mul_one, Nat.one_mul, Bool.and_self]; first | done | omega) | (simp only [ByteArray.size_append, ba_size, List.size_toArray, List.length_cons, List.length_nil]; omega)))))
    have pc2 := pick_ok hB (hcb hc1 (by omega)) (w.size : Int) (by omega); have hc2 := pickC_le (B := B) (n := (w.size : Int)) hc1; have pvc2 := pickV_bd hB (n := (w.size : Int)) hc1.1; generalize pickV B (w.size : Int) c1 = vc2 at pc2 pvc2; generalize pickC B (w.size : Int) c1 = c2 at pc2 hc2; refine callS.lend [0] false pc2 (by decide) ⟨leO, leO, trivial⟩ (lendCur rfl) (growCur B _ _) (.inl rfl) ?_
    (repeat ((repeat1' (first | simp -implicitDefEqProofs -dsimp only [go_sem, Nat.reduceSub, Nat.reduceAdd, Nat.reduceMul, Nat.reduceLT, Nat.reduceLeDiff, Nat.reduceEqDiff, Nat.reduceDiv, Nat.reduceMod, Int.reduceToNat, Int.reduceLE, Int.reduceLT, Int.reduceBEq, Int.reduceBNe, Int.reduceNeg, Int.reduceAdd, Int.reduceSub, Int.reduceMul, reduceCtorEq, Cur.ren] | simp -implicitDefEqProofs -dsimp (disch := omega) only [wrap_i64])); repeat (with_reducible refine And.intro ?_ ?_; focus (first | omega | with_reducible rfl | (show drawOk _ = true; kernel_rfl) | (simp only [rows_length, rows_cell, List.length_append, List.length_cons, List.length_nil, List.all_append, List.all_cons, List.all_nil, isCell, Nat.mul_one, Nat.one_mul, Bool.and_self]; first | done | omega) | (simp only [ByteArray.size_append, ba_size, List.size_toArray, List.length_cons, List.length_nil]; omega)))))
    obtain ⟨i, hi⟩ : ∃ i : Nat, vc1 = i := ⟨vc1.toNat, by omega⟩
    obtain ⟨j, hj⟩ : ∃ j : Nat, vc2 = j := ⟨vc2.toNat, by omega⟩
    subst hi hj
    have hx0 : (w.extract j w.size).size = w.size - j := by rw [ByteArray.size_extract]; omega
    have hx1 : ((w.extract j w.size).extract 0 1).size = 1 := by rw [ByteArray.size_extract, hx0]; omega
    simp only [Int.toNat_natCast]
    refine ⟨by omega, ?_⟩
    generalize (w.extract j w.size).extract 0 1 = x at hx1 ⊢
    have pc3 := pick_ok hB (hcb hc2 (by omega)) 3 (by omega); have hc3 := pickC_le (B := B) (n := 3) hc2; have pvc3 := pickV_bd hB (n := 3) hc2.1; generalize pickV B 3 c2 = vc3 at pc3 pvc3; generalize pickC B 3 c2 = c3 at pc3 hc3; refine callS.lend [0] false pc3 (by decide) ⟨leO, leO, trivial⟩ (lendCur rfl) (growCur B _ _) (.inl rfl) ?_
    have hi1 : IntKind.i64.wrap ((i : Int) + 1) = ((i + 1 : Nat) : Int) := by rw [wrap_i64 (by omega) (by omega)]; omega
    have e1 : (t.extract 0 i).size = i := by rw [ByteArray.size_extract]; omega
    have e2 : (t.extract i t.size).size = t.size - i := by rw [ByteArray.size_extract]; omega
    have e3 : (t.extract (i + 1) t.size).size = t.size - (i + 1) := by rw [ByteArray.size_extract]; omega
    (repeat ((repeat1' (first | simp -implicitDefEqProofs -dsimp only [go_sem, Nat.reduceSub, Nat.reduceAdd, Nat.reduceMul, Nat.reduceLT, Nat.reduceLeDiff, Nat.reduceEqDiff, Nat.reduceDiv, Nat.reduceMod, Int.reduceToNat, Int.reduceLE, Int.reduceLT, Int.reduceBEq, Int.reduceBNe, Int.reduceNeg, Int.reduceAdd, Int.reduceSub, Int.reduceMul, reduceCtorEq, Cur.ren] | simp -implicitDefEqProofs -dsimp (disch := omega) only [wrap_i64])); repeat (with_reducible refine And.intro ?_ ?_; focus (first | omega | with_reducible rfl | (show drawOk _ = true; kernel_rfl) | (simp only [rows_length, rows_cell, List.length_append, List.length_cons, List.length_nil, List.all_append, List.all_cons, List.all_nil, isCell, Nat.mul_one, Nat.one_mul, Bool.and_self]; first | done | omega) | (simp only [ByteArray.size_append, ba_size, List.size_toArray, List.length_cons, List.length_nil]; omega)))))
    refine condT.split (fun h2 => ?_) (fun h2 => ?_)
    · (repeat ((repeat1' (first | simp -implicitDefEqProofs -dsimp only [go_sem, Nat.reduceSub, Nat.reduceAdd, Nat.reduceMul, Nat.reduceLT, Nat.reduceLeDiff, Nat.reduceEqDiff, Nat.reduceDiv, Nat.reduceMod, Int.reduceToNat, Int.reduceLE, Int.reduceLT, Int.reduceBEq, Int.reduceBNe, Int.reduceNeg, Int.reduceAdd, Int.reduceSub, Int.reduceMul, reduceCtorEq, h2, hi1, Int.toNat_natCast] | simp -implicitDefEqProofs -dsimp (disch := omega) only [wrap_i64])); repeat (with_reducible refine And.intro ?_ ?_; focus (first | omega | with_reducible rfl | (show drawOk _ = true; kernel_rfl) | (simp only [rows_length, rows_cell, List.length_append, List.length_cons, List.length_nil, List.all_append, List.all_cons, List.all_nil, isCell, Nat.mul_one, Nat.one_mul, Bool.and_self]; first | done | omega) | (simp only [ByteArray.size_append, ba_size, List.size_toArray, List.length_cons, List.length_nil]; omega)))))
      exact txt_fin rfl (by simp only [ByteArray.size_append]; omega) (lmono' hc3 (by omega))
    · (repeat ((repeat1' (first | simp -implicitDefEqProofs -dsimp only [go_sem, Nat.reduceSub, Nat.reduceAdd, Nat.reduceMul, Nat.reduceLT, Nat.reduceLeDiff, Nat.reduceEqDiff, Nat.reduceDiv, Nat.reduceMod, Int.reduceToNat, Int.reduceLE, Int.reduceLT, Int.reduceBEq, Int.reduceBNe, Int.reduceNeg, Int.reduceAdd, Int.reduceSub, Int.reduceMul, reduceCtorEq, h2] | simp -implicitDefEqProofs -dsimp (disch := omega) only [wrap_i64])); repeat (with_reducible refine And.intro ?_ ?_; focus (first | omega | with_reducible rfl | (show drawOk _ = true; kernel_rfl) | (simp only [rows_length, rows_cell, List.length_append, List.length_cons, List.length_nil, List.all_append, List.all_cons, List.all_nil, isCell, Nat.mul_one, Nat.one_mul, Bool.and_self]; first | done | omega) | (simp only [ByteArray.size_append, ba_size, List.size_toArray, List.length_cons, List.length_nil]; omega)))))
      refine condT.split (fun h3 => ?_) (fun h3 => ?_)
      · (repeat ((repeat1' (first | simp -implicitDefEqProofs -dsimp only [go_sem, Nat.reduceSub, Nat.reduceAdd, Nat.reduceMul, Nat.reduceLT, Nat.reduceLeDiff, Nat.reduceEqDiff, Nat.reduceDiv, Nat.reduceMod, Int.reduceToNat, Int.reduceLE, Int.reduceLT, Int.reduceBEq, Int.reduceBNe, Int.reduceNeg, Int.reduceAdd, Int.reduceSub, Int.reduceMul, reduceCtorEq, h3, hi1, Int.toNat_natCast] | simp -implicitDefEqProofs -dsimp (disch := omega) only [wrap_i64])); repeat (with_reducible refine And.intro ?_ ?_; focus (first | omega | with_reducible rfl | (show drawOk _ = true; kernel_rfl) | (simp only [rows_length, rows_cell, List.length_append, List.length_cons, List.length_nil, List.all_append, List.all_cons, List.all_nil, isCell, Nat.mul_one, Nat.one_mul, Bool.and_self]; first | done | omega) | (simp only [ByteArray.size_append, ba_size, List.size_toArray, List.length_cons, List.length_nil]; omega)))))
        exact txt_fin rfl (by simp only [ByteArray.size_append]; omega) (lmono' hc3 (by omega))
      · (repeat ((repeat1' (first | simp -implicitDefEqProofs -dsimp only [go_sem, Nat.reduceSub, Nat.reduceAdd, Nat.reduceMul, Nat.reduceLT, Nat.reduceLeDiff, Nat.reduceEqDiff, Nat.reduceDiv, Nat.reduceMod, Int.reduceToNat, Int.reduceLE, Int.reduceLT, Int.reduceBEq, Int.reduceBNe, Int.reduceNeg, Int.reduceAdd, Int.reduceSub, Int.reduceMul, reduceCtorEq, h3, hi1, Int.toNat_natCast] | simp -implicitDefEqProofs -dsimp (disch := omega) only [wrap_i64])); repeat (with_reducible refine And.intro ?_ ?_; focus (first | omega | with_reducible rfl | (show drawOk _ = true; kernel_rfl) | (simp only [rows_length, rows_cell, List.length_append, List.length_cons, List.length_nil, List.all_append, List.all_cons, List.all_nil, isCell, Nat.mul_one, Nat.one_mul, Bool.and_self]; first | done | omega) | (simp only [ByteArray.size_append, ba_size, List.size_toArray, List.length_cons, List.length_nil]; omega)))))
        exact txt_fin rfl (by simp only [ByteArray.size_append]; omega) (lmono' hc3 (by omega))
theorem anyLog_ok {B : List Int} (hB : CB B) {k : Int} (hk : k ≤ 100000) {c : Cur} (hc : c.le k) : CtrP Tryd.prog 54 [.ptr 0 0] [some (c.cs B)] (logP B 100000 (k + 1100)) := by
  have hcb : ∀ {c' : Cur} {k' : Int}, c'.le k' → k' ≤ 4000000 → c'.le 4611686018427387903 := fun h h' => ⟨h.1, by have := h.2; omega⟩
  refine CtrP.intro Tryd.mixed Tryd.func54 rfl Tryd.okF54 ?_
  simp -implicitDefEqProofs -dsimp only [go_sem, Nat.reduceSub, Nat.reduceAdd, Nat.reduceMul, Nat.reduceLT, Nat.reduceLeDiff, Nat.reduceEqDiff, Nat.reduceDiv, Nat.reduceMod, Int.reduceToNat, Int.reduceLE, Int.reduceLT, Int.reduceBEq, Int.reduceBNe, Int.reduceNeg, Int.reduceAdd, Int.reduceSub, Int.reduceMul, reduceCtorEq, Tryd.ntmps54, Tryd.results54]
  (repeat ((repeat1' (first | simp -implicitDefEqProofs -dsimp only [go_sem, Nat.reduceSub, Nat.reduceAdd, Nat.reduceMul, Nat.reduceLT, Nat.reduceLeDiff, Nat.reduceEqDiff, Nat.reduceDiv, Nat.reduceMod, Int.reduceToNat, Int.reduceLE, Int.reduceLT, Int.reduceBEq, Int.reduceBNe, Int.reduceNeg, Int.reduceAdd, Int.reduceSub, Int.reduceMul, reduceCtorEq] | simp -implicitDefEqProofs -dsimp (disch := omega) only [wrap_i64])); repeat (with_reducible refine And.intro ?_ ?_; focus (first | omega | with_reducible rfl | (show drawOk _ = true; kernel_rfl) | (simp only [rows_length, rows_cell, List.length_append, List.length_cons, List.length_nil, List.all_append, List.all_cons, List.all_nil, isCell, Nat.mul_one, Nat.one_mul, Bool.and_self]; first | done | omega) | (simp only [ByteArray.size_append, ba_size, List.size_toArray, List.length_cons, List.length_nil]; omega)))))
  refine callS.rel [0] (log_ok hB hk hc) (by decide) ⟨leO, trivial⟩ (lendCur rfl) rfl (fun r hout hΦ => ?_)
  obtain ⟨l, c1, x1, x2, x3, hc1, rfl, rfl⟩ := hΦ
  refine ⟨⟨⟨rfl, rfl⟩, trivial⟩, ?_⟩
  (repeat ((repeat1' (first | simp -implicitDefEqProofs -dsimp only [go_sem, Nat.reduceSub, Nat.reduceAdd, Nat.reduceMul, Nat.reduceLT, Nat.reduceLeDiff, Nat.reduceEqDiff, Nat.reduceDiv, Nat.reduceMod, Int.reduceToNat, Int.reduceLE, Int.reduceLT, Int.reduceBEq, Int.reduceBNe, Int.reduceNeg, Int.reduceAdd, Int.reduceSub, Int.reduceMul, reduceCtorEq, Cur.ren, Log.v] | simp -implicitDefEqProofs -dsimp (disch := omega) only [wrap_i64])); repeat (with_reducible refine And.intro ?_ ?_; focus (first | omega | with_reducible rfl | (show drawOk _ = true; kernel_rfl) | (simp only [rows_length, rows_cell, List.length_append, List.length_cons, List.length_nil, List.all_append, List.all_cons, List.all_nil, isCell, Nat.mul_one, Nat.one_mul, Bool.and_self]; first | done | omega) | (simp only [ByteArray.size_append, ba_size, List.size_toArray, List.length_cons, List.length_nil]; omega)))))
  have pc2 := pick_ok hB (hcb hc1 (by omega)) 24 (by omega); have hc2 := pickC_le (B := B) (n := 24) hc1; have pvc2 := pickV_bd hB (n := 24) hc1.1; generalize pickV B 24 c1 = vc2 at pc2 pvc2; generalize pickC B 24 c1 = c2 at pc2 hc2; refine callS.lend [0] false pc2 (by decide) ⟨leO, leO, trivial⟩ (lendCur rfl) (growCur B _ _) (.inl rfl) ?_
  (repeat ((repeat1' (first | simp -implicitDefEqProofs -dsimp only [go_sem, Nat.reduceSub, Nat.reduceAdd, Nat.reduceMul, Nat.reduceLT, Nat.reduceLeDiff, Nat.reduceEqDiff, Nat.reduceDiv, Nat.reduceMod, Int.reduceToNat, Int.reduceLE, Int.reduceLT, Int.reduceBEq, Int.reduceBNe, Int.reduceNeg, Int.reduceAdd, Int.reduceSub, Int.reduceMul, reduceCtorEq, Cur.ren] | simp -implicitDefEqProofs -dsimp (disch := omega) only [wrap_i64])); repeat (with_reducible refine And.intro ?_ ?_; focus (first | omega | with_reducible rfl | (show drawOk _ = true; kernel_rfl) | (simp only [rows_length, rows_cell, List.length_append, List.length_cons, List.length_nil, List.all_append, List.all_cons, List.all_nil, isCell, Nat.mul_one, Nat.one_mul, Bool.and_self]; first | done | omega) | (simp only [ByteArray.size_append, ba_size, List.size_toArray, List.length_cons, List.length_nil]; omega)))))
  refine condT.split (fun h1 => ?_) (fun h1 => ?_)
  · (repeat ((repeat1' (first | simp -implicitDefEqProofs -dsimp only [go_sem, Nat.reduceSub, Nat.reduceAdd, Nat.reduceMul, Nat.reduceLT, Nat.reduceLeDiff, Nat.reduceEqDiff, Nat.reduceDiv, Nat.reduceMod, Int.reduceToNat, Int.reduceLE, Int.reduceLT, Int.reduceBEq, Int.reduceBNe, Int.reduceNeg, Int.reduceAdd, Int.reduceSub, Int.reduceMul, reduceCtorEq, h1] | simp -implicitDefEqProofs -dsimp (disch := omega) only [wrap_i64])); repeat (with_reducible refine And.intro ?_ ?_; focus (first | omega | with_reducible rfl | (show drawOk _ = true; kernel_rfl) | (simp only [rows_length, rows_cell, List.length_append, List.length_cons, List.length_nil, List.all_append, List.all_cons, List.all_nil, isCell, Nat.mul_one, Nat.one_mul, Bool.and_self]; first | done | omega) | (simp only [ByteArray.size_append, ba_size, List.size_toArray, List.length_cons, List.length_nil]; omega)))))
    exact log_fin rfl (by omega) (by omega) (by unfold i64R IntKind.wrap; simp [IntKind.bits, IntKind.signed]; omega) (lmono' hc2 (by omega))
  · (repeat ((repeat1' (first | simp -implicitDefEqProofs -dsimp only [go_sem, Nat.reduceSub, Nat.reduceAdd, Nat.reduceMul, Nat.reduceLT, Nat.reduceLeDiff, Nat.reduceEqDiff, Nat.reduceDiv, Nat.reduceMod, Int.reduceToNat, Int.reduceLE, Int.reduceLT, Int.reduceBEq, Int.reduceBNe, Int.reduceNeg, Int.reduceAdd, Int.reduceSub, Int.reduceMul, reduceCtorEq, h1] | simp -implicitDefEqProofs -dsimp (disch := omega) only [wrap_i64])); repeat (with_reducible refine And.intro ?_ ?_; focus (first | omega | with_reducible rfl | (show drawOk _ = true; kernel_rfl) | (simp only [rows_length, rows_cell, List.length_append, List.length_cons, List.length_nil, List.all_append, List.all_cons, List.all_nil, isCell, Nat.mul_one, Nat.one_mul, Bool.and_self]; first | done | omega) | (simp only [ByteArray.size_append, ba_size, List.size_toArray, List.length_cons, List.length_nil]; omega)))))
    refine condT.split (fun h2 => ?_) (fun h2 => ?_)
    · (repeat ((repeat1' (first | simp -implicitDefEqProofs -dsimp only [go_sem, Nat.reduceSub, Nat.reduceAdd, Nat.reduceMul, Nat.reduceLT, Nat.reduceLeDiff, Nat.reduceEqDiff, Nat.reduceDiv, Nat.reduceMod, Int.reduceToNat, Int.reduceLE, Int.reduceLT, Int.reduceBEq, Int.reduceBNe, Int.reduceNeg, Int.reduceAdd, Int.reduceSub, Int.reduceMul, reduceCtorEq, h2] | simp -implicitDefEqProofs -dsimp (disch := omega) only [wrap_i64])); repeat (with_reducible refine And.intro ?_ ?_; focus (first | omega | with_reducible rfl | (show drawOk _ = true; kernel_rfl) | (simp only [rows_length, rows_cell, List.length_append, List.length_cons, List.length_nil, List.all_append, List.all_cons, List.all_nil, isCell, Nat.mul_one, Nat.one_mul, Bool.and_self]; first | done | omega) | (simp only [ByteArray.size_append, ba_size, List.size_toArray, List.length_cons, List.length_nil]; omega)))))
      refine callS.rel [0] (spoilt_ok hB (by omega) hc2 l.Pending ⟨#[35, 64, 10, 48, 49]⟩ (by omega) (by decide)) (by decide) ⟨leO, leO, leO, trivial⟩ (lendCur rfl) rfl (fun r hout hΦ => ?_)
      obtain ⟨x, c3, y1, hc3, rfl, rfl⟩ := hΦ
      refine ⟨⟨⟨rfl, rfl⟩, trivial⟩, ?_⟩
      (repeat ((repeat1' (first | simp -implicitDefEqProofs -dsimp only [go_sem, Nat.reduceSub, Nat.reduceAdd, Nat.reduceMul, Nat.reduceLT, Nat.reduceLeDiff, Nat.reduceEqDiff, Nat.reduceDiv, Nat.reduceMod, Int.reduceToNat, Int.reduceLE, Int.reduceLT, Int.reduceBEq, Int.reduceBNe, Int.reduceNeg, Int.reduceAdd, Int.reduceSub, Int.reduceMul, reduceCtorEq, Cur.ren] | simp -implicitDefEqProofs -dsimp (disch := omega) only [wrap_i64])); repeat (with_reducible refine And.intro ?_ ?_; focus (first | omega | with_reducible rfl | (show drawOk _ = true; kernel_rfl) | (simp only [rows_length, rows_cell, List.length_append, List.length_cons, List.length_nil, List.all_append, List.all_cons, List.all_nil, isCell, Nat.mul_one, Nat.one_mul, Bool.and_self]; first | done | omega) | (simp only [ByteArray.size_append, ba_size, List.size_toArray, List.length_cons, List.length_nil]; omega)))))
      exact log_fin rfl (by omega) (by omega) x3 (lmono' hc3 (by omega))
    · (repeat ((repeat1' (first | simp -implicitDefEqProofs -dsimp only [go_sem, Nat.reduceSub, Nat.reduceAdd, Nat.reduceMul, Nat.reduceLT, Nat.reduceLeDiff, Nat.reduceEqDiff, Nat.reduceDiv, Nat.reduceMod, Int.reduceToNat, Int.reduceLE, Int.reduceLT, Int.reduceBEq, Int.reduceBNe, Int.reduceNeg, Int.reduceAdd, Int.reduceSub, Int.reduceMul, reduceCtorEq, h2] | simp -implicitDefEqProofs -dsimp (disch := omega) only [wrap_i64])); repeat (with_reducible refine And.intro ?_ ?_; focus (first | omega | with_reducible rfl | (show drawOk _ = true; kernel_rfl) | (simp only [rows_length, rows_cell, List.length_append, List.length_cons, List.length_nil, List.all_append, List.all_cons, List.all_nil, isCell, Nat.mul_one, Nat.one_mul, Bool.and_self]; first | done | omega) | (simp only [ByteArray.size_append, ba_size, List.size_toArray, List.length_cons, List.length_nil]; omega)))))
      refine condT.split (fun h3 => ?_) (fun h3 => ?_)
      · (repeat ((repeat1' (first | simp -implicitDefEqProofs -dsimp only [go_sem, Nat.reduceSub, Nat.reduceAdd, Nat.reduceMul, Nat.reduceLT, Nat.reduceLeDiff, Nat.reduceEqDiff, Nat.reduceDiv, Nat.reduceMod, Int.reduceToNat, Int.reduceLE, Int.reduceLT, Int.reduceBEq, Int.reduceBNe, Int.reduceNeg, Int.reduceAdd, Int.reduceSub, Int.reduceMul, reduceCtorEq, h3] | simp -implicitDefEqProofs -dsimp (disch := omega) only [wrap_i64])); repeat (with_reducible refine And.intro ?_ ?_; focus (first | omega | with_reducible rfl | (show drawOk _ = true; kernel_rfl) | (simp only [rows_length, rows_cell, List.length_append, List.length_cons, List.length_nil, List.all_append, List.all_cons, List.all_nil, isCell, Nat.mul_one, Nat.one_mul, Bool.and_self]; first | done | omega) | (simp only [ByteArray.size_append, ba_size, List.size_toArray, List.length_cons, List.length_nil]; omega)))))
        exact log_fin rfl (by simp only [ByteArray.size_append]; omega) (by omega) x3 (lmono' hc2 (by omega))
      · (repeat ((repeat1' (first | simp -implicitDefEqProofs -dsimp only [go_sem, Nat.reduceSub, Nat.reduceAdd, Nat.reduceMul, Nat.reduceLT, Nat.reduceLeDiff, Nat.reduceEqDiff, Nat.reduceDiv, Nat.reduceMod, Int.reduceToNat, Int.reduceLE, Int.reduceLT, Int.reduceBEq, Int.reduceBNe, Int.reduceNeg, Int.reduceAdd, Int.reduceSub, Int.reduceMul, reduceCtorEq, h3] | simp -implicitDefEqProofs -dsimp (disch := omega) only [wrap_i64])); repeat (with_reducible refine And.intro ?_ ?_; focus (first | omega | with_reducible rfl | (show drawOk _ = true; kernel_rfl) | (simp only [rows_length, rows_cell, List.length_append, List.length_cons, List.length_nil, List.all_append, List.all_cons, List.all_nil, isCell, Nat.mul_one, Nat.one_mul, Bool.and_self]; first | done | omega) | (simp only [ByteArray.size_append, ba_size, List.size_toArray, List.length_cons, List.length_nil]; omega)))))
        exact log_fin rfl (by omega) (by omega) x3 (lmono' hc2 (by omega))
end Go.Proofs
end
section
set_option linter.unusedSimpArgs false
set_option linter.unusedVariables false
set_option maxRecDepth 100000
set_option maxHeartbeats 2000000
namespace Go.Proofs
open Go.Lv
theorem cur0_le {k : Int} (h : 0 ≤ k) : (Cur.mk 0 0).le k := ⟨by simp, by simpa using h⟩
def smallL (l : Log) : Prop := l.Durable.size ≤ 200000 ∧ l.Pending.size ≤ 200000 ∧ i64R l.Count
end Go.Proofs
end
section
set_option linter.unusedSimpArgs false
set_option linter.unusedVariables false
set_option maxRecDepth 100000
set_option maxHeartbeats 2000000
namespace Go.Proofs
open Go.Lv
def dCrashP (r : V) (hout : Hp) : Prop := ∃ (l : Log) (k : Int) (b : Bool), smallL l ∧ (-1 ≤ k ∧ k ≤ 1000000) ∧ r = .tup [l.v, .int .i64 k, .bool b] ∧ hout = []
theorem drawCrashLog_ok {B : List Int} (hB : CB B) : CtrP Tryd.prog 29 [ByteS.sl B] [] dCrashP := by
  have hcb : ∀ {c' : Cur} {k' : Int}, c'.le k' → k' ≤ 4000000 → c'.le 4611686018427387903 := fun h h' => ⟨h.1, by have := h.2; omega⟩
  obtain ⟨c, hcd⟩ : ∃ c : Cur, c = ⟨0, 0⟩ := ⟨_, rfl⟩
  have hc : c.le 0 := by rw [hcd]; exact cur0_le (by omega)
  have hcc : c.cs B = [ByteS.sl B, .int .i64 0, .int .u64 0] := by rw [hcd]; rfl
  refine CtrP.intro Tryd.mixed Tryd.func29 rfl Tryd.okF29 ?_
  simp -implicitDefEqProofs -dsimp only [go_sem, Nat.reduceSub, Nat.reduceAdd, Nat.reduceMul, Nat.reduceLT, Nat.reduceLeDiff, Nat.reduceEqDiff, Nat.reduceDiv, Nat.reduceMod, Int.reduceToNat, Int.reduceLE, Int.reduceLT, Int.reduceBEq, Int.reduceBNe, Int.reduceNeg, Int.reduceAdd, Int.reduceSub, Int.reduceMul, reduceCtorEq, Tryd.ntmps29, Tryd.results29]
  (repeat ((repeat1' (first | simp -implicitDefEqProofs -dsimp only [go_sem, Nat.reduceSub, Nat.reduceAdd, Nat.reduceMul, Nat.reduceLT, Nat.reduceLeDiff, Nat.reduceEqDiff, Nat.reduceDiv, Nat.reduceMod, Int.reduceToNat, Int.reduceLE, Int.reduceLT, Int.reduceBEq, Int.reduceBNe, Int.reduceNeg, Int.reduceAdd, Int.reduceSub, Int.reduceMul, reduceCtorEq, ByteS.sl] | simp -implicitDefEqProofs -dsimp (disch := omega) only [wrap_i64])); repeat (with_reducible refine And.intro ?_ ?_; focus (first | omega | with_reducible rfl | (show drawOk _ = true; kernel_rfl) | (simp only [rows_length, rows_cell, List.length_append, List.length_cons, List.length_nil, List.all_append, List.all_cons, List.all_nil, isCell, Nat.mul_one, Nat.one_mul, Bool.and_self]; first | done | omega) | (simp only [ByteArray.size_append, ba_size, List.size_toArray, List.length_cons, List.length_nil]; omega)))))
  rw [← ByteS.sl, ← hcc]
  refine callS.rel [1] (anyLog_ok hB (by omega) hc) (by decide) ⟨leO, trivial⟩ (lendCur rfl) rfl (fun r hout hΦ => ?_)
  obtain ⟨l, c1, x1, x2, x3, hc1, rfl, rfl⟩ := hΦ
  refine ⟨⟨⟨rfl, rfl⟩, trivial⟩, ?_⟩
  have hw1 : IntKind.i64.wrap ((l.Pending.size : Int) + 3) = ((l.Pending.size + 3 : Nat) : Int) := by rw [wrap_i64 (by omega) (by omega)]; omega
  (repeat ((repeat1' (first | simp -implicitDefEqProofs -dsimp only [go_sem, Nat.reduceSub, Nat.reduceAdd, Nat.reduceMul, Nat.reduceLT, Nat.reduceLeDiff, Nat.reduceEqDiff, Nat.reduceDiv, Nat.reduceMod, Int.reduceToNat, Int.reduceLE, Int.reduceLT, Int.reduceBEq, Int.reduceBNe, Int.reduceNeg, Int.reduceAdd, Int.reduceSub, Int.reduceMul, reduceCtorEq, Cur.ren, Log.v, hw1] | simp -implicitDefEqProofs -dsimp (disch := omega) only [wrap_i64])); repeat (with_reducible refine And.intro ?_ ?_; focus (first | omega | with_reducible rfl | (show drawOk _ = true; kernel_rfl) | (simp only [rows_length, rows_cell, List.length_append, List.length_cons, List.length_nil, List.all_append, List.all_cons, List.all_nil, isCell, Nat.mul_one, Nat.one_mul, Bool.and_self]; first | done | omega) | (simp only [ByteArray.size_append, ba_size, List.size_toArray, List.length_cons, List.length_nil]; omega)))))
  have pc2 := pick_ok hB (hcb hc1 (by omega)) ((l.Pending.size + 3 : Nat) : Int) (by omega); have hc2 := pickC_le (B := B) (n := ((l.Pending.size + 3 : Nat) : Int)) hc1; have pvc2 := pickV_bd hB (n := ((l.Pending.size + 3 : Nat) : Int)) hc1.1; generalize pickV B ((l.Pending.size + 3 : Nat) : Int) c1 = vc2 at pc2 pvc2; generalize pickC B ((l.Pending.size + 3 : Nat) : Int) c1 = c2 at pc2 hc2; refine callS.lend [1] false pc2 (by decide) ⟨leO, leO, trivial⟩ (lendCur rfl) (growCur B _ _) (.inl rfl) ?_
  (repeat ((repeat1' (first | simp -implicitDefEqProofs -dsimp only [go_sem, Nat.reduceSub, Nat.reduceAdd, Nat.reduceMul, Nat.reduceLT, Nat.reduceLeDiff, Nat.reduceEqDiff, Nat.reduceDiv, Nat.reduceMod, Int.reduceToNat, Int.reduceLE, Int.reduceLT, Int.reduceBEq, Int.reduceBNe, Int.reduceNeg, Int.reduceAdd, Int.reduceSub, Int.reduceMul, reduceCtorEq, Cur.ren] | simp -implicitDefEqProofs -dsimp (disch := omega) only [wrap_i64])); repeat (with_reducible refine And.intro ?_ ?_; focus (first | omega | with_reducible rfl | (show drawOk _ = true; kernel_rfl) | (simp only [rows_length, rows_cell, List.length_append, List.length_cons, List.length_nil, List.all_append, List.all_cons, List.all_nil, isCell, Nat.mul_one, Nat.one_mul, Bool.and_self]; first | done | omega) | (simp only [ByteArray.size_append, ba_size, List.size_toArray, List.length_cons, List.length_nil]; omega)))))
  obtain ⟨kp, hkp⟩ : ∃ kp : Int, kp = vc2 - 1 := ⟨_, rfl⟩
  rw [← hkp]
  refine clT.tree (fun s2 => ∃ (b : Bool), s2 = ⟨[.undef, .undef, .ptr 0 0, .int .i64 kp, .bool b, .undef, .undef, .undef, .undef, .undef, .undef, .undef, .undef, .undef, .undef, .undef, .undef, .undef, .undef, .undef, .undef, .undef, .undef, .undef], [some l.cs], 0⟩) (.take 1 (.take 2 (.alt 0 (.alt 3 (.alt 4 (.alt 5 (.alt 6 .done .stop) .stop) .stop) .stop) (.alt 3 (.alt 0 (.alt 4 (.alt 5 (.alt 6 .done .stop) .stop) .stop) .stop) .stop)))) (by kernel_rfl) (fun s2 hs2 => ?_) ?_
  · obtain ⟨b, rfl⟩ := hs2
    (repeat ((repeat1' (first | simp -implicitDefEqProofs -dsimp only [go_sem, Nat.reduceSub, Nat.reduceAdd, Nat.reduceMul, Nat.reduceLT, Nat.reduceLeDiff, Nat.reduceEqDiff, Nat.reduceDiv, Nat.reduceMod, Int.reduceToNat, Int.reduceLE, Int.reduceLT, Int.reduceBEq, Int.reduceBNe, Int.reduceNeg, Int.reduceAdd, Int.reduceSub, Int.reduceMul, reduceCtorEq, Log.cs] | simp -implicitDefEqProofs -dsimp (disch := omega) only [wrap_i64])); repeat (with_reducible refine And.intro ?_ ?_; focus (first | omega | with_reducible rfl | (show drawOk _ = true; kernel_rfl) | (simp only [rows_length, rows_cell, List.length_append, List.length_cons, List.length_nil, List.all_append, List.all_cons, List.all_nil, isCell, Nat.mul_one, Nat.one_mul, Bool.and_self]; first | done | omega) | (simp only [ByteArray.size_append, ba_size, List.size_toArray, List.length_cons, List.length_nil]; omega)))))
    exact ⟨_, _, ⟨l, kp, b, ⟨by omega, by omega, x3⟩, ⟨by omega, by omega⟩, rfl, rfl⟩, WeakR.drop' rfl (by rfl)⟩
  · have p5 := one_ok hB (hcb hc2 (by omega)) 2 (by omega)
    generalize oneV B 2 c2 = b5 at p5
    generalize pickC B 2 c2 = c5 at p5
    (repeat ((repeat1' (first | simp -implicitDefEqProofs -dsimp only [go_sem, Nat.reduceSub, Nat.reduceAdd, Nat.reduceMul, Nat.reduceLT, Nat.reduceLeDiff, Nat.reduceEqDiff, Nat.reduceDiv, Nat.reduceMod, Int.reduceToNat, Int.reduceLE, Int.reduceLT, Int.reduceBEq, Int.reduceBNe, Int.reduceNeg, Int.reduceAdd, Int.reduceSub, Int.reduceMul, reduceCtorEq, Log.cs] | simp -implicitDefEqProofs -dsimp (disch := omega) only [wrap_i64])); repeat (with_reducible refine And.intro ?_ ?_; focus (first | omega | with_reducible rfl | (show drawOk _ = true; kernel_rfl) | (simp only [rows_length, rows_cell, List.length_append, List.length_cons, List.length_nil, List.all_append, List.all_cons, List.all_nil, isCell, Nat.mul_one, Nat.one_mul, Bool.and_self]; first | done | omega) | (simp only [ByteArray.size_append, ba_size, List.size_toArray, List.length_cons, List.length_nil]; omega)))))
    repeat' (first | (refine callS.lend [1] false p5 (by decide) ⟨leO, leO, trivial⟩ (lendCur rfl) (growCur B _ _) (.inl rfl) ?_; (repeat ((repeat1' (first | simp -implicitDefEqProofs -dsimp only [go_sem, Nat.reduceSub, Nat.reduceAdd, Nat.reduceMul, Nat.reduceLT, Nat.reduceLeDiff, Nat.reduceEqDiff, Nat.reduceDiv, Nat.reduceMod, Int.reduceToNat, Int.reduceLE, Int.reduceLT, Int.reduceBEq, Int.reduceBNe, Int.reduceNeg, Int.reduceAdd, Int.reduceSub, Int.reduceMul, reduceCtorEq, Cur.ren, Log.cs] | simp -implicitDefEqProofs -dsimp (disch := omega) only [wrap_i64])); repeat (with_reducible refine And.intro ?_ ?_; focus (first | omega | with_reducible rfl | (show drawOk _ = true; kernel_rfl) | (simp only [rows_length, rows_cell, List.length_append, List.length_cons, List.length_nil, List.all_append, List.all_cons, List.all_nil, isCell, Nat.mul_one, Nat.one_mul, Bool.and_self]; first | done | omega) | (simp only [ByteArray.size_append, ba_size, List.size_toArray, List.length_cons, List.length_nil]; omega)))))) | (refine And.intro ?_ ?_) | exact trivial)
    all_goals
      refine ⟨_, ⟨b5, rfl⟩, ?_⟩
      refine Weak.cut (1) (by simp) (by simp) ?_ ?_
      · simp [LeC, LeV, ren, cutF]
      · simp [cutH, cutB, Cur.ren, ren, Log.cs]
end Go.Proofs
end
section
set_option linter.unusedSimpArgs false
set_option linter.unusedVariables false
set_option maxRecDepth 100000
set_option maxHeartbeats 1000000
namespace Go.Proofs
open Go.Lv
theorem ext_all (s : ByteArray) : s.extract 0 s.size = s := by
  have := ext_left s ⟨#[]⟩
  have e : s ++ (⟨#[]⟩ : ByteArray) = s := by apply ba_ext; rw [ba_app]; simp
  rw [e] at this
  exact this
theorem rdN_zero (s : ByteArray) : rdN s 0 = ([], 0) := rfl
/-- What was recovered is read as it stands. -/
theorem recov_same (t : ByteArray) : recsOf (t.extract 0 (atOf t)) = recsOf t ∧ atOf (t.extract 0 (atOf t)) = atOf t := by
  obtain ⟨a1, a2, a3, a4⟩ := recs_len t
  have hb := (atOf_bd t).1
  have hsz : (t.extract 0 (atOf t)).size = atOf t := by rw [ByteArray.size_extract]; omega
  have hcat : t.extract 0 (atOf t) ++ t.extract (atOf t) t.size = t := by
    apply ba_ext
    rw [ba_app, ba_ext_list, ba_ext_list, List.drop_zero]
    have : t.size = t.data.toList.length := rfl
    rw [this, List.take_length, List.take_append_drop]
  have hj : rdN t (recsOf t).length = (recsOf t, atOf t) := by rw [← a2, recsOf, atOf]
  have hp := rd_pre (D := t.extract 0 (atOf t)) (P := t.extract (atOf t) t.size) (j := (recsOf t).length) (by rw [hcat]; exact a1) (by rw [hcat, hj, hsz]; dsimp only; exact Nat.le_refl _)
  rw [hcat, hj] at hp
  have hd : rdN (t.extract 0 (atOf t)) 60 = rdN (t.extract 0 (atOf t)) (recsOf t).length := rdN_done (by rw [hp]) (by
    rw [hp]
    dsimp only
    exact decL_empty (by rw [ByteArray.size_extract, hsz]; omega))
  exact ⟨by rw [recsOf, hd, hp], by rw [atOf, hd, hp]⟩
theorem ba_empty (x : ByteArray) : x ++ ByteArray.empty = x := by apply ba_ext; rw [ba_app]; simp
theorem recov_valid {t : ByteArray} (ht : t.size ≤ 30000) : logB ⟨t.extract 0 (atOf t), ByteArray.empty, ((recsOf t).length : Int)⟩ = true := by
  obtain ⟨h1, h2⟩ := recov_same t
  have hb := (atOf_bd t).1
  have hsz : (t.extract 0 (atOf t)).size = atOf t := by rw [ByteArray.size_extract]; omega
  simp only [logB, ba_empty, h1, h2, hsz, ByteArray.size_empty]
  simp
  omega
end Go.Proofs
end
section
set_option linter.unusedSimpArgs false
set_option linter.unusedVariables false
set_option maxRecDepth 100000
set_option maxHeartbeats 1000000
namespace Go.Proofs
open Go.Lv
theorem vBig_ok (L : List Int) : Ctr Tryd.prog 13 [ByteS.sl L] [] (.bool (decide (65536 < (L.length : Int)))) [] := by
  refine Ctr.intro Tryd.mixed Tryd.func13 rfl Tryd.okF13 ?_
  simp -implicitDefEqProofs -dsimp only [go_sem, Nat.reduceSub, Nat.reduceAdd, Nat.reduceMul, Nat.reduceLT, Nat.reduceLeDiff, Nat.reduceEqDiff, Nat.reduceDiv, Nat.reduceMod, Int.reduceToNat, Int.reduceLE, Int.reduceLT, Int.reduceBEq, Int.reduceBNe, Int.reduceNeg, Int.reduceAdd, Int.reduceSub, Int.reduceMul, reduceCtorEq, Tryd.ntmps13, Tryd.results13]
  (repeat ((repeat1' (first | simp -implicitDefEqProofs -dsimp only [go_sem, Nat.reduceSub, Nat.reduceAdd, Nat.reduceMul, Nat.reduceLT, Nat.reduceLeDiff, Nat.reduceEqDiff, Nat.reduceDiv, Nat.reduceMod, Int.reduceToNat, Int.reduceLE, Int.reduceLT, Int.reduceBEq, Int.reduceBNe, Int.reduceNeg, Int.reduceAdd, Int.reduceSub, Int.reduceMul, reduceCtorEq] | simp -implicitDefEqProofs -dsimp (disch := omega) only [wrap_i64])); repeat (with_reducible refine And.intro ?_ ?_; focus (first | omega | with_reducible rfl | (show drawOk _ = true; kernel_rfl) | (simp only [rows_length, rows_cell, List.length_append, List.length_cons, List.length_nil, List.all_append, List.all_cons, List.all_nil, isCell, Nat.mul_one, Nat.one_mul, Bool.and_self]; first | done | omega) | (simp only [ByteArray.size_append, ba_size, List.size_toArray, List.length_cons, List.length_nil]; omega)))))
  exact WeakR.drop' rfl (by rfl)
end Go.Proofs
end
section
set_option linter.unusedSimpArgs false
set_option linter.unusedVariables false
set_option maxRecDepth 100000
set_option maxHeartbeats 2000000
namespace Go.Proofs
open Go.Lv
theorem logB_split {l : Log} (h : logB l = true) : l.Durable.size + l.Pending.size ≤ 30000 ∧ atOf (l.Durable ++ l.Pending) = l.Durable.size + l.Pending.size ∧ atOf l.Durable = l.Durable.size ∧ ((recsOf (l.Durable ++ l.Pending)).length : Int) = l.Count := by
  simpa only [logB, Bool.and_eq_true, decide_eq_true_eq] using h
end Go.Proofs
end
section
set_option linter.unusedSimpArgs false
set_option linter.unusedVariables false
set_option maxRecDepth 100000
set_option maxHeartbeats 1000000
namespace Go.Proofs
open Go.Lv
/-- The last byte turned. -/
def flipT (b : ByteArray) : ByteArray := strOfNums ((nums b).set (b.size - 1) (255 - (nums b).getD (b.size - 1) 0))
def keptT (l : Log) (k : Int) (t : Bool) : ByteArray := if t = true ∧ 0 < k then flipT (l.Pending.extract 0 k.toNat) else l.Pending.extract 0 k.toNat
def crashOk (l : Log) (k : Int) : Bool := logB l && inB' k 0 l.Pending.size
def crashR (l : Log) (k : Int) (t : Bool) : List V := if crashOk l k = true then [.str (l.Durable ++ keptT l k t), .bool true] else [.str ByteArray.empty, .bool false]
theorem flipT_append (D x : ByteArray) (h : 0 < x.size) : flipT (D ++ x) = D ++ flipT x := by
  unfold flipT
  rw [nums_append, ByteArray.size_append]
  have e : D.size + x.size - 1 = (nums D).length + (x.size - 1) := by rw [nums_len]; omega
  rw [e, List.set_append_right _ _ (by omega), Nat.add_sub_cancel_left, strOfNums_append, strOfNums_nums]
  congr 3
  rw [List.getD_eq_getElem?_getD, List.getD_eq_getElem?_getD, List.getElem?_append_right (by omega), Nat.add_sub_cancel_left]
theorem wrap_u8' {x : Int} (h0 : 0 ≤ x) (h1 : x ≤ 255) : IntKind.u8.wrap x = x := by
  unfold IntKind.wrap IntKind.signed IntKind.bits
  simp
  omega
theorem set_rows {L : List Int} {j : Nat} {v : Int} (hj : j < L.length) : splice (rows ByteS.cs L) (j * 1) [.int .u8 v] = rows ByteS.cs (L.set j v) := by
  have := splice_cell (cs := ByteS.cs) (w := 1) (fun _ => rfl) (L := L) (j := j) (f := 0) (v := .int .u8 v) (x := v) hj (by omega) rfl
  simpa using this
theorem iCrashLog_ok (l : Log) (k : Int) (t : Bool) (hd : l.Durable.size ≤ 4194304) (hp : l.Pending.size ≤ 4194304) : Ctr Tryd.prog 12 [l.v, .int .i64 k, .bool t] [] (.tup (crashR l k t)) [] := by
  refine Ctr.intro Tryd.mixed Tryd.func12 rfl Tryd.okF12 ?_
  simp -implicitDefEqProofs -dsimp only [go_sem, Nat.reduceSub, Nat.reduceAdd, Nat.reduceMul, Nat.reduceLT, Nat.reduceLeDiff, Nat.reduceEqDiff, Nat.reduceDiv, Nat.reduceMod, Int.reduceToNat, Int.reduceLE, Int.reduceLT, Int.reduceBEq, Int.reduceBNe, Int.reduceNeg, Int.reduceAdd, Int.reduceSub, Int.reduceMul, reduceCtorEq, Tryd.ntmps12, Tryd.results12]
  (repeat ((repeat1' (first | simp -implicitDefEqProofs -dsimp only [go_sem, Nat.reduceSub, Nat.reduceAdd, Nat.reduceMul, Nat.reduceLT, Nat.reduceLeDiff, Nat.reduceEqDiff, Nat.reduceDiv, Nat.reduceMod, Int.reduceToNat, Int.reduceLE, Int.reduceLT, Int.reduceBEq, Int.reduceBNe, Int.reduceNeg, Int.reduceAdd, Int.reduceSub, Int.reduceMul, reduceCtorEq, Log.v] | simp -implicitDefEqProofs -dsimp (disch := omega) only [wrap_i64])); repeat (with_reducible refine And.intro ?_ ?_; focus (first | omega | with_reducible rfl | (show drawOk _ = true; kernel_rfl) | (simp only [rows_length, rows_cell, List.length_append, List.length_cons, List.length_nil, List.all_append, List.all_cons, List.all_nil, isCell, Nat.mul_one, Nat.one_mul, Bool.and_self]; first | done | omega) | (simp only [ByteArray.size_append, ba_size, List.size_toArray, List.length_cons, List.length_nil]; omega)))))
  (first | refine callT.at (iIsValidLog_ok l hd hp) ⟨leA, trivial⟩ ?_ | refine callS.at (iIsValidLog_ok l hd hp) ⟨leA, trivial⟩ ?_)
  cases h : logB l with
  | false =>
    (repeat ((repeat1' (first | simp -implicitDefEqProofs -dsimp only [go_sem, Nat.reduceSub, Nat.reduceAdd, Nat.reduceMul, Nat.reduceLT, Nat.reduceLeDiff, Nat.reduceEqDiff, Nat.reduceDiv, Nat.reduceMod, Int.reduceToNat, Int.reduceLE, Int.reduceLT, Int.reduceBEq, Int.reduceBNe, Int.reduceNeg, Int.reduceAdd, Int.reduceSub, Int.reduceMul, reduceCtorEq, h] | simp -implicitDefEqProofs -dsimp (disch := omega) only [wrap_i64])); repeat (with_reducible refine And.intro ?_ ?_; focus (first | omega | with_reducible rfl | (show drawOk _ = true; kernel_rfl) | (simp only [rows_length, rows_cell, List.length_append, List.length_cons, List.length_nil, List.all_append, List.all_cons, List.all_nil, isCell, Nat.mul_one, Nat.one_mul, Bool.and_self]; first | done | omega) | (simp only [ByteArray.size_append, ba_size, List.size_toArray, List.length_cons, List.length_nil]; omega)))))
    exact WeakR.drop' (by simp [crashR, crashOk, h]; rfl) (by rfl)
  | true =>
    (repeat ((repeat1' (first | simp -implicitDefEqProofs -dsimp only [go_sem, Nat.reduceSub, Nat.reduceAdd, Nat.reduceMul, Nat.reduceLT, Nat.reduceLeDiff, Nat.reduceEqDiff, Nat.reduceDiv, Nat.reduceMod, Int.reduceToNat, Int.reduceLE, Int.reduceLT, Int.reduceBEq, Int.reduceBNe, Int.reduceNeg, Int.reduceAdd, Int.reduceSub, Int.reduceMul, reduceCtorEq, h] | simp -implicitDefEqProofs -dsimp (disch := omega) only [wrap_i64])); repeat (with_reducible refine And.intro ?_ ?_; focus (first | omega | with_reducible rfl | (show drawOk _ = true; kernel_rfl) | (simp only [rows_length, rows_cell, List.length_append, List.length_cons, List.length_nil, List.all_append, List.all_cons, List.all_nil, isCell, Nat.mul_one, Nat.one_mul, Bool.and_self]; first | done | omega) | (simp only [ByteArray.size_append, ba_size, List.size_toArray, List.length_cons, List.length_nil]; omega)))))
    (first | refine callT.at (in_ok k 0 l.Pending.size) ⟨leA, leA, leA, trivial⟩ ?_ | refine callS.at (in_ok k 0 l.Pending.size) ⟨leA, leA, leA, trivial⟩ ?_)
    (repeat ((repeat1' (first | simp -implicitDefEqProofs -dsimp only [go_sem, Nat.reduceSub, Nat.reduceAdd, Nat.reduceMul, Nat.reduceLT, Nat.reduceLeDiff, Nat.reduceEqDiff, Nat.reduceDiv, Nat.reduceMod, Int.reduceToNat, Int.reduceLE, Int.reduceLT, Int.reduceBEq, Int.reduceBNe, Int.reduceNeg, Int.reduceAdd, Int.reduceSub, Int.reduceMul, reduceCtorEq] | simp -implicitDefEqProofs -dsimp (disch := omega) only [wrap_i64])); repeat (with_reducible refine And.intro ?_ ?_; focus (first | omega | with_reducible rfl | (show drawOk _ = true; kernel_rfl) | (simp only [rows_length, rows_cell, List.length_append, List.length_cons, List.length_nil, List.all_append, List.all_cons, List.all_nil, isCell, Nat.mul_one, Nat.one_mul, Bool.and_self]; first | done | omega) | (simp only [ByteArray.size_append, ba_size, List.size_toArray, List.length_cons, List.length_nil]; omega)))))
    cases hk : inB' k 0 l.Pending.size with
    | false =>
      (repeat ((repeat1' (first | simp -implicitDefEqProofs -dsimp only [go_sem, Nat.reduceSub, Nat.reduceAdd, Nat.reduceMul, Nat.reduceLT, Nat.reduceLeDiff, Nat.reduceEqDiff, Nat.reduceDiv, Nat.reduceMod, Int.reduceToNat, Int.reduceLE, Int.reduceLT, Int.reduceBEq, Int.reduceBNe, Int.reduceNeg, Int.reduceAdd, Int.reduceSub, Int.reduceMul, reduceCtorEq, hk] | simp -implicitDefEqProofs -dsimp (disch := omega) only [wrap_i64])); repeat (with_reducible refine And.intro ?_ ?_; focus (first | omega | with_reducible rfl | (show drawOk _ = true; kernel_rfl) | (simp only [rows_length, rows_cell, List.length_append, List.length_cons, List.length_nil, List.all_append, List.all_cons, List.all_nil, isCell, Nat.mul_one, Nat.one_mul, Bool.and_self]; first | done | omega) | (simp only [ByteArray.size_append, ba_size, List.size_toArray, List.length_cons, List.length_nil]; omega)))))
      exact WeakR.drop' (by simp [crashR, crashOk, h, hk]; rfl) (by rfl)
    | true =>
      (repeat ((repeat1' (first | simp -implicitDefEqProofs -dsimp only [go_sem, Nat.reduceSub, Nat.reduceAdd, Nat.reduceMul, Nat.reduceLT, Nat.reduceLeDiff, Nat.reduceEqDiff, Nat.reduceDiv, Nat.reduceMod, Int.reduceToNat, Int.reduceLE, Int.reduceLT, Int.reduceBEq, Int.reduceBNe, Int.reduceNeg, Int.reduceAdd, Int.reduceSub, Int.reduceMul, reduceCtorEq, hk] | simp -implicitDefEqProofs -dsimp (disch := omega) only [wrap_i64])); repeat (with_reducible refine And.intro ?_ ?_; focus (first | omega | with_reducible rfl | (show drawOk _ = true; kernel_rfl) | (simp only [rows_length, rows_cell, List.length_append, List.length_cons, List.length_nil, List.all_append, List.all_cons, List.all_nil, isCell, Nat.mul_one, Nat.one_mul, Bool.and_self]; first | done | omega) | (simp only [ByteArray.size_append, ba_size, List.size_toArray, List.length_cons, List.length_nil]; omega)))))
      obtain ⟨k0, k1⟩ := inB'_iff.1 hk
      obtain ⟨q, rfl⟩ : ∃ q : Nat, k = q := ⟨k.toNat, by omega⟩
      have hxs : (l.Pending.extract 0 q).size = q := by rw [ByteArray.size_extract]; omega
      have hxe : crashR l q t = [.str (l.Durable ++ keptT l q t), .bool true] := by simp [crashR, crashOk, h, hk]
      rw [hxe]
      refine ⟨⟨k0, k1⟩, by simp only [Int.toNat_natCast]; omega, ?_⟩
      simp only [Int.toNat_natCast, strCells_rows]
      have hkt : keptT l q t = if t = true ∧ 0 < q then flipT (l.Pending.extract 0 q) else l.Pending.extract 0 q := by simp [keptT]
      rw [hkt]
      generalize l.Pending.extract 0 q = x at hxs ⊢
      obtain ⟨X, hX⟩ : ∃ X, X = l.Durable ++ x := ⟨_, rfl⟩
      have hXs : X.size = l.Durable.size + q := by rw [hX, ByteArray.size_append, hxs]
      have fin : ∀ Y : ByteArray, strOfNums ((nums Y).drop 0 |>.take Y.size) = Y := fun Y => by
        rw [List.drop_zero, List.take_of_length_le (by rw [nums_len]; exact Nat.le_refl _), strOfNums_nums]
      rw [← hX]
      have tk : ∀ L : List Int, L.length = X.size → bytesL (List.take X.size (rows ByteS.cs L)) = some L := fun L hL => by
        rw [List.take_of_length_le (by rw [rows_length, hL]; omega), bytesL_rows]
      cases t with
      | false =>
        (repeat ((repeat1' (first | simp -implicitDefEqProofs -dsimp only [go_sem, Nat.reduceSub, Nat.reduceAdd, Nat.reduceMul, Nat.reduceLT, Nat.reduceLeDiff, Nat.reduceEqDiff, Nat.reduceDiv, Nat.reduceMod, Int.reduceToNat, Int.reduceLE, Int.reduceLT, Int.reduceBEq, Int.reduceBNe, Int.reduceNeg, Int.reduceAdd, Int.reduceSub, Int.reduceMul, reduceCtorEq] | simp -implicitDefEqProofs -dsimp (disch := omega) only [wrap_i64])); repeat (with_reducible refine And.intro ?_ ?_; focus (first | omega | with_reducible rfl | (show drawOk _ = true; kernel_rfl) | (simp only [rows_length, rows_cell, List.length_append, List.length_cons, List.length_nil, List.all_append, List.all_cons, List.all_nil, isCell, Nat.mul_one, Nat.one_mul, Bool.and_self]; first | done | omega) | (simp only [ByteArray.size_append, ba_size, List.size_toArray, List.length_cons, List.length_nil]; omega)))))
        rw [strCells_rows, tk _ (nums_len X)]
        exact WeakR.drop' (by simp [strOfNums_nums, hX]) (by rfl)
      | true =>
        (repeat ((repeat1' (first | simp -implicitDefEqProofs -dsimp only [go_sem, Nat.reduceSub, Nat.reduceAdd, Nat.reduceMul, Nat.reduceLT, Nat.reduceLeDiff, Nat.reduceEqDiff, Nat.reduceDiv, Nat.reduceMod, Int.reduceToNat, Int.reduceLE, Int.reduceLT, Int.reduceBEq, Int.reduceBNe, Int.reduceNeg, Int.reduceAdd, Int.reduceSub, Int.reduceMul, reduceCtorEq] | simp -implicitDefEqProofs -dsimp (disch := omega) only [wrap_i64])); repeat (with_reducible refine And.intro ?_ ?_; focus (first | omega | with_reducible rfl | (show drawOk _ = true; kernel_rfl) | (simp only [rows_length, rows_cell, List.length_append, List.length_cons, List.length_nil, List.all_append, List.all_cons, List.all_nil, isCell, Nat.mul_one, Nat.one_mul, Bool.and_self]; first | done | omega) | (simp only [ByteArray.size_append, ba_size, List.size_toArray, List.length_cons, List.length_nil]; omega)))))
        refine condT.split (fun g => ?_) (fun g => ?_)
        · have hq : 0 < q := by simpa using g
          obtain ⟨j, hj⟩ : ∃ j, j + 1 = X.size := ⟨X.size - 1, by omega⟩
          have hw : IntKind.i64.wrap ((X.size : Int) - 1) = (j : Int) := by rw [wrap_i64 (by omega) (by omega)]; omega
          have hjl : j < (nums X).length := by rw [nums_len]; omega
          have hr := rows_at ByteS.csl hjl
          have hu := nums_u8 (List.getElem_mem hjl)
          have hw8 : IntKind.u8.wrap (255 - (nums X)[j]) = 255 - (nums X)[j] := wrap_u8' (by omega) (by omega)
          have hs := set_rows (v := 255 - (nums X)[j]) hjl
          (repeat ((repeat1' (first | simp -implicitDefEqProofs -dsimp only [go_sem, Nat.reduceSub, Nat.reduceAdd, Nat.reduceMul, Nat.reduceLT, Nat.reduceLeDiff, Nat.reduceEqDiff, Nat.reduceDiv, Nat.reduceMod, Int.reduceToNat, Int.reduceLE, Int.reduceLT, Int.reduceBEq, Int.reduceBNe, Int.reduceNeg, Int.reduceAdd, Int.reduceSub, Int.reduceMul, reduceCtorEq, g, hw, strCells_rows, hr, ByteS.cs, hw8, hs] | simp -implicitDefEqProofs -dsimp (disch := omega) only [wrap_i64])); repeat (with_reducible refine And.intro ?_ ?_; focus (first | omega | with_reducible rfl | (show drawOk _ = true; kernel_rfl) | (simp only [rows_length, rows_cell, List.length_append, List.length_cons, List.length_nil, List.all_append, List.all_cons, List.all_nil, isCell, Nat.mul_one, Nat.one_mul, Bool.and_self]; first | done | omega) | (simp only [ByteArray.size_append, ba_size, List.size_toArray, List.length_cons, List.length_nil]; omega)))))
          have hfl : strOfNums ((nums X).set j (255 - (nums X)[j])) = l.Durable ++ flipT x := by
            rw [← flipT_append l.Durable x (by omega), ← hX, flipT]
            have e : X.size - 1 = j := by omega
            rw [e, List.getD_eq_getElem?_getD, List.getElem?_eq_getElem hjl]
            rfl
          rw [tk _ (by rw [List.length_set, nums_len])]
          exact WeakR.drop' (by simp [hfl, hq]) (by rfl)
        · have hq : ¬ 0 < q := by simpa using g
          (repeat ((repeat1' (first | simp -implicitDefEqProofs -dsimp only [go_sem, Nat.reduceSub, Nat.reduceAdd, Nat.reduceMul, Nat.reduceLT, Nat.reduceLeDiff, Nat.reduceEqDiff, Nat.reduceDiv, Nat.reduceMod, Int.reduceToNat, Int.reduceLE, Int.reduceLT, Int.reduceBEq, Int.reduceBNe, Int.reduceNeg, Int.reduceAdd, Int.reduceSub, Int.reduceMul, reduceCtorEq, g] | simp -implicitDefEqProofs -dsimp (disch := omega) only [wrap_i64])); repeat (with_reducible refine And.intro ?_ ?_; focus (first | omega | with_reducible rfl | (show drawOk _ = true; kernel_rfl) | (simp only [rows_length, rows_cell, List.length_append, List.length_cons, List.length_nil, List.all_append, List.all_cons, List.all_nil, isCell, Nat.mul_one, Nat.one_mul, Bool.and_self]; first | done | omega) | (simp only [ByteArray.size_append, ba_size, List.size_toArray, List.length_cons, List.length_nil]; omega)))))
          rw [strCells_rows, tk _ (nums_len X)]
          exact WeakR.drop' (by simp [strOfNums_nums, hX, hq]) (by rfl)
theorem sCrashLog_ok (l : Log) (k : Int) (t : Bool) (hd : l.Durable.size ≤ 4194304) (hp : l.Pending.size ≤ 4194304) : Ctr Tryd.prog 10 [l.v, .int .i64 k, .bool t] [] (.tup (crashR l k t)) [] := by
  refine Ctr.intro Tryd.mixed Tryd.func10 rfl Tryd.okF10 ?_
  simp -implicitDefEqProofs -dsimp only [go_sem, Nat.reduceSub, Nat.reduceAdd, Nat.reduceMul, Nat.reduceLT, Nat.reduceLeDiff, Nat.reduceEqDiff, Nat.reduceDiv, Nat.reduceMod, Int.reduceToNat, Int.reduceLE, Int.reduceLT, Int.reduceBEq, Int.reduceBNe, Int.reduceNeg, Int.reduceAdd, Int.reduceSub, Int.reduceMul, reduceCtorEq, Tryd.ntmps10, Tryd.results10]
  (repeat ((repeat1' (first | simp -implicitDefEqProofs -dsimp only [go_sem, Nat.reduceSub, Nat.reduceAdd, Nat.reduceMul, Nat.reduceLT, Nat.reduceLeDiff, Nat.reduceEqDiff, Nat.reduceDiv, Nat.reduceMod, Int.reduceToNat, Int.reduceLE, Int.reduceLT, Int.reduceBEq, Int.reduceBNe, Int.reduceNeg, Int.reduceAdd, Int.reduceSub, Int.reduceMul, reduceCtorEq, Log.v] | simp -implicitDefEqProofs -dsimp (disch := omega) only [wrap_i64])); repeat (with_reducible refine And.intro ?_ ?_; focus (first | omega | with_reducible rfl | (show drawOk _ = true; kernel_rfl) | (simp only [rows_length, rows_cell, List.length_append, List.length_cons, List.length_nil, List.all_append, List.all_cons, List.all_nil, isCell, Nat.mul_one, Nat.one_mul, Bool.and_self]; first | done | omega) | (simp only [ByteArray.size_append, ba_size, List.size_toArray, List.length_cons, List.length_nil]; omega)))))
  (first | refine callT.at (l27Log_ok l hd hp) ⟨leA, trivial⟩ ?_ | refine callS.at (l27Log_ok l hd hp) ⟨leA, trivial⟩ ?_)
  cases h : logB l with
  | false =>
    (repeat ((repeat1' (first | simp -implicitDefEqProofs -dsimp only [go_sem, Nat.reduceSub, Nat.reduceAdd, Nat.reduceMul, Nat.reduceLT, Nat.reduceLeDiff, Nat.reduceEqDiff, Nat.reduceDiv, Nat.reduceMod, Int.reduceToNat, Int.reduceLE, Int.reduceLT, Int.reduceBEq, Int.reduceBNe, Int.reduceNeg, Int.reduceAdd, Int.reduceSub, Int.reduceMul, reduceCtorEq, h] | simp -implicitDefEqProofs -dsimp (disch := omega) only [wrap_i64])); repeat (with_reducible refine And.intro ?_ ?_; focus (first | omega | with_reducible rfl | (show drawOk _ = true; kernel_rfl) | (simp only [rows_length, rows_cell, List.length_append, List.length_cons, List.length_nil, List.all_append, List.all_cons, List.all_nil, isCell, Nat.mul_one, Nat.one_mul, Bool.and_self]; first | done | omega) | (simp only [ByteArray.size_append, ba_size, List.size_toArray, List.length_cons, List.length_nil]; omega)))))
    exact WeakR.drop' (by simp [crashR, crashOk, h]; rfl) (by rfl)
  | true =>
    (repeat ((repeat1' (first | simp -implicitDefEqProofs -dsimp only [go_sem, Nat.reduceSub, Nat.reduceAdd, Nat.reduceMul, Nat.reduceLT, Nat.reduceLeDiff, Nat.reduceEqDiff, Nat.reduceDiv, Nat.reduceMod, Int.reduceToNat, Int.reduceLE, Int.reduceLT, Int.reduceBEq, Int.reduceBNe, Int.reduceNeg, Int.reduceAdd, Int.reduceSub, Int.reduceMul, reduceCtorEq, h] | simp -implicitDefEqProofs -dsimp (disch := omega) only [wrap_i64])); repeat (with_reducible refine And.intro ?_ ?_; focus (first | omega | with_reducible rfl | (show drawOk _ = true; kernel_rfl) | (simp only [rows_length, rows_cell, List.length_append, List.length_cons, List.length_nil, List.all_append, List.all_cons, List.all_nil, isCell, Nat.mul_one, Nat.one_mul, Bool.and_self]; first | done | omega) | (simp only [ByteArray.size_append, ba_size, List.size_toArray, List.length_cons, List.length_nil]; omega)))))
    (first | refine callT.at (l1In_ok k 0 l.Pending.size) ⟨leA, leA, leA, trivial⟩ ?_ | refine callS.at (l1In_ok k 0 l.Pending.size) ⟨leA, leA, leA, trivial⟩ ?_)
    (repeat ((repeat1' (first | simp -implicitDefEqProofs -dsimp only [go_sem, Nat.reduceSub, Nat.reduceAdd, Nat.reduceMul, Nat.reduceLT, Nat.reduceLeDiff, Nat.reduceEqDiff, Nat.reduceDiv, Nat.reduceMod, Int.reduceToNat, Int.reduceLE, Int.reduceLT, Int.reduceBEq, Int.reduceBNe, Int.reduceNeg, Int.reduceAdd, Int.reduceSub, Int.reduceMul, reduceCtorEq] | simp -implicitDefEqProofs -dsimp (disch := omega) only [wrap_i64])); repeat (with_reducible refine And.intro ?_ ?_; focus (first | omega | with_reducible rfl | (show drawOk _ = true; kernel_rfl) | (simp only [rows_length, rows_cell, List.length_append, List.length_cons, List.length_nil, List.all_append, List.all_cons, List.all_nil, isCell, Nat.mul_one, Nat.one_mul, Bool.and_self]; first | done | omega) | (simp only [ByteArray.size_append, ba_size, List.size_toArray, List.length_cons, List.length_nil]; omega)))))
    cases hk : inB' k 0 l.Pending.size with
    | false =>
      (repeat ((repeat1' (first | simp -implicitDefEqProofs -dsimp only [go_sem, Nat.reduceSub, Nat.reduceAdd, Nat.reduceMul, Nat.reduceLT, Nat.reduceLeDiff, Nat.reduceEqDiff, Nat.reduceDiv, Nat.reduceMod, Int.reduceToNat, Int.reduceLE, Int.reduceLT, Int.reduceBEq, Int.reduceBNe, Int.reduceNeg, Int.reduceAdd, Int.reduceSub, Int.reduceMul, reduceCtorEq, hk] | simp -implicitDefEqProofs -dsimp (disch := omega) only [wrap_i64])); repeat (with_reducible refine And.intro ?_ ?_; focus (first | omega | with_reducible rfl | (show drawOk _ = true; kernel_rfl) | (simp only [rows_length, rows_cell, List.length_append, List.length_cons, List.length_nil, List.all_append, List.all_cons, List.all_nil, isCell, Nat.mul_one, Nat.one_mul, Bool.and_self]; first | done | omega) | (simp only [ByteArray.size_append, ba_size, List.size_toArray, List.length_cons, List.length_nil]; omega)))))
      exact WeakR.drop' (by simp [crashR, crashOk, h, hk]; rfl) (by rfl)
    | true =>
      (repeat ((repeat1' (first | simp -implicitDefEqProofs -dsimp only [go_sem, Nat.reduceSub, Nat.reduceAdd, Nat.reduceMul, Nat.reduceLT, Nat.reduceLeDiff, Nat.reduceEqDiff, Nat.reduceDiv, Nat.reduceMod, Int.reduceToNat, Int.reduceLE, Int.reduceLT, Int.reduceBEq, Int.reduceBNe, Int.reduceNeg, Int.reduceAdd, Int.reduceSub, Int.reduceMul, reduceCtorEq, hk] | simp -implicitDefEqProofs -dsimp (disch := omega) only [wrap_i64])); repeat (with_reducible refine And.intro ?_ ?_; focus (first | omega | with_reducible rfl | (show drawOk _ = true; kernel_rfl) | (simp only [rows_length, rows_cell, List.length_append, List.length_cons, List.length_nil, List.all_append, List.all_cons, List.all_nil, isCell, Nat.mul_one, Nat.one_mul, Bool.and_self]; first | done | omega) | (simp only [ByteArray.size_append, ba_size, List.size_toArray, List.length_cons, List.length_nil]; omega)))))
      obtain ⟨k0, k1⟩ := inB'_iff.1 hk
      obtain ⟨q, rfl⟩ : ∃ q : Nat, k = q := ⟨k.toNat, by omega⟩
      have hxs : (l.Pending.extract 0 q).size = q := by rw [ByteArray.size_extract]; omega
      have hxe : crashR l q t = [.str (l.Durable ++ keptT l q t), .bool true] := by simp [crashR, crashOk, h, hk]
      rw [hxe]
      refine ⟨⟨k0, k1⟩, ?_⟩
      simp only [Int.toNat_natCast, strCells_rows]
      have hkt : keptT l q t = if t = true ∧ 0 < q then flipT (l.Pending.extract 0 q) else l.Pending.extract 0 q := by simp [keptT]
      rw [hkt]
      generalize l.Pending.extract 0 q = x at hxs ⊢
      have tk : ∀ L : List Int, L.length = x.size → bytesL (List.take x.size (rows ByteS.cs L)) = some L := fun L hL => by
        rw [List.take_of_length_le (by rw [rows_length, hL]; omega), bytesL_rows]
      cases t with
      | false =>
        (repeat ((repeat1' (first | simp -implicitDefEqProofs -dsimp only [go_sem, Nat.reduceSub, Nat.reduceAdd, Nat.reduceMul, Nat.reduceLT, Nat.reduceLeDiff, Nat.reduceEqDiff, Nat.reduceDiv, Nat.reduceMod, Int.reduceToNat, Int.reduceLE, Int.reduceLT, Int.reduceBEq, Int.reduceBNe, Int.reduceNeg, Int.reduceAdd, Int.reduceSub, Int.reduceMul, reduceCtorEq] | simp -implicitDefEqProofs -dsimp (disch := omega) only [wrap_i64])); repeat (with_reducible refine And.intro ?_ ?_; focus (first | omega | with_reducible rfl | (show drawOk _ = true; kernel_rfl) | (simp only [rows_length, rows_cell, List.length_append, List.length_cons, List.length_nil, List.all_append, List.all_cons, List.all_nil, isCell, Nat.mul_one, Nat.one_mul, Bool.and_self]; first | done | omega) | (simp only [ByteArray.size_append, ba_size, List.size_toArray, List.length_cons, List.length_nil]; omega)))))
        rw [strCells_rows, tk _ (nums_len x)]
        (repeat ((repeat1' (first | simp -implicitDefEqProofs -dsimp only [go_sem, Nat.reduceSub, Nat.reduceAdd, Nat.reduceMul, Nat.reduceLT, Nat.reduceLeDiff, Nat.reduceEqDiff, Nat.reduceDiv, Nat.reduceMod, Int.reduceToNat, Int.reduceLE, Int.reduceLT, Int.reduceBEq, Int.reduceBNe, Int.reduceNeg, Int.reduceAdd, Int.reduceSub, Int.reduceMul, reduceCtorEq, strOfNums_nums] | simp -implicitDefEqProofs -dsimp (disch := omega) only [wrap_i64])); repeat (with_reducible refine And.intro ?_ ?_; focus (first | omega | with_reducible rfl | (show drawOk _ = true; kernel_rfl) | (simp only [rows_length, rows_cell, List.length_append, List.length_cons, List.length_nil, List.all_append, List.all_cons, List.all_nil, isCell, Nat.mul_one, Nat.one_mul, Bool.and_self]; first | done | omega) | (simp only [ByteArray.size_append, ba_size, List.size_toArray, List.length_cons, List.length_nil]; omega)))))
        exact WeakR.drop' (by simp) (by rfl)
      | true =>
        (repeat ((repeat1' (first | simp -implicitDefEqProofs -dsimp only [go_sem, Nat.reduceSub, Nat.reduceAdd, Nat.reduceMul, Nat.reduceLT, Nat.reduceLeDiff, Nat.reduceEqDiff, Nat.reduceDiv, Nat.reduceMod, Int.reduceToNat, Int.reduceLE, Int.reduceLT, Int.reduceBEq, Int.reduceBNe, Int.reduceNeg, Int.reduceAdd, Int.reduceSub, Int.reduceMul, reduceCtorEq] | simp -implicitDefEqProofs -dsimp (disch := omega) only [wrap_i64])); repeat (with_reducible refine And.intro ?_ ?_; focus (first | omega | with_reducible rfl | (show drawOk _ = true; kernel_rfl) | (simp only [rows_length, rows_cell, List.length_append, List.length_cons, List.length_nil, List.all_append, List.all_cons, List.all_nil, isCell, Nat.mul_one, Nat.one_mul, Bool.and_self]; first | done | omega) | (simp only [ByteArray.size_append, ba_size, List.size_toArray, List.length_cons, List.length_nil]; omega)))))
        refine condT.split (fun g => ?_) (fun g => ?_)
        · have hq : 0 < q := by simpa using g
          obtain ⟨j, hj⟩ : ∃ j, j + 1 = q := ⟨q - 1, by omega⟩
          have hw : IntKind.i64.wrap ((q : Int) - 1) = (j : Int) := by rw [wrap_i64 (by omega) (by omega)]; omega
          have hjl : j < (nums x).length := by rw [nums_len]; omega
          have hr := rows_at ByteS.csl hjl
          have hu := nums_u8 (List.getElem_mem hjl)
          have hw8 : IntKind.u8.wrap (255 - (nums x)[j]) = 255 - (nums x)[j] := wrap_u8' (by omega) (by omega)
          have hs := set_rows (v := 255 - (nums x)[j]) hjl
          (repeat ((repeat1' (first | simp -implicitDefEqProofs -dsimp only [go_sem, Nat.reduceSub, Nat.reduceAdd, Nat.reduceMul, Nat.reduceLT, Nat.reduceLeDiff, Nat.reduceEqDiff, Nat.reduceDiv, Nat.reduceMod, Int.reduceToNat, Int.reduceLE, Int.reduceLT, Int.reduceBEq, Int.reduceBNe, Int.reduceNeg, Int.reduceAdd, Int.reduceSub, Int.reduceMul, reduceCtorEq, g, hw, strCells_rows, hr, ByteS.cs, hw8, hs] | simp -implicitDefEqProofs -dsimp (disch := omega) only [wrap_i64])); repeat (with_reducible refine And.intro ?_ ?_; focus (first | omega | with_reducible rfl | (show drawOk _ = true; kernel_rfl) | (simp only [rows_length, rows_cell, List.length_append, List.length_cons, List.length_nil, List.all_append, List.all_cons, List.all_nil, isCell, Nat.mul_one, Nat.one_mul, Bool.and_self]; first | done | omega) | (simp only [ByteArray.size_append, ba_size, List.size_toArray, List.length_cons, List.length_nil]; omega)))))
          have hfl : strOfNums ((nums x).set j (255 - (nums x)[j])) = flipT x := by
            rw [flipT]
            have e : x.size - 1 = j := by omega
            rw [e, List.getD_eq_getElem?_getD, List.getElem?_eq_getElem hjl]
            rfl
          have hfs : (flipT x).size = x.size := by rw [flipT, strOfNums_size, List.length_set, nums_len]
          rw [tk _ (by rw [List.length_set, nums_len])]
          (repeat ((repeat1' (first | simp -implicitDefEqProofs -dsimp only [go_sem, Nat.reduceSub, Nat.reduceAdd, Nat.reduceMul, Nat.reduceLT, Nat.reduceLeDiff, Nat.reduceEqDiff, Nat.reduceDiv, Nat.reduceMod, Int.reduceToNat, Int.reduceLE, Int.reduceLT, Int.reduceBEq, Int.reduceBNe, Int.reduceNeg, Int.reduceAdd, Int.reduceSub, Int.reduceMul, reduceCtorEq, hfl] | simp -implicitDefEqProofs -dsimp (disch := omega) only [wrap_i64])); repeat (with_reducible refine And.intro ?_ ?_; focus (first | omega | with_reducible rfl | (show drawOk _ = true; kernel_rfl) | (simp only [rows_length, rows_cell, List.length_append, List.length_cons, List.length_nil, List.all_append, List.all_cons, List.all_nil, isCell, Nat.mul_one, Nat.one_mul, Bool.and_self]; first | done | omega) | (simp only [ByteArray.size_append, ba_size, List.size_toArray, List.length_cons, List.length_nil]; omega)))))
          exact WeakR.drop' (by simp [hq]) (by rfl)
        · have hq : ¬ 0 < q := by simpa using g
          (repeat ((repeat1' (first | simp -implicitDefEqProofs -dsimp only [go_sem, Nat.reduceSub, Nat.reduceAdd, Nat.reduceMul, Nat.reduceLT, Nat.reduceLeDiff, Nat.reduceEqDiff, Nat.reduceDiv, Nat.reduceMod, Int.reduceToNat, Int.reduceLE, Int.reduceLT, Int.reduceBEq, Int.reduceBNe, Int.reduceNeg, Int.reduceAdd, Int.reduceSub, Int.reduceMul, reduceCtorEq, g] | simp -implicitDefEqProofs -dsimp (disch := omega) only [wrap_i64])); repeat (with_reducible refine And.intro ?_ ?_; focus (first | omega | with_reducible rfl | (show drawOk _ = true; kernel_rfl) | (simp only [rows_length, rows_cell, List.length_append, List.length_cons, List.length_nil, List.all_append, List.all_cons, List.all_nil, isCell, Nat.mul_one, Nat.one_mul, Bool.and_self]; first | done | omega) | (simp only [ByteArray.size_append, ba_size, List.size_toArray, List.length_cons, List.length_nil]; omega)))))
          rw [strCells_rows, tk _ (nums_len x)]
          (repeat ((repeat1' (first | simp -implicitDefEqProofs -dsimp only [go_sem, Nat.reduceSub, Nat.reduceAdd, Nat.reduceMul, Nat.reduceLT, Nat.reduceLeDiff, Nat.reduceEqDiff, Nat.reduceDiv, Nat.reduceMod, Int.reduceToNat, Int.reduceLE, Int.reduceLT, Int.reduceBEq, Int.reduceBNe, Int.reduceNeg, Int.reduceAdd, Int.reduceSub, Int.reduceMul, reduceCtorEq, strOfNums_nums] | simp -implicitDefEqProofs -dsimp (disch := omega) only [wrap_i64])); repeat (with_reducible refine And.intro ?_ ?_; focus (first | omega | with_reducible rfl | (show drawOk _ = true; kernel_rfl) | (simp only [rows_length, rows_cell, List.length_append, List.length_cons, List.length_nil, List.all_append, List.all_cons, List.all_nil, isCell, Nat.mul_one, Nat.one_mul, Bool.and_self]; first | done | omega) | (simp only [ByteArray.size_append, ba_size, List.size_toArray, List.length_cons, List.length_nil]; omega)))))
          exact WeakR.drop' (by simp [hq]) (by rfl)
end Go.Proofs
end
