/-
  Records of the log: their encoding. Conditions: none.
-/
import Derived.Test.YtfnlgojocgdmcaaDoorF27b
import Derived.Test.YtfnlgojocgdmcaaDoorItoa
set_option linter.unusedSimpArgs false
set_option linter.unusedVariables false
set_option maxRecDepth 100000
set_option maxHeartbeats 1000000
namespace Go.Proofs
open Go.Lv
theorem allS_app (p : UInt8 → Bool) (a b : ByteArray) : allS p (a ++ b) = (allS p a && allS p b) := by
  simp [allS, ByteArray.data_append]
theorem num_plain : ∀ (n u : Nat), u < n → allS (fun b => !(b == 35)) (num u) = true
  | 0, u, h => by omega
  | n + 1, u, h => by
    have one : ∀ d, d < 10 → allS (fun b => !(b == 35)) (digits.extract d (d + 1)) = true := by
      intro d hd
      rw [digit_at d hd]
      match d, hd with
      | 0, _ => decide
      | 1, _ => decide
      | 2, _ => decide
      | 3, _ => decide
      | 4, _ => decide
      | 5, _ => decide
      | 6, _ => decide
      | 7, _ => decide
      | 8, _ => decide
      | 9, _ => decide
    by_cases c : u < 10
    · rw [num_one c]; exact one u c
    · rw [num_more c, allS_app, num_plain n (u / 10) (by omega), one (u % 10) (by omega)]; rfl
def ckStep (h : Int) (b : UInt8) : Int := (41 * h + b.toNat + 1) % 999979
def ckTo (s : ByteArray) (i : Nat) : Int := (s.data.toList.take i).foldl ckStep 7
def ckS (s : ByteArray) : Int := ckTo s s.size
theorem ckTo_succ {s : ByteArray} {i : Nat} (h : i < s.size) : ckTo s (i + 1) = ckStep (ckTo s i) (s[i]'h) := by
  have hl : i < s.data.toList.length := h
  rw [ckTo, List.take_succ_eq_append_getElem hl, List.foldl_append, ← ba_get s h]; rfl
theorem ckTo_bd (s : ByteArray) : ∀ i, i ≤ s.size → 0 ≤ ckTo s i ∧ ckTo s i < 999979
  | 0, _ => by simp [ckTo]
  | i + 1, h => by
    rw [ckTo_succ (by omega : i < s.size), ckStep]
    omega
theorem ckS_bd (s : ByteArray) : 0 ≤ ckS s ∧ ckS s < 999979 := ckTo_bd s s.size (Nat.le_refl _)
theorem ck_tmod {h : Int} {b : UInt8} (h0 : 0 ≤ h) : (41 * h + b.toNat + 1).tmod 999979 = ckStep h b := by
  rw [ckStep, Int.tmod_eq_emod_of_nonneg (by omega)]
theorem checksum_ok (s : ByteArray) (hs : s.size ≤ 4000) : Ctr Tryd.prog 69 [.str s] [] (.tup [.int .i64 (ckS s), .bool true]) [] := by
  refine Ctr.intro Tryd.mixed Tryd.func69 rfl Tryd.okF69 ?_
  simp -implicitDefEqProofs -dsimp only [go_sem, Nat.reduceSub, Nat.reduceAdd, Nat.reduceMul, Nat.reduceLT, Nat.reduceLeDiff, Nat.reduceEqDiff, Nat.reduceDiv, Nat.reduceMod, Int.reduceToNat, Int.reduceLE, Int.reduceLT, Int.reduceBEq, Int.reduceBNe, Int.reduceNeg, Int.reduceAdd, Int.reduceSub, Int.reduceMul, reduceCtorEq, Tryd.ntmps69, Tryd.results69]
  have c0 : decide ((4000 : Int) < s.size) = false := decide_eq_false (by omega)
  simp -implicitDefEqProofs -dsimp only [go_sem, Nat.reduceSub, Nat.reduceAdd, Nat.reduceMul, Nat.reduceLT, Nat.reduceLeDiff, Nat.reduceEqDiff, Nat.reduceDiv, Nat.reduceMod, Int.reduceToNat, Int.reduceLE, Int.reduceLT, Int.reduceBEq, Int.reduceBNe, Int.reduceNeg, Int.reduceAdd, Int.reduceSub, Int.reduceMul, reduceCtorEq, c0]
  refine LoopT.intro (fun i : Nat => i ≤ s.size) (fun i => ⟨[.str s, .undef, .undef, .undef, .int .i64 (ckTo s i), .undef, .undef, .undef, .undef, .undef, .int .i64 s.size, .int .i64 i, .undef, .undef, .undef, .undef, .undef, .undef, .undef, .undef, .undef, .undef, .undef, .undef, .undef], [], 0⟩) (fun i => s.size - i) 0 (Nat.zero_le _) ?_ (fun i hi => ?_)
  · refine Weak.cut (0) (by simp) (by simp) ?_ ?_
    · simp [LeC, LeV, ren, cutF, ckTo]
    · rfl
  simp -implicitDefEqProofs -dsimp only [go_sem, Nat.reduceSub, Nat.reduceAdd, Nat.reduceMul, Nat.reduceLT, Nat.reduceLeDiff, Nat.reduceEqDiff, Nat.reduceDiv, Nat.reduceMod, Int.reduceToNat, Int.reduceLE, Int.reduceLT, Int.reduceBEq, Int.reduceBNe, Int.reduceNeg, Int.reduceAdd, Int.reduceSub, Int.reduceMul, reduceCtorEq]
  refine condT.split (fun h1 => ?_) (fun h1 => ?_)
  · simp -implicitDefEqProofs -dsimp only [go_sem, Nat.reduceSub, Nat.reduceAdd, Nat.reduceMul, Nat.reduceLT, Nat.reduceLeDiff, Nat.reduceEqDiff, Nat.reduceDiv, Nat.reduceMod, Int.reduceToNat, Int.reduceLE, Int.reduceLT, Int.reduceBEq, Int.reduceBNe, Int.reduceNeg, Int.reduceAdd, Int.reduceSub, Int.reduceMul, reduceCtorEq, h1]
    have hi' : i < s.size := by simpa using h1
    have hu := UInt8.toNat_lt (s[i]'hi')
    have hbd := ckTo_bd s i hi
    have hw1 : IntKind.i64.wrap ((s[i]'hi').toNat : Int) = ((s[i]'hi').toNat : Int) := wrap_i64 (by omega) (by omega)
    have hw2 : IntKind.i64.wrap (41 * ckTo s i) = 41 * ckTo s i := wrap_i64 (by omega) (by omega)
    have hw3 : IntKind.i64.wrap (41 * ckTo s i + ((s[i]'hi').toNat : Int)) = 41 * ckTo s i + ((s[i]'hi').toNat : Int) := wrap_i64 (by omega) (by omega)
    have hw4 : IntKind.i64.wrap (41 * ckTo s i + ((s[i]'hi').toNat : Int) + 1) = 41 * ckTo s i + ((s[i]'hi').toNat : Int) + 1 := wrap_i64 (by omega) (by omega)
    have hq := ck_tmod (b := s[i]'hi') hbd.1
    refine ⟨⟨by omega, hi'⟩, ?_⟩
    try (repeat1' (first | simp -implicitDefEqProofs -dsimp only [go_sem, Nat.reduceSub, Nat.reduceAdd, Nat.reduceMul, Nat.reduceLT, Nat.reduceLeDiff, Nat.reduceEqDiff, Nat.reduceDiv, Nat.reduceMod, Int.reduceToNat, Int.reduceLE, Int.reduceLT, Int.reduceBEq, Int.reduceBNe, Int.reduceNeg, Int.reduceAdd, Int.reduceSub, Int.reduceMul, reduceCtorEq, hw1, hw2, hw3, hw4, hq] | simp -implicitDefEqProofs -dsimp (disch := omega) only [wrap_i64]))
    repeat (with_reducible refine And.intro ?_ ?_; focus (first | omega | with_reducible rfl | (show drawOk _ = true; kernel_rfl) | (simp only [rows_length, rows_cell, List.length_append, List.length_cons, List.length_nil, List.all_append, List.all_cons, List.all_nil, isCell, Nat.mul_one, Nat.one_mul, Bool.and_self]; first | done | omega) | (simp only [ByteArray.size_append, ba_size, List.size_toArray, List.length_cons, List.length_nil]; omega)))
    refine ⟨i + 1, hi', ?_, by omega⟩
    refine Weak.cut (0) (by simp) (by simp) ?_ ?_
    · rw [ckTo_succ hi']
      try rw [wrap_i64 (by omega) (by omega)]
      simp [LeC, LeV, ren, cutF]
    · rfl
  · simp -implicitDefEqProofs -dsimp only [go_sem, Nat.reduceSub, Nat.reduceAdd, Nat.reduceMul, Nat.reduceLT, Nat.reduceLeDiff, Nat.reduceEqDiff, Nat.reduceDiv, Nat.reduceMod, Int.reduceToNat, Int.reduceLE, Int.reduceLT, Int.reduceBEq, Int.reduceBNe, Int.reduceNeg, Int.reduceAdd, Int.reduceSub, Int.reduceMul, reduceCtorEq, h1]
    have hi' : i = s.size := by simp at h1; omega
    subst hi'
    exact WeakR.drop' rfl (by rfl)
theorem l1Sum_ok (s : ByteArray) (hs : s.size ≤ 4000) : Ctr Tryd.prog 98 [.str s] [] (.int .i64 (ckS s)) [] := by
  refine Ctr.intro Tryd.mixed Tryd.func98 rfl Tryd.okF98 ?_
  simp -implicitDefEqProofs -dsimp only [go_sem, Nat.reduceSub, Nat.reduceAdd, Nat.reduceMul, Nat.reduceLT, Nat.reduceLeDiff, Nat.reduceEqDiff, Nat.reduceDiv, Nat.reduceMod, Int.reduceToNat, Int.reduceLE, Int.reduceLT, Int.reduceBEq, Int.reduceBNe, Int.reduceNeg, Int.reduceAdd, Int.reduceSub, Int.reduceMul, reduceCtorEq, Tryd.ntmps98, Tryd.results98]
  refine LoopT.intro (fun i : Nat => i ≤ s.size) (fun i => ⟨[.str s, .undef, .undef, .int .i64 (ckTo s i), .int .i64 i, .undef, .undef, .undef, .undef, .undef, .undef, .undef, .undef, .undef, .undef, .undef, .undef, .undef, .undef, .undef, .undef], [], 0⟩) (fun i => s.size - i) 0 (Nat.zero_le _) ?_ (fun i hi => ?_)
  · refine Weak.cut (0) (by simp) (by simp) ?_ ?_
    · simp [LeC, LeV, ren, cutF, ckTo]
    · rfl
  simp -implicitDefEqProofs -dsimp only [go_sem, Nat.reduceSub, Nat.reduceAdd, Nat.reduceMul, Nat.reduceLT, Nat.reduceLeDiff, Nat.reduceEqDiff, Nat.reduceDiv, Nat.reduceMod, Int.reduceToNat, Int.reduceLE, Int.reduceLT, Int.reduceBEq, Int.reduceBNe, Int.reduceNeg, Int.reduceAdd, Int.reduceSub, Int.reduceMul, reduceCtorEq]
  refine condT.split (fun h1 => ?_) (fun h1 => ?_)
  · simp -implicitDefEqProofs -dsimp only [go_sem, Nat.reduceSub, Nat.reduceAdd, Nat.reduceMul, Nat.reduceLT, Nat.reduceLeDiff, Nat.reduceEqDiff, Nat.reduceDiv, Nat.reduceMod, Int.reduceToNat, Int.reduceLE, Int.reduceLT, Int.reduceBEq, Int.reduceBNe, Int.reduceNeg, Int.reduceAdd, Int.reduceSub, Int.reduceMul, reduceCtorEq, h1]
    have hi' : i < s.size := by simpa using h1
    have hu := UInt8.toNat_lt (s[i]'hi')
    have hbd := ckTo_bd s i hi
    have hw1 : IntKind.i64.wrap ((s[i]'hi').toNat : Int) = ((s[i]'hi').toNat : Int) := wrap_i64 (by omega) (by omega)
    have hw2 : IntKind.i64.wrap (41 * ckTo s i) = 41 * ckTo s i := wrap_i64 (by omega) (by omega)
    have hw3 : IntKind.i64.wrap (41 * ckTo s i + ((s[i]'hi').toNat : Int)) = 41 * ckTo s i + ((s[i]'hi').toNat : Int) := wrap_i64 (by omega) (by omega)
    have hw4 : IntKind.i64.wrap (41 * ckTo s i + ((s[i]'hi').toNat : Int) + 1) = 41 * ckTo s i + ((s[i]'hi').toNat : Int) + 1 := wrap_i64 (by omega) (by omega)
    have hq := ck_tmod (b := s[i]'hi') hbd.1
    refine ⟨⟨by omega, hi'⟩, ?_⟩
    try (repeat1' (first | simp -implicitDefEqProofs -dsimp only [go_sem, Nat.reduceSub, Nat.reduceAdd, Nat.reduceMul, Nat.reduceLT, Nat.reduceLeDiff, Nat.reduceEqDiff, Nat.reduceDiv, Nat.reduceMod, Int.reduceToNat, Int.reduceLE, Int.reduceLT, Int.reduceBEq, Int.reduceBNe, Int.reduceNeg, Int.reduceAdd, Int.reduceSub, Int.reduceMul, reduceCtorEq, hw1, hw2, hw3, hw4, hq] | simp -implicitDefEqProofs -dsimp (disch := omega) only [wrap_i64]))
    repeat (with_reducible refine And.intro ?_ ?_; focus (first | omega | with_reducible rfl | (show drawOk _ = true; kernel_rfl) | (simp only [rows_length, rows_cell, List.length_append, List.length_cons, List.length_nil, List.all_append, List.all_cons, List.all_nil, isCell, Nat.mul_one, Nat.one_mul, Bool.and_self]; first | done | omega) | (simp only [ByteArray.size_append, ba_size, List.size_toArray, List.length_cons, List.length_nil]; omega)))
    refine ⟨i + 1, hi', ?_, by omega⟩
    refine Weak.cut (0) (by simp) (by simp) ?_ ?_
    · rw [ckTo_succ hi']
      try rw [wrap_i64 (by omega) (by omega)]
      simp [LeC, LeV, ren, cutF]
    · rfl
  · simp -implicitDefEqProofs -dsimp only [go_sem, Nat.reduceSub, Nat.reduceAdd, Nat.reduceMul, Nat.reduceLT, Nat.reduceLeDiff, Nat.reduceEqDiff, Nat.reduceDiv, Nat.reduceMod, Int.reduceToNat, Int.reduceLE, Int.reduceLT, Int.reduceBEq, Int.reduceBNe, Int.reduceNeg, Int.reduceAdd, Int.reduceSub, Int.reduceMul, reduceCtorEq, h1]
    have hi' : i = s.size := by simp at h1; omega
    subst hi'
    exact WeakR.drop' rfl (by rfl)
/-- A text with its checksum. -/
def sealS (s : ByteArray) : ByteArray := (s ++ ⟨#[35]⟩) ++ num (ckS s)
theorem ckS_size (s : ByteArray) : (num (ckS s)).size ≤ 21 := by
  have := ckS_bd s
  exact num_size' (by omega) (by omega)
theorem sealS_size (s : ByteArray) : (sealS s).size ≤ s.size + 22 := by
  have := ckS_size s
  unfold sealS
  simp only [ByteArray.size_append, ba_size, List.size_toArray, List.length_cons, List.length_nil]; omega
theorem l1Seal_ok (s : ByteArray) (hs : s.size ≤ 4000) : Ctr Tryd.prog 73 [.str s] [] (.str (sealS s)) [] := by
  have hc := ckS_bd s
  have hz := ckS_size s
  refine Ctr.intro Tryd.mixed Tryd.func73 rfl Tryd.okF73 ?_
  simp -implicitDefEqProofs -dsimp only [go_sem, Nat.reduceSub, Nat.reduceAdd, Nat.reduceMul, Nat.reduceLT, Nat.reduceLeDiff, Nat.reduceEqDiff, Nat.reduceDiv, Nat.reduceMod, Int.reduceToNat, Int.reduceLE, Int.reduceLT, Int.reduceBEq, Int.reduceBNe, Int.reduceNeg, Int.reduceAdd, Int.reduceSub, Int.reduceMul, reduceCtorEq, Tryd.ntmps73, Tryd.results73]
  repeat (first | ((first | refine callT.at (l1Sum_ok s hs) ⟨leA, trivial⟩ ?_ | refine callS.at (l1Sum_ok s hs) ⟨leA, trivial⟩ ?_); simp -implicitDefEqProofs -dsimp only [go_sem, Nat.reduceSub, Nat.reduceAdd, Nat.reduceMul, Nat.reduceLT, Nat.reduceLeDiff, Nat.reduceEqDiff, Nat.reduceDiv, Nat.reduceMod, Int.reduceToNat, Int.reduceLE, Int.reduceLT, Int.reduceBEq, Int.reduceBNe, Int.reduceNeg, Int.reduceAdd, Int.reduceSub, Int.reduceMul, reduceCtorEq]) | ((first | refine callT.at (l1Num_ok (ckS s) (by omega) (by omega)) ⟨leA, trivial⟩ ?_ | refine callS.at (l1Num_ok (ckS s) (by omega) (by omega)) ⟨leA, trivial⟩ ?_); simp -implicitDefEqProofs -dsimp only [go_sem, Nat.reduceSub, Nat.reduceAdd, Nat.reduceMul, Nat.reduceLT, Nat.reduceLeDiff, Nat.reduceEqDiff, Nat.reduceDiv, Nat.reduceMod, Int.reduceToNat, Int.reduceLE, Int.reduceLT, Int.reduceBEq, Int.reduceBNe, Int.reduceNeg, Int.reduceAdd, Int.reduceSub, Int.reduceMul, reduceCtorEq]) | (with_reducible refine And.intro (by first | omega | (show drawOk _ = true; kernel_rfl) | (simp only [ByteArray.size_append, ba_size, List.size_toArray, List.length_cons, List.length_nil]; omega)) ?_; try (repeat1' (first | simp -implicitDefEqProofs -dsimp only [go_sem, Nat.reduceSub, Nat.reduceAdd, Nat.reduceMul, Nat.reduceLT, Nat.reduceLeDiff, Nat.reduceEqDiff, Nat.reduceDiv, Nat.reduceMod, Int.reduceToNat, Int.reduceLE, Int.reduceLT, Int.reduceBEq, Int.reduceBNe, Int.reduceNeg, Int.reduceAdd, Int.reduceSub, Int.reduceMul, reduceCtorEq] | simp -implicitDefEqProofs -dsimp (disch := omega) only [wrap_i64]))))
  exact WeakR.drop' rfl (by rfl)
theorem appendChecksum_ok (s : ByteArray) (hs : s.size ≤ 1000) (hp : allS (fun b => !(b == 35)) s = true) : Ctr Tryd.prog 43 [.str s] [] (.tup [.str (sealS s), .bool true]) [] := by
  have hc := ckS_bd s
  have hz := ckS_size s
  have hss := sealS_size s
  have hno : decide (0 ≤ Lib.indexByte s.data.toList 35) = false := by
    rw [indexByte_all]
    show (!(allS (fun b => !(b == 35)) s)) = false
    rw [hp]; rfl
  have hlong : decide ((4000 : Int) < ((sealS s).size : Int)) = false := decide_eq_false (by omega)
  refine Ctr.intro Tryd.mixed Tryd.func43 rfl Tryd.okF43 ?_
  simp -implicitDefEqProofs -dsimp only [go_sem, Nat.reduceSub, Nat.reduceAdd, Nat.reduceMul, Nat.reduceLT, Nat.reduceLeDiff, Nat.reduceEqDiff, Nat.reduceDiv, Nat.reduceMod, Int.reduceToNat, Int.reduceLE, Int.reduceLT, Int.reduceBEq, Int.reduceBNe, Int.reduceNeg, Int.reduceAdd, Int.reduceSub, Int.reduceMul, reduceCtorEq, Tryd.ntmps43, Tryd.results43]
  repeat (first | ((first | refine callT.at (checksum_ok s (by omega)) ⟨leA, trivial⟩ ?_ | refine callS.at (checksum_ok s (by omega)) ⟨leA, trivial⟩ ?_); simp -implicitDefEqProofs -dsimp only [go_sem, Nat.reduceSub, Nat.reduceAdd, Nat.reduceMul, Nat.reduceLT, Nat.reduceLeDiff, Nat.reduceEqDiff, Nat.reduceDiv, Nat.reduceMod, Int.reduceToNat, Int.reduceLE, Int.reduceLT, Int.reduceBEq, Int.reduceBNe, Int.reduceNeg, Int.reduceAdd, Int.reduceSub, Int.reduceMul, reduceCtorEq]) | ((first | refine callT.at (itoaLib_ok (ckS s) ⟨by omega, by omega⟩) ⟨leA, trivial⟩ ?_ | refine callS.at (itoaLib_ok (ckS s) ⟨by omega, by omega⟩) ⟨leA, trivial⟩ ?_); simp -implicitDefEqProofs -dsimp only [go_sem, Nat.reduceSub, Nat.reduceAdd, Nat.reduceMul, Nat.reduceLT, Nat.reduceLeDiff, Nat.reduceEqDiff, Nat.reduceDiv, Nat.reduceMod, Int.reduceToNat, Int.reduceLE, Int.reduceLT, Int.reduceBEq, Int.reduceBNe, Int.reduceNeg, Int.reduceAdd, Int.reduceSub, Int.reduceMul, reduceCtorEq]) | (with_reducible refine And.intro (by first | omega | (show drawOk _ = true; kernel_rfl) | (simp only [ByteArray.size_append, ba_size, List.size_toArray, List.length_cons, List.length_nil]; omega)) ?_; try (repeat1' (first | simp -implicitDefEqProofs -dsimp only [go_sem, Nat.reduceSub, Nat.reduceAdd, Nat.reduceMul, Nat.reduceLT, Nat.reduceLeDiff, Nat.reduceEqDiff, Nat.reduceDiv, Nat.reduceMod, Int.reduceToNat, Int.reduceLE, Int.reduceLT, Int.reduceBEq, Int.reduceBNe, Int.reduceNeg, Int.reduceAdd, Int.reduceSub, Int.reduceMul, reduceCtorEq] | simp -implicitDefEqProofs -dsimp (disch := omega) only [wrap_i64]))))
  (first | refine callT.at (containsOne_ok s 35) ⟨leA, leA, trivial⟩ ?_ | refine callS.at (containsOne_ok s 35) ⟨leA, leA, trivial⟩ ?_)
  have e : (s ++ (⟨#[35]⟩ : ByteArray)) ++ num (ckS s) = sealS s := rfl
  rw [e]
  simp -implicitDefEqProofs -dsimp only [go_sem, Nat.reduceSub, Nat.reduceAdd, Nat.reduceMul, Nat.reduceLT, Nat.reduceLeDiff, Nat.reduceEqDiff, Nat.reduceDiv, Nat.reduceMod, Int.reduceToNat, Int.reduceLE, Int.reduceLT, Int.reduceBEq, Int.reduceBNe, Int.reduceNeg, Int.reduceAdd, Int.reduceSub, Int.reduceMul, reduceCtorEq, hno, hlong]
  exact WeakR.drop' rfl (by rfl)
/-- What is sealed of a record. -/
def recText (k : Int) (e : LogRecord) : ByteArray := (((num k ++ ⟨#[32]⟩) ++ e.Command) ++ ⟨#[64]⟩) ++ e.Reply
def recLine (k : Int) (e : LogRecord) : ByteArray := sealS (recText k e) ++ ⟨#[10]⟩
theorem recB_ok {e : LogRecord} (h : recB e = true) : e.Command.size ≤ 160 ∧ e.Reply.size ≤ 200 ∧ allS (fun b => plainByte b && !(b == 64)) e.Command = true ∧ allS plainByte e.Reply = true ∧ 1 ≤ e.Command.size := by
  simp [recB] at h
  exact ⟨h.1.1.2, h.2.1, h.1.2, h.2.2, h.1.1.1⟩
theorem recText_size {k : Int} {e : LogRecord} (hk : 0 ≤ k ∧ k ≤ 59) (h : recB e = true) : (recText k e).size ≤ 400 := by
  have := recB_ok h
  have := num_size' (n := k) (by omega) (by omega)
  unfold recText
  simp only [ByteArray.size_append, ba_size, List.size_toArray, List.length_cons, List.length_nil]; omega
theorem allS_mono {p q : UInt8 → Bool} {s : ByteArray} (h : allS p s = true) (hpq : ∀ b, p b = true → q b = true) : allS q s = true :=
  List.all_eq_true.2 fun x hx => hpq x (List.all_eq_true.1 h x hx)
theorem recText_plain {k : Int} {e : LogRecord} (hk : 0 ≤ k ∧ k ≤ 59) (h : recB e = true) : allS (fun b => !(b == 35)) (recText k e) = true := by
  obtain ⟨_, _, h3, h4, _⟩ := recB_ok h
  obtain ⟨u, rfl⟩ := Int.eq_ofNat_of_zero_le hk.1
  have n1 : allS (fun b => !(b == 35)) (num (u : Int)) = true := num_plain (u + 1) u (by omega)
  have c1 : allS (fun b => !(b == 35)) e.Command = true := allS_mono h3 (fun b hb => by simp [plainByte] at hb ⊢; exact hb.1.2)
  have c2 : allS (fun b => !(b == 35)) e.Reply = true := allS_mono h4 (fun b hb => by simp [plainByte] at hb ⊢; exact hb.2)
  unfold recText
  simp only [allS_app, n1, c1, c2, Bool.true_and, Bool.and_true]
  rfl
def encR (k : Int) (e : LogRecord) : List V := if inB' k 0 59 = true ∧ recB e = true then [.str (recLine k e), .bool true] else [.str ⟨#[]⟩, .bool false]
theorem iEncodeRecord_ok (k : Int) (e : LogRecord) (hc : e.Command.size ≤ 281474976710656) (hr : e.Reply.size ≤ 281474976710656) : Ctr Tryd.prog 15 [.int .i64 k, e.v] [] (.tup (encR k e)) [] := by
  refine Ctr.intro Tryd.mixed Tryd.func15 rfl Tryd.okF15 ?_
  simp -implicitDefEqProofs -dsimp only [go_sem, Nat.reduceSub, Nat.reduceAdd, Nat.reduceMul, Nat.reduceLT, Nat.reduceLeDiff, Nat.reduceEqDiff, Nat.reduceDiv, Nat.reduceMod, Int.reduceToNat, Int.reduceLE, Int.reduceLT, Int.reduceBEq, Int.reduceBNe, Int.reduceNeg, Int.reduceAdd, Int.reduceSub, Int.reduceMul, reduceCtorEq, Tryd.ntmps15, Tryd.results15]
  simp -implicitDefEqProofs -dsimp only [go_sem, Nat.reduceSub, Nat.reduceAdd, Nat.reduceMul, Nat.reduceLT, Nat.reduceLeDiff, Nat.reduceEqDiff, Nat.reduceDiv, Nat.reduceMod, Int.reduceToNat, Int.reduceLE, Int.reduceLT, Int.reduceBEq, Int.reduceBNe, Int.reduceNeg, Int.reduceAdd, Int.reduceSub, Int.reduceMul, reduceCtorEq, LogRecord.v]
  (first | refine callT.at (in_ok k 0 59) ⟨leA, leA, leA, trivial⟩ ?_ | refine callS.at (in_ok k 0 59) ⟨leA, leA, leA, trivial⟩ ?_)
  simp -implicitDefEqProofs -dsimp only [go_sem, Nat.reduceSub, Nat.reduceAdd, Nat.reduceMul, Nat.reduceLT, Nat.reduceLeDiff, Nat.reduceEqDiff, Nat.reduceDiv, Nat.reduceMod, Int.reduceToNat, Int.reduceLE, Int.reduceLT, Int.reduceBEq, Int.reduceBNe, Int.reduceNeg, Int.reduceAdd, Int.reduceSub, Int.reduceMul, reduceCtorEq]
  refine guardT.splitF (fun g1 => ?_) (fun g1 => ?_) <;> simp -implicitDefEqProofs -dsimp only [go_sem, Nat.reduceSub, Nat.reduceAdd, Nat.reduceMul, Nat.reduceLT, Nat.reduceLeDiff, Nat.reduceEqDiff, Nat.reduceDiv, Nat.reduceMod, Int.reduceToNat, Int.reduceLE, Int.reduceLT, Int.reduceBEq, Int.reduceBNe, Int.reduceNeg, Int.reduceAdd, Int.reduceSub, Int.reduceMul, reduceCtorEq, g1]
  rotate_left
  · exact WeakR.drop' (by rw [encR, if_neg (by simp at g1; simp [g1])]) (by rfl)
  (first | refine callT.at (iIsValidRecord_ok e hc hr) ⟨leA, trivial⟩ ?_ | refine callS.at (iIsValidRecord_ok e hc hr) ⟨leA, trivial⟩ ?_)
  simp -implicitDefEqProofs -dsimp only [go_sem, Nat.reduceSub, Nat.reduceAdd, Nat.reduceMul, Nat.reduceLT, Nat.reduceLeDiff, Nat.reduceEqDiff, Nat.reduceDiv, Nat.reduceMod, Int.reduceToNat, Int.reduceLE, Int.reduceLT, Int.reduceBEq, Int.reduceBNe, Int.reduceNeg, Int.reduceAdd, Int.reduceSub, Int.reduceMul, reduceCtorEq]
  refine condT.split (fun g2 => ?_) (fun g2 => ?_) <;> simp -implicitDefEqProofs -dsimp only [go_sem, Nat.reduceSub, Nat.reduceAdd, Nat.reduceMul, Nat.reduceLT, Nat.reduceLeDiff, Nat.reduceEqDiff, Nat.reduceDiv, Nat.reduceMod, Int.reduceToNat, Int.reduceLE, Int.reduceLT, Int.reduceBEq, Int.reduceBNe, Int.reduceNeg, Int.reduceAdd, Int.reduceSub, Int.reduceMul, reduceCtorEq, g2]
  · exact WeakR.drop' (by rw [encR, if_neg (by simp at g2; simp [g2])]) (by rfl)
  have hk : inB' k 0 59 = true := by simpa using g1
  have he : recB e = true := by simpa using g2
  have hk' := inB'_iff.1 hk
  have z1 := num_size' (n := k) (by omega) (by omega)
  have z2 := recB_ok he
  have z3 := recText_size hk' he
  have z4 := sealS_size (recText k e)
  have e1 : (((num k ++ (⟨#[32]⟩ : ByteArray)) ++ e.Command) ++ (⟨#[64]⟩ : ByteArray)) ++ e.Reply = recText k e := rfl
  repeat (first | ((first | refine callT.at (itoaLib_ok k ⟨by omega, by omega⟩) ⟨leA, trivial⟩ ?_ | refine callS.at (itoaLib_ok k ⟨by omega, by omega⟩) ⟨leA, trivial⟩ ?_); simp -implicitDefEqProofs -dsimp only [go_sem, Nat.reduceSub, Nat.reduceAdd, Nat.reduceMul, Nat.reduceLT, Nat.reduceLeDiff, Nat.reduceEqDiff, Nat.reduceDiv, Nat.reduceMod, Int.reduceToNat, Int.reduceLE, Int.reduceLT, Int.reduceBEq, Int.reduceBNe, Int.reduceNeg, Int.reduceAdd, Int.reduceSub, Int.reduceMul, reduceCtorEq]) | (with_reducible refine And.intro (by first | omega | (show drawOk _ = true; kernel_rfl) | (simp only [ByteArray.size_append, ba_size, List.size_toArray, List.length_cons, List.length_nil]; omega)) ?_; try (repeat1' (first | simp -implicitDefEqProofs -dsimp only [go_sem, Nat.reduceSub, Nat.reduceAdd, Nat.reduceMul, Nat.reduceLT, Nat.reduceLeDiff, Nat.reduceEqDiff, Nat.reduceDiv, Nat.reduceMod, Int.reduceToNat, Int.reduceLE, Int.reduceLT, Int.reduceBEq, Int.reduceBNe, Int.reduceNeg, Int.reduceAdd, Int.reduceSub, Int.reduceMul, reduceCtorEq] | simp -implicitDefEqProofs -dsimp (disch := omega) only [wrap_i64]))))
  rw [e1]
  repeat (first | ((first | refine callT.at (appendChecksum_ok (recText k e) (by omega) (recText_plain hk' he)) ⟨leA, trivial⟩ ?_ | refine callS.at (appendChecksum_ok (recText k e) (by omega) (recText_plain hk' he)) ⟨leA, trivial⟩ ?_); simp -implicitDefEqProofs -dsimp only [go_sem, Nat.reduceSub, Nat.reduceAdd, Nat.reduceMul, Nat.reduceLT, Nat.reduceLeDiff, Nat.reduceEqDiff, Nat.reduceDiv, Nat.reduceMod, Int.reduceToNat, Int.reduceLE, Int.reduceLT, Int.reduceBEq, Int.reduceBNe, Int.reduceNeg, Int.reduceAdd, Int.reduceSub, Int.reduceMul, reduceCtorEq]) | (with_reducible refine And.intro (by first | omega | (show drawOk _ = true; kernel_rfl) | (simp only [ByteArray.size_append, ba_size, List.size_toArray, List.length_cons, List.length_nil]; omega)) ?_; try (repeat1' (first | simp -implicitDefEqProofs -dsimp only [go_sem, Nat.reduceSub, Nat.reduceAdd, Nat.reduceMul, Nat.reduceLT, Nat.reduceLeDiff, Nat.reduceEqDiff, Nat.reduceDiv, Nat.reduceMod, Int.reduceToNat, Int.reduceLE, Int.reduceLT, Int.reduceBEq, Int.reduceBNe, Int.reduceNeg, Int.reduceAdd, Int.reduceSub, Int.reduceMul, reduceCtorEq] | simp -implicitDefEqProofs -dsimp (disch := omega) only [wrap_i64]))))
  exact WeakR.drop' (by rw [encR, if_pos ⟨hk, he⟩]; rfl) (by rfl)
theorem l27Line_ok (k : Int) (e : LogRecord) (hk : 0 ≤ k ∧ k ≤ 59) (he : recB e = true) : Ctr Tryd.prog 46 [.int .i64 k, e.v] [] (.str (recLine k e)) [] := by
  have z1 := num_size' (n := k) (by omega) (by omega)
  have z2 := recB_ok he
  have z3 := recText_size hk he
  have z4 := sealS_size (recText k e)
  have e1 : (((num k ++ (⟨#[32]⟩ : ByteArray)) ++ e.Command) ++ (⟨#[64]⟩ : ByteArray)) ++ e.Reply = recText k e := rfl
  refine Ctr.intro Tryd.mixed Tryd.func46 rfl Tryd.okF46 ?_
  simp -implicitDefEqProofs -dsimp only [go_sem, Nat.reduceSub, Nat.reduceAdd, Nat.reduceMul, Nat.reduceLT, Nat.reduceLeDiff, Nat.reduceEqDiff, Nat.reduceDiv, Nat.reduceMod, Int.reduceToNat, Int.reduceLE, Int.reduceLT, Int.reduceBEq, Int.reduceBNe, Int.reduceNeg, Int.reduceAdd, Int.reduceSub, Int.reduceMul, reduceCtorEq, Tryd.ntmps46, Tryd.results46]
  simp -implicitDefEqProofs -dsimp only [go_sem, Nat.reduceSub, Nat.reduceAdd, Nat.reduceMul, Nat.reduceLT, Nat.reduceLeDiff, Nat.reduceEqDiff, Nat.reduceDiv, Nat.reduceMod, Int.reduceToNat, Int.reduceLE, Int.reduceLT, Int.reduceBEq, Int.reduceBNe, Int.reduceNeg, Int.reduceAdd, Int.reduceSub, Int.reduceMul, reduceCtorEq, LogRecord.v]
  repeat (first | ((first | refine callT.at (l1Num_ok k (by omega) (by omega)) ⟨leA, trivial⟩ ?_ | refine callS.at (l1Num_ok k (by omega) (by omega)) ⟨leA, trivial⟩ ?_); simp -implicitDefEqProofs -dsimp only [go_sem, Nat.reduceSub, Nat.reduceAdd, Nat.reduceMul, Nat.reduceLT, Nat.reduceLeDiff, Nat.reduceEqDiff, Nat.reduceDiv, Nat.reduceMod, Int.reduceToNat, Int.reduceLE, Int.reduceLT, Int.reduceBEq, Int.reduceBNe, Int.reduceNeg, Int.reduceAdd, Int.reduceSub, Int.reduceMul, reduceCtorEq]) | (with_reducible refine And.intro (by first | omega | (show drawOk _ = true; kernel_rfl) | (simp only [ByteArray.size_append, ba_size, List.size_toArray, List.length_cons, List.length_nil]; omega)) ?_; try (repeat1' (first | simp -implicitDefEqProofs -dsimp only [go_sem, Nat.reduceSub, Nat.reduceAdd, Nat.reduceMul, Nat.reduceLT, Nat.reduceLeDiff, Nat.reduceEqDiff, Nat.reduceDiv, Nat.reduceMod, Int.reduceToNat, Int.reduceLE, Int.reduceLT, Int.reduceBEq, Int.reduceBNe, Int.reduceNeg, Int.reduceAdd, Int.reduceSub, Int.reduceMul, reduceCtorEq] | simp -implicitDefEqProofs -dsimp (disch := omega) only [wrap_i64]))))
  rw [e1]
  repeat (first | ((first | refine callT.at (l1Seal_ok (recText k e) (by omega)) ⟨leA, trivial⟩ ?_ | refine callS.at (l1Seal_ok (recText k e) (by omega)) ⟨leA, trivial⟩ ?_); simp -implicitDefEqProofs -dsimp only [go_sem, Nat.reduceSub, Nat.reduceAdd, Nat.reduceMul, Nat.reduceLT, Nat.reduceLeDiff, Nat.reduceEqDiff, Nat.reduceDiv, Nat.reduceMod, Int.reduceToNat, Int.reduceLE, Int.reduceLT, Int.reduceBEq, Int.reduceBNe, Int.reduceNeg, Int.reduceAdd, Int.reduceSub, Int.reduceMul, reduceCtorEq]) | (with_reducible refine And.intro (by first | omega | (show drawOk _ = true; kernel_rfl) | (simp only [ByteArray.size_append, ba_size, List.size_toArray, List.length_cons, List.length_nil]; omega)) ?_; try (repeat1' (first | simp -implicitDefEqProofs -dsimp only [go_sem, Nat.reduceSub, Nat.reduceAdd, Nat.reduceMul, Nat.reduceLT, Nat.reduceLeDiff, Nat.reduceEqDiff, Nat.reduceDiv, Nat.reduceMod, Int.reduceToNat, Int.reduceLE, Int.reduceLT, Int.reduceBEq, Int.reduceBNe, Int.reduceNeg, Int.reduceAdd, Int.reduceSub, Int.reduceMul, reduceCtorEq] | simp -implicitDefEqProofs -dsimp (disch := omega) only [wrap_i64]))))
  exact WeakR.drop' rfl (by rfl)
theorem sEncodeRecord_ok (k : Int) (e : LogRecord) (hc : e.Command.size ≤ 281474976710656) (hr : e.Reply.size ≤ 281474976710656) : Ctr Tryd.prog 16 [.int .i64 k, e.v] [] (.tup (encR k e)) [] := by
  refine Ctr.intro Tryd.mixed Tryd.func16 rfl Tryd.okF16 ?_
  simp -implicitDefEqProofs -dsimp only [go_sem, Nat.reduceSub, Nat.reduceAdd, Nat.reduceMul, Nat.reduceLT, Nat.reduceLeDiff, Nat.reduceEqDiff, Nat.reduceDiv, Nat.reduceMod, Int.reduceToNat, Int.reduceLE, Int.reduceLT, Int.reduceBEq, Int.reduceBNe, Int.reduceNeg, Int.reduceAdd, Int.reduceSub, Int.reduceMul, reduceCtorEq, Tryd.ntmps16, Tryd.results16]
  simp -implicitDefEqProofs -dsimp only [go_sem, Nat.reduceSub, Nat.reduceAdd, Nat.reduceMul, Nat.reduceLT, Nat.reduceLeDiff, Nat.reduceEqDiff, Nat.reduceDiv, Nat.reduceMod, Int.reduceToNat, Int.reduceLE, Int.reduceLT, Int.reduceBEq, Int.reduceBNe, Int.reduceNeg, Int.reduceAdd, Int.reduceSub, Int.reduceMul, reduceCtorEq, LogRecord.v]
  (first | refine callT.at (l1In_ok k 0 59) ⟨leA, leA, leA, trivial⟩ ?_ | refine callS.at (l1In_ok k 0 59) ⟨leA, leA, leA, trivial⟩ ?_)
  simp -implicitDefEqProofs -dsimp only [go_sem, Nat.reduceSub, Nat.reduceAdd, Nat.reduceMul, Nat.reduceLT, Nat.reduceLeDiff, Nat.reduceEqDiff, Nat.reduceDiv, Nat.reduceMod, Int.reduceToNat, Int.reduceLE, Int.reduceLT, Int.reduceBEq, Int.reduceBNe, Int.reduceNeg, Int.reduceAdd, Int.reduceSub, Int.reduceMul, reduceCtorEq]
  refine guardT.splitF (fun g1 => ?_) (fun g1 => ?_) <;> simp -implicitDefEqProofs -dsimp only [go_sem, Nat.reduceSub, Nat.reduceAdd, Nat.reduceMul, Nat.reduceLT, Nat.reduceLeDiff, Nat.reduceEqDiff, Nat.reduceDiv, Nat.reduceMod, Int.reduceToNat, Int.reduceLE, Int.reduceLT, Int.reduceBEq, Int.reduceBNe, Int.reduceNeg, Int.reduceAdd, Int.reduceSub, Int.reduceMul, reduceCtorEq, g1]
  rotate_left
  · exact WeakR.drop' (by rw [encR, if_neg (by simp at g1; simp [g1])]) (by rfl)
  (first | refine callT.at (l27Good_ok e hc hr) ⟨leA, trivial⟩ ?_ | refine callS.at (l27Good_ok e hc hr) ⟨leA, trivial⟩ ?_)
  simp -implicitDefEqProofs -dsimp only [go_sem, Nat.reduceSub, Nat.reduceAdd, Nat.reduceMul, Nat.reduceLT, Nat.reduceLeDiff, Nat.reduceEqDiff, Nat.reduceDiv, Nat.reduceMod, Int.reduceToNat, Int.reduceLE, Int.reduceLT, Int.reduceBEq, Int.reduceBNe, Int.reduceNeg, Int.reduceAdd, Int.reduceSub, Int.reduceMul, reduceCtorEq]
  refine condT.split (fun g2 => ?_) (fun g2 => ?_) <;> simp -implicitDefEqProofs -dsimp only [go_sem, Nat.reduceSub, Nat.reduceAdd, Nat.reduceMul, Nat.reduceLT, Nat.reduceLeDiff, Nat.reduceEqDiff, Nat.reduceDiv, Nat.reduceMod, Int.reduceToNat, Int.reduceLE, Int.reduceLT, Int.reduceBEq, Int.reduceBNe, Int.reduceNeg, Int.reduceAdd, Int.reduceSub, Int.reduceMul, reduceCtorEq, g2]
  · exact WeakR.drop' (by rw [encR, if_neg (by simp at g2; simp [g2])]) (by rfl)
  have hk : inB' k 0 59 = true := by simpa using g1
  have he : recB e = true := by simpa using g2
  (first | refine callT.at (l27Line_ok k e (inB'_iff.1 hk) he) ⟨leA, leA, trivial⟩ ?_ | refine callS.at (l27Line_ok k e (inB'_iff.1 hk) he) ⟨leA, leA, trivial⟩ ?_)
  simp -implicitDefEqProofs -dsimp only [go_sem, Nat.reduceSub, Nat.reduceAdd, Nat.reduceMul, Nat.reduceLT, Nat.reduceLeDiff, Nat.reduceEqDiff, Nat.reduceDiv, Nat.reduceMod, Int.reduceToNat, Int.reduceLE, Int.reduceLT, Int.reduceBEq, Int.reduceBNe, Int.reduceNeg, Int.reduceAdd, Int.reduceSub, Int.reduceMul, reduceCtorEq]
  exact WeakR.drop' (by rw [encR, if_pos ⟨hk, he⟩]) (by rfl)
end Go.Proofs
