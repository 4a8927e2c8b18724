/-
  Records of the log: whether one is valid. Conditions: none.
-/
import Derived.Test.YtfnlgojocgdmcaaDoorF27
set_option linter.unusedSimpArgs false
set_option linter.unusedVariables false
set_option maxRecDepth 100000
set_option maxHeartbeats 1000000
namespace Go.Proofs
open Go.Lv
theorem rec_any {s : ByteArray} (h : allS okByte s = true) : Lib.containsAny s.data.toList (⟨#[35, 64]⟩ : ByteArray).data.toList = !(allS (fun b => !(b == 35) && !(b == 64)) s) := by
  rw [containsAny_all]
  congr 2
  funext x
  show (!(List.contains [35, 64] x)) = _
  simp only [List.contains_cons, List.contains_nil, Bool.or_false, Bool.not_or]
theorem rec_cmd (s : ByteArray) : allS (fun b => plainByte b && !(b == 64)) s = (allS okByte s && allS (fun b => !(b == 35) && !(b == 64)) s) := by
  rw [← allS_and]
  congr 1
  funext b
  exact Bool.and_assoc _ _ _
theorem rec_reply (s : ByteArray) : allS plainByte s = (allS okByte s && allS (fun b => !(b == 35)) s) := allS_and okByte _ s
theorem ascii_of {s : ByteArray} (h : allS okByte s = true) : ∀ (j : Nat) b, s.data.toList[j]? = some b → b.toNat < 128 := by
  intro j b hb
  have := List.all_eq_true.1 h b (List.mem_of_getElem? hb)
  simp [okByte] at this; omega
theorem ascii_two : ∀ (j : Nat) b, (⟨#[35, 64]⟩ : ByteArray).data.toList[j]? = some b → b.toNat < 128 := by
  intro j b hb
  have := List.mem_of_getElem? hb
  simp at this
  rcases this with rfl | rfl <;> decide
theorem ba_loop (s : ByteArray) : ∀ (n i : Nat) (r : List UInt8), s.size - i = n → ByteArray.toList.loop s i r = r.reverse ++ s.data.toList.drop i
  | 0, i, r, h => by
    unfold ByteArray.toList.loop
    rw [if_neg (by omega), List.drop_eq_nil_of_le (by rw [ba_len]; omega), List.append_nil]
  | n + 1, i, r, h => by
    have hi : i < s.data.toList.length := by rw [ba_len]; omega
    unfold ByteArray.toList.loop
    rw [if_pos (by omega), ba_loop s n (i + 1) _ (by omega), List.drop_eq_getElem_cons hi]
    have : s.get! i = s.data.toList[i] := by
      rw [ba_get s hi]
      exact getElem!_pos s.data i hi
    rw [this]
    simp
theorem ba_list (s : ByteArray) : s.toList = s.data.toList := by
  rw [ByteArray.toList, ba_loop s s.size 0 [] (by omega)]
  simp
theorem ba_ne (s : ByteArray) : (!(s.toList == (⟨#[]⟩ : ByteArray).toList)) = decide (1 ≤ s.size) := by
  rw [ba_list, ba_list, ← ba_len]
  cases s.data.toList with
  | nil => rfl
  | cons a l => simp
theorem iIsValidRecord_ok (e : LogRecord) (hc : e.Command.size ≤ 281474976710656) (hr : e.Reply.size ≤ 281474976710656) : Ctr Tryd.prog 26 [e.v] [] (.bool (recB e)) [] := by
  refine Ctr.intro Tryd.mixed Tryd.func26 rfl Tryd.okF26 ?_
  simp -implicitDefEqProofs -dsimp only [go_sem, Nat.reduceSub, Nat.reduceAdd, Nat.reduceMul, Nat.reduceLT, Nat.reduceLeDiff, Nat.reduceEqDiff, Nat.reduceDiv, Nat.reduceMod, Int.reduceToNat, Int.reduceLE, Int.reduceLT, Int.reduceBEq, Int.reduceBNe, Int.reduceNeg, Int.reduceAdd, Int.reduceSub, Int.reduceMul, reduceCtorEq, Tryd.ntmps26, Tryd.results26]
  simp -implicitDefEqProofs -dsimp only [go_sem, Nat.reduceSub, Nat.reduceAdd, Nat.reduceMul, Nat.reduceLT, Nat.reduceLeDiff, Nat.reduceEqDiff, Nat.reduceDiv, Nat.reduceMod, Int.reduceToNat, Int.reduceLE, Int.reduceLT, Int.reduceBEq, Int.reduceBNe, Int.reduceNeg, Int.reduceAdd, Int.reduceSub, Int.reduceMul, reduceCtorEq, LogRecord.v]
  (first | refine callT.at (in_ok _ _ _) ⟨leA, leA, leA, trivial⟩ ?_ | refine callS.at (in_ok _ _ _) ⟨leA, leA, leA, trivial⟩ ?_)
  simp -implicitDefEqProofs -dsimp only [go_sem, Nat.reduceSub, Nat.reduceAdd, Nat.reduceMul, Nat.reduceLT, Nat.reduceLeDiff, Nat.reduceEqDiff, Nat.reduceDiv, Nat.reduceMod, Int.reduceToNat, Int.reduceLE, Int.reduceLT, Int.reduceBEq, Int.reduceBNe, Int.reduceNeg, Int.reduceAdd, Int.reduceSub, Int.reduceMul, reduceCtorEq]
  refine guardT.splitT (fun g1 => ?_) (fun g1 => ?_) <;> simp -implicitDefEqProofs -dsimp only [go_sem, Nat.reduceSub, Nat.reduceAdd, Nat.reduceMul, Nat.reduceLT, Nat.reduceLeDiff, Nat.reduceEqDiff, Nat.reduceDiv, Nat.reduceMod, Int.reduceToNat, Int.reduceLE, Int.reduceLT, Int.reduceBEq, Int.reduceBNe, Int.reduceNeg, Int.reduceAdd, Int.reduceSub, Int.reduceMul, reduceCtorEq, g1]
  rotate_left
  · refine WeakR.drop' ?_ (by rfl)
    simp [inB'] at g1
    simp [recB]; omega
  have hs := inB'_iff.1 g1
  have b1 : decide (1 ≤ e.Command.size) = true := decide_eq_true (by omega)
  have b2 : decide (e.Command.size ≤ 160) = true := decide_eq_true (by omega)
  (first | refine callT.at (isPrintable_ok e.Command hc) ⟨leA, trivial⟩ ?_ | refine callS.at (isPrintable_ok e.Command hc) ⟨leA, trivial⟩ ?_)
  simp -implicitDefEqProofs -dsimp only [go_sem, Nat.reduceSub, Nat.reduceAdd, Nat.reduceMul, Nat.reduceLT, Nat.reduceLeDiff, Nat.reduceEqDiff, Nat.reduceDiv, Nat.reduceMod, Int.reduceToNat, Int.reduceLE, Int.reduceLT, Int.reduceBEq, Int.reduceBNe, Int.reduceNeg, Int.reduceAdd, Int.reduceSub, Int.reduceMul, reduceCtorEq]
  refine guardT.splitT (fun g2 => ?_) (fun g2 => ?_) <;> simp -implicitDefEqProofs -dsimp only [go_sem, Nat.reduceSub, Nat.reduceAdd, Nat.reduceMul, Nat.reduceLT, Nat.reduceLeDiff, Nat.reduceEqDiff, Nat.reduceDiv, Nat.reduceMod, Int.reduceToNat, Int.reduceLE, Int.reduceLT, Int.reduceBEq, Int.reduceBNe, Int.reduceNeg, Int.reduceAdd, Int.reduceSub, Int.reduceMul, reduceCtorEq, g2]
  rotate_left
  · refine WeakR.drop' ?_ (by rfl)
    simp [recB, rec_cmd, g2]
  (first | refine callT.at (containsAny_ok e.Command ⟨#[35, 64]⟩ (by omega) (by decide) (ascii_of g2) ascii_two) ⟨leA, leA, trivial⟩ ?_ | refine callS.at (containsAny_ok e.Command ⟨#[35, 64]⟩ (by omega) (by decide) (ascii_of g2) ascii_two) ⟨leA, leA, trivial⟩ ?_)
  simp -implicitDefEqProofs -dsimp only [go_sem, Nat.reduceSub, Nat.reduceAdd, Nat.reduceMul, Nat.reduceLT, Nat.reduceLeDiff, Nat.reduceEqDiff, Nat.reduceDiv, Nat.reduceMod, Int.reduceToNat, Int.reduceLE, Int.reduceLT, Int.reduceBEq, Int.reduceBNe, Int.reduceNeg, Int.reduceAdd, Int.reduceSub, Int.reduceMul, reduceCtorEq, rec_any g2, Bool.not_not]
  refine guardT.splitT (fun g3 => ?_) (fun g3 => ?_) <;> simp -implicitDefEqProofs -dsimp only [go_sem, Nat.reduceSub, Nat.reduceAdd, Nat.reduceMul, Nat.reduceLT, Nat.reduceLeDiff, Nat.reduceEqDiff, Nat.reduceDiv, Nat.reduceMod, Int.reduceToNat, Int.reduceLE, Int.reduceLT, Int.reduceBEq, Int.reduceBNe, Int.reduceNeg, Int.reduceAdd, Int.reduceSub, Int.reduceMul, reduceCtorEq, g3]
  rotate_left
  · refine WeakR.drop' ?_ (by rfl)
    simp [recB, rec_cmd, g2, g3]
  refine guardT.splitT (fun g4 => ?_) (fun g4 => ?_) <;> simp -implicitDefEqProofs -dsimp only [go_sem, Nat.reduceSub, Nat.reduceAdd, Nat.reduceMul, Nat.reduceLT, Nat.reduceLeDiff, Nat.reduceEqDiff, Nat.reduceDiv, Nat.reduceMod, Int.reduceToNat, Int.reduceLE, Int.reduceLT, Int.reduceBEq, Int.reduceBNe, Int.reduceNeg, Int.reduceAdd, Int.reduceSub, Int.reduceMul, reduceCtorEq, g4]
  rotate_left
  · refine WeakR.drop' ?_ (by rfl)
    have : decide (e.Reply.size ≤ 200) = false := by simp at g4 ⊢; omega
    simp only [recB, this, Bool.false_and, Bool.and_false]
  have b3 : decide (e.Reply.size ≤ 200) = true := by simp at g4 ⊢; omega
  (first | refine callT.at (isPrintable_ok e.Reply hr) ⟨leA, trivial⟩ ?_ | refine callS.at (isPrintable_ok e.Reply hr) ⟨leA, trivial⟩ ?_)
  simp -implicitDefEqProofs -dsimp only [go_sem, Nat.reduceSub, Nat.reduceAdd, Nat.reduceMul, Nat.reduceLT, Nat.reduceLeDiff, Nat.reduceEqDiff, Nat.reduceDiv, Nat.reduceMod, Int.reduceToNat, Int.reduceLE, Int.reduceLT, Int.reduceBEq, Int.reduceBNe, Int.reduceNeg, Int.reduceAdd, Int.reduceSub, Int.reduceMul, reduceCtorEq]
  refine guardT.splitT (fun g5 => ?_) (fun g5 => ?_) <;> simp -implicitDefEqProofs -dsimp only [go_sem, Nat.reduceSub, Nat.reduceAdd, Nat.reduceMul, Nat.reduceLT, Nat.reduceLeDiff, Nat.reduceEqDiff, Nat.reduceDiv, Nat.reduceMod, Int.reduceToNat, Int.reduceLE, Int.reduceLT, Int.reduceBEq, Int.reduceBNe, Int.reduceNeg, Int.reduceAdd, Int.reduceSub, Int.reduceMul, reduceCtorEq, g5]
  rotate_left
  · refine WeakR.drop' ?_ (by rfl)
    simp [recB, rec_reply, g5]
  (first | refine callT.at (containsOne_ok e.Reply 35) ⟨leA, leA, trivial⟩ ?_ | refine callS.at (containsOne_ok e.Reply 35) ⟨leA, leA, trivial⟩ ?_)
  simp -implicitDefEqProofs -dsimp only [go_sem, Nat.reduceSub, Nat.reduceAdd, Nat.reduceMul, Nat.reduceLT, Nat.reduceLeDiff, Nat.reduceEqDiff, Nat.reduceDiv, Nat.reduceMod, Int.reduceToNat, Int.reduceLE, Int.reduceLT, Int.reduceBEq, Int.reduceBNe, Int.reduceNeg, Int.reduceAdd, Int.reduceSub, Int.reduceMul, reduceCtorEq, indexByte_all]
  refine WeakR.drop' ?_ (by rfl)
  simp only [recB, rec_cmd, rec_reply, g2, g3, g5, b1, b2, b3, Bool.and_true, Bool.true_and, Bool.not_not]
  rfl
theorem l27Good_ok (e : LogRecord) (hc : e.Command.size ≤ 281474976710656) (hr : e.Reply.size ≤ 281474976710656) : Ctr Tryd.prog 45 [e.v] [] (.bool (recB e)) [] := by
  refine Ctr.intro Tryd.mixed Tryd.func45 rfl Tryd.okF45 ?_
  simp -implicitDefEqProofs -dsimp only [go_sem, Nat.reduceSub, Nat.reduceAdd, Nat.reduceMul, Nat.reduceLT, Nat.reduceLeDiff, Nat.reduceEqDiff, Nat.reduceDiv, Nat.reduceMod, Int.reduceToNat, Int.reduceLE, Int.reduceLT, Int.reduceBEq, Int.reduceBNe, Int.reduceNeg, Int.reduceAdd, Int.reduceSub, Int.reduceMul, reduceCtorEq, Tryd.ntmps45, Tryd.results45]
  simp -implicitDefEqProofs -dsimp only [go_sem, Nat.reduceSub, Nat.reduceAdd, Nat.reduceMul, Nat.reduceLT, Nat.reduceLeDiff, Nat.reduceEqDiff, Nat.reduceDiv, Nat.reduceMod, Int.reduceToNat, Int.reduceLE, Int.reduceLT, Int.reduceBEq, Int.reduceBNe, Int.reduceNeg, Int.reduceAdd, Int.reduceSub, Int.reduceMul, reduceCtorEq, LogRecord.v, ba_ne]
  refine guardT.splitT (fun g1 => ?_) (fun g1 => ?_) <;> simp -implicitDefEqProofs -dsimp only [go_sem, Nat.reduceSub, Nat.reduceAdd, Nat.reduceMul, Nat.reduceLT, Nat.reduceLeDiff, Nat.reduceEqDiff, Nat.reduceDiv, Nat.reduceMod, Int.reduceToNat, Int.reduceLE, Int.reduceLT, Int.reduceBEq, Int.reduceBNe, Int.reduceNeg, Int.reduceAdd, Int.reduceSub, Int.reduceMul, reduceCtorEq, g1, ba_ne]
  rotate_left
  · refine WeakR.drop' ?_ (by rfl)
    simp only [recB, g1, Bool.false_and]
  (first | refine callT.at (l27Plain_ok e.Command 160 hc) ⟨leA, leA, trivial⟩ ?_ | refine callS.at (l27Plain_ok e.Command 160 hc) ⟨leA, leA, trivial⟩ ?_)
  simp -implicitDefEqProofs -dsimp only [go_sem, Nat.reduceSub, Nat.reduceAdd, Nat.reduceMul, Nat.reduceLT, Nat.reduceLeDiff, Nat.reduceEqDiff, Nat.reduceDiv, Nat.reduceMod, Int.reduceToNat, Int.reduceLE, Int.reduceLT, Int.reduceBEq, Int.reduceBNe, Int.reduceNeg, Int.reduceAdd, Int.reduceSub, Int.reduceMul, reduceCtorEq]
  refine guardT.splitT (fun g2 => ?_) (fun g2 => ?_) <;> simp -implicitDefEqProofs -dsimp only [go_sem, Nat.reduceSub, Nat.reduceAdd, Nat.reduceMul, Nat.reduceLT, Nat.reduceLeDiff, Nat.reduceEqDiff, Nat.reduceDiv, Nat.reduceMod, Int.reduceToNat, Int.reduceLE, Int.reduceLT, Int.reduceBEq, Int.reduceBNe, Int.reduceNeg, Int.reduceAdd, Int.reduceSub, Int.reduceMul, reduceCtorEq, g2, ba_ne]
  rotate_left
  · refine WeakR.drop' ?_ (by rfl)
    have : allS (fun b => plainByte b && !(b == 64)) e.Command = (allS plainByte e.Command && allS (fun b => !(b == 64)) e.Command) := allS_and _ _ _
    simp only [recB, this]
    by_cases k : e.Command.size ≤ 160
    · have : allS plainByte e.Command = false := by
        cases q : allS plainByte e.Command with
        | false => rfl
        | true => rw [q] at g2; simp at g2; omega
      simp [this]
    · simp [k]
  have g2' : allS plainByte e.Command = true ∧ e.Command.size ≤ 160 := by simp at g2; exact ⟨g2.1, by omega⟩
  (first | refine callT.at (l1Stands_ok e.Command 64 hc) ⟨leA, leA, trivial⟩ ?_ | refine callS.at (l1Stands_ok e.Command 64 hc) ⟨leA, leA, trivial⟩ ?_)
  simp -implicitDefEqProofs -dsimp only [go_sem, Nat.reduceSub, Nat.reduceAdd, Nat.reduceMul, Nat.reduceLT, Nat.reduceLeDiff, Nat.reduceEqDiff, Nat.reduceDiv, Nat.reduceMod, Int.reduceToNat, Int.reduceLE, Int.reduceLT, Int.reduceBEq, Int.reduceBNe, Int.reduceNeg, Int.reduceAdd, Int.reduceSub, Int.reduceMul, reduceCtorEq, Bool.not_not]
  refine guardT.splitT (fun g3 => ?_) (fun g3 => ?_) <;> simp -implicitDefEqProofs -dsimp only [go_sem, Nat.reduceSub, Nat.reduceAdd, Nat.reduceMul, Nat.reduceLT, Nat.reduceLeDiff, Nat.reduceEqDiff, Nat.reduceDiv, Nat.reduceMod, Int.reduceToNat, Int.reduceLE, Int.reduceLT, Int.reduceBEq, Int.reduceBNe, Int.reduceNeg, Int.reduceAdd, Int.reduceSub, Int.reduceMul, reduceCtorEq, g3, ba_ne]
  rotate_left
  · refine WeakR.drop' ?_ (by rfl)
    have : allS (fun b => plainByte b && !(b == 64)) e.Command = (allS plainByte e.Command && allS (fun b => !(b == 64)) e.Command) := allS_and _ _ _
    simp only [recB, this, g3, Bool.and_false, Bool.false_and]
  (first | refine callT.at (l27Plain_ok e.Reply 200 hr) ⟨leA, leA, trivial⟩ ?_ | refine callS.at (l27Plain_ok e.Reply 200 hr) ⟨leA, leA, trivial⟩ ?_)
  simp -implicitDefEqProofs -dsimp only [go_sem, Nat.reduceSub, Nat.reduceAdd, Nat.reduceMul, Nat.reduceLT, Nat.reduceLeDiff, Nat.reduceEqDiff, Nat.reduceDiv, Nat.reduceMod, Int.reduceToNat, Int.reduceLE, Int.reduceLT, Int.reduceBEq, Int.reduceBNe, Int.reduceNeg, Int.reduceAdd, Int.reduceSub, Int.reduceMul, reduceCtorEq]
  refine WeakR.drop' ?_ (by rfl)
  have h4 : allS (fun b => plainByte b && !(b == 64)) e.Command = (allS plainByte e.Command && allS (fun b => !(b == 64)) e.Command) := allS_and _ _ _
  simp only [recB, h4, g3, g2'.1, g1, decide_eq_true g2'.2, Bool.and_true, Bool.true_and]
  congr 1
  have h6 : decide ((e.Reply.size : Int) ≤ 200) = decide (e.Reply.size ≤ 200) := by rw [Bool.eq_iff_iff]; simp; omega
  rw [h6, Bool.and_comm]
theorem sIsValidRecord_ok (e : LogRecord) (hc : e.Command.size ≤ 281474976710656) (hr : e.Reply.size ≤ 281474976710656) : Ctr Tryd.prog 27 [e.v] [] (.bool (recB e)) [] := by
  refine Ctr.intro Tryd.mixed Tryd.func27 rfl Tryd.okF27 ?_
  simp -implicitDefEqProofs -dsimp only [go_sem, Nat.reduceSub, Nat.reduceAdd, Nat.reduceMul, Nat.reduceLT, Nat.reduceLeDiff, Nat.reduceEqDiff, Nat.reduceDiv, Nat.reduceMod, Int.reduceToNat, Int.reduceLE, Int.reduceLT, Int.reduceBEq, Int.reduceBNe, Int.reduceNeg, Int.reduceAdd, Int.reduceSub, Int.reduceMul, reduceCtorEq, Tryd.ntmps27, Tryd.results27]
  simp -implicitDefEqProofs -dsimp only [go_sem, Nat.reduceSub, Nat.reduceAdd, Nat.reduceMul, Nat.reduceLT, Nat.reduceLeDiff, Nat.reduceEqDiff, Nat.reduceDiv, Nat.reduceMod, Int.reduceToNat, Int.reduceLE, Int.reduceLT, Int.reduceBEq, Int.reduceBNe, Int.reduceNeg, Int.reduceAdd, Int.reduceSub, Int.reduceMul, reduceCtorEq, LogRecord.v]
  (first | refine callT.at (l27Good_ok e hc hr) ⟨leA, trivial⟩ ?_ | refine callS.at (l27Good_ok e hc hr) ⟨leA, trivial⟩ ?_)
  simp -implicitDefEqProofs -dsimp only [go_sem, Nat.reduceSub, Nat.reduceAdd, Nat.reduceMul, Nat.reduceLT, Nat.reduceLeDiff, Nat.reduceEqDiff, Nat.reduceDiv, Nat.reduceMod, Int.reduceToNat, Int.reduceLE, Int.reduceLT, Int.reduceBEq, Int.reduceBNe, Int.reduceNeg, Int.reduceAdd, Int.reduceSub, Int.reduceMul, reduceCtorEq]
  exact WeakR.drop' rfl (by rfl)
end Go.Proofs
