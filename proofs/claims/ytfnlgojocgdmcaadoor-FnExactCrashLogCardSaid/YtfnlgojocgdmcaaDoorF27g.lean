/-
  The log: decoding, and the records at the beginning of a text. Conditions: none.
-/
import Derived.Test.YtfnlgojocgdmcaaDoorF27e
import Derived.Test.YtfnlgojocgdmcaaDoorTIntS
set_option linter.unusedSimpArgs false
set_option linter.unusedVariables false
set_option maxRecDepth 100000
set_option maxHeartbeats 2000000
namespace Go.Proofs
open Go.Lv
def decV : Option (LogRecord × Nat) → V
  | some r => .tup [r.1.v, .int .i64 r.2, .bool true]
  | none => .tup [.agg [.str ⟨#[]⟩, .str ⟨#[]⟩], .int .i64 0, .bool false]
theorem decode_ok (k : Int) (s : ByteArray) (hs : s.size ≤ 16777216) : Ctr Tryd.prog 76 [.int .i64 k, .str s] [] (decV (decL k s)) [] := by
  have z1 := bef_size 10 s
  have z2 := bef_size 35 (bef 10 s)
  have z3 := aft_size 32 (bef 35 (bef 10 s))
  have z4 := bef_size 64 (aft 32 (bef 35 (bef 10 s)))
  have z5 := aft_size 64 (aft 32 (bef 35 (bef 10 s)))
  refine Ctr.intro Tryd.mixed Tryd.func76 rfl Tryd.okF76 ?_
  simp -implicitDefEqProofs -dsimp only [go_sem, Nat.reduceSub, Nat.reduceAdd, Nat.reduceMul, Nat.reduceLT, Nat.reduceLeDiff, Nat.reduceEqDiff, Nat.reduceDiv, Nat.reduceMod, Int.reduceToNat, Int.reduceLE, Int.reduceLT, Int.reduceBEq, Int.reduceBNe, Int.reduceNeg, Int.reduceAdd, Int.reduceSub, Int.reduceMul, reduceCtorEq, Tryd.ntmps76, Tryd.results76]
  repeat (with_reducible refine And.intro ?_ ?_; focus (first | omega | with_reducible rfl | (show drawOk _ = true; kernel_rfl) | (simp only [rows_length, rows_cell, List.length_append, List.length_cons, List.length_nil, List.all_append, List.all_cons, List.all_nil, isCell, Nat.mul_one, Nat.one_mul, Bool.and_self]; first | done | omega) | (simp only [ByteArray.size_append, ba_size, List.size_toArray, List.length_cons, List.length_nil]; omega)))
  (first | refine callT.at (cut_ok s 10 (by omega)) ⟨leA, leA, trivial⟩ ?_ | refine callS.at (cut_ok s 10 (by omega)) ⟨leA, leA, trivial⟩ ?_)
  simp -implicitDefEqProofs -dsimp only [go_sem, Nat.reduceSub, Nat.reduceAdd, Nat.reduceMul, Nat.reduceLT, Nat.reduceLeDiff, Nat.reduceEqDiff, Nat.reduceDiv, Nat.reduceMod, Int.reduceToNat, Int.reduceLE, Int.reduceLT, Int.reduceBEq, Int.reduceBNe, Int.reduceNeg, Int.reduceAdd, Int.reduceSub, Int.reduceMul, reduceCtorEq]
  have no : decL k s = none → ∀ h, WeakR 0 (.tup [.agg [.str ByteArray.empty, .str ByteArray.empty], .int .i64 0, .bool false]) h (decV (decL k s)) [] := fun e h => WeakR.drop' (by rw [e]; rfl) (by rfl)
  cases hf : fnd 10 s with
  | false =>
    have hn : decL k s = none := by rw [decL, hf]; rfl
    simp -implicitDefEqProofs -dsimp only [go_sem, Nat.reduceSub, Nat.reduceAdd, Nat.reduceMul, Nat.reduceLT, Nat.reduceLeDiff, Nat.reduceEqDiff, Nat.reduceDiv, Nat.reduceMod, Int.reduceToNat, Int.reduceLE, Int.reduceLT, Int.reduceBEq, Int.reduceBNe, Int.reduceNeg, Int.reduceAdd, Int.reduceSub, Int.reduceMul, reduceCtorEq, hf, Bool.not_false]
    repeat (with_reducible refine And.intro ?_ ?_; focus (first | omega | with_reducible rfl | (show drawOk _ = true; kernel_rfl) | (simp only [rows_length, rows_cell, List.length_append, List.length_cons, List.length_nil, List.all_append, List.all_cons, List.all_nil, isCell, Nat.mul_one, Nat.one_mul, Bool.and_self]; first | done | omega) | (simp only [ByteArray.size_append, ba_size, List.size_toArray, List.length_cons, List.length_nil]; omega)))
    exact no hn _
  | true =>
    have hd : decL k s = (decE k (bef 10 s)).map fun e => (e, (bef 10 s).size + 1) := by rw [decL, if_pos hf]
    have hsz := fnd_size hf
    simp -implicitDefEqProofs -dsimp only [go_sem, Nat.reduceSub, Nat.reduceAdd, Nat.reduceMul, Nat.reduceLT, Nat.reduceLeDiff, Nat.reduceEqDiff, Nat.reduceDiv, Nat.reduceMod, Int.reduceToNat, Int.reduceLE, Int.reduceLT, Int.reduceBEq, Int.reduceBNe, Int.reduceNeg, Int.reduceAdd, Int.reduceSub, Int.reduceMul, reduceCtorEq, hf, Bool.not_true]
    refine condT.split (fun g1 => ?_) (fun g1 => ?_) <;> (repeat ((repeat1' (first | simp -implicitDefEqProofs -dsimp only [go_sem, Nat.reduceSub, Nat.reduceAdd, Nat.reduceMul, Nat.reduceLT, Nat.reduceLeDiff, Nat.reduceEqDiff, Nat.reduceDiv, Nat.reduceMod, Int.reduceToNat, Int.reduceLE, Int.reduceLT, Int.reduceBEq, Int.reduceBNe, Int.reduceNeg, Int.reduceAdd, Int.reduceSub, Int.reduceMul, reduceCtorEq, g1] | simp -implicitDefEqProofs -dsimp (disch := omega) only [wrap_i64])); repeat (with_reducible refine And.intro ?_ ?_; focus (first | omega | with_reducible rfl | (show drawOk _ = true; kernel_rfl) | (simp only [rows_length, rows_cell, List.length_append, List.length_cons, List.length_nil, List.all_append, List.all_cons, List.all_nil, isCell, Nat.mul_one, Nat.one_mul, Bool.and_self]; first | done | omega) | (simp only [ByteArray.size_append, ba_size, List.size_toArray, List.length_cons, List.length_nil]; omega)))))
    · refine no ?_ _
      rw [hd, decE_none]
      · rfl
      · rintro e ⟨hk, he, hl⟩
        have := recText_size hk he
        have := sealS_size (recText k e)
        rw [hl] at this
        simp at g1
        omega
    (first | refine callT.at (cut_ok (bef 10 s) 35 (by omega)) ⟨leA, leA, trivial⟩ ?_ | refine callS.at (cut_ok (bef 10 s) 35 (by omega)) ⟨leA, leA, trivial⟩ ?_)
    simp -implicitDefEqProofs -dsimp only [go_sem, Nat.reduceSub, Nat.reduceAdd, Nat.reduceMul, Nat.reduceLT, Nat.reduceLeDiff, Nat.reduceEqDiff, Nat.reduceDiv, Nat.reduceMod, Int.reduceToNat, Int.reduceLE, Int.reduceLT, Int.reduceBEq, Int.reduceBNe, Int.reduceNeg, Int.reduceAdd, Int.reduceSub, Int.reduceMul, reduceCtorEq]
    (first | refine callT.at (cut_ok (bef 35 (bef 10 s)) 32 (by omega)) ⟨leA, leA, trivial⟩ ?_ | refine callS.at (cut_ok (bef 35 (bef 10 s)) 32 (by omega)) ⟨leA, leA, trivial⟩ ?_)
    simp -implicitDefEqProofs -dsimp only [go_sem, Nat.reduceSub, Nat.reduceAdd, Nat.reduceMul, Nat.reduceLT, Nat.reduceLeDiff, Nat.reduceEqDiff, Nat.reduceDiv, Nat.reduceMod, Int.reduceToNat, Int.reduceLE, Int.reduceLT, Int.reduceBEq, Int.reduceBNe, Int.reduceNeg, Int.reduceAdd, Int.reduceSub, Int.reduceMul, reduceCtorEq]
    (first | refine callT.at (cut_ok (aft 32 (bef 35 (bef 10 s))) 64 (by omega)) ⟨leA, leA, trivial⟩ ?_ | refine callS.at (cut_ok (aft 32 (bef 35 (bef 10 s))) 64 (by omega)) ⟨leA, leA, trivial⟩ ?_)
    (repeat ((repeat1' (first | simp -implicitDefEqProofs -dsimp only [go_sem, Nat.reduceSub, Nat.reduceAdd, Nat.reduceMul, Nat.reduceLT, Nat.reduceLeDiff, Nat.reduceEqDiff, Nat.reduceDiv, Nat.reduceMod, Int.reduceToNat, Int.reduceLE, Int.reduceLT, Int.reduceBEq, Int.reduceBNe, Int.reduceNeg, Int.reduceAdd, Int.reduceSub, Int.reduceMul, reduceCtorEq] | simp -implicitDefEqProofs -dsimp (disch := omega) only [wrap_i64])); repeat (with_reducible refine And.intro ?_ ?_; focus (first | omega | with_reducible rfl | (show drawOk _ = true; kernel_rfl) | (simp only [rows_length, rows_cell, List.length_append, List.length_cons, List.length_nil, List.all_append, List.all_cons, List.all_nil, isCell, Nat.mul_one, Nat.one_mul, Bool.and_self]; first | done | omega) | (simp only [ByteArray.size_append, ba_size, List.size_toArray, List.length_cons, List.length_nil]; omega)))))
    have hE := iEncodeRecord_ok k (parseI (bef 10 s)) (by show (bef 64 _).size ≤ _; omega) (by show (aft 64 _).size ≤ _; omega)
    have pc : (parseI (bef 10 s)).Command = bef 64 (aft 32 (bef 35 (bef 10 s))) := rfl
    have pr : (parseI (bef 10 s)).Reply = aft 64 (aft 32 (bef 35 (bef 10 s))) := rfl
    by_cases hc : inB' k 0 59 = true ∧ recB (parseI (bef 10 s)) = true
    · rw [encR, if_pos hc] at hE
      have t1 := recText_size (inB'_iff.1 hc.1) hc.2
      have t2 := sealS_size (recText k (parseI (bef 10 s)))
      have t3 : (recLine k (parseI (bef 10 s))).size = (sealS (recText k (parseI (bef 10 s)))).size + 1 := by rw [recLine, ByteArray.size_append]; rfl
      (first | refine callT.at (hE) ⟨leA, leA, trivial⟩ ?_ | refine callS.at (hE) ⟨leA, leA, trivial⟩ ?_)
      (repeat ((repeat1' (first | simp -implicitDefEqProofs -dsimp only [go_sem, Nat.reduceSub, Nat.reduceAdd, Nat.reduceMul, Nat.reduceLT, Nat.reduceLeDiff, Nat.reduceEqDiff, Nat.reduceDiv, Nat.reduceMod, Int.reduceToNat, Int.reduceLE, Int.reduceLT, Int.reduceBEq, Int.reduceBNe, Int.reduceNeg, Int.reduceAdd, Int.reduceSub, Int.reduceMul, reduceCtorEq, ba_beq] | simp -implicitDefEqProofs -dsimp (disch := omega) only [wrap_i64])); repeat (with_reducible refine And.intro ?_ ?_; focus (first | omega | with_reducible rfl | (show drawOk _ = true; kernel_rfl) | (simp only [rows_length, rows_cell, List.length_append, List.length_cons, List.length_nil, List.all_append, List.all_cons, List.all_nil, isCell, Nat.mul_one, Nat.one_mul, Bool.and_self]; first | done | omega) | (simp only [ByteArray.size_append, ba_size, List.size_toArray, List.length_cons, List.length_nil]; omega)))))
      by_cases hq : recLine k (parseI (bef 10 s)) = bef 10 s ++ ⟨#[10]⟩
      · have hdq : decide (recLine k (parseI (bef 10 s)) = bef 10 s ++ (⟨#[10]⟩ : ByteArray)) = true := decide_eq_true hq
        have hs' : decE k (bef 10 s) = some (parseI (bef 10 s)) := decE_some.2 ⟨inB'_iff.1 hc.1, hc.2, append_right_inj hq⟩
        (repeat ((repeat1' (first | simp -implicitDefEqProofs -dsimp only [go_sem, Nat.reduceSub, Nat.reduceAdd, Nat.reduceMul, Nat.reduceLT, Nat.reduceLeDiff, Nat.reduceEqDiff, Nat.reduceDiv, Nat.reduceMod, Int.reduceToNat, Int.reduceLE, Int.reduceLT, Int.reduceBEq, Int.reduceBNe, Int.reduceNeg, Int.reduceAdd, Int.reduceSub, Int.reduceMul, reduceCtorEq, hdq, Bool.not_true] | simp -implicitDefEqProofs -dsimp (disch := omega) only [wrap_i64])); repeat (with_reducible refine And.intro ?_ ?_; focus (first | omega | with_reducible rfl | (show drawOk _ = true; kernel_rfl) | (simp only [rows_length, rows_cell, List.length_append, List.length_cons, List.length_nil, List.all_append, List.all_cons, List.all_nil, isCell, Nat.mul_one, Nat.one_mul, Bool.and_self]; first | done | omega) | (simp only [ByteArray.size_append, ba_size, List.size_toArray, List.length_cons, List.length_nil]; omega)))))
        refine WeakR.drop' ?_ (by rfl)
        rw [hd, hs']
        simp only [Option.map_some, decV, LogRecord.v, pc, pr]
        rfl
      · have hdq : decide (recLine k (parseI (bef 10 s)) = bef 10 s ++ (⟨#[10]⟩ : ByteArray)) = false := decide_eq_false hq
        have hn : decL k s = none := by
          rw [hd, decE_none]
          · rfl
          · rintro e ⟨hk, he, hl⟩
            have := parseI_ok hk he
            rw [hl] at this
            rw [this] at hq
            exact hq (by rw [recLine, hl])
        (repeat ((repeat1' (first | simp -implicitDefEqProofs -dsimp only [go_sem, Nat.reduceSub, Nat.reduceAdd, Nat.reduceMul, Nat.reduceLT, Nat.reduceLeDiff, Nat.reduceEqDiff, Nat.reduceDiv, Nat.reduceMod, Int.reduceToNat, Int.reduceLE, Int.reduceLT, Int.reduceBEq, Int.reduceBNe, Int.reduceNeg, Int.reduceAdd, Int.reduceSub, Int.reduceMul, reduceCtorEq, hdq, Bool.not_false] | simp -implicitDefEqProofs -dsimp (disch := omega) only [wrap_i64])); repeat (with_reducible refine And.intro ?_ ?_; focus (first | omega | with_reducible rfl | (show drawOk _ = true; kernel_rfl) | (simp only [rows_length, rows_cell, List.length_append, List.length_cons, List.length_nil, List.all_append, List.all_cons, List.all_nil, isCell, Nat.mul_one, Nat.one_mul, Bool.and_self]; first | done | omega) | (simp only [ByteArray.size_append, ba_size, List.size_toArray, List.length_cons, List.length_nil]; omega)))))
        exact no hn _
    · rw [encR, if_neg hc] at hE
      have hn : decL k s = none := by
        rw [hd, decE_none]
        · rfl
        · rintro e ⟨hk, he, hl⟩
          have := parseI_ok hk he
          rw [hl] at this
          rw [this] at hc
          exact hc ⟨inB'_iff.2 hk, he⟩
      (first | refine callT.at (hE) ⟨leA, leA, trivial⟩ ?_ | refine callS.at (hE) ⟨leA, leA, trivial⟩ ?_)
      (repeat ((repeat1' (first | simp -implicitDefEqProofs -dsimp only [go_sem, Nat.reduceSub, Nat.reduceAdd, Nat.reduceMul, Nat.reduceLT, Nat.reduceLeDiff, Nat.reduceEqDiff, Nat.reduceDiv, Nat.reduceMod, Int.reduceToNat, Int.reduceLE, Int.reduceLT, Int.reduceBEq, Int.reduceBNe, Int.reduceNeg, Int.reduceAdd, Int.reduceSub, Int.reduceMul, reduceCtorEq, Bool.not_false] | simp -implicitDefEqProofs -dsimp (disch := omega) only [wrap_i64])); repeat (with_reducible refine And.intro ?_ ?_; focus (first | omega | with_reducible rfl | (show drawOk _ = true; kernel_rfl) | (simp only [rows_length, rows_cell, List.length_append, List.length_cons, List.length_nil, List.all_append, List.all_cons, List.all_nil, isCell, Nat.mul_one, Nat.one_mul, Bool.and_self]; first | done | omega) | (simp only [ByteArray.size_append, ba_size, List.size_toArray, List.length_cons, List.length_nil]; omega)))))
      exact no hn _
def readV (s : ByteArray) : V := .tup [.osl 0 0 (recsOf s).length 2, .osl 1 0 (recsOf s).length 1]
def readH (s : ByteArray) : Hp := [some (rows LogRecord.cs (recsOf s)), some (rows IntS.cs (endsTo s (recsOf s).length))]
theorem read_ok (s : ByteArray) (hs : s.size ≤ 16777216) : Ctr Tryd.prog 51 [.str s] [] (readV s) (readH s) := by
  refine Ctr.intro Tryd.mixed Tryd.func51 rfl Tryd.okF51 ?_
  simp -implicitDefEqProofs -dsimp only [go_sem, Nat.reduceSub, Nat.reduceAdd, Nat.reduceMul, Nat.reduceLT, Nat.reduceLeDiff, Nat.reduceEqDiff, Nat.reduceDiv, Nat.reduceMod, Int.reduceToNat, Int.reduceLE, Int.reduceLT, Int.reduceBEq, Int.reduceBNe, Int.reduceNeg, Int.reduceAdd, Int.reduceSub, Int.reduceMul, reduceCtorEq, Tryd.ntmps51, Tryd.results51]
  refine LoopT.intro (fun i : Nat => (rdN s i).1.length = i) (fun i => ⟨[.str s, .undef, .undef, .undef, .osl 0 0 i 2, .osl 1 0 i 1, .int .i64 (rdN s i).2, .undef, .undef, .undef, .undef, .undef, .undef, .undef, .undef, .undef, .undef, .undef, .undef, .undef, .undef, .undef, .undef, .undef, .undef, .undef, .undef, .undef, .undef, .undef, .undef, .undef, .undef, .undef, .undef, .undef, .undef], [some (rows LogRecord.cs (rdN s i).1), some (rows IntS.cs (endsTo s i))], 0⟩) (fun i => 61 - i) 0 rfl ?_ (fun i hi => ?_)
  · refine Weak.cut (2) (by simp) (by simp) ?_ ?_
    · simp [LeC, LeV, ren, cutF, rdN]
    · simp [cutH, cutB, rdN, rows, endsTo]
  have hb := rdN_bd s i
  have h60 := rdN_60 s i
  have hez : (s.extract (rdN s i).2 s.size).size ≤ 16777216 := by rw [ByteArray.size_extract]; omega
  have hen := endsTo_len s i
  rw [hi] at h60
  simp -implicitDefEqProofs -dsimp only [go_sem, Nat.reduceSub, Nat.reduceAdd, Nat.reduceMul, Nat.reduceLT, Nat.reduceLeDiff, Nat.reduceEqDiff, Nat.reduceDiv, Nat.reduceMod, Int.reduceToNat, Int.reduceLE, Int.reduceLT, Int.reduceBEq, Int.reduceBNe, Int.reduceNeg, Int.reduceAdd, Int.reduceSub, Int.reduceMul, reduceCtorEq]
  repeat (with_reducible refine And.intro ?_ ?_; focus (first | omega | with_reducible rfl | (show drawOk _ = true; kernel_rfl) | (simp only [rows_length, rows_cell, List.length_append, List.length_cons, List.length_nil, List.all_append, List.all_cons, List.all_nil, isCell, Nat.mul_one, Nat.one_mul, Bool.and_self]; first | done | omega) | (simp only [ByteArray.size_append, ba_size, List.size_toArray, List.length_cons, List.length_nil]; omega)))
  (first | refine callT.at (decode_ok (i : Int) (s.extract (rdN s i).2 s.size) hez) ⟨leA, leA, trivial⟩ ?_ | refine callS.at (decode_ok (i : Int) (s.extract (rdN s i).2 s.size) hez) ⟨leA, leA, trivial⟩ ?_)
  cases hd : decL (i : Int) (s.extract (rdN s i).2 s.size) with
  | none =>
    have e := rdN_done hi hd
    (repeat ((repeat1' (first | simp -implicitDefEqProofs -dsimp only [go_sem, Nat.reduceSub, Nat.reduceAdd, Nat.reduceMul, Nat.reduceLT, Nat.reduceLeDiff, Nat.reduceEqDiff, Nat.reduceDiv, Nat.reduceMod, Int.reduceToNat, Int.reduceLE, Int.reduceLT, Int.reduceBEq, Int.reduceBNe, Int.reduceNeg, Int.reduceAdd, Int.reduceSub, Int.reduceMul, reduceCtorEq, decV, Bool.not_false] | simp -implicitDefEqProofs -dsimp (disch := omega) only [wrap_i64])); repeat (with_reducible refine And.intro ?_ ?_; focus (first | omega | with_reducible rfl | (show drawOk _ = true; kernel_rfl) | (simp only [rows_length, rows_cell, List.length_append, List.length_cons, List.length_nil, List.all_append, List.all_cons, List.all_nil, isCell, Nat.mul_one, Nat.one_mul, Bool.and_self]; first | done | omega) | (simp only [ByteArray.size_append, ba_size, List.size_toArray, List.length_cons, List.length_nil]; omega)))))
    have e1 : recsOf s = (rdN s i).1 := by rw [recsOf, e]
    rw [readV, readH, e1, hi]
    refine WeakR.pick [0, 1] (by decide) (fun j hj => by omega) (.inl ?_) ?_
    · first | rfl | (simp [ren, pickF, posOf]; done)
    · simp only [pickH, List.map_cons, List.map_nil, pickB, List.getElem?_cons_zero, List.getElem?_cons_succ, map_ren_rows]
  | some r =>
    have hz := decL_size hd
    rw [ByteArray.size_extract] at hz
    have hk := decL_k hd
    have hS : rdN s (i + 1) = ((rdN s i).1 ++ [r.1], (rdN s i).2 + r.2) := rdN_some (by rw [hi]; exact hd)
    (repeat ((repeat1' (first | simp -implicitDefEqProofs -dsimp only [go_sem, Nat.reduceSub, Nat.reduceAdd, Nat.reduceMul, Nat.reduceLT, Nat.reduceLeDiff, Nat.reduceEqDiff, Nat.reduceDiv, Nat.reduceMod, Int.reduceToNat, Int.reduceLE, Int.reduceLT, Int.reduceBEq, Int.reduceBNe, Int.reduceNeg, Int.reduceAdd, Int.reduceSub, Int.reduceMul, reduceCtorEq, decV, Bool.not_true, LogRecord.v] | simp -implicitDefEqProofs -dsimp (disch := omega) only [wrap_i64])); repeat (with_reducible refine And.intro ?_ ?_; focus (first | omega | with_reducible rfl | (show drawOk _ = true; kernel_rfl) | (simp only [rows_length, rows_cell, List.length_append, List.length_cons, List.length_nil, List.all_append, List.all_cons, List.all_nil, isCell, Nat.mul_one, Nat.one_mul, Bool.and_self]; first | done | omega) | (simp only [ByteArray.size_append, ba_size, List.size_toArray, List.length_cons, List.length_nil]; omega)))))
    refine ⟨i + 1, by rw [hS]; simp [hi], ?_, by omega⟩
    have e2 := endsTo_succ s i
    rw [hS] at e2
    refine Weak.cut (2) (by simp) (by simp) ?_ ?_
    · rw [hS]; simp [LeC, LeV, ren, cutF]
    · rw [e2, hS, ← rows_snoc, ← rows_snoc]
      simp [cutH, cutB, ren, cutF, map_ren_rows, killC, killF, LogRecord.cs, IntS.cs]
theorem l27Read_ok (k : Int) (s : ByteArray) (hk : 0 ≤ k ∧ k ≤ 59) (hs : s.size ≤ 16777216) : Ctr Tryd.prog 78 [.str s, .int .i64 k] [] (.tup [(parseS k s).1.v, .bool (parseS k s).2]) [] := by
  have n1 := num_size' (n := k) (by omega) (by omega)
  have z2 := bef_size 35 s
  obtain ⟨l, hl, _⟩ := splS_spec 35 s
  have hsp := l1Split_ok s 35 hs
  rw [hl] at hsp
  have c35 : (((35 : UInt8).toNat : Nat) : Int) = 35 := rfl
  have c64 : (((64 : UInt8).toNat : Nat) : Int) = 64 := rfl
  rw [c35] at hsp
  refine Ctr.intro Tryd.mixed Tryd.func78 rfl Tryd.okF78 ?_
  simp -implicitDefEqProofs -dsimp only [go_sem, Nat.reduceSub, Nat.reduceAdd, Nat.reduceMul, Nat.reduceLT, Nat.reduceLeDiff, Nat.reduceEqDiff, Nat.reduceDiv, Nat.reduceMod, Int.reduceToNat, Int.reduceLE, Int.reduceLT, Int.reduceBEq, Int.reduceBNe, Int.reduceNeg, Int.reduceAdd, Int.reduceSub, Int.reduceMul, reduceCtorEq, Tryd.ntmps78, Tryd.results78]
  repeat (with_reducible refine And.intro ?_ ?_; focus (first | omega | with_reducible rfl | (show drawOk _ = true; kernel_rfl) | (simp only [rows_length, rows_cell, List.length_append, List.length_cons, List.length_nil, List.all_append, List.all_cons, List.all_nil, isCell, Nat.mul_one, Nat.one_mul, Bool.and_self]; first | done | omega) | (simp only [ByteArray.size_append, ba_size, List.size_toArray, List.length_cons, List.length_nil]; omega)))
  repeat (first | ((first | refine callT.at (l1Num_ok k (by omega) (by omega)) ⟨leA, trivial⟩ ?_ | refine callS.at (l1Num_ok k (by omega) (by omega)) ⟨leA, trivial⟩ ?_); simp -implicitDefEqProofs -dsimp only [go_sem, Nat.reduceSub, Nat.reduceAdd, Nat.reduceMul, Nat.reduceLT, Nat.reduceLeDiff, Nat.reduceEqDiff, Nat.reduceDiv, Nat.reduceMod, Int.reduceToNat, Int.reduceLE, Int.reduceLT, Int.reduceBEq, Int.reduceBNe, Int.reduceNeg, Int.reduceAdd, Int.reduceSub, Int.reduceMul, reduceCtorEq]) | (with_reducible refine And.intro (by first | omega | (show drawOk _ = true; kernel_rfl) | (simp only [ByteArray.size_append, ba_size, List.size_toArray, List.length_cons, List.length_nil]; omega)) ?_; try (repeat1' (first | simp -implicitDefEqProofs -dsimp only [go_sem, Nat.reduceSub, Nat.reduceAdd, Nat.reduceMul, Nat.reduceLT, Nat.reduceLeDiff, Nat.reduceEqDiff, Nat.reduceDiv, Nat.reduceMod, Int.reduceToNat, Int.reduceLE, Int.reduceLT, Int.reduceBEq, Int.reduceBNe, Int.reduceNeg, Int.reduceAdd, Int.reduceSub, Int.reduceMul, reduceCtorEq] | simp -implicitDefEqProofs -dsimp (disch := omega) only [wrap_i64]))))
  (first | refine callT.at (hsp) ⟨leA, leA, trivial⟩ ?_ | refine callS.at (hsp) ⟨leA, leA, trivial⟩ ?_)
  (repeat ((repeat1' (first | simp -implicitDefEqProofs -dsimp only [go_sem, Nat.reduceSub, Nat.reduceAdd, Nat.reduceMul, Nat.reduceLT, Nat.reduceLeDiff, Nat.reduceEqDiff, Nat.reduceDiv, Nat.reduceMod, Int.reduceToNat, Int.reduceLE, Int.reduceLT, Int.reduceBEq, Int.reduceBNe, Int.reduceNeg, Int.reduceAdd, Int.reduceSub, Int.reduceMul, reduceCtorEq, List.length_cons, rows_cons, StringS.cs] | simp -implicitDefEqProofs -dsimp (disch := omega) only [wrap_i64])); repeat (with_reducible refine And.intro ?_ ?_; focus (first | omega | with_reducible rfl | (show drawOk _ = true; kernel_rfl) | (simp only [rows_length, rows_cell, List.length_append, List.length_cons, List.length_nil, List.all_append, List.all_cons, List.all_nil, isCell, Nat.mul_one, Nat.one_mul, Bool.and_self]; first | done | omega) | (simp only [ByteArray.size_append, ba_size, List.size_toArray, List.length_cons, List.length_nil]; omega)))))
  have h32 : ((#[32] : Array UInt8).size) = 1 := rfl
  have hN : (num k ++ (⟨#[32]⟩ : ByteArray)).size = (num k).size + 1 := ByteArray.size_append
  rw [h32]
  refine guardT.splitF (fun g1 => ?_) (fun g1 => ?_) <;> simp -implicitDefEqProofs -dsimp only [go_sem, Nat.reduceSub, Nat.reduceAdd, Nat.reduceMul, Nat.reduceLT, Nat.reduceLeDiff, Nat.reduceEqDiff, Nat.reduceDiv, Nat.reduceMod, Int.reduceToNat, Int.reduceLE, Int.reduceLT, Int.reduceBEq, Int.reduceBNe, Int.reduceNeg, Int.reduceAdd, Int.reduceSub, Int.reduceMul, reduceCtorEq, g1, h32]
  rotate_left
  · repeat (with_reducible refine And.intro ?_ ?_; focus (first | omega | with_reducible rfl | (show drawOk _ = true; kernel_rfl) | (simp only [rows_length, rows_cell, List.length_append, List.length_cons, List.length_nil, List.all_append, List.all_cons, List.all_nil, isCell, Nat.mul_one, Nat.one_mul, Bool.and_self]; first | done | omega) | (simp only [ByteArray.size_append, ba_size, List.size_toArray, List.length_cons, List.length_nil]; omega)))
    refine WeakR.drop' ?_ (by rfl)
    rw [parseS, if_pos (.inl (by rw [hN]; simp at g1; omega))]
    rfl
  repeat (with_reducible refine And.intro ?_ ?_; focus (first | omega | with_reducible rfl | (show drawOk _ = true; kernel_rfl) | (simp only [rows_length, rows_cell, List.length_append, List.length_cons, List.length_nil, List.all_append, List.all_cons, List.all_nil, isCell, Nat.mul_one, Nat.one_mul, Bool.and_self]; first | done | omega) | (simp only [ByteArray.size_append, ba_size, List.size_toArray, List.length_cons, List.length_nil]; omega)))
  simp -implicitDefEqProofs -dsimp only [go_sem, Nat.reduceSub, Nat.reduceAdd, Nat.reduceMul, Nat.reduceLT, Nat.reduceLeDiff, Nat.reduceEqDiff, Nat.reduceDiv, Nat.reduceMod, Int.reduceToNat, Int.reduceLE, Int.reduceLT, Int.reduceBEq, Int.reduceBNe, Int.reduceNeg, Int.reduceAdd, Int.reduceSub, Int.reduceMul, reduceCtorEq, ba_beq]
  have g1' : (num k).size + 1 ≤ (bef 35 s).size := by simp at g1; omega
  refine ⟨by omega, ?_⟩
  refine condT.split (fun g2 => ?_) (fun g2 => ?_) <;> simp -implicitDefEqProofs -dsimp only [go_sem, Nat.reduceSub, Nat.reduceAdd, Nat.reduceMul, Nat.reduceLT, Nat.reduceLeDiff, Nat.reduceEqDiff, Nat.reduceDiv, Nat.reduceMod, Int.reduceToNat, Int.reduceLE, Int.reduceLT, Int.reduceBEq, Int.reduceBNe, Int.reduceNeg, Int.reduceAdd, Int.reduceSub, Int.reduceMul, reduceCtorEq, g2, h32]
  · repeat (with_reducible refine And.intro ?_ ?_; focus (first | omega | with_reducible rfl | (show drawOk _ = true; kernel_rfl) | (simp only [rows_length, rows_cell, List.length_append, List.length_cons, List.length_nil, List.all_append, List.all_cons, List.all_nil, isCell, Nat.mul_one, Nat.one_mul, Bool.and_self]; first | done | omega) | (simp only [ByteArray.size_append, ba_size, List.size_toArray, List.length_cons, List.length_nil]; omega)))
    refine WeakR.drop' ?_ (by rfl)
    rw [parseS, if_pos (.inr (by rw [hN]; simpa using g2))]
    rfl
  have hno : ¬ ((bef 35 s).size < (num k ++ (⟨#[32]⟩ : ByteArray)).size ∨ ¬ (bef 35 s).extract 0 (num k ++ (⟨#[32]⟩ : ByteArray)).size = num k ++ (⟨#[32]⟩ : ByteArray)) := by
    rw [hN]
    rintro (q | q)
    · omega
    · simp at g2; exact q g2
  have hP : parseS k s = parseR k s ((bef 35 s).extract ((num k).size + 1) (bef 35 s).size) := by rw [parseS, if_neg hno, hN]
  have hRs : ((bef 35 s).extract ((num k).size + 1) (bef 35 s).size).size ≤ s.size := by rw [ByteArray.size_extract]; omega
  repeat (with_reducible refine And.intro ?_ ?_; focus (first | omega | with_reducible rfl | (show drawOk _ = true; kernel_rfl) | (simp only [rows_length, rows_cell, List.length_append, List.length_cons, List.length_nil, List.all_append, List.all_cons, List.all_nil, isCell, Nat.mul_one, Nat.one_mul, Bool.and_self]; first | done | omega) | (simp only [ByteArray.size_append, ba_size, List.size_toArray, List.length_cons, List.length_nil]; omega)))
  generalize hR : (bef 35 s).extract ((num k).size + 1) (bef 35 s).size = R at hP hRs ⊢
  have hz4 := bef_size 64 R
  obtain ⟨l2, hl2, _⟩ := splS_spec 64 R
  have hsp2 := l1Split_ok R 64 (by omega)
  rw [hl2, c64] at hsp2
  (first | refine callT.at (hsp2) ⟨leA, leA, trivial⟩ ?_ | refine callS.at (hsp2) ⟨leA, leA, trivial⟩ ?_)
  (repeat ((repeat1' (first | simp -implicitDefEqProofs -dsimp only [go_sem, Nat.reduceSub, Nat.reduceAdd, Nat.reduceMul, Nat.reduceLT, Nat.reduceLeDiff, Nat.reduceEqDiff, Nat.reduceDiv, Nat.reduceMod, Int.reduceToNat, Int.reduceLE, Int.reduceLT, Int.reduceBEq, Int.reduceBNe, Int.reduceNeg, Int.reduceAdd, Int.reduceSub, Int.reduceMul, reduceCtorEq, List.length_cons, rows_cons, StringS.cs] | simp -implicitDefEqProofs -dsimp (disch := omega) only [wrap_i64])); repeat (with_reducible refine And.intro ?_ ?_; focus (first | omega | with_reducible rfl | (show drawOk _ = true; kernel_rfl) | (simp only [rows_length, rows_cell, List.length_append, List.length_cons, List.length_nil, List.all_append, List.all_cons, List.all_nil, isCell, Nat.mul_one, Nat.one_mul, Bool.and_self]; first | done | omega) | (simp only [ByteArray.size_append, ba_size, List.size_toArray, List.length_cons, List.length_nil]; omega)))))
  refine condT.split (fun g3 => ?_) (fun g3 => ?_) <;> simp -implicitDefEqProofs -dsimp only [go_sem, Nat.reduceSub, Nat.reduceAdd, Nat.reduceMul, Nat.reduceLT, Nat.reduceLeDiff, Nat.reduceEqDiff, Nat.reduceDiv, Nat.reduceMod, Int.reduceToNat, Int.reduceLE, Int.reduceLT, Int.reduceBEq, Int.reduceBNe, Int.reduceNeg, Int.reduceAdd, Int.reduceSub, Int.reduceMul, reduceCtorEq, g3]
  · repeat (with_reducible refine And.intro ?_ ?_; focus (first | omega | with_reducible rfl | (show drawOk _ = true; kernel_rfl) | (simp only [rows_length, rows_cell, List.length_append, List.length_cons, List.length_nil, List.all_append, List.all_cons, List.all_nil, isCell, Nat.mul_one, Nat.one_mul, Bool.and_self]; first | done | omega) | (simp only [ByteArray.size_append, ba_size, List.size_toArray, List.length_cons, List.length_nil]; omega)))
    refine WeakR.drop' ?_ (by rfl)
    rw [hP, parseR, if_pos (by simp at g3; omega)]
    rfl
  have g3' : (bef 64 R).size + 1 ≤ R.size := by simp at g3; omega
  have hP2 : parseR k s R = (⟨bef 64 R, R.extract ((bef 64 R).size + 1) R.size⟩, recB ⟨bef 64 R, R.extract ((bef 64 R).size + 1) R.size⟩ && decide (recLine k ⟨bef 64 R, R.extract ((bef 64 R).size + 1) R.size⟩ = s ++ ⟨#[10]⟩)) := by
    rw [parseR, if_neg (by omega)]
  have hq : IntKind.i64.wrap (((bef 64 R).size : Int) + 1) = (((bef 64 R).size + 1 : Nat) : Int) := by rw [wrap_i64 (by omega) (by omega)]; omega
  have hEz : (R.extract ((bef 64 R).size + 1) R.size).size ≤ R.size := by rw [ByteArray.size_extract]; omega
  (repeat ((repeat1' (first | simp -implicitDefEqProofs -dsimp only [go_sem, Nat.reduceSub, Nat.reduceAdd, Nat.reduceMul, Nat.reduceLT, Nat.reduceLeDiff, Nat.reduceEqDiff, Nat.reduceDiv, Nat.reduceMod, Int.reduceToNat, Int.reduceLE, Int.reduceLT, Int.reduceBEq, Int.reduceBNe, Int.reduceNeg, Int.reduceAdd, Int.reduceSub, Int.reduceMul, reduceCtorEq, hq] | simp -implicitDefEqProofs -dsimp (disch := omega) only [wrap_i64])); repeat (with_reducible refine And.intro ?_ ?_; focus (first | omega | with_reducible rfl | (show drawOk _ = true; kernel_rfl) | (simp only [rows_length, rows_cell, List.length_append, List.length_cons, List.length_nil, List.all_append, List.all_cons, List.all_nil, isCell, Nat.mul_one, Nat.one_mul, Bool.and_self]; first | done | omega) | (simp only [ByteArray.size_append, ba_size, List.size_toArray, List.length_cons, List.length_nil]; omega)))))
  have hE1 : R.extract (IntKind.i64.wrap (((bef 64 R).size : Int) + 1)).toNat R.size = R.extract ((bef 64 R).size + 1) R.size := by rw [hq]; rfl
  rw [hE1]
  generalize hE : R.extract ((bef 64 R).size + 1) R.size = E at hP2 hEz ⊢
  (first | refine callT.at (l27Good_ok ⟨bef 64 R, E⟩ (by show (bef 64 R).size ≤ _; omega) (by show E.size ≤ _; omega)) ⟨leA, trivial⟩ ?_ | refine callS.at (l27Good_ok ⟨bef 64 R, E⟩ (by show (bef 64 R).size ≤ _; omega) (by show E.size ≤ _; omega)) ⟨leA, trivial⟩ ?_)
  cases hb : recB ⟨bef 64 R, E⟩ with
  | false =>
    simp -implicitDefEqProofs -dsimp only [go_sem, Nat.reduceSub, Nat.reduceAdd, Nat.reduceMul, Nat.reduceLT, Nat.reduceLeDiff, Nat.reduceEqDiff, Nat.reduceDiv, Nat.reduceMod, Int.reduceToNat, Int.reduceLE, Int.reduceLT, Int.reduceBEq, Int.reduceBNe, Int.reduceNeg, Int.reduceAdd, Int.reduceSub, Int.reduceMul, reduceCtorEq]
    repeat (with_reducible refine And.intro ?_ ?_; focus (first | omega | with_reducible rfl | (show drawOk _ = true; kernel_rfl) | (simp only [rows_length, rows_cell, List.length_append, List.length_cons, List.length_nil, List.all_append, List.all_cons, List.all_nil, isCell, Nat.mul_one, Nat.one_mul, Bool.and_self]; first | done | omega) | (simp only [ByteArray.size_append, ba_size, List.size_toArray, List.length_cons, List.length_nil]; omega)))
    refine WeakR.drop' ?_ (by rfl)
    rw [hP, hP2, hb]
    rfl
  | true =>
    have t1 := recText_size hk hb
    have t2 := sealS_size (recText k ⟨bef 64 R, E⟩)
    simp -implicitDefEqProofs -dsimp only [go_sem, Nat.reduceSub, Nat.reduceAdd, Nat.reduceMul, Nat.reduceLT, Nat.reduceLeDiff, Nat.reduceEqDiff, Nat.reduceDiv, Nat.reduceMod, Int.reduceToNat, Int.reduceLE, Int.reduceLT, Int.reduceBEq, Int.reduceBNe, Int.reduceNeg, Int.reduceAdd, Int.reduceSub, Int.reduceMul, reduceCtorEq]
    have hLn := l27Line_ok k ⟨bef 64 R, E⟩ hk hb
    simp only [LogRecord.v] at hLn
    (first | refine callT.at (hLn) ⟨leA, leA, trivial⟩ ?_ | refine callS.at (hLn) ⟨leA, leA, trivial⟩ ?_)
    (repeat ((repeat1' (first | simp -implicitDefEqProofs -dsimp only [go_sem, Nat.reduceSub, Nat.reduceAdd, Nat.reduceMul, Nat.reduceLT, Nat.reduceLeDiff, Nat.reduceEqDiff, Nat.reduceDiv, Nat.reduceMod, Int.reduceToNat, Int.reduceLE, Int.reduceLT, Int.reduceBEq, Int.reduceBNe, Int.reduceNeg, Int.reduceAdd, Int.reduceSub, Int.reduceMul, reduceCtorEq, ba_beq] | simp -implicitDefEqProofs -dsimp (disch := omega) only [wrap_i64])); repeat (with_reducible refine And.intro ?_ ?_; focus (first | omega | with_reducible rfl | (show drawOk _ = true; kernel_rfl) | (simp only [rows_length, rows_cell, List.length_append, List.length_cons, List.length_nil, List.all_append, List.all_cons, List.all_nil, isCell, Nat.mul_one, Nat.one_mul, Bool.and_self]; first | done | omega) | (simp only [ByteArray.size_append, ba_size, List.size_toArray, List.length_cons, List.length_nil]; omega)))))
    refine WeakR.drop' ?_ (by rfl)
    rw [hP, hP2, hb, Bool.true_and]
    rfl
end Go.Proofs
