/-
  The log: the reference's reading. Conditions: none.
-/
import Derived.Test.YtfnlgojocgdmcaaDoorF27g
set_option linter.unusedSimpArgs false
set_option linter.unusedVariables false
set_option maxRecDepth 100000
set_option maxHeartbeats 2000000
namespace Go.Proofs
open Go.Lv
def openV (s : ByteArray) : V := .tup [.osl 0 0 (recsOf s).length 2, .int .i64 (atOf s)]
def openH (s : ByteArray) : Hp := [some (rows LogRecord.cs (recsOf s))]
theorem decL_empty {k : Int} {s : ByteArray} (h : s.size = 0) : decL k s = none := by
  cases g : decL k s with
  | none => rfl
  | some r => have := decL_size g; omega
theorem l27Open_ok (s : ByteArray) (hs : s.size ≤ 16777216) : Ctr Tryd.prog 52 [.str s] [] (openV s) (openH s) := by
  refine Ctr.intro Tryd.mixed Tryd.func52 rfl Tryd.okF52 ?_
  simp -implicitDefEqProofs -dsimp only [go_sem, Nat.reduceSub, Nat.reduceAdd, Nat.reduceMul, Nat.reduceLT, Nat.reduceLeDiff, Nat.reduceEqDiff, Nat.reduceDiv, Nat.reduceMod, Int.reduceToNat, Int.reduceLE, Int.reduceLT, Int.reduceBEq, Int.reduceBNe, Int.reduceNeg, Int.reduceAdd, Int.reduceSub, Int.reduceMul, reduceCtorEq, Tryd.ntmps52, Tryd.results52]
  refine LoopT.intro (fun i : Nat => (rdN s i).1.length = i) (fun i => ⟨[.str s, .undef, .undef, .undef, .osl 0 0 i 2, .int .i64 (rdN s i).2, .undef, .undef, .undef, .undef, .undef, .undef, .undef, .undef, .undef, .undef, .undef, .undef, .undef, .undef, .undef, .undef, .undef, .undef, .undef, .undef, .undef, .undef, .undef, .undef, .undef, .undef, .undef, .undef, .undef, .undef, .undef, .undef, .undef, .undef, .undef, .undef, .undef, .undef, .undef, .undef, .undef, .undef, .undef, .undef, .undef, .undef], [some (rows LogRecord.cs (rdN s i).1)], 0⟩) (fun i => 61 - i) 0 rfl ?_ (fun i hi => ?_)
  · refine Weak.cut (1) (by simp) (by simp) ?_ ?_
    · simp [LeC, LeV, ren, cutF, rdN]
    · simp [cutH, cutB, rdN, rows]
  have hb := rdN_bd s i
  have h60 := rdN_60 s i
  have hez : (s.extract (rdN s i).2 s.size).size ≤ 16777216 := by rw [ByteArray.size_extract]; omega
  rw [hi] at h60
  have stop : decL (i : Int) (s.extract (rdN s i).2 s.size) = none → (recsOf s = (rdN s i).1 ∧ atOf s = (rdN s i).2) := fun hd => by
    have e := rdN_done hi hd
    exact ⟨by rw [recsOf, e], by rw [atOf, e]⟩
  simp -implicitDefEqProofs -dsimp only [go_sem, Nat.reduceSub, Nat.reduceAdd, Nat.reduceMul, Nat.reduceLT, Nat.reduceLeDiff, Nat.reduceEqDiff, Nat.reduceDiv, Nat.reduceMod, Int.reduceToNat, Int.reduceLE, Int.reduceLT, Int.reduceBEq, Int.reduceBNe, Int.reduceNeg, Int.reduceAdd, Int.reduceSub, Int.reduceMul, reduceCtorEq]
  refine guardT.splitT (fun g1 => ?_) (fun g1 => ?_) <;> simp -implicitDefEqProofs -dsimp only [go_sem, Nat.reduceSub, Nat.reduceAdd, Nat.reduceMul, Nat.reduceLT, Nat.reduceLeDiff, Nat.reduceEqDiff, Nat.reduceDiv, Nat.reduceMod, Int.reduceToNat, Int.reduceLE, Int.reduceLT, Int.reduceBEq, Int.reduceBNe, Int.reduceNeg, Int.reduceAdd, Int.reduceSub, Int.reduceMul, reduceCtorEq, g1]
  rotate_left
  · obtain ⟨e1, e2⟩ := stop (decL_empty (by rw [ByteArray.size_extract]; simp at g1; omega))
    rw [openV, openH, e1, e2, hi]
    refine WeakR.pick [0] (by decide) (fun j hj => by omega) (.inl ?_) ?_
    · first | rfl | (simp [ren, pickF, posOf]; done)
    · simp only [pickH, List.map_cons, List.map_nil, pickB, List.getElem?_cons_zero, List.getElem?_cons_succ, map_ren_rows]
  refine condT.split (fun g2 => ?_) (fun g2 => ?_) <;> simp -implicitDefEqProofs -dsimp only [go_sem, Nat.reduceSub, Nat.reduceAdd, Nat.reduceMul, Nat.reduceLT, Nat.reduceLeDiff, Nat.reduceEqDiff, Nat.reduceDiv, Nat.reduceMod, Int.reduceToNat, Int.reduceLE, Int.reduceLT, Int.reduceBEq, Int.reduceBNe, Int.reduceNeg, Int.reduceAdd, Int.reduceSub, Int.reduceMul, reduceCtorEq, g2]
  rotate_left
  · have hn : decL (i : Int) (s.extract (rdN s i).2 s.size) = none := by
      cases g : decL (i : Int) (s.extract (rdN s i).2 s.size) with
      | none => rfl
      | some r => have := decL_k g; simp at g2; omega
    obtain ⟨e1, e2⟩ := stop hn
    rw [openV, openH, e1, e2, hi]
    refine WeakR.pick [0] (by decide) (fun j hj => by omega) (.inl ?_) ?_
    · first | rfl | (simp [ren, pickF, posOf]; done)
    · simp only [pickH, List.map_cons, List.map_nil, pickB, List.getElem?_cons_zero, List.getElem?_cons_succ, map_ren_rows]
  have hk : (0 : Int) ≤ (i : Int) ∧ (i : Int) ≤ 59 := by simp at g2; omega
  repeat (with_reducible refine And.intro ?_ ?_; focus (first | omega | with_reducible rfl | (show drawOk _ = true; kernel_rfl) | (simp only [rows_length, rows_cell, List.length_append, List.length_cons, List.length_nil, List.all_append, List.all_cons, List.all_nil, isCell, Nat.mul_one, Nat.one_mul, Bool.and_self]; first | done | omega) | (simp only [ByteArray.size_append, ba_size, List.size_toArray, List.length_cons, List.length_nil]; omega)))
  generalize hR : s.extract (rdN s i).2 s.size = R at hez stop ⊢
  obtain ⟨l, hl, hl0⟩ := splS_spec 10 R
  have hsp := l1Split_ok R 10 hez
  have c10 : (((10 : UInt8).toNat : Nat) : Int) = 10 := rfl
  rw [hl, c10] at hsp
  (first | refine callT.at (hsp) ⟨leA, leA, trivial⟩ ?_ | refine callS.at (hsp) ⟨leA, leA, trivial⟩ ?_)
  have hz := bef_size 10 R
  (repeat ((repeat1' (first | simp -implicitDefEqProofs -dsimp only [go_sem, Nat.reduceSub, Nat.reduceAdd, Nat.reduceMul, Nat.reduceLT, Nat.reduceLeDiff, Nat.reduceEqDiff, Nat.reduceDiv, Nat.reduceMod, Int.reduceToNat, Int.reduceLE, Int.reduceLT, Int.reduceBEq, Int.reduceBNe, Int.reduceNeg, Int.reduceAdd, Int.reduceSub, Int.reduceMul, reduceCtorEq, List.length_cons, rows_cons, StringS.cs] | simp -implicitDefEqProofs -dsimp (disch := omega) only [wrap_i64])); repeat (with_reducible refine And.intro ?_ ?_; focus (first | omega | with_reducible rfl | (show drawOk _ = true; kernel_rfl) | (simp only [rows_length, rows_cell, List.length_append, List.length_cons, List.length_nil, List.all_append, List.all_cons, List.all_nil, isCell, Nat.mul_one, Nat.one_mul, Bool.and_self]; first | done | omega) | (simp only [ByteArray.size_append, ba_size, List.size_toArray, List.length_cons, List.length_nil]; omega)))))
  (first | refine callT.at (l27Read_ok (i : Int) (bef 10 R) hk (by omega)) ⟨leA, leA, trivial⟩ ?_ | refine callS.at (l27Read_ok (i : Int) (bef 10 R) hk (by omega)) ⟨leA, leA, trivial⟩ ?_)
  (repeat ((repeat1' (first | simp -implicitDefEqProofs -dsimp only [go_sem, Nat.reduceSub, Nat.reduceAdd, Nat.reduceMul, Nat.reduceLT, Nat.reduceLeDiff, Nat.reduceEqDiff, Nat.reduceDiv, Nat.reduceMod, Int.reduceToNat, Int.reduceLE, Int.reduceLT, Int.reduceBEq, Int.reduceBNe, Int.reduceNeg, Int.reduceAdd, Int.reduceSub, Int.reduceMul, reduceCtorEq, LogRecord.v] | simp -implicitDefEqProofs -dsimp (disch := omega) only [wrap_i64])); repeat (with_reducible refine And.intro ?_ ?_; focus (first | omega | with_reducible rfl | (show drawOk _ = true; kernel_rfl) | (simp only [rows_length, rows_cell, List.length_append, List.length_cons, List.length_nil, List.all_append, List.all_cons, List.all_nil, isCell, Nat.mul_one, Nat.one_mul, Bool.and_self]; first | done | omega) | (simp only [ByteArray.size_append, ba_size, List.size_toArray, List.length_cons, List.length_nil]; omega)))))
  refine guardT.splitF (fun g3 => ?_) (fun g3 => ?_) <;> simp -implicitDefEqProofs -dsimp only [go_sem, Nat.reduceSub, Nat.reduceAdd, Nat.reduceMul, Nat.reduceLT, Nat.reduceLeDiff, Nat.reduceEqDiff, Nat.reduceDiv, Nat.reduceMod, Int.reduceToNat, Int.reduceLE, Int.reduceLT, Int.reduceBEq, Int.reduceBNe, Int.reduceNeg, Int.reduceAdd, Int.reduceSub, Int.reduceMul, reduceCtorEq, g3]
  rotate_left
  · have hf : fnd 10 R = false := hl0.1 (by
      cases l with
      | nil => rfl
      | cons a l => simp at g3; omega)
    obtain ⟨e1, e2⟩ := stop (by rw [decL, hf]; rfl)
    rw [openV, openH, e1, e2, hi]
    refine WeakR.pick [0] (by decide) (fun j hj => by omega) (.inl ?_) ?_
    · first | rfl | (simp [ren, pickF, posOf]; done)
    · simp only [pickH, List.map_cons, List.map_nil, pickB, List.getElem?_cons_zero, List.getElem?_cons_succ, map_ren_rows]
  have hf : fnd 10 R = true := by
    cases q : fnd 10 R with
    | true => rfl
    | false => rw [hl0.2 q] at g3; simp at g3
  have hd : decL (i : Int) R = (decE (i : Int) (bef 10 R)).map fun e => (e, (bef 10 R).size + 1) := by rw [decL, if_pos hf]
  have hfs := fnd_size hf
  have hRs : R.size + (rdN s i).2 ≤ s.size := by
    rw [← hR, ByteArray.size_extract]; omega
  refine condT.split (fun g4 => ?_) (fun g4 => ?_)
  · simp -implicitDefEqProofs -dsimp only [go_sem, Nat.reduceSub, Nat.reduceAdd, Nat.reduceMul, Nat.reduceLT, Nat.reduceLeDiff, Nat.reduceEqDiff, Nat.reduceDiv, Nat.reduceMod, Int.reduceToNat, Int.reduceLE, Int.reduceLT, Int.reduceBEq, Int.reduceBNe, Int.reduceNeg, Int.reduceAdd, Int.reduceSub, Int.reduceMul, reduceCtorEq, g4]
    have hp : (parseS (i : Int) (bef 10 R)).2 = false := by simpa using g4
    obtain ⟨e1, e2⟩ := stop (by
      rw [hd]
      cases q : decE (i : Int) (bef 10 R) with
      | none => rfl
      | some e => rw [parseS_of q] at hp; cases hp)
    rw [openV, openH, e1, e2, hi]
    refine WeakR.pick [0] (by decide) (fun j hj => by omega) (.inl ?_) ?_
    · first | rfl | (simp [ren, pickF, posOf]; done)
    · simp only [pickH, List.map_cons, List.map_nil, pickB, List.getElem?_cons_zero, List.getElem?_cons_succ, map_ren_rows]
  · have hp : (parseS (i : Int) (bef 10 R)).2 = true := by simpa using g4
    have hs' := parseS_some hk hp
    rw [hs'] at hd
    have hS : rdN s (i + 1) = ((rdN s i).1 ++ [(parseS (i : Int) (bef 10 R)).1], (rdN s i).2 + ((bef 10 R).size + 1)) := rdN_some (r := ((parseS (i : Int) (bef 10 R)).1, (bef 10 R).size + 1)) (by rw [hi, hR, hd]; rfl)
    (repeat ((repeat1' (first | simp -implicitDefEqProofs -dsimp only [go_sem, Nat.reduceSub, Nat.reduceAdd, Nat.reduceMul, Nat.reduceLT, Nat.reduceLeDiff, Nat.reduceEqDiff, Nat.reduceDiv, Nat.reduceMod, Int.reduceToNat, Int.reduceLE, Int.reduceLT, Int.reduceBEq, Int.reduceBNe, Int.reduceNeg, Int.reduceAdd, Int.reduceSub, Int.reduceMul, reduceCtorEq, g4, rows_length, rows_cell, hi, Nat.mul_one, List.length_cons, rows_cons, StringS.cs] | simp -implicitDefEqProofs -dsimp (disch := omega) only [wrap_i64])); repeat (with_reducible refine And.intro ?_ ?_; focus (first | omega | with_reducible rfl | (show drawOk _ = true; kernel_rfl) | (simp only [rows_length, rows_cell, List.length_append, List.length_cons, List.length_nil, List.all_append, List.all_cons, List.all_nil, isCell, Nat.mul_one, Nat.one_mul, Bool.and_self]; first | done | omega) | (simp only [ByteArray.size_append, ba_size, List.size_toArray, List.length_cons, List.length_nil]; omega)))))
    refine ⟨i + 1, by rw [hS]; simp [hi], ?_, by omega⟩
    refine Weak.cut (1) (by simp) (by simp) ?_ ?_
    · rw [hS]; (simp [LeC, LeV, ren, cutF]; try omega)
    · rw [hS, ← rows_snoc]
      simp [cutH, cutB, ren, cutF, map_ren_rows, killC, killF, LogRecord.cs]
end Go.Proofs
