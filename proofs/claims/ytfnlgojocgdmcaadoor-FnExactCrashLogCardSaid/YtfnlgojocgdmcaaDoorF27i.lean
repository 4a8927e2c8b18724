/-
  The log: whether it is valid. Conditions: none.
-/
import Derived.Test.YtfnlgojocgdmcaaDoorF27h
import Derived.Test.YtfnlgojocgdmcaaDoorTLog
set_option linter.unusedSimpArgs false
set_option linter.unusedVariables false
set_option maxRecDepth 100000
set_option maxHeartbeats 2000000
namespace Go.Proofs
open Go.Lv
/-- Where the reading stops. -/
theorem rd_stop (s : ByteArray) : ∃ i, i ≤ 60 ∧ (rdN s i).1.length = i ∧ rdN s 60 = rdN s i ∧ decL i (s.extract (rdN s i).2 s.size) = none := by
  have key : ∀ m, (rdN s m).1.length = m ∨ ∃ i, (rdN s i).1.length = i ∧ decL i (s.extract (rdN s i).2 s.size) = none := by
    intro m
    induction m with
    | zero => exact .inl rfl
    | succ m ih =>
      rcases ih with h | h
      · cases g : decL (m : Int) (s.extract (rdN s m).2 s.size) with
        | none => exact .inr ⟨m, h, g⟩
        | some r =>
          refine .inl ?_
          rw [rdN_some (r := r) (by rw [h]; exact g)]
          simp [h]
      · exact .inr h
  rcases key 61 with h | ⟨i, h1, h2⟩
  · have := rdN_60 s 61; omega
  · have := rdN_60 s i
    exact ⟨i, by omega, h1, rdN_done h1 h2, h2⟩
theorem recs_len (s : ByteArray) : (rdN s (recsOf s).length).1.length = (recsOf s).length ∧ rdN s 60 = rdN s (recsOf s).length ∧ decL (recsOf s).length (s.extract (atOf s) s.size) = none ∧ (recsOf s).length ≤ 60 := by
  obtain ⟨i, h0, h1, h2, h3⟩ := rd_stop s
  have e : (recsOf s).length = i := by rw [recsOf, h2, h1]
  have e2 : atOf s = (rdN s i).2 := by rw [atOf, h2]
  rw [e, e2]
  exact ⟨h1, h2, h3, h0⟩
theorem atOf_eq (s : ByteArray) : atOf s = (rdN s (recsOf s).length).2 := by rw [atOf, (recs_len s).2.1]
theorem atOf_bd (s : ByteArray) : atOf s ≤ s.size ∧ atOf s ≤ 25380 := by
  have h1 := rdN_bd s 60
  have h2 := rdN_60 s 60
  unfold atOf; omega
theorem cut_app {c : UInt8} {x y : ByteArray} (h : fnd c x = true) : fnd c (x ++ y) = true ∧ bef c (x ++ y) = bef c x := by
  obtain ⟨a, b, rfl, ha⟩ := cut_find h
  have e : (a ++ (⟨#[c]⟩ ++ b)) ++ y = a ++ (⟨#[c]⟩ ++ (b ++ y)) := by simp only [ByteArray.append_assoc]
  rw [e]
  exact ⟨(cut_at ha).2.2.2, by rw [(cut_at ha).2.1, (cut_at ha).2.1]⟩
theorem decL_app {k : Int} {x y : ByteArray} {r : LogRecord × Nat} (h : decL k x = some r) : decL k (x ++ y) = some r := by
  obtain ⟨h1, h2, h3⟩ := decL_some h
  obtain ⟨g1, g2⟩ := cut_app (y := y) h1
  rw [decL, if_pos g1, g2, h2]
  simp only [Option.map_some]
  rw [← h3]
theorem fnd_pre {c : UInt8} {x y : ByteArray} (h : fnd c (x ++ y) = true) (hs : (bef c (x ++ y)).size + 1 ≤ x.size) : fnd c x = true := by
  cases g : fnd c x with
  | true => rfl
  | false =>
    exfalso
    obtain ⟨a, b, e, ha⟩ := cut_find h
    rw [e, (cut_at ha).2.1] at hs
    have hx : x.data.toList ++ y.data.toList = a.data.toList ++ c :: b.data.toList := by
      rw [← ba_app, e, ba_app, ba_app]; rfl
    have hc : x.data.toList[a.size]? = some c := by
      have h1 : (x.data.toList ++ y.data.toList)[a.size]? = some c := by
        rw [hx, List.getElem?_append_right (by rw [ba_len]; exact Nat.le_refl _), ba_len]
        simp
      rwa [List.getElem?_append_left (by rw [ba_len]; omega)] at h1
    have hne : Lib.indexByte x.data.toList c = -1 := by
      have h1 := Lib.indexByte_ge x.data.toList c
      have h2 : ¬ 0 ≤ Lib.indexByte x.data.toList c := by
        intro q
        have : fnd c x = true := decide_eq_true q
        rw [this] at g; cases g
      omega
    exact Lib.indexByte_none hne a.size hc
theorem decL_pre {k : Int} {x y : ByteArray} {r : LogRecord × Nat} (h : decL k (x ++ y) = some r) (hs : r.2 ≤ x.size) : decL k x = some r := by
  obtain ⟨h1, h2, h3⟩ := decL_some h
  have g1 := fnd_pre h1 (by omega)
  have g2 := (cut_app (y := y) g1).2
  rw [g2] at h2 h3
  rw [decL, if_pos g1, h2]
  simp only [Option.map_some]
  rw [← h3]
theorem ext_app {D P : ByteArray} {a : Nat} (h : a ≤ D.size) : (D ++ P).extract a (D ++ P).size = D.extract a D.size ++ P := by
  apply ba_ext
  have hl : (D ++ P).size = (D ++ P).data.toList.length := rfl
  have hl2 : D.size = D.data.toList.length := rfl
  rw [ba_app, ba_ext_list, ba_ext_list, hl, List.take_length, hl2, List.take_length, ba_app]
  exact List.drop_append_of_le_length (by rw [ba_len]; exact h)
theorem rd_app {D P : ByteArray} : ∀ {j : Nat}, (rdN D j).1.length = j → rdN (D ++ P) j = rdN D j
  | 0, _ => rfl
  | j + 1, h => by
    have hj := rdN_len h (Nat.le_succ j)
    have ih := rd_app (P := P) hj
    cases g : decL (j : Int) (D.extract (rdN D j).2 D.size) with
    | none => rw [rdN_none (by rw [hj]; exact g)] at h; omega
    | some r =>
      rw [rdN_some (s := D) (r := r) (by rw [hj]; exact g)]
      rw [rdN_some (s := D ++ P) (r := r) (by rw [ih, hj, ext_app (rdN_bd D j).1]; exact decL_app g), ih]
theorem rd_pre {D P : ByteArray} : ∀ {j : Nat}, (rdN (D ++ P) j).1.length = j → (rdN (D ++ P) j).2 ≤ D.size → rdN D j = rdN (D ++ P) j
  | 0, _, _ => rfl
  | j + 1, h, hs => by
    have hj := rdN_len h (Nat.le_succ j)
    cases g : decL (j : Int) ((D ++ P).extract (rdN (D ++ P) j).2 (D ++ P).size) with
    | none => rw [rdN_none (by rw [hj]; exact g)] at h; omega
    | some r =>
      have hS := rdN_some (s := D ++ P) (n := j) (r := r) (by rw [hj]; exact g)
      rw [hS] at hs ⊢
      simp only at hs
      have ih := rd_pre hj (by omega)
      rw [← ih] at g hs
      rw [ext_app (rdN_bd D j).1] at g
      have g2 := decL_pre g (by rw [ByteArray.size_extract]; omega)
      rw [rdN_some (s := D) (r := r) (by
        have e : (rdN D j).1.length = j := by rw [ih]; exact hj
        rw [e]; exact g2), ih]
/-- A record of the longer text begins where the shorter one ends exactly if the shorter one is read whole. -/
theorem durable_iff {D P : ByteArray} : (∃ j, j ≤ (recsOf (D ++ P)).length ∧ (rdN (D ++ P) j).2 = D.size) ↔ atOf D = D.size := by
  obtain ⟨h1, h2, h3, h4⟩ := recs_len (D ++ P)
  constructor
  · rintro ⟨j, hj, e⟩
    have hl := rdN_len h1 hj
    have hp := rd_pre hl (by omega)
    have hd : decL (j : Int) (D.extract (rdN D j).2 D.size) = none := decL_empty (by rw [hp, e, ByteArray.size_extract]; omega)
    have := rdN_done (s := D) (by rw [hp]; exact hl) hd
    rw [atOf, this, hp, e]
  · intro e
    obtain ⟨i, k0, k1, k2, k3⟩ := rd_stop D
    have ha := rd_app (P := P) k1
    have hi : (rdN (D ++ P) i).1.length = i := by rw [ha]; exact k1
    refine ⟨i, ?_, by rw [ha, ← e, atOf, k2]⟩
    by_cases c : i ≤ (recsOf (D ++ P)).length
    · exact c
    · exfalso
      have h5 : decL ((recsOf (D ++ P)).length : Int) ((D ++ P).extract (rdN (D ++ P) (recsOf (D ++ P)).length).2 (D ++ P).size) = none := by
        rw [← atOf_eq]; exact h3
      have := rdN_stuck (s := D ++ P) (n := (recsOf (D ++ P)).length) (by rw [h1]; exact h5) (i - (recsOf (D ++ P)).length)
      have e2 : (recsOf (D ++ P)).length + (i - (recsOf (D ++ P)).length) = i := by omega
      rw [e2] at this
      rw [this, h1] at hi
      omega
def logB (l : Log) : Bool := decide (l.Durable.size + l.Pending.size ≤ 30000) && (decide (atOf (l.Durable ++ l.Pending) = l.Durable.size + l.Pending.size) && (decide (atOf l.Durable = l.Durable.size) && decide (((recsOf (l.Durable ++ l.Pending)).length : Int) = l.Count)))
theorem l27Log_ok (l : Log) (hd : l.Durable.size ≤ 4194304) (hp : l.Pending.size ≤ 4194304) : Ctr Tryd.prog 38 [l.v] [] (.bool (logB l)) [] := by
  have hsz : (l.Durable ++ l.Pending).size = l.Durable.size + l.Pending.size := ByteArray.size_append
  have hw : IntKind.i64.wrap ((l.Durable.size : Int) + (l.Pending.size : Int)) = (l.Durable.size : Int) + (l.Pending.size : Int) := wrap_i64 (by omega) (by omega)
  refine Ctr.intro Tryd.mixed Tryd.func38 rfl Tryd.okF38 ?_
  simp -implicitDefEqProofs -dsimp only [go_sem, Nat.reduceSub, Nat.reduceAdd, Nat.reduceMul, Nat.reduceLT, Nat.reduceLeDiff, Nat.reduceEqDiff, Nat.reduceDiv, Nat.reduceMod, Int.reduceToNat, Int.reduceLE, Int.reduceLT, Int.reduceBEq, Int.reduceBNe, Int.reduceNeg, Int.reduceAdd, Int.reduceSub, Int.reduceMul, reduceCtorEq, Tryd.ntmps38, Tryd.results38]
  (repeat ((repeat1' (first | simp -implicitDefEqProofs -dsimp only [go_sem, Nat.reduceSub, Nat.reduceAdd, Nat.reduceMul, Nat.reduceLT, Nat.reduceLeDiff, Nat.reduceEqDiff, Nat.reduceDiv, Nat.reduceMod, Int.reduceToNat, Int.reduceLE, Int.reduceLT, Int.reduceBEq, Int.reduceBNe, Int.reduceNeg, Int.reduceAdd, Int.reduceSub, Int.reduceMul, reduceCtorEq, Log.v, hw] | simp -implicitDefEqProofs -dsimp (disch := omega) only [wrap_i64])); repeat (with_reducible refine And.intro ?_ ?_; focus (first | omega | with_reducible rfl | (show drawOk _ = true; kernel_rfl) | (simp only [rows_length, rows_cell, List.length_append, List.length_cons, List.length_nil, List.all_append, List.all_cons, List.all_nil, isCell, Nat.mul_one, Nat.one_mul, Bool.and_self]; first | done | omega) | (simp only [ByteArray.size_append, ba_size, List.size_toArray, List.length_cons, List.length_nil]; omega)))))
  refine condT.split (fun g1 => ?_) (fun g1 => ?_) <;> (repeat ((repeat1' (first | simp -implicitDefEqProofs -dsimp only [go_sem, Nat.reduceSub, Nat.reduceAdd, Nat.reduceMul, Nat.reduceLT, Nat.reduceLeDiff, Nat.reduceEqDiff, Nat.reduceDiv, Nat.reduceMod, Int.reduceToNat, Int.reduceLE, Int.reduceLT, Int.reduceBEq, Int.reduceBNe, Int.reduceNeg, Int.reduceAdd, Int.reduceSub, Int.reduceMul, reduceCtorEq, g1] | simp -implicitDefEqProofs -dsimp (disch := omega) only [wrap_i64])); repeat (with_reducible refine And.intro ?_ ?_; focus (first | omega | with_reducible rfl | (show drawOk _ = true; kernel_rfl) | (simp only [rows_length, rows_cell, List.length_append, List.length_cons, List.length_nil, List.all_append, List.all_cons, List.all_nil, isCell, Nat.mul_one, Nat.one_mul, Bool.and_self]; first | done | omega) | (simp only [ByteArray.size_append, ba_size, List.size_toArray, List.length_cons, List.length_nil]; omega)))))
  · refine WeakR.drop' ?_ (by rfl)
    have : ¬ l.Durable.size + l.Pending.size ≤ 30000 := by simp at g1; omega
    simp [logB, this]
  (first | refine callT.at (l27Open_ok (l.Durable ++ l.Pending) (by rw [hsz]; omega)) ⟨leA, trivial⟩ ?_ | refine callS.at (l27Open_ok (l.Durable ++ l.Pending) (by rw [hsz]; omega)) ⟨leA, trivial⟩ ?_)
  (repeat ((repeat1' (first | simp -implicitDefEqProofs -dsimp only [go_sem, Nat.reduceSub, Nat.reduceAdd, Nat.reduceMul, Nat.reduceLT, Nat.reduceLeDiff, Nat.reduceEqDiff, Nat.reduceDiv, Nat.reduceMod, Int.reduceToNat, Int.reduceLE, Int.reduceLT, Int.reduceBEq, Int.reduceBNe, Int.reduceNeg, Int.reduceAdd, Int.reduceSub, Int.reduceMul, reduceCtorEq, openV, openH, hw] | simp -implicitDefEqProofs -dsimp (disch := omega) only [wrap_i64])); repeat (with_reducible refine And.intro ?_ ?_; focus (first | omega | with_reducible rfl | (show drawOk _ = true; kernel_rfl) | (simp only [rows_length, rows_cell, List.length_append, List.length_cons, List.length_nil, List.all_append, List.all_cons, List.all_nil, isCell, Nat.mul_one, Nat.one_mul, Bool.and_self]; first | done | omega) | (simp only [ByteArray.size_append, ba_size, List.size_toArray, List.length_cons, List.length_nil]; omega)))))
  (first | refine callT.at (l27Open_ok l.Durable (by omega)) ⟨leA, trivial⟩ ?_ | refine callS.at (l27Open_ok l.Durable (by omega)) ⟨leA, trivial⟩ ?_)
  (repeat ((repeat1' (first | simp -implicitDefEqProofs -dsimp only [go_sem, Nat.reduceSub, Nat.reduceAdd, Nat.reduceMul, Nat.reduceLT, Nat.reduceLeDiff, Nat.reduceEqDiff, Nat.reduceDiv, Nat.reduceMod, Int.reduceToNat, Int.reduceLE, Int.reduceLT, Int.reduceBEq, Int.reduceBNe, Int.reduceNeg, Int.reduceAdd, Int.reduceSub, Int.reduceMul, reduceCtorEq, openV, openH, hw] | simp -implicitDefEqProofs -dsimp (disch := omega) only [wrap_i64])); repeat (with_reducible refine And.intro ?_ ?_; focus (first | omega | with_reducible rfl | (show drawOk _ = true; kernel_rfl) | (simp only [rows_length, rows_cell, List.length_append, List.length_cons, List.length_nil, List.all_append, List.all_cons, List.all_nil, isCell, Nat.mul_one, Nat.one_mul, Bool.and_self]; first | done | omega) | (simp only [ByteArray.size_append, ba_size, List.size_toArray, List.length_cons, List.length_nil]; omega)))))
  have hb : decide (l.Durable.size + l.Pending.size ≤ 30000) = true := by simp at g1 ⊢; omega
  have c1 : (((atOf (l.Durable ++ l.Pending) : Nat) : Int) == (l.Durable.size : Int) + (l.Pending.size : Int)) = decide (atOf (l.Durable ++ l.Pending) = l.Durable.size + l.Pending.size) := by rw [Bool.eq_iff_iff]; simp; omega
  have c2 : (((atOf l.Durable : Nat) : Int) == (l.Durable.size : Int)) = decide (atOf l.Durable = l.Durable.size) := by rw [Bool.eq_iff_iff]; simp; omega
  refine guardT.splitT (fun g2 => ?_) (fun g2 => ?_) <;> simp -implicitDefEqProofs -dsimp only [go_sem, Nat.reduceSub, Nat.reduceAdd, Nat.reduceMul, Nat.reduceLT, Nat.reduceLeDiff, Nat.reduceEqDiff, Nat.reduceDiv, Nat.reduceMod, Int.reduceToNat, Int.reduceLE, Int.reduceLT, Int.reduceBEq, Int.reduceBNe, Int.reduceNeg, Int.reduceAdd, Int.reduceSub, Int.reduceMul, reduceCtorEq, g2, hw]
  rotate_left
  · refine WeakR.drop' ?_ (by rfl)
    rw [c1] at g2
    simp only [logB, g2, Bool.false_and, Bool.and_false]
  refine guardT.splitT (fun g3 => ?_) (fun g3 => ?_) <;> simp -implicitDefEqProofs -dsimp only [go_sem, Nat.reduceSub, Nat.reduceAdd, Nat.reduceMul, Nat.reduceLT, Nat.reduceLeDiff, Nat.reduceEqDiff, Nat.reduceDiv, Nat.reduceMod, Int.reduceToNat, Int.reduceLE, Int.reduceLT, Int.reduceBEq, Int.reduceBNe, Int.reduceNeg, Int.reduceAdd, Int.reduceSub, Int.reduceMul, reduceCtorEq, g3, hw]
  rotate_left
  · refine WeakR.drop' ?_ (by rfl)
    rw [c2] at g3
    simp only [logB, g3, Bool.false_and, Bool.and_false]
  refine WeakR.drop' ?_ (by rfl)
  rw [c1] at g2
  rw [c2] at g3
  simp only [logB, hb, g2, g3, Bool.true_and]
  congr 1
theorem sIsValidLog_ok (l : Log) (hd : l.Durable.size ≤ 4194304) (hp : l.Pending.size ≤ 4194304) : Ctr Tryd.prog 25 [l.v] [] (.bool (logB l)) [] := by
  refine Ctr.intro Tryd.mixed Tryd.func25 rfl Tryd.okF25 ?_
  simp -implicitDefEqProofs -dsimp only [go_sem, Nat.reduceSub, Nat.reduceAdd, Nat.reduceMul, Nat.reduceLT, Nat.reduceLeDiff, Nat.reduceEqDiff, Nat.reduceDiv, Nat.reduceMod, Int.reduceToNat, Int.reduceLE, Int.reduceLT, Int.reduceBEq, Int.reduceBNe, Int.reduceNeg, Int.reduceAdd, Int.reduceSub, Int.reduceMul, reduceCtorEq, Tryd.ntmps25, Tryd.results25]
  simp -implicitDefEqProofs -dsimp only [go_sem, Nat.reduceSub, Nat.reduceAdd, Nat.reduceMul, Nat.reduceLT, Nat.reduceLeDiff, Nat.reduceEqDiff, Nat.reduceDiv, Nat.reduceMod, Int.reduceToNat, Int.reduceLE, Int.reduceLT, Int.reduceBEq, Int.reduceBNe, Int.reduceNeg, Int.reduceAdd, Int.reduceSub, Int.reduceMul, reduceCtorEq, Log.v]
  (first | refine callT.at (l27Log_ok l hd hp) ⟨leA, trivial⟩ ?_ | refine callS.at (l27Log_ok l hd hp) ⟨leA, trivial⟩ ?_)
  simp -implicitDefEqProofs -dsimp only [go_sem, Nat.reduceSub, Nat.reduceAdd, Nat.reduceMul, Nat.reduceLT, Nat.reduceLeDiff, Nat.reduceEqDiff, Nat.reduceDiv, Nat.reduceMod, Int.reduceToNat, Int.reduceLE, Int.reduceLT, Int.reduceBEq, Int.reduceBNe, Int.reduceNeg, Int.reduceAdd, Int.reduceSub, Int.reduceMul, reduceCtorEq]
  exact WeakR.drop' rfl (by rfl)
/-- Where records begin, and where the last one ends. -/
def startsOf (s : ByteArray) : List Int := 0 :: endsTo s (recsOf s).length
theorem startsOf_len (s : ByteArray) : (startsOf s).length = (recsOf s).length + 1 := by simp [startsOf, endsTo_len]
theorem startsOf_get {s : ByteArray} {i : Nat} (h : i < (startsOf s).length) : (startsOf s)[i] = ((rdN s i).2 : Int) := by
  cases i with
  | zero => rfl
  | succ i => simp [startsOf, endsTo]
def durB (l : Log) : Bool := (startsOf (l.Durable ++ l.Pending)).any fun a => a == (l.Durable.size : Int)
theorem durB_eq (l : Log) : durB l = decide (atOf l.Durable = l.Durable.size) := by
  rw [Bool.eq_iff_iff, decide_eq_true_eq, ← durable_iff (P := l.Pending), durB, List.any_eq_true]
  constructor
  · rintro ⟨a, ha, e⟩
    obtain ⟨i, hi, rfl⟩ := List.getElem_of_mem ha
    rw [startsOf_get hi] at e
    rw [startsOf_len] at hi
    exact ⟨i, by omega, by simp at e; omega⟩
  · rintro ⟨j, hj, e⟩
    have hi : j < (startsOf (l.Durable ++ l.Pending)).length := by rw [startsOf_len]; omega
    exact ⟨_, List.getElem_mem hi, by rw [startsOf_get hi, e]; simp⟩
def recsV (l : Log) : V := .tup [.osl 0 0 (recsOf (l.Durable ++ l.Pending)).length 2, .bool (logB l)]
def recsH (l : Log) : Hp := [some (rows LogRecord.cs (recsOf (l.Durable ++ l.Pending)))]
theorem records_ok (l : Log) (hd : l.Durable.size ≤ 4194304) (hp : l.Pending.size ≤ 4194304) : Ctr Tryd.prog 53 [l.v] [] (recsV l) (recsH l) := by
  have hsz : (l.Durable ++ l.Pending).size = l.Durable.size + l.Pending.size := ByteArray.size_append
  refine Ctr.intro Tryd.mixed Tryd.func53 rfl Tryd.okF53 ?_
  simp -implicitDefEqProofs -dsimp only [go_sem, Nat.reduceSub, Nat.reduceAdd, Nat.reduceMul, Nat.reduceLT, Nat.reduceLeDiff, Nat.reduceEqDiff, Nat.reduceDiv, Nat.reduceMod, Int.reduceToNat, Int.reduceLE, Int.reduceLT, Int.reduceBEq, Int.reduceBNe, Int.reduceNeg, Int.reduceAdd, Int.reduceSub, Int.reduceMul, reduceCtorEq, Tryd.ntmps53, Tryd.results53]
  (repeat ((repeat1' (first | simp -implicitDefEqProofs -dsimp only [go_sem, Nat.reduceSub, Nat.reduceAdd, Nat.reduceMul, Nat.reduceLT, Nat.reduceLeDiff, Nat.reduceEqDiff, Nat.reduceDiv, Nat.reduceMod, Int.reduceToNat, Int.reduceLE, Int.reduceLT, Int.reduceBEq, Int.reduceBNe, Int.reduceNeg, Int.reduceAdd, Int.reduceSub, Int.reduceMul, reduceCtorEq, Log.v] | simp -implicitDefEqProofs -dsimp (disch := omega) only [wrap_i64])); repeat (with_reducible refine And.intro ?_ ?_; focus (first | omega | with_reducible rfl | (show drawOk _ = true; kernel_rfl) | (simp only [rows_length, rows_cell, List.length_append, List.length_cons, List.length_nil, List.all_append, List.all_cons, List.all_nil, isCell, Nat.mul_one, Nat.one_mul, Bool.and_self]; first | done | omega) | (simp only [ByteArray.size_append, ba_size, List.size_toArray, List.length_cons, List.length_nil]; omega)))))
  (first | refine callT.at (read_ok (l.Durable ++ l.Pending) (by rw [hsz]; omega)) ⟨leA, trivial⟩ ?_ | refine callS.at (read_ok (l.Durable ++ l.Pending) (by rw [hsz]; omega)) ⟨leA, trivial⟩ ?_)
  have h60 := (recs_len (l.Durable ++ l.Pending)).2.2.2
  have hen := endsTo_len (l.Durable ++ l.Pending) (recsOf (l.Durable ++ l.Pending)).length
  have htk : List.take (recsOf (l.Durable ++ l.Pending)).length (rows IntS.cs (endsTo (l.Durable ++ l.Pending) (recsOf (l.Durable ++ l.Pending)).length)) = rows IntS.cs (endsTo (l.Durable ++ l.Pending) (recsOf (l.Durable ++ l.Pending)).length) :=
    List.take_of_length_le (by rw [rows_length, hen]; omega)
  (repeat ((repeat1' (first | simp -implicitDefEqProofs -dsimp only [go_sem, Nat.reduceSub, Nat.reduceAdd, Nat.reduceMul, Nat.reduceLT, Nat.reduceLeDiff, Nat.reduceEqDiff, Nat.reduceDiv, Nat.reduceMod, Int.reduceToNat, Int.reduceLE, Int.reduceLT, Int.reduceBEq, Int.reduceBNe, Int.reduceNeg, Int.reduceAdd, Int.reduceSub, Int.reduceMul, reduceCtorEq, readV, readH, rows_length, rows_cell, hen, htk, Nat.mul_one, List.length_cons, List.length_nil] | simp -implicitDefEqProofs -dsimp (disch := omega) only [wrap_i64])); repeat (with_reducible refine And.intro ?_ ?_; focus (first | omega | with_reducible rfl | (show drawOk _ = true; kernel_rfl) | (simp only [rows_length, rows_cell, List.length_append, List.length_cons, List.length_nil, List.all_append, List.all_cons, List.all_nil, isCell, Nat.mul_one, Nat.one_mul, Bool.and_self]; first | done | omega) | (simp only [ByteArray.size_append, ba_size, List.size_toArray, List.length_cons, List.length_nil]; omega)))))
  have hsl := startsOf_len (l.Durable ++ l.Pending)
  have hw : IntKind.i64.wrap ((l.Durable.size : Int) + (l.Pending.size : Int)) = (l.Durable.size : Int) + (l.Pending.size : Int) := wrap_i64 (by omega) (by omega)
  refine LoopT.intro (fun i : Nat => i ≤ (startsOf (l.Durable ++ l.Pending)).length) (fun i => ⟨[.undef, .ptr 0 0, .undef, .undef, .str (l.Durable ++ l.Pending), .osl 1 0 (recsOf (l.Durable ++ l.Pending)).length 2, .undef, .osl 2 0 (startsOf (l.Durable ++ l.Pending)).length 1, .bool (((startsOf (l.Durable ++ l.Pending)).take i).any fun a => a == (l.Durable.size : Int)), .undef, .undef, .undef, .undef, .undef, .undef, .undef, .undef, .undef, .undef, .undef, .undef, .undef, .undef, .undef, .osl 2 0 (startsOf (l.Durable ++ l.Pending)).length 1, .int .i64 (startsOf (l.Durable ++ l.Pending)).length, .int .i64 i, .undef, .undef, .undef, .undef, .undef, .undef, .undef, .undef, .undef, .undef, .undef, .undef, .undef, .undef, .undef, .undef, .undef, .undef, .undef, .undef, .undef, .undef, .undef, .undef, .undef, .undef, .undef, .undef, .undef, .undef, .undef, .undef], [some l.cs, some (rows LogRecord.cs (recsOf (l.Durable ++ l.Pending))), some (rows IntS.cs (startsOf (l.Durable ++ l.Pending)))], 0⟩) (fun i => (startsOf (l.Durable ++ l.Pending)).length - i) 0 (Nat.zero_le _) ?_ (fun i hi => ?_)
  · refine Weak.pick [0, 1, 3] (by decide) (fun j hj => by omega) ?_ ?_
    · simp [LeG, LeV, ren, pickF, posOf, hsl]
      omega
    · simp [pickH, pickB, ren, pickF, posOf, map_ren_rows, Log.cs]
      rw [startsOf, rows_cons]
      simp only [IntS.cs, List.cons_append, List.nil_append]
  simp -implicitDefEqProofs -dsimp only [go_sem, Nat.reduceSub, Nat.reduceAdd, Nat.reduceMul, Nat.reduceLT, Nat.reduceLeDiff, Nat.reduceEqDiff, Nat.reduceDiv, Nat.reduceMod, Int.reduceToNat, Int.reduceLE, Int.reduceLT, Int.reduceBEq, Int.reduceBNe, Int.reduceNeg, Int.reduceAdd, Int.reduceSub, Int.reduceMul, reduceCtorEq, Log.cs]
  refine condT.split (fun h1 => ?_) (fun h1 => ?_)
  · simp -implicitDefEqProofs -dsimp only [go_sem, Nat.reduceSub, Nat.reduceAdd, Nat.reduceMul, Nat.reduceLT, Nat.reduceLeDiff, Nat.reduceEqDiff, Nat.reduceDiv, Nat.reduceMod, Int.reduceToNat, Int.reduceLE, Int.reduceLT, Int.reduceBEq, Int.reduceBNe, Int.reduceNeg, Int.reduceAdd, Int.reduceSub, Int.reduceMul, reduceCtorEq, h1]
    have hi' : i < (startsOf (l.Durable ++ l.Pending)).length := by simpa using h1
    have hr := rows_at IntS.csl hi'
    repeat (with_reducible refine And.intro ?_ ?_; focus (first | omega | with_reducible rfl | (show drawOk _ = true; kernel_rfl) | (simp only [rows_length, rows_cell, List.length_append, List.length_cons, List.length_nil, List.all_append, List.all_cons, List.all_nil, isCell, Nat.mul_one, Nat.one_mul, Bool.and_self]; first | done | omega) | (simp only [ByteArray.size_append, ba_size, List.size_toArray, List.length_cons, List.length_nil]; omega)))
    have e1 : ((startsOf (l.Durable ++ l.Pending)).take (i + 1)).any (fun a => a == (l.Durable.size : Int)) = (((startsOf (l.Durable ++ l.Pending)).take i).any (fun a => a == (l.Durable.size : Int)) || ((startsOf (l.Durable ++ l.Pending))[i] == (l.Durable.size : Int))) := by
      rw [List.take_succ_eq_append_getElem hi', List.any_append]; simp
    rw [hr]
    refine guardT.splitF (fun h2 => ?_) (fun h2 => ?_) <;> (repeat ((repeat1' (first | simp -implicitDefEqProofs -dsimp only [go_sem, Nat.reduceSub, Nat.reduceAdd, Nat.reduceMul, Nat.reduceLT, Nat.reduceLeDiff, Nat.reduceEqDiff, Nat.reduceDiv, Nat.reduceMod, Int.reduceToNat, Int.reduceLE, Int.reduceLT, Int.reduceBEq, Int.reduceBNe, Int.reduceNeg, Int.reduceAdd, Int.reduceSub, Int.reduceMul, reduceCtorEq, h2, IntS.cs, Log.cs] | simp -implicitDefEqProofs -dsimp (disch := omega) only [wrap_i64])); repeat (with_reducible refine And.intro ?_ ?_; focus (first | omega | with_reducible rfl | (show drawOk _ = true; kernel_rfl) | (simp only [rows_length, rows_cell, List.length_append, List.length_cons, List.length_nil, List.all_append, List.all_cons, List.all_nil, isCell, Nat.mul_one, Nat.one_mul, Bool.and_self]; first | done | omega) | (simp only [ByteArray.size_append, ba_size, List.size_toArray, List.length_cons, List.length_nil]; omega)))))
    · refine ⟨i + 1, hi', ?_, by omega⟩
      refine Weak.cut (3) (by simp) (by simp) ?_ ?_
      · rw [e1, h2]; simp [LeC, LeV, ren, cutF]
      · simp [cutH, cutB, ren, map_ren_rows, Log.cs]
    · refine ⟨i + 1, hi', ?_, by omega⟩
      refine Weak.cut (3) (by simp) (by simp) ?_ ?_
      · rw [e1, h2]; simp [LeC, LeV, ren, cutF]
      · simp [cutH, cutB, ren, map_ren_rows, Log.cs]
  · simp -implicitDefEqProofs -dsimp only [go_sem, Nat.reduceSub, Nat.reduceAdd, Nat.reduceMul, Nat.reduceLT, Nat.reduceLeDiff, Nat.reduceEqDiff, Nat.reduceDiv, Nat.reduceMod, Int.reduceToNat, Int.reduceLE, Int.reduceLT, Int.reduceBEq, Int.reduceBNe, Int.reduceNeg, Int.reduceAdd, Int.reduceSub, Int.reduceMul, reduceCtorEq, h1]
    have hi' : i = (startsOf (l.Durable ++ l.Pending)).length := by simp at h1; omega
    subst hi'
    rw [List.take_length]
    have hdu : ((startsOf (l.Durable ++ l.Pending)).any fun a => a == (l.Durable.size : Int)) = durB l := rfl
    rw [hdu]
    repeat (with_reducible refine And.intro ?_ ?_; focus (first | omega | with_reducible rfl | (show drawOk _ = true; kernel_rfl) | (simp only [rows_length, rows_cell, List.length_append, List.length_cons, List.length_nil, List.all_append, List.all_cons, List.all_nil, isCell, Nat.mul_one, Nat.one_mul, Bool.and_self]; first | done | omega) | (simp only [ByteArray.size_append, ba_size, List.size_toArray, List.length_cons, List.length_nil]; omega)))
    have hlast : (recsOf (l.Durable ++ l.Pending)).length < (startsOf (l.Durable ++ l.Pending)).length := by rw [hsl]; omega
    have hr2 := rows_at IntS.csl hlast
    rw [startsOf_get hlast, ← atOf_eq] at hr2
    have hw2 : IntKind.i64.wrap (((startsOf (l.Durable ++ l.Pending)).length : Int) - 1) = ((recsOf (l.Durable ++ l.Pending)).length : Int) := by rw [wrap_i64 (by omega) (by omega)]; omega
    have hdb := durB_eq l
    refine guardT.splitT (fun g1 => ?_) (fun g1 => ?_) <;> simp -implicitDefEqProofs -dsimp only [go_sem, Nat.reduceSub, Nat.reduceAdd, Nat.reduceMul, Nat.reduceLT, Nat.reduceLeDiff, Nat.reduceEqDiff, Nat.reduceDiv, Nat.reduceMod, Int.reduceToNat, Int.reduceLE, Int.reduceLT, Int.reduceBEq, Int.reduceBNe, Int.reduceNeg, Int.reduceAdd, Int.reduceSub, Int.reduceMul, reduceCtorEq, g1]
    · (repeat ((repeat1' (first | simp -implicitDefEqProofs -dsimp only [go_sem, Nat.reduceSub, Nat.reduceAdd, Nat.reduceMul, Nat.reduceLT, Nat.reduceLeDiff, Nat.reduceEqDiff, Nat.reduceDiv, Nat.reduceMod, Int.reduceToNat, Int.reduceLE, Int.reduceLT, Int.reduceBEq, Int.reduceBNe, Int.reduceNeg, Int.reduceAdd, Int.reduceSub, Int.reduceMul, reduceCtorEq, hr2, hw2, hsz, IntS.cs] | simp -implicitDefEqProofs -dsimp (disch := omega) only [wrap_i64])); repeat (with_reducible refine And.intro ?_ ?_; focus (first | omega | with_reducible rfl | (show drawOk _ = true; kernel_rfl) | (simp only [rows_length, rows_cell, List.length_append, List.length_cons, List.length_nil, List.all_append, List.all_cons, List.all_nil, isCell, Nat.mul_one, Nat.one_mul, Bool.and_self]; first | done | omega) | (simp only [ByteArray.size_append, ba_size, List.size_toArray, List.length_cons, List.length_nil]; omega)))))
      rw [hdb] at g1
      have hab := (atOf_bd (l.Durable ++ l.Pending)).2
      have c1 : (((atOf (l.Durable ++ l.Pending) : Nat) : Int) == ((l.Durable.size + l.Pending.size : Nat) : Int)) = decide (atOf (l.Durable ++ l.Pending) = l.Durable.size + l.Pending.size) := by rw [Bool.eq_iff_iff]; simp; omega
      refine guardT.splitT (fun g2 => ?_) (fun g2 => ?_) <;> simp -implicitDefEqProofs -dsimp only [go_sem, Nat.reduceSub, Nat.reduceAdd, Nat.reduceMul, Nat.reduceLT, Nat.reduceLeDiff, Nat.reduceEqDiff, Nat.reduceDiv, Nat.reduceMod, Int.reduceToNat, Int.reduceLE, Int.reduceLT, Int.reduceBEq, Int.reduceBNe, Int.reduceNeg, Int.reduceAdd, Int.reduceSub, Int.reduceMul, reduceCtorEq, g2]
      · rw [c1] at g2
        have hb : decide (l.Durable.size + l.Pending.size ≤ 30000) = true := by simp at g2 ⊢; omega
        have hL : logB l = (l.Count == ((recsOf (l.Durable ++ l.Pending)).length : Int)) := by
          simp only [logB, hb, g1, g2, Bool.true_and]
          rw [Bool.eq_iff_iff]
          simp
          exact ⟨fun h => h.symm, fun h => h.symm⟩
        repeat (with_reducible refine And.intro ?_ ?_; focus (first | omega | with_reducible rfl | (show drawOk _ = true; kernel_rfl) | (simp only [rows_length, rows_cell, List.length_append, List.length_cons, List.length_nil, List.all_append, List.all_cons, List.all_nil, isCell, Nat.mul_one, Nat.one_mul, Bool.and_self]; first | done | omega) | (simp only [ByteArray.size_append, ba_size, List.size_toArray, List.length_cons, List.length_nil]; omega)))
        rw [recsV, recsH, hL]
        refine WeakR.pick [1] (by decide) (fun j hj => by omega) (.inl ?_) ?_
        · first | rfl | (simp [ren, pickF, posOf]; done)
        · simp only [pickH, List.map_cons, List.map_nil, pickB, List.getElem?_cons_zero, List.getElem?_cons_succ, map_ren_rows]
      · rw [c1] at g2
        have hL : logB l = false := by simp only [logB, g2, Bool.false_and, Bool.and_false]
        repeat (with_reducible refine And.intro ?_ ?_; focus (first | omega | with_reducible rfl | (show drawOk _ = true; kernel_rfl) | (simp only [rows_length, rows_cell, List.length_append, List.length_cons, List.length_nil, List.all_append, List.all_cons, List.all_nil, isCell, Nat.mul_one, Nat.one_mul, Bool.and_self]; first | done | omega) | (simp only [ByteArray.size_append, ba_size, List.size_toArray, List.length_cons, List.length_nil]; omega)))
        rw [recsV, recsH, hL]
        refine WeakR.pick [1] (by decide) (fun j hj => by omega) (.inl ?_) ?_
        · first | rfl | (simp [ren, pickF, posOf]; done)
        · simp only [pickH, List.map_cons, List.map_nil, pickB, List.getElem?_cons_zero, List.getElem?_cons_succ, map_ren_rows]
    · rw [hdb] at g1
      have hL : logB l = false := by simp only [logB, g1, Bool.false_and, Bool.and_false]
      rw [recsV, recsH, hL]
      refine WeakR.pick [1] (by decide) (fun j hj => by omega) (.inl ?_) ?_
      · first | rfl | (simp [ren, pickF, posOf]; done)
      · simp only [pickH, List.map_cons, List.map_nil, pickB, List.getElem?_cons_zero, List.getElem?_cons_succ, map_ren_rows]
theorem iIsValidLog_ok (l : Log) (hd : l.Durable.size ≤ 4194304) (hp : l.Pending.size ≤ 4194304) : Ctr Tryd.prog 21 [l.v] [] (.bool (logB l)) [] := by
  refine Ctr.intro Tryd.mixed Tryd.func21 rfl Tryd.okF21 ?_
  simp -implicitDefEqProofs -dsimp only [go_sem, Nat.reduceSub, Nat.reduceAdd, Nat.reduceMul, Nat.reduceLT, Nat.reduceLeDiff, Nat.reduceEqDiff, Nat.reduceDiv, Nat.reduceMod, Int.reduceToNat, Int.reduceLE, Int.reduceLT, Int.reduceBEq, Int.reduceBNe, Int.reduceNeg, Int.reduceAdd, Int.reduceSub, Int.reduceMul, reduceCtorEq, Tryd.ntmps21, Tryd.results21]
  simp -implicitDefEqProofs -dsimp only [go_sem, Nat.reduceSub, Nat.reduceAdd, Nat.reduceMul, Nat.reduceLT, Nat.reduceLeDiff, Nat.reduceEqDiff, Nat.reduceDiv, Nat.reduceMod, Int.reduceToNat, Int.reduceLE, Int.reduceLT, Int.reduceBEq, Int.reduceBNe, Int.reduceNeg, Int.reduceAdd, Int.reduceSub, Int.reduceMul, reduceCtorEq, Log.v]
  (first | refine callT.at (records_ok l hd hp) ⟨leA, trivial⟩ ?_ | refine callS.at (records_ok l hd hp) ⟨leA, trivial⟩ ?_)
  simp -implicitDefEqProofs -dsimp only [go_sem, Nat.reduceSub, Nat.reduceAdd, Nat.reduceMul, Nat.reduceLT, Nat.reduceLeDiff, Nat.reduceEqDiff, Nat.reduceDiv, Nat.reduceMod, Int.reduceToNat, Int.reduceLE, Int.reduceLT, Int.reduceBEq, Int.reduceBNe, Int.reduceNeg, Int.reduceAdd, Int.reduceSub, Int.reduceMul, reduceCtorEq, recsV]
  exact WeakR.drop' rfl (by rfl)
end Go.Proofs
