/-
  A part of the proof: texts put together by a program of the prover. Conditions: none.
-/
import Derived.Test.YtfnlgojocgdmcaaDoorZCrashRecoveryLaw6
import Derived.ProofKit
import Derived.Deep.Slices
set_option linter.unusedSimpArgs false
set_option linter.unusedVariables false
section
set_option linter.unusedSimpArgs false
set_option linter.unusedVariables false
set_option maxRecDepth 100000
set_option maxHeartbeats 1000000
namespace Go.Proofs
open Go.Lv
def lineByte (b : UInt8) : Bool := decide (b.toNat ≤ 126)
theorem num_line : ∀ (n u : Nat), u < n → allS lineByte (num u) = true
  | 0, _, h => by omega
  | n + 1, u, h => by
    by_cases hu : u < 10
    · rw [num_one hu, digit_at u hu]
      have : ∀ v, v < 10 → allS lineByte ⟨#[UInt8.ofNat (48 + v)]⟩ = true := by decide
      exact this u hu
    · rw [num_more hu, allS_app, num_line n (u / 10) (by omega), digit_at _ (Nat.mod_lt _ (by omega))]
      have : ∀ v, v < 10 → allS lineByte ⟨#[UInt8.ofNat (48 + v)]⟩ = true := by decide
      rw [this _ (Nat.mod_lt _ (by omega))]
      rfl
theorem plain_line {s : ByteArray} (h : allS plainByte s = true) : allS lineByte s = true :=
  allS_mono h (fun b hb => by simp only [plainByte, okByte, Bool.and_eq_true, decide_eq_true_eq] at hb; simp [lineByte]; omega)
theorem line_line {k : Int} {e : LogRecord} (hk : 0 ≤ k ∧ k ≤ 59) (h : recB e = true) : allS lineByte (recLine k e) = true := by
  obtain ⟨_, _, h3, h4, _⟩ := recB_ok h
  obtain ⟨u, rfl⟩ := Int.eq_ofNat_of_zero_le hk.1
  have hb := ckS_bd (recText u e)
  obtain ⟨v, hv⟩ := Int.eq_ofNat_of_zero_le hb.1
  have a1 := num_line (u + 1) u (by omega)
  have a2 := num_line (v + 1) v (by omega)
  have a3 : allS lineByte e.Command = true := plain_line (allS_mono h3 fun b hb => by simp only [Bool.and_eq_true] at hb; exact hb.1)
  have a4 := plain_line h4
  have c1 : allS lineByte (⟨#[32]⟩ : ByteArray) = true := by decide
  have c2 : allS lineByte (⟨#[64]⟩ : ByteArray) = true := by decide
  have c3 : allS lineByte (⟨#[35]⟩ : ByteArray) = true := by decide
  have c4 : allS lineByte (⟨#[10]⟩ : ByteArray) = true := by decide
  rw [recLine, sealS, hv, recText]
  simp only [allS_app]
  simp [a1, a2, a3, a4, c1, c2, c3, c4]
theorem ext_app3 (s : ByteArray) (a b : Nat) (h : a ≤ s.size) : s.extract 0 (a + b) = s.extract 0 a ++ (s.extract a s.size).extract 0 b := by
  apply ba_ext
  have hs : s.size = s.data.toList.length := rfl
  simp only [ba_app, ba_ext_list, List.drop_zero]
  rw [hs, List.take_length, List.take_add]
/-- What has been read consists of bytes of lines. -/
theorem read_line (s : ByteArray) : ∀ i, allS lineByte (s.extract 0 (rdN s i).2) = true
  | 0 => by
    have : s.extract 0 (rdN s 0).2 = ⟨#[]⟩ := by apply ba_ext; rw [ba_ext_list]; simp [rdN_zero]
    rw [this]; rfl
  | i + 1 => by
    have ih := read_line s i
    cases g : decL ((rdN s i).1.length : Int) (s.extract (rdN s i).2 s.size) with
    | none => rw [rdN_none g]; exact ih
    | some r =>
      rw [rdN_some g]
      dsimp only
      rw [ext_app3 _ _ _ (rdN_bd s i).1, allS_app, ih, Bool.true_and]
      obtain ⟨g1, g2, g3⟩ := decL_some g
      generalize s.extract (rdN s i).2 s.size = X at g1 g2 g3
      obtain ⟨x, y, rfl, hx⟩ := cut_find g1
      have hb := (cut_at (y := y) hx).2.1
      rw [hb] at g2 g3
      obtain ⟨hk, he, hl⟩ := decE_some.1 g2
      have e1 : (x ++ ((⟨#[10]⟩ : ByteArray) ++ y)).extract 0 r.2 = x ++ ⟨#[10]⟩ := by
        rw [g3, ← ByteArray.append_assoc]
        have := ext_left (x ++ (⟨#[10]⟩ : ByteArray)) y
        have hs : (x ++ (⟨#[10]⟩ : ByteArray)).size = x.size + 1 := by rw [ByteArray.size_append]; rfl
        rw [hs] at this
        exact this
      rw [e1, ← hl]
      exact line_line hk he
theorem whole_line {s : ByteArray} (h : atOf s = s.size) : allS lineByte s = true := by
  have := read_line s 60
  have e : (rdN s 60).2 = s.size := h
  rw [e, ext_all] at this
  exact this
theorem rdN_more (s : ByteArray) (n : Nat) : ∀ m, ∃ l, (rdN s (n + m)).1 = (rdN s n).1 ++ l ∧ (rdN s n).2 ≤ (rdN s (n + m)).2
  | 0 => ⟨[], by simp, Nat.le_refl _⟩
  | m + 1 => by
    obtain ⟨l, h1, h2⟩ := rdN_more s n m
    have e : n + (m + 1) = (n + m) + 1 := by omega
    cases g : decL ((rdN s (n + m)).1.length : Int) (s.extract (rdN s (n + m)).2 s.size) with
    | none => exact ⟨l, by rw [e, rdN_none g, h1], by rw [e, rdN_none g]; exact h2⟩
    | some r => exact ⟨l ++ [r.1], by rw [e, rdN_some g, h1, List.append_assoc], by rw [e, rdN_some g]; dsimp only; omega⟩
/-- The records of a part come first in the whole. -/
theorem recs_pre (Y R : ByteArray) : (∃ l, recsOf (Y ++ R) = recsOf Y ++ l) ∧ atOf Y ≤ atOf (Y ++ R) := by
  obtain ⟨a1, a2, a3, a4⟩ := recs_len Y
  have hp := rd_app (P := R) a1
  obtain ⟨l, h1, h2⟩ := rdN_more (Y ++ R) (recsOf Y).length (60 - (recsOf Y).length)
  have e : (recsOf Y).length + (60 - (recsOf Y).length) = 60 := by omega
  rw [e, hp, ← a2] at h1 h2
  exact ⟨⟨l, h1⟩, h2⟩
theorem last_ne {W x y : ByteArray} {c : UInt8} (hc : c ≠ 10) (e : W ++ ⟨#[c]⟩ = x ++ ((⟨#[10]⟩ : ByteArray) ++ y)) : x.size + 1 ≤ W.size := by
  have hs := congrArg ByteArray.size e
  simp only [ByteArray.size_append, ba_size, List.size_toArray, List.length_cons, List.length_nil] at hs
  rcases Nat.eq_zero_or_pos y.size with h | h
  · exfalso
    have hy : y = ⟨#[]⟩ := by
      apply ByteArray.ext
      exact Array.eq_empty_of_size_eq_zero h
    subst hy
    have hl := congrArg (fun z : ByteArray => z.data.toList.getLast?) e
    simp only [ba_app] at hl
    simp at hl
    exact hc hl
  · omega
/-- A last byte that ends no line adds nothing. -/
theorem recs_last (Y : ByteArray) {c : UInt8} (hc : c ≠ 10) : recsOf (Y ++ ⟨#[c]⟩) = recsOf Y ∧ atOf (Y ++ ⟨#[c]⟩) = atOf Y := by
  obtain ⟨a1, a2, a3, a4⟩ := recs_len Y
  have hp := rd_app (P := ⟨#[c]⟩) a1
  have hb := (atOf_bd Y).1
  have hn : decL ((recsOf Y).length : Int) ((Y ++ ⟨#[c]⟩).extract (atOf Y) (Y ++ (⟨#[c]⟩ : ByteArray)).size) = none := by
    rw [ext_app hb]
    cases g : decL ((recsOf Y).length : Int) (Y.extract (atOf Y) Y.size ++ ⟨#[c]⟩) with
    | none => rfl
    | some r =>
      exfalso
      obtain ⟨g1, g2, g3⟩ := decL_some g
      obtain ⟨x, y, e, hx⟩ := cut_find g1
      have h1 := last_ne hc e
      have hbef := (cut_at (y := y) hx).2.1
      rw [← e] at hbef
      rw [hbef] at g3
      have := decL_pre g (by omega)
      rw [a3] at this
      cases this
  have hj : rdN Y (recsOf Y).length = (recsOf Y, atOf Y) := by rw [← a2, recsOf, atOf]
  have hd : rdN (Y ++ ⟨#[c]⟩) 60 = rdN (Y ++ ⟨#[c]⟩) (recsOf Y).length := rdN_done (by rw [hp]; exact a1) (by rw [hp, hj]; dsimp only; exact hn)
  exact ⟨by rw [recsOf, hd, hp, hj], by rw [atOf, hd, hp, hj]⟩
theorem split_last (Z : ByteArray) (h : 0 < Z.size) : ∃ (Y : ByteArray) (b : UInt8), Z = Y ++ ⟨#[b]⟩ ∧ flipT Z = Y ++ ⟨#[255 - b]⟩ := by
  have hne : Z.data.toList ≠ [] := by
    intro e
    have : Z.size = Z.data.toList.length := rfl
    rw [e] at this
    simp only [List.length_nil] at this
    omega
  have hz : Z.data.toList = Z.data.toList.dropLast ++ [Z.data.toList.getLast hne] := (List.dropLast_concat_getLast hne).symm
  generalize Z.data.toList.dropLast = y at hz
  generalize Z.data.toList.getLast hne = b at hz
  have e1 : Z = ⟨y.toArray⟩ ++ ⟨#[b]⟩ := by apply ba_ext; rw [ba_app, hz]
  refine ⟨⟨y.toArray⟩, b, e1, ?_⟩
  rw [e1, flipT_append _ _ (by rw [ba_size]; simp)]
  congr 1
  have : ∀ b : UInt8, flipT ⟨#[b]⟩ = ⟨#[255 - b]⟩ := by
    intro b
    have h1 : nums ⟨#[b]⟩ = [(b.toNat : Int)] := rfl
    have h2 : (⟨#[b]⟩ : ByteArray).size - 1 = 0 := rfl
    rw [flipT, h1, h2]
    have h3 : UInt8.ofNat ((255 - (b.toNat : Int)).toNat) = 255 - b := by
      apply UInt8.toNat_inj.1
      have hb := b.toNat_lt
      have hle : b ≤ (255 : UInt8) := by
        rw [UInt8.le_iff_toNat_le]
        show b.toNat ≤ 255
        omega
      rw [UInt8.toNat_sub_of_le _ _ hle, UInt8.toNat_ofNat']
      show (255 - (b.toNat : Int)).toNat % 256 = 255 - b.toNat
      omega
    show (⟨#[UInt8.ofNat ((255 - (b.toNat : Int)).toNat)]⟩ : ByteArray) = _
    rw [h3]
  exact this b
end Go.Proofs
end
section
set_option linter.unusedSimpArgs false
set_option linter.unusedVariables false
set_option maxRecDepth 100000
set_option maxHeartbeats 2000000
namespace Go.Proofs
open Go.Lv
theorem crash_recs {l : Log} (h : logB l = true) {k : Int} (hk : 0 ≤ k ∧ k ≤ l.Pending.size) (t : Bool) :
    (l.Durable ++ keptT l k t).size ≤ 30000 ∧ (∃ r, recsOf (l.Durable ++ l.Pending) = recsOf (l.Durable ++ keptT l k t) ++ r) ∧ l.Durable.size ≤ atOf (l.Durable ++ keptT l k t) := by
  obtain ⟨h1, h2, h3, h4⟩ := logB_split h
  obtain ⟨q, rfl⟩ : ∃ q : Nat, k = q := ⟨k.toNat, by omega⟩
  have hcat : l.Pending.extract 0 q ++ l.Pending.extract q l.Pending.size = l.Pending := by
    apply ba_ext
    rw [ba_app, ba_ext_list, ba_ext_list, List.drop_zero]
    have : l.Pending.size = l.Pending.data.toList.length := rfl
    rw [this, List.take_length, List.take_append_drop]
  have hxs : (l.Pending.extract 0 q).size = q := by rw [ByteArray.size_extract]; omega
  have hkt : keptT l q t = if t = true ∧ 0 < q then flipT (l.Pending.extract 0 q) else l.Pending.extract 0 q := by simp [keptT]
  rw [hkt]
  have hsz : (l.Durable ++ l.Pending).size = l.Durable.size + l.Pending.size := ByteArray.size_append
  have hw := whole_line (s := l.Durable ++ l.Pending) (by rw [hsz]; exact h2)
  obtain ⟨Pk, hPk⟩ : ∃ x, x = l.Pending.extract 0 q := ⟨_, rfl⟩
  obtain ⟨R, hR⟩ : ∃ x, x = l.Pending.extract q l.Pending.size := ⟨_, rfl⟩
  rw [← hPk, ← hR] at hcat
  rw [← hPk] at hxs ⊢
  rw [← hcat] at hw ⊢
  have hps : Pk.size + R.size = l.Pending.size := by rw [← hcat, ByteArray.size_append]
  split
  · rename_i hc
    obtain ⟨Y, b, e1, e2⟩ := split_last Pk (by omega)
    rw [e2]
    have hs1 : Pk.size = Y.size + 1 := by rw [e1, ByteArray.size_append]; rfl
    rw [e1] at hw ⊢
    have hb : b.toNat ≤ 126 := by
      simp only [allS_app, Bool.and_eq_true] at hw
      have := hw.2.1.2
      simpa [allS, lineByte] using this
    have hc10 : (255 - b : UInt8) ≠ 10 := by
      intro e
      have hle : b ≤ (255 : UInt8) := by
        rw [UInt8.le_iff_toNat_le]
        show b.toNat ≤ 255
        omega
      have := congrArg UInt8.toNat e
      rw [UInt8.toNat_sub_of_le _ _ hle] at this
      have h10 : (10 : UInt8).toNat = 10 := rfl
      have h255 : (255 : UInt8).toNat = 255 := rfl
      omega
    rw [← ByteArray.append_assoc]
    obtain ⟨r1, r2⟩ := recs_last (l.Durable ++ Y) hc10
    obtain ⟨⟨r, p1⟩, p2⟩ := recs_pre (l.Durable ++ Y) (⟨#[b]⟩ ++ R)
    refine ⟨?_, ⟨r, ?_⟩, ?_⟩
    · simp only [ByteArray.size_append, ba_size, List.size_toArray, List.length_cons, List.length_nil]; omega
    · rw [r1, ← p1]
      simp only [ByteArray.append_assoc]
    · rw [r2]
      have := (recs_pre l.Durable Y).2
      omega
  · obtain ⟨⟨r, p1⟩, p2⟩ := recs_pre (l.Durable ++ Pk) R
    refine ⟨?_, ⟨r, ?_⟩, ?_⟩
    · simp only [ByteArray.size_append]; omega
    · rw [← p1]
      simp only [ByteArray.append_assoc]
    · have := (recs_pre l.Durable Pk).2
      omega
theorem fnCrashRecoveryLaw_ok (L : List Int) (hL : lstR ByteS.ok L) : Ctr Tryd.prog 6 [ByteS.sl L] [] (.bool true) [] := by
  have hB : CB L := hL
  refine Ctr.intro Tryd.mixed Tryd.func6 rfl Tryd.okF6 ?_
  simp -implicitDefEqProofs -dsimp only [go_sem, Nat.reduceSub, Nat.reduceAdd, Nat.reduceMul, Nat.reduceLT, Nat.reduceLeDiff, Nat.reduceEqDiff, Nat.reduceDiv, Nat.reduceMod, Int.reduceToNat, Int.reduceLE, Int.reduceLT, Int.reduceBEq, Int.reduceBNe, Int.reduceNeg, Int.reduceAdd, Int.reduceSub, Int.reduceMul, reduceCtorEq, Tryd.ntmps6, Tryd.results6]
  (repeat ((repeat1' (first | simp -implicitDefEqProofs -dsimp only [go_sem, Nat.reduceSub, Nat.reduceAdd, Nat.reduceMul, Nat.reduceLT, Nat.reduceLeDiff, Nat.reduceEqDiff, Nat.reduceDiv, Nat.reduceMod, Int.reduceToNat, Int.reduceLE, Int.reduceLT, Int.reduceBEq, Int.reduceBNe, Int.reduceNeg, Int.reduceAdd, Int.reduceSub, Int.reduceMul, reduceCtorEq] | simp -implicitDefEqProofs -dsimp (disch := omega) only [wrap_i64])); repeat (with_reducible refine And.intro ?_ ?_; focus (first | omega | with_reducible rfl | (show drawOk _ = true; kernel_rfl) | (simp only [rows_length, rows_cell, List.length_append, List.length_cons, List.length_nil, List.all_append, List.all_cons, List.all_nil, isCell, Nat.mul_one, Nat.one_mul, Bool.and_self]; first | done | omega) | (simp only [ByteArray.size_append, ba_size, List.size_toArray, List.length_cons, List.length_nil]; omega)))))
  (first | refine callT.at (vBig_ok L) ⟨leA, trivial⟩ ?_ | refine callS.at (vBig_ok L) ⟨leA, trivial⟩ ?_)
  (repeat ((repeat1' (first | simp -implicitDefEqProofs -dsimp only [go_sem, Nat.reduceSub, Nat.reduceAdd, Nat.reduceMul, Nat.reduceLT, Nat.reduceLeDiff, Nat.reduceEqDiff, Nat.reduceDiv, Nat.reduceMod, Int.reduceToNat, Int.reduceLE, Int.reduceLT, Int.reduceBEq, Int.reduceBNe, Int.reduceNeg, Int.reduceAdd, Int.reduceSub, Int.reduceMul, reduceCtorEq] | simp -implicitDefEqProofs -dsimp (disch := omega) only [wrap_i64])); repeat (with_reducible refine And.intro ?_ ?_; focus (first | omega | with_reducible rfl | (show drawOk _ = true; kernel_rfl) | (simp only [rows_length, rows_cell, List.length_append, List.length_cons, List.length_nil, List.all_append, List.all_cons, List.all_nil, isCell, Nat.mul_one, Nat.one_mul, Bool.and_self]; first | done | omega) | (simp only [ByteArray.size_append, ba_size, List.size_toArray, List.length_cons, List.length_nil]; omega)))))
  refine condT.split (fun h1 => ?_) (fun h1 => ?_) <;> (repeat ((repeat1' (first | simp -implicitDefEqProofs -dsimp only [go_sem, Nat.reduceSub, Nat.reduceAdd, Nat.reduceMul, Nat.reduceLT, Nat.reduceLeDiff, Nat.reduceEqDiff, Nat.reduceDiv, Nat.reduceMod, Int.reduceToNat, Int.reduceLE, Int.reduceLT, Int.reduceBEq, Int.reduceBNe, Int.reduceNeg, Int.reduceAdd, Int.reduceSub, Int.reduceMul, reduceCtorEq, h1] | simp -implicitDefEqProofs -dsimp (disch := omega) only [wrap_i64])); repeat (with_reducible refine And.intro ?_ ?_; focus (first | omega | with_reducible rfl | (show drawOk _ = true; kernel_rfl) | (simp only [rows_length, rows_cell, List.length_append, List.length_cons, List.length_nil, List.all_append, List.all_cons, List.all_nil, isCell, Nat.mul_one, Nat.one_mul, Bool.and_self]; first | done | omega) | (simp only [ByteArray.size_append, ba_size, List.size_toArray, List.length_cons, List.length_nil]; omega)))))
  · exact WeakR.drop' rfl (by rfl)
  refine callS.rel [] (drawCrashLog_ok hB) (by decide) ⟨leO, trivial⟩ rfl rfl (fun r hout hΦ => ?_)
  obtain ⟨l, k, t, hl, hk, rfl, rfl⟩ := hΦ
  obtain ⟨hl1, hl2, hl3⟩ := hl
  refine ⟨trivial, ?_⟩
  (repeat ((repeat1' (first | simp -implicitDefEqProofs -dsimp only [go_sem, Nat.reduceSub, Nat.reduceAdd, Nat.reduceMul, Nat.reduceLT, Nat.reduceLeDiff, Nat.reduceEqDiff, Nat.reduceDiv, Nat.reduceMod, Int.reduceToNat, Int.reduceLE, Int.reduceLT, Int.reduceBEq, Int.reduceBNe, Int.reduceNeg, Int.reduceAdd, Int.reduceSub, Int.reduceMul, reduceCtorEq, Log.v] | simp -implicitDefEqProofs -dsimp (disch := omega) only [wrap_i64])); repeat (with_reducible refine And.intro ?_ ?_; focus (first | omega | with_reducible rfl | (show drawOk _ = true; kernel_rfl) | (simp only [rows_length, rows_cell, List.length_append, List.length_cons, List.length_nil, List.all_append, List.all_cons, List.all_nil, isCell, Nat.mul_one, Nat.one_mul, Bool.and_self]; first | done | omega) | (simp only [ByteArray.size_append, ba_size, List.size_toArray, List.length_cons, List.length_nil]; omega)))))
  have hi := iCrashLog_ok l k t (by omega) (by omega)
  have hs := sCrashLog_ok l k t (by omega) (by omega)
  cases hok : crashOk l k with
  | false =>
    have hcr : crashR l k t = [.str ByteArray.empty, .bool false] := by rw [crashR, if_neg (by rw [hok]; decide)]
    rw [hcr] at hi hs
    (first | refine callT.at (hi) ⟨leA, leA, leA, trivial⟩ ?_ | refine callS.at (hi) ⟨leA, leA, leA, trivial⟩ ?_)
    (repeat ((repeat1' (first | simp -implicitDefEqProofs -dsimp only [go_sem, Nat.reduceSub, Nat.reduceAdd, Nat.reduceMul, Nat.reduceLT, Nat.reduceLeDiff, Nat.reduceEqDiff, Nat.reduceDiv, Nat.reduceMod, Int.reduceToNat, Int.reduceLE, Int.reduceLT, Int.reduceBEq, Int.reduceBNe, Int.reduceNeg, Int.reduceAdd, Int.reduceSub, Int.reduceMul, reduceCtorEq] | simp -implicitDefEqProofs -dsimp (disch := omega) only [wrap_i64])); repeat (with_reducible refine And.intro ?_ ?_; focus (first | omega | with_reducible rfl | (show drawOk _ = true; kernel_rfl) | (simp only [rows_length, rows_cell, List.length_append, List.length_cons, List.length_nil, List.all_append, List.all_cons, List.all_nil, isCell, Nat.mul_one, Nat.one_mul, Bool.and_self]; first | done | omega) | (simp only [ByteArray.size_append, ba_size, List.size_toArray, List.length_cons, List.length_nil]; omega)))))
    (first | refine callT.at (hs) ⟨leA, leA, leA, trivial⟩ ?_ | refine callS.at (hs) ⟨leA, leA, leA, trivial⟩ ?_)
    (repeat ((repeat1' (first | simp -implicitDefEqProofs -dsimp only [go_sem, Nat.reduceSub, Nat.reduceAdd, Nat.reduceMul, Nat.reduceLT, Nat.reduceLeDiff, Nat.reduceEqDiff, Nat.reduceDiv, Nat.reduceMod, Int.reduceToNat, Int.reduceLE, Int.reduceLT, Int.reduceBEq, Int.reduceBNe, Int.reduceNeg, Int.reduceAdd, Int.reduceSub, Int.reduceMul, reduceCtorEq] | simp -implicitDefEqProofs -dsimp (disch := omega) only [wrap_i64])); repeat (with_reducible refine And.intro ?_ ?_; focus (first | omega | with_reducible rfl | (show drawOk _ = true; kernel_rfl) | (simp only [rows_length, rows_cell, List.length_append, List.length_cons, List.length_nil, List.all_append, List.all_cons, List.all_nil, isCell, Nat.mul_one, Nat.one_mul, Bool.and_self]; first | done | omega) | (simp only [ByteArray.size_append, ba_size, List.size_toArray, List.length_cons, List.length_nil]; omega)))))
    exact WeakR.drop' (by simp) (by rfl)
  | true =>
    have hcr : crashR l k t = [.str (l.Durable ++ keptT l k t), .bool true] := by rw [crashR, if_pos hok]
    have hok' := hok
    simp only [crashOk, Bool.and_eq_true] at hok'
    obtain ⟨g1, g2⟩ := hok'
    obtain ⟨c1, ⟨r, c2⟩, c3⟩ := crash_recs g1 (inB'_iff.1 g2) t
    rw [hcr] at hi hs
    (first | refine callT.at (hi) ⟨leA, leA, leA, trivial⟩ ?_ | refine callS.at (hi) ⟨leA, leA, leA, trivial⟩ ?_)
    (repeat ((repeat1' (first | simp -implicitDefEqProofs -dsimp only [go_sem, Nat.reduceSub, Nat.reduceAdd, Nat.reduceMul, Nat.reduceLT, Nat.reduceLeDiff, Nat.reduceEqDiff, Nat.reduceDiv, Nat.reduceMod, Int.reduceToNat, Int.reduceLE, Int.reduceLT, Int.reduceBEq, Int.reduceBNe, Int.reduceNeg, Int.reduceAdd, Int.reduceSub, Int.reduceMul, reduceCtorEq] | simp -implicitDefEqProofs -dsimp (disch := omega) only [wrap_i64])); repeat (with_reducible refine And.intro ?_ ?_; focus (first | omega | with_reducible rfl | (show drawOk _ = true; kernel_rfl) | (simp only [rows_length, rows_cell, List.length_append, List.length_cons, List.length_nil, List.all_append, List.all_cons, List.all_nil, isCell, Nat.mul_one, Nat.one_mul, Bool.and_self]; first | done | omega) | (simp only [ByteArray.size_append, ba_size, List.size_toArray, List.length_cons, List.length_nil]; omega)))))
    (first | refine callT.at (hs) ⟨leA, leA, leA, trivial⟩ ?_ | refine callS.at (hs) ⟨leA, leA, leA, trivial⟩ ?_)
    (repeat ((repeat1' (first | simp -implicitDefEqProofs -dsimp only [go_sem, Nat.reduceSub, Nat.reduceAdd, Nat.reduceMul, Nat.reduceLT, Nat.reduceLeDiff, Nat.reduceEqDiff, Nat.reduceDiv, Nat.reduceMod, Int.reduceToNat, Int.reduceLE, Int.reduceLT, Int.reduceBEq, Int.reduceBNe, Int.reduceNeg, Int.reduceAdd, Int.reduceSub, Int.reduceMul, reduceCtorEq] | simp -implicitDefEqProofs -dsimp (disch := omega) only [wrap_i64])); repeat (with_reducible refine And.intro ?_ ?_; focus (first | omega | with_reducible rfl | (show drawOk _ = true; kernel_rfl) | (simp only [rows_length, rows_cell, List.length_append, List.length_cons, List.length_nil, List.all_append, List.all_cons, List.all_nil, isCell, Nat.mul_one, Nat.one_mul, Bool.and_self]; first | done | omega) | (simp only [ByteArray.size_append, ba_size, List.size_toArray, List.length_cons, List.length_nil]; omega)))))
    generalize l.Durable ++ keptT l k t = s at c1 c2 c3 ⊢
    have hrc := iRecoverLog_ok s (by omega)
    rw [recovR, if_pos c1] at hrc
    have hv := recov_valid c1
    obtain ⟨v1, v2⟩ := recov_same s
    have hb := (atOf_bd s).1
    obtain ⟨m, hm⟩ : ∃ m : Log, m = ⟨s.extract 0 (atOf s), ByteArray.empty, ((recsOf s).length : Int)⟩ := ⟨_, rfl⟩
    have m1 : m.Durable.size ≤ 30000 := by rw [hm, ByteArray.size_extract]; omega
    have m2 : m.Pending.size ≤ 30000 := by rw [hm]; simp
    rw [← hm] at hv
    have hlm := iLogRecords_ok m (by omega) (by omega)
    have hll := sLogRecords_ok l (by omega) (by omega)
    have hvm := iIsValidLog_ok m (by omega) (by omega)
    rw [hv] at hvm
    have e1 : logRecsR m = some (recsOf s) := by rw [logRecsR, if_pos hv, hm, ba_empty, v1]
    have e2 : logRecsR l = some (recsOf s ++ r) := by rw [logRecsR, if_pos g1, c2]
    rw [e1] at hlm
    rw [e2] at hll
    have h60 := (recs_len s).2.2.2
    have hr60 := (recs_len (l.Durable ++ l.Pending)).2.2.2
    rw [c2] at hr60
    simp only [optN, optNh, optO, optOh] at hlm hll
    simp only [hm, Log.v] at hlm hvm
    have hat : (s.extract 0 (atOf s)).size = atOf s := by rw [ByteArray.size_extract]; omega
    generalize recsOf s = A at *
    have hal : (A ++ r).length = A.length + r.length := by simp
    (first | refine callT.at (hrc) ⟨leA, trivial⟩ ?_ | refine callS.at (hrc) ⟨leA, trivial⟩ ?_)
    (repeat ((repeat1' (first | simp -implicitDefEqProofs -dsimp only [go_sem, Nat.reduceSub, Nat.reduceAdd, Nat.reduceMul, Nat.reduceLT, Nat.reduceLeDiff, Nat.reduceEqDiff, Nat.reduceDiv, Nat.reduceMod, Int.reduceToNat, Int.reduceLE, Int.reduceLT, Int.reduceBEq, Int.reduceBNe, Int.reduceNeg, Int.reduceAdd, Int.reduceSub, Int.reduceMul, reduceCtorEq] | simp -implicitDefEqProofs -dsimp (disch := omega) only [wrap_i64])); repeat (with_reducible refine And.intro ?_ ?_; focus (first | omega | with_reducible rfl | (show drawOk _ = true; kernel_rfl) | (simp only [rows_length, rows_cell, List.length_append, List.length_cons, List.length_nil, List.all_append, List.all_cons, List.all_nil, isCell, Nat.mul_one, Nat.one_mul, Bool.and_self]; first | done | omega) | (simp only [ByteArray.size_append, ba_size, List.size_toArray, List.length_cons, List.length_nil]; omega)))))
    (first | refine callT.at (hlm) ⟨leA, trivial⟩ ?_ | refine callS.at (hlm) ⟨leA, trivial⟩ ?_)
    (repeat ((repeat1' (first | simp -implicitDefEqProofs -dsimp only [go_sem, Nat.reduceSub, Nat.reduceAdd, Nat.reduceMul, Nat.reduceLT, Nat.reduceLeDiff, Nat.reduceEqDiff, Nat.reduceDiv, Nat.reduceMod, Int.reduceToNat, Int.reduceLE, Int.reduceLT, Int.reduceBEq, Int.reduceBNe, Int.reduceNeg, Int.reduceAdd, Int.reduceSub, Int.reduceMul, reduceCtorEq, map_ren_rows] | simp -implicitDefEqProofs -dsimp (disch := omega) only [wrap_i64])); repeat (with_reducible refine And.intro ?_ ?_; focus (first | omega | with_reducible rfl | (show drawOk _ = true; kernel_rfl) | (simp only [rows_length, rows_cell, List.length_append, List.length_cons, List.length_nil, List.all_append, List.all_cons, List.all_nil, isCell, Nat.mul_one, Nat.one_mul, Bool.and_self]; first | done | omega) | (simp only [ByteArray.size_append, ba_size, List.size_toArray, List.length_cons, List.length_nil]; omega)))))
    (first | refine callT.at (hll) ⟨leA, trivial⟩ ?_ | refine callS.at (hll) ⟨leA, trivial⟩ ?_)
    have d1 : decide ((s.size : Int) < (atOf s : Int)) = false := decide_eq_false (by omega)
    have d2 : decide ((atOf s : Int) < (l.Durable.size : Int)) = false := decide_eq_false (by omega)
    have d3 : decide (((A ++ r).length : Int) < (A.length : Int)) = false := decide_eq_false (by omega)
    (repeat ((repeat1' (first | simp -implicitDefEqProofs -dsimp only [go_sem, Nat.reduceSub, Nat.reduceAdd, Nat.reduceMul, Nat.reduceLT, Nat.reduceLeDiff, Nat.reduceEqDiff, Nat.reduceDiv, Nat.reduceMod, Int.reduceToNat, Int.reduceLE, Int.reduceLT, Int.reduceBEq, Int.reduceBNe, Int.reduceNeg, Int.reduceAdd, Int.reduceSub, Int.reduceMul, reduceCtorEq, map_ren_rows, d1, d2, d3] | simp -implicitDefEqProofs -dsimp (disch := omega) only [wrap_i64])); repeat (with_reducible refine And.intro ?_ ?_; focus (first | omega | with_reducible rfl | (show drawOk _ = true; kernel_rfl) | (simp only [rows_length, rows_cell, List.length_append, List.length_cons, List.length_nil, List.all_append, List.all_cons, List.all_nil, isCell, Nat.mul_one, Nat.one_mul, Bool.and_self]; first | done | omega) | (simp only [ByteArray.size_append, ba_size, List.size_toArray, List.length_cons, List.length_nil]; omega)))))
    refine LoopT.intro (fun i : Nat => i ≤ A.length) (fun i => ⟨[.undef, .undef, .undef, .undef, .undef, .undef, .str s, .undef, .undef, .undef, .ptr 1 0, .int .i64 (atOf s), .undef, .osl 2 0 A.length 2, .undef, .osl 3 0 (A ++ r).length 2, .undef, .int .i64 i, .undef, .undef, .undef, .undef, .undef, .undef, .undef, .undef, .undef, .undef, .undef, .undef, .undef, .undef, .undef, .undef, .undef, .undef, .undef, .undef, .undef, .undef, .undef, .undef, .undef, .undef, .undef, .undef, .undef, .undef, .undef, .undef, .undef, .undef, .undef, .undef, .undef, .undef, .undef, .undef, .undef, .undef, .undef, .undef, .undef, .undef, .undef, .undef, .undef, .undef, .undef, .undef, .undef, .undef, .undef, .undef, .undef, .undef, .undef, .undef, .undef, .undef, .undef, .undef, .undef, .undef, .undef, .undef, .undef, .undef, .undef, .undef, .undef, .undef, .undef, .undef, .undef, .undef, .undef, .undef, .undef, .undef, .undef, .undef, .undef, .undef, .undef, .undef, .undef, .undef, .undef, .undef, .undef, .undef, .undef, .undef, .undef], [some [.str l.Durable, .str l.Pending, .int .i64 l.Count], some [.str (s.extract 0 (atOf s)), .str ByteArray.empty, .int .i64 A.length], some (rows LogRecord.cs A), some (rows LogRecord.cs (A ++ r))], 0⟩) (fun i => A.length - i) 0 (Nat.zero_le _) ?_ (fun i hi => ?_)
    · refine Weak.cut (4) (by simp) (by simp) ?_ ?_
      · simp [LeC, LeV, ren, cutF]
      · simp [cutH, cutB, ren, map_ren_rows]
    simp -implicitDefEqProofs -dsimp only [go_sem, Nat.reduceSub, Nat.reduceAdd, Nat.reduceMul, Nat.reduceLT, Nat.reduceLeDiff, Nat.reduceEqDiff, Nat.reduceDiv, Nat.reduceMod, Int.reduceToNat, Int.reduceLE, Int.reduceLT, Int.reduceBEq, Int.reduceBNe, Int.reduceNeg, Int.reduceAdd, Int.reduceSub, Int.reduceMul, reduceCtorEq]
    refine condT.split (fun h3 => ?_) (fun h3 => ?_)
    · have hi' : i < A.length := by simpa using h3
      have hia : i < (A ++ r).length := by omega
      have hr0 := rows_at LogRecord.csl hia
      rw [List.getElem_append_left hi'] at hr0
      have hr1 := rows_at LogRecord.csl hi'
      have hd : decide ((i : Int) < ((A ++ r).length : Int)) = true := decide_eq_true (by omega)
      (repeat ((repeat1' (first | simp -implicitDefEqProofs -dsimp only [go_sem, Nat.reduceSub, Nat.reduceAdd, Nat.reduceMul, Nat.reduceLT, Nat.reduceLeDiff, Nat.reduceEqDiff, Nat.reduceDiv, Nat.reduceMod, Int.reduceToNat, Int.reduceLE, Int.reduceLT, Int.reduceBEq, Int.reduceBNe, Int.reduceNeg, Int.reduceAdd, Int.reduceSub, Int.reduceMul, reduceCtorEq, h3, hr0, hr1, LogRecord.cs] | simp -implicitDefEqProofs -dsimp (disch := omega) only [wrap_i64])); repeat (with_reducible refine And.intro ?_ ?_; focus (first | omega | with_reducible rfl | (show drawOk _ = true; kernel_rfl) | (simp only [rows_length, rows_cell, List.length_append, List.length_cons, List.length_nil, List.all_append, List.all_cons, List.all_nil, isCell, Nat.mul_one, Nat.one_mul, Bool.and_self]; first | done | omega) | (simp only [ByteArray.size_append, ba_size, List.size_toArray, List.length_cons, List.length_nil]; omega)))))
      refine ⟨i + 1, hi', ?_, by omega⟩
      refine Weak.cut (4) (by simp) (by simp) ?_ ?_
      · simp [LeC, LeV, ren, cutF]
      · simp [cutH, cutB, ren, map_ren_rows]
    · have hi' : i = A.length := by simp at h3; omega
      subst hi'
      (repeat ((repeat1' (first | simp -implicitDefEqProofs -dsimp only [go_sem, Nat.reduceSub, Nat.reduceAdd, Nat.reduceMul, Nat.reduceLT, Nat.reduceLeDiff, Nat.reduceEqDiff, Nat.reduceDiv, Nat.reduceMod, Int.reduceToNat, Int.reduceLE, Int.reduceLT, Int.reduceBEq, Int.reduceBNe, Int.reduceNeg, Int.reduceAdd, Int.reduceSub, Int.reduceMul, reduceCtorEq, h3] | simp -implicitDefEqProofs -dsimp (disch := omega) only [wrap_i64])); repeat (with_reducible refine And.intro ?_ ?_; focus (first | omega | with_reducible rfl | (show drawOk _ = true; kernel_rfl) | (simp only [rows_length, rows_cell, List.length_append, List.length_cons, List.length_nil, List.all_append, List.all_cons, List.all_nil, isCell, Nat.mul_one, Nat.one_mul, Bool.and_self]; first | done | omega) | (simp only [ByteArray.size_append, ba_size, List.size_toArray, List.length_cons, List.length_nil]; omega)))))
      (first | refine callT.at (hvm) ⟨leA, trivial⟩ ?_ | refine callS.at (hvm) ⟨leA, trivial⟩ ?_)
      (repeat ((repeat1' (first | simp -implicitDefEqProofs -dsimp only [go_sem, Nat.reduceSub, Nat.reduceAdd, Nat.reduceMul, Nat.reduceLT, Nat.reduceLeDiff, Nat.reduceEqDiff, Nat.reduceDiv, Nat.reduceMod, Int.reduceToNat, Int.reduceLE, Int.reduceLT, Int.reduceBEq, Int.reduceBNe, Int.reduceNeg, Int.reduceAdd, Int.reduceSub, Int.reduceMul, reduceCtorEq, Int.toNat_natCast] | simp -implicitDefEqProofs -dsimp (disch := omega) only [wrap_i64])); repeat (with_reducible refine And.intro ?_ ?_; focus (first | omega | with_reducible rfl | (show drawOk _ = true; kernel_rfl) | (simp only [rows_length, rows_cell, List.length_append, List.length_cons, List.length_nil, List.all_append, List.all_cons, List.all_nil, isCell, Nat.mul_one, Nat.one_mul, Bool.and_self]; first | done | omega) | (simp only [ByteArray.size_append, ba_size, List.size_toArray, List.length_cons, List.length_nil]; omega)))))
      exact WeakR.drop' (by simp) (by rfl)
end Go.Proofs
end
section
set_option linter.unusedSimpArgs false
set_option linter.unusedVariables false
open Go.ChangeShapes Go.WideShapes
namespace Go.Lv

/-- The shapes of values of the plain types. -/
def ShC (P : Program) : Nat → TypeId → List V → Prop
  | 0, _, _ => False
  | n + 1, t, xs =>
    match P.underlying t with
    | some .bool => ∃ b, xs = [.bool b]
    | some (.int k) => ∃ z, xs = [.int k z] ∧ (Lit.int k z).wf = true
    | some .string => ∃ s : ByteArray, xs = [.str s] ∧ s.size ≤ maxLen
    | some (.slice e) => ∃ l cs, xs = [.sl l (P.cellsOf e) cs] ∧ l ≤ maxLen ∧ cs.length = l * P.cellsOf e ∧ ∀ i, i < l → ShC P n e ((cs.drop (i * P.cellsOf e)).take (P.cellsOf e))
    | some (.struct fs) => xs.length = P.cellsOf t ∧ ∀ f ∈ fs.toList, ShC P n f.type ((xs.drop f.offset).take (P.cellsOf f.type))
    | _ => False

/-- The fields of a struct lie one behind the other and fill it. -/
def tiled (P : Program) : List Field → Nat → Nat → Bool
  | [], off, n => off == n
  | f :: fs, off, n => f.offset == off && tiled P fs (off + P.cellsOf f.type) n

/-- A type that is built of bools, integers, strings, slices and structs. -/
def plainT (P : Program) : Nat → TypeId → Bool
  | 0, _ => false
  | n + 1, t =>
    match P.underlying t with
    | some .bool => true
    | some (.int _) => true
    | some .string => true
    | some (.slice e) => decide (0 < P.cellsOf e) && plainT P n e
    | some (.struct fs) => tiled P fs.toList 0 (P.cellsOf t) && fs.toList.all fun f => plainT P n f.type
    | _ => false

section
variable {P : Program} {w : World} {m : Nat → Nat}

/-- Cells that read as pure values. -/
def Rds (w : World) (m : Nat → Nat) (cs : List Value) (xs : List V) : Prop :=
  cs.length = xs.length ∧ ∀ i (hi : i < xs.length), RV w m [] (fun _ => False) false (cs.getD i Go.undef) xs[i]

theorem Rds.append {a b : List Value} {x y : List V} (h : Rds w m a x) (k : Rds w m b y) : Rds w m (a ++ b) (x ++ y) := by
  refine ⟨by simp [h.1, k.1], fun i hi => ?_⟩
  by_cases hlt : i < x.length
  · rw [List.getElem_append_left hlt]
    have := h.2 i hlt
    rw [List.getD_eq_getElem?_getD, List.getElem?_append_left (by rw [h.1]; exact hlt), ← List.getD_eq_getElem?_getD]
    exact this
  · rw [List.getElem_append_right (by omega)]
    have := k.2 (i - x.length) (by simp at hi; omega)
    rw [List.getD_eq_getElem?_getD, List.getElem?_append_right (by rw [h.1]; omega), ← List.getD_eq_getElem?_getD, h.1]
    exact this

theorem Rds.one {v : Value} {x : V} (h : RV w m [] (fun _ => False) false v x) : Rds w m [v] [x] :=
  ⟨rfl, fun i hi => by have : i = 0 := by simp at hi; omega
                       subst this; exact h⟩

theorem Rds.nil : Rds w m [] [] := ⟨rfl, fun i hi => by simp at hi⟩

/-- The fields of a struct, one behind the other. -/
theorem fields_sh {n : Nat} {cs : List Value} : ∀ (fs : List Field) (off : Nat), tiled P fs off cs.length = true → off ≤ cs.length →
    (∀ f ∈ fs, ∃ xs, Rds w m ((cs.drop f.offset).take (P.cellsOf f.type)) xs ∧ ShC P n f.type xs) →
    ∃ ys, Rds w m (cs.drop off) ys ∧ ∀ f ∈ fs, off ≤ f.offset ∧ ShC P n f.type ((ys.drop (f.offset - off)).take (P.cellsOf f.type))
  | [], off, ht, _, _ => by
    simp [tiled] at ht
    subst ht
    refine ⟨[], ?_, fun f hf => by simp at hf⟩
    rw [List.drop_of_length_le (Nat.le_refl _)]
    exact Rds.nil
  | f :: fs, off, ht, hle, h => by
    simp only [tiled, Bool.and_eq_true, beq_iff_eq] at ht
    obtain ⟨rfl, ht⟩ := ht
    have hlen : ∀ (fs : List Field) (o : Nat), tiled P fs o cs.length = true → o ≤ cs.length := by
      intro fs
      induction fs with
      | nil => intro o ht; simp [tiled] at ht; omega
      | cons g fs ih =>
        intro o ht
        simp only [tiled, Bool.and_eq_true, beq_iff_eq] at ht
        have := ih _ ht.2; omega
    have hk := hlen fs _ ht
    obtain ⟨x, hx1, hx2⟩ := h f (by simp)
    obtain ⟨ys, hy1, hy2⟩ := fields_sh fs _ ht hk (fun g hg => h g (by simp [hg]))
    have hxl : x.length = P.cellsOf f.type := by rw [← hx1.1]; simp; omega
    refine ⟨x ++ ys, ?_, fun g hg => ?_⟩
    · have : cs.drop f.offset = (cs.drop f.offset).take (P.cellsOf f.type) ++ cs.drop (f.offset + P.cellsOf f.type) := by
        rw [← List.drop_drop, List.take_append_drop]
      rw [this]
      exact hx1.append hy1
    · rcases List.mem_cons.1 hg with rfl | hg
      · refine ⟨Nat.le_refl _, ?_⟩
        rw [Nat.sub_self, List.drop_zero, List.take_append_of_le_length (by omega), List.take_of_length_le (by omega)]
        exact hx2
      · obtain ⟨h1, h2⟩ := hy2 g hg
        refine ⟨by omega, ?_⟩
        have : (x ++ ys).drop (g.offset - f.offset) = ys.drop (g.offset - (f.offset + P.cellsOf f.type)) := by
          rw [List.drop_append, List.drop_of_length_le (by omega), List.nil_append]
          congr 1
          omega
        rw [this]
        exact h2

/-- The elements of a slice, one behind the other. -/
theorem elems_sh {n e : Nat} {b off len : Nat} (h : ∀ i, i < len → ∃ cs xs, cs.length = P.cellsOf e ∧ (∀ j, j < P.cellsOf e → w.cell? ⟨b, off + (i * P.cellsOf e + j), none⟩ = cs[j]?) ∧ Rds w m cs xs ∧ ShC P n e xs) :
    ∀ k, k ≤ len → ∃ xs : List V, xs.length = k * P.cellsOf e ∧ (∀ j (hj : j < xs.length), ∃ v, w.cell? ⟨b, off + j, none⟩ = some v ∧ RV w m [] (fun _ => False) false v xs[j]) ∧
      ∀ i, i < k → ShC P n e ((xs.drop (i * P.cellsOf e)).take (P.cellsOf e))
  | 0, _ => ⟨[], by simp, fun j hj => by simp at hj, fun i hi => by omega⟩
  | k + 1, hk => by
    obtain ⟨xs, h1, h2, h3⟩ := elems_sh h k (by omega)
    obtain ⟨cs, ys, g1, g2, g3, g4⟩ := h k (by omega)
    have hyl : ys.length = P.cellsOf e := by rw [← g3.1, g1]
    refine ⟨xs ++ ys, by simp [h1, hyl, Nat.add_mul], fun j hj => ?_, fun i hi => ?_⟩
    · by_cases hlt : j < xs.length
      · rw [List.getElem_append_left hlt]
        exact h2 j hlt
      · rw [List.getElem_append_right (by omega)]
        have hj' : j - xs.length < ys.length := by simp at hj; omega
        have hr := g3.2 _ hj'
        have hc := g2 (j - xs.length) (by omega)
        have e1 : off + (k * P.cellsOf e + (j - xs.length)) = off + j := by omega
        rw [e1] at hc
        have hcl : j - xs.length < cs.length := by omega
        rw [List.getElem?_eq_getElem hcl] at hc
        refine ⟨_, hc, ?_⟩
        simpa [List.getD_eq_getElem?_getD, hcl] using hr
    · by_cases e2 : i = k
      · subst e2
        rw [← h1, List.drop_left, List.take_of_length_le (by omega)]
        exact g4
      · have hm : i * P.cellsOf e + P.cellsOf e ≤ xs.length := mul_room (n := k) (by omega) h1
        rw [List.drop_append_of_le_length (by omega), List.take_append_of_le_length (by simp; omega)]
        exact h3 i (by omega)

theorem trod_sh {H : Type} {enc : TypeId × Value → H} {spare : Nat → Bool} {held : Bool} : ∀ (n : Nat) (fuel : Nat) (t : TypeId) (cs : List Value) (x : DataW H × List MemPlace),
    DataW.trod enc P w 0 spare held fuel t cs = some x → plainT P n t = true → ∃ xs, Rds w m cs xs ∧ ShC P n t xs
  | 0, fuel, t, cs, x, _, hp => by simp [plainT] at hp
  | n + 1, fuel, t, cs, x, hx, hp => by
    unfold plainT at hp
    split at hp
    · rename_i hu
      obtain ⟨b, rfl, _⟩ := DataW.trod_bool hu hx
      exact ⟨[.bool b], Rds.one (.bool b), by unfold ShC; rw [hu]; exact ⟨b, rfl⟩⟩
    · rename_i k hu
      obtain ⟨z, rfl, _, hw⟩ := DataW.trod_int hu hx
      exact ⟨[.int k z], Rds.one (.int k z), by unfold ShC; rw [hu]; exact ⟨z, rfl, hw⟩⟩
    · rename_i hu
      obtain ⟨s, rfl, _, hs⟩ := DataW.trod_string hu hx
      exact ⟨[.str s], Rds.one (.str s), by unfold ShC; rw [hu]; exact ⟨s, rfl, hs⟩⟩
    · rename_i e hu
      simp only [Bool.and_eq_true, decide_eq_true_eq] at hp
      obtain ⟨hpos, hp⟩ := hp
      rcases Deep.open_slice hu hx with ⟨rfl, _⟩ | ⟨a, len, cap, mm, f, D, Pl, rfl, _, hle, hcap, hmm, _, hel⟩
      · refine ⟨[.sl 0 (P.cellsOf e) []], Rds.one (.slz _ _ _), ?_⟩
        unfold ShC; rw [hu]
        exact ⟨0, [], rfl, Nat.zero_le _, by simp, fun i hi => by omega⟩
      · by_cases h0 : len = 0
        · subst h0
          refine ⟨[.sl 0 (P.cellsOf e) []], Rds.one (.slz _ _ _), ?_⟩
          unfold ShC; rw [hu]
          exact ⟨0, [], rfl, Nat.zero_le _, by simp, fun i hi => by omega⟩
        · have hml : len ≤ mm := by rw [hmm]; split <;> omega
          obtain ⟨b, off, spot⟩ := a
          have hspot : spot = none := by
            obtain ⟨cs', hc, _⟩ := hel 0 (by omega)
            obtain ⟨_, hcl, hat⟩ := World.cells?_some hc
            have h1 := hat 0 hpos
            rw [List.getElem?_eq_getElem (by omega)] at h1
            simpa [Addr.add] using World.cell?_spot h1
          subst hspot
          have hall : ∀ i, i < len → ∃ cs xs, cs.length = P.cellsOf e ∧ (∀ j, j < P.cellsOf e → w.cell? ⟨b, off + (i * P.cellsOf e + j), none⟩ = cs[j]?) ∧ Rds w m cs xs ∧ ShC P n e xs := by
            intro i hi
            obtain ⟨cs', hc, ht⟩ := hel i (by omega)
            obtain ⟨_, hcl, hat⟩ := World.cells?_some hc
            obtain ⟨xs, h1, h2⟩ := trod_sh n _ e cs' _ ht hp
            refine ⟨cs', xs, hcl, fun j hj => ?_, h1, h2⟩
            have := hat j hj
            rw [Addr.add_lit, Addr.add_lit] at this
            rw [← this, Nat.add_assoc]
          obtain ⟨xs, h1, h2, h3⟩ := elems_sh hall len (Nat.le_refl _)
          refine ⟨[.sl len (P.cellsOf e) xs], Rds.one (.sl b off len cap (P.cellsOf e) xs (fun j => (w.cell? ⟨b, off + j, none⟩).getD Go.undef) h1 (fun _ h => h) hle (fun j hj => ?_) (fun j hj => ?_)), ?_⟩
          · obtain ⟨v, hv, _⟩ := h2 j hj
            simp [hv]
          · obtain ⟨v, hv, hr⟩ := h2 j hj
            simpa [hv] using hr
          · unfold ShC; rw [hu]
            exact ⟨len, xs, rfl, by omega, h1, h3⟩
    · rename_i fs hu
      simp only [Bool.and_eq_true, List.all_eq_true] at hp
      obtain ⟨xs, f, _, _, hl, hxl, hf⟩ := DataW.trod_struct hu hx
      have hfs : ∀ g ∈ fs.toList, ∃ ys, Rds w m ((cs.drop g.offset).take (P.cellsOf g.type)) ys ∧ ShC P n g.type ys := by
        intro g hg
        obtain ⟨i, hi, rfl⟩ := List.getElem_of_mem hg
        have hi' : i < fs.size := by simpa using hi
        have h1 := hf i fs[i] (Array.getElem?_eq_getElem hi')
        rw [List.getElem?_eq_getElem (by omega)] at h1
        exact trod_sh n _ _ _ _ (by simpa using h1) (hp.2 _ hg)
      obtain ⟨ys, h1, h2⟩ := fields_sh fs.toList 0 (by rw [hl]; exact hp.1) (Nat.zero_le _) hfs
      rw [List.drop_zero] at h1
      refine ⟨ys, h1, ?_⟩
      unfold ShC; rw [hu]
      exact ⟨by rw [← h1.1, hl], fun g hg => by simpa using (h2 g hg).2⟩
    · cases hp

end
section
variable {P : Program} {W : World}

theorem Rds.get {m : Nat → Nat} {a : List Value} {x : List V} (h : Rds W m a x) : a.length = x.length := h.1

/-- A value of one cell. -/
theorem arg_one {H : Type} {enc : TypeId × Value → H} {spare : Nat → Bool} {held : Bool} {n : Nat} {t : TypeId} {v : Value} {d : DataW H} {p : List MemPlace} (m : Nat → Nat)
    (hv : v.cells = #[v]) (h : DataW.Trod enc P W 0 spare held t v d p) (hp : plainT P n t = true) : ∃ x, RV W m [] (fun _ => False) true v x ∧ ShC P n t [x] := by
  obtain ⟨fuel, hf⟩ := h
  rw [hv] at hf
  obtain ⟨xs, h1, h2⟩ := trod_sh (m := m) n fuel t _ _ hf hp
  match xs, h1 with
  | [x], h1 => exact ⟨x, by have := h1.2 0 (by simp); exact this.weak, h2⟩
  | [], h1 => simp [Rds] at h1
  | _ :: _ :: _, h1 => simp [Rds] at h1

/-- A law's walk out of its contract. -/
theorem law_walk {f : FuncId} {xs : List V} {vs : Array Value} (m : Nat → Nat) (hc : Ctr P f xs [] (.bool true) []) (hgl : GL W (fun _ => False)) (hsz : vs.size = xs.length)
    (hr : ∀ i (hi : i < xs.length), RV W m [] (fun _ => False) true (vs.getD i Go.undef) xs[i]) :
    Calls P f vs W fun e w' => e = .returned (.bool true) ∧ RowKit.Below W.heap.size W w' := by
  refine (hc.2 W vs m (fun _ => False) ⟨fun i j ci cj h => by simp at h, fun id cs h => by simp at h, fun id cs h => by simp at h⟩ (fun b h => h.elim) hgl hsz hr).mono ?_
  rintro e w' ⟨v, m', rfl, hE, _, hv, _⟩
  refine ⟨by cases hv; rfl, hE.os, hE.tape, hE.output, hE.size, fun k hk => hE.block k hk (fun ⟨id, cs, h, _⟩ => by simp at h)⟩

end
end Go.Lv
end
section
set_option linter.unusedSimpArgs false
set_option linter.unusedVariables false
namespace Go.Lv

theorem shC_u8 {P : Program} {t : TypeId} {n : Nat} {xs : List V} (hs : P.underlying t = some (.int .u8)) (h : ShC P (n + 1) t xs) : ∃ z, xs = [.int .u8 z] ∧ 0 ≤ z ∧ z ≤ 255 := by
  simp only [ShC, hs] at h
  obtain ⟨z, h1, h2⟩ := h
  refine ⟨z, h1, ?_⟩
  simp [Lit.wf, IntKind.min, IntKind.max, IntKind.signed, IntKind.bits] at h2
  exact h2

theorem shC_list {P : Program} {t e : TypeId} {n : Nat} {xs : List V} (hs : P.underlying t = some (.slice e)) {α : Type} {cs : α → List V} {w : Nat} (hw : P.cellsOf e = w) {ok : α → Prop}
    (he : ∀ ys, ShC P n e ys → ∃ a, ys = cs a ∧ ok a) (h : ShC P (n + 1) t xs) : ∃ L : List α, xs = [.sl L.length w (rows cs L)] ∧ lstR ok L := by
  simp only [ShC, hs, hw] at h
  obtain ⟨l, ys, rfl, hl, hlen, hel⟩ := h
  suffices ∀ (l : Nat) (ys : List V), ys.length = l * w → (∀ i, i < l → ShC P n e ((ys.drop (i * w)).take w)) → ∃ L : List α, L.length = l ∧ rows cs L = ys ∧ ∀ x ∈ L, ok x by
    obtain ⟨L, h1, h2, h3⟩ := this l ys hlen hel
    exact ⟨L, by rw [h1, h2], by rw [h1]; exact hl, h3⟩
  intro l
  induction l with
  | zero => intro ys h1 _; exact ⟨[], rfl, by simp at h1; simp [rows, h1], fun x hx => by simp at hx⟩
  | succ l ih =>
    intro ys h1 h2
    obtain ⟨a, ha, hoa⟩ := he _ (h2 0 (by omega))
    rw [Nat.zero_mul, List.drop_zero] at ha
    obtain ⟨L, h3, h4, h5⟩ := ih (ys.drop w) (by rw [List.length_drop, h1, Nat.succ_mul]; omega) (fun i hi => by
      have := h2 (i + 1) (by omega)
      rw [List.drop_drop]
      rwa [Nat.succ_mul, Nat.add_comm] at this)
    refine ⟨a :: L, by simp [h3], ?_, ?_⟩
    · rw [rows_cons, h4, ← ha, List.take_append_drop]
    · intro x hx
      rcases List.mem_cons.1 hx with rfl | hx
      · exact hoa
      · exact h5 x hx

end Go.Lv
end
