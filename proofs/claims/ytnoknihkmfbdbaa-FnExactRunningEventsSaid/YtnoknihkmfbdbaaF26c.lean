/-
  Week rows: missing weeks. Conditions: none.
-/
import Derived.Test.YtnoknihkmfbdbaaF26b
import Derived.Test.YtnoknihkmfbdbaaTIntS
set_option linter.unusedSimpArgs false
set_option linter.unusedVariables false
set_option maxRecDepth 100000
namespace Go.Proofs
open Go.Lv
def iota (a : Int) (n : Nat) : List Int := (List.range n).map fun i : Nat => a + (i : Int)
theorem iota_len (a : Int) (n : Nat) : (iota a n).length = n := by simp [iota]
theorem iota_succ (a : Int) (n : Nat) : iota a (n + 1) = iota a n ++ [a + (n : Int)] := by simp [iota, List.range_succ]
def gapAt (L : List WeekRow) (j : Nat) : List Int := match L[j]?, L[j + 1]? with
  | some a, some b => iota (a.Week + 1) (b.Week - (a.Week + 1)).toNat
  | _, _ => []
def missTo (L : List WeekRow) (n : Nat) : List Int := (List.range n).flatMap (gapAt L)
theorem missTo_succ (L : List WeekRow) (n : Nat) : missTo L (n + 1) = missTo L n ++ gapAt L n := by simp [missTo, List.range_succ]
theorem gapAt_eq {L : List WeekRow} {n : Nat} (h : n + 1 < L.length) : gapAt L n = iota (L[n].Week + 1) (L[n + 1].Week - (L[n].Week + 1)).toNat := by
  have : n < L.length := by omega
  simp [gapAt, this, h]
theorem missTo_len {L : List WeekRow} (hv : ∀ x ∈ L, wrB x = true) : ∀ n, (missTo L n).length ≤ n * 5000
  | 0 => by simp [missTo]
  | n + 1 => by
    have ih := missTo_len hv n
    rw [missTo_succ, List.length_append]
    have : (gapAt L n).length ≤ 5000 := by
      unfold gapAt
      split
      · rename_i a b h1 h2
        have ha := wrB_iff.1 (hv a (List.mem_of_getElem? h1))
        have hb := wrB_iff.1 (hv b (List.mem_of_getElem? h2))
        rw [iota_len]; omega
      · simp
    omega
/-- The weeks without a row; the list may be too long. -/
def missR (L : List WeekRow) : Option (List Int) := if wrsB L = true ∧ (missTo L (L.length - 1)).length ≤ 100 then some (missTo L (L.length - 1)) else none
theorem sMissingWeeks_ok (L : List WeekRow) (hl : L.length ≤ 281474976710656) : Ctr Try.prog 32 [WeekRow.sl L] [] (optO 1 (missR L)) (optOh IntS.cs (missR L)) := by
  refine Ctr.intro Try.mixed Try.func32 rfl Try.okF32 ?_
  simp -implicitDefEqProofs -dsimp only [go_sem, Nat.reduceSub, Nat.reduceAdd, Nat.reduceMul, Nat.reduceLT, Nat.reduceLeDiff, Nat.reduceEqDiff, Nat.reduceDiv, Nat.reduceMod, Int.reduceToNat, Int.reduceLE, Int.reduceLT, Nat.le_refl, Int.toNat_natCast, beq_self_eq_true, bne_self_eq_false, Int.reduceBEq, Int.reduceBNe, Int.reduceNeg, Int.reduceAdd, Int.reduceSub, Int.reduceMul, decide_true, decide_false, eq_self, ne_eq, Option.some.injEq, reduceCtorEq, not_false_eq_true, Option.map_some, map_ren_rows, Try.ntmps32, Try.results32]
  (first | refine callT.intro (l26Good_ok L hl) ⟨.inl rfl, trivial⟩ (.inl rfl) ?_ | refine callS.intro (l26Good_ok L hl) ⟨.inl rfl, trivial⟩ (.inl rfl) ?_)
  simp -implicitDefEqProofs -dsimp only [go_sem, Nat.reduceSub, Nat.reduceAdd, Nat.reduceMul, Nat.reduceLT, Nat.reduceLeDiff, Nat.reduceEqDiff, Nat.reduceDiv, Nat.reduceMod, Int.reduceToNat, Int.reduceLE, Int.reduceLT, Nat.le_refl, Int.toNat_natCast, beq_self_eq_true, bne_self_eq_false, Int.reduceBEq, Int.reduceBNe, Int.reduceNeg, Int.reduceAdd, Int.reduceSub, Int.reduceMul, decide_true, decide_false, eq_self, ne_eq, Option.some.injEq, reduceCtorEq, not_false_eq_true, Option.map_some, map_ren_rows]
  refine condT.split (fun h1 => ?_) (fun h1 => ?_) <;> simp -implicitDefEqProofs -dsimp only [go_sem, Nat.reduceSub, Nat.reduceAdd, Nat.reduceMul, Nat.reduceLT, Nat.reduceLeDiff, Nat.reduceEqDiff, Nat.reduceDiv, Nat.reduceMod, Int.reduceToNat, Int.reduceLE, Int.reduceLT, Nat.le_refl, Int.toNat_natCast, beq_self_eq_true, bne_self_eq_false, Int.reduceBEq, Int.reduceBNe, Int.reduceNeg, Int.reduceAdd, Int.reduceSub, Int.reduceMul, decide_true, decide_false, eq_self, ne_eq, Option.some.injEq, reduceCtorEq, not_false_eq_true, Option.map_some, map_ren_rows, h1]
  · have hn : missR L = none := by rw [missR, if_neg]; simp at h1; simp [h1]
    rw [hn]
    exact WeakR.refl _ _ _
  have h1' : wrsB L = true := by simpa using h1
  obtain ⟨hv, hlen⟩ := wrsB_all h1'
  refine LoopT.intro (fun n : Nat => n = 0 ∨ n + 1 ≤ L.length) (fun n => ⟨[WeekRow.sl L, .undef, .undef, .undef, .osl 0 0 (missTo L n).length 1, .int .i64 ((n : Int) + 1), .undef, .undef, .undef, .undef, .undef, .undef, .undef, .undef, .undef, .undef, .undef, .undef, .undef, .undef, .undef, .undef, .undef, .undef, .undef, .undef, .undef, .undef, .undef, .undef, .undef, .undef, .undef, .undef, .undef, .undef, .undef, .undef, .undef, .undef, .undef, .undef, .undef], [some (rows IntS.cs (missTo L n))], 0⟩) (fun n => L.length - n) 0 (.inl rfl) ?_ (fun n hi => ?_)
  · refine Weak.cut (1) (by simp) (by simp) ?_ ?_
    · simp [LeC, LeV, ren, cutF, missTo]
    · simp [cutH, cutB, missTo, rows]
  simp -implicitDefEqProofs -dsimp only [go_sem, Nat.reduceSub, Nat.reduceAdd, Nat.reduceMul, Nat.reduceLT, Nat.reduceLeDiff, Nat.reduceEqDiff, Nat.reduceDiv, Nat.reduceMod, Int.reduceToNat, Int.reduceLE, Int.reduceLT, Nat.le_refl, Int.toNat_natCast, beq_self_eq_true, bne_self_eq_false, Int.reduceBEq, Int.reduceBNe, Int.reduceNeg, Int.reduceAdd, Int.reduceSub, Int.reduceMul, decide_true, decide_false, eq_self, ne_eq, Option.some.injEq, reduceCtorEq, not_false_eq_true, Option.map_some, map_ren_rows]
  refine condT.split (fun h2 => ?_) (fun h2 => ?_)
  · simp -implicitDefEqProofs -dsimp only [go_sem, Nat.reduceSub, Nat.reduceAdd, Nat.reduceMul, Nat.reduceLT, Nat.reduceLeDiff, Nat.reduceEqDiff, Nat.reduceDiv, Nat.reduceMod, Int.reduceToNat, Int.reduceLE, Int.reduceLT, Nat.le_refl, Int.toNat_natCast, beq_self_eq_true, bne_self_eq_false, Int.reduceBEq, Int.reduceBNe, Int.reduceNeg, Int.reduceAdd, Int.reduceSub, Int.reduceMul, decide_true, decide_false, eq_self, ne_eq, Option.some.injEq, reduceCtorEq, not_false_eq_true, Option.map_some, map_ren_rows, h2]
    have hi' : n + 1 < L.length := by simp at h2; omega
    have hn : n < L.length := by omega
    have hr := rows_at WeekRow.csl hi'
    have hr0 := rows_at WeekRow.csl hn
    have hw1 : IntKind.i64.wrap ((n : Int) + 1 - 1) = (n : Int) := by rw [wrap_i64 (by omega) (by omega)]; omega
    have hva := wrB_iff.1 (hv _ (List.getElem_mem hn))
    have hvb := wrB_iff.1 (hv _ (List.getElem_mem hi'))
    have hml := missTo_len hv n
    simp -implicitDefEqProofs -dsimp (disch := omega) only [wrap_i64, go_sem, Nat.reduceSub, Nat.reduceAdd, Nat.reduceMul, Nat.reduceLT, Nat.reduceLeDiff, Nat.reduceEqDiff, Nat.reduceDiv, Nat.reduceMod, Int.reduceToNat, Int.reduceLE, Int.reduceLT, Nat.le_refl, Int.toNat_natCast, beq_self_eq_true, bne_self_eq_false, Int.reduceBEq, Int.reduceBNe, Int.reduceNeg, Int.reduceAdd, Int.reduceSub, Int.reduceMul, decide_true, decide_false, eq_self, ne_eq, Option.some.injEq, reduceCtorEq, not_false_eq_true, Option.map_some, map_ren_rows, hw1, hr0, WeekRow.cs]
    repeat (with_reducible refine And.intro ?_ ?_; focus (first | omega | with_reducible rfl | kernel_rfl))
    refine LoopT.intro (fun k : Nat => k ≤ (L[n + 1].Week - (L[n].Week + 1)).toNat) (fun k => ⟨[WeekRow.sl L, .undef, .undef, .undef, .osl 0 0 (missTo L n ++ iota (L[n].Week + 1) k).length 1, .int .i64 ((n : Int) + 1), .int .i64 (L[n].Week + 1 + (k : Int)), .undef, .undef, .undef, .undef, .undef, .undef, .undef, .undef, .undef, .undef, .undef, .undef, .undef, .undef, .undef, .undef, .undef, .undef, .undef, .undef, .undef, .undef, .undef, .undef, .undef, .undef, .undef, .undef, .undef, .undef, .undef, .undef, .undef, .undef, .undef, .undef], [some (rows IntS.cs (missTo L n ++ iota (L[n].Week + 1) k))], 0⟩) (fun k => (L[n + 1].Week - (L[n].Week + 1)).toNat - k) 0 (Nat.zero_le _) ?_ (fun k hk => ?_)
    · refine Weak.cut (1) (by simp) (by simp) ?_ ?_
      · simp [LeC, LeV, ren, cutF, iota]
      · simp [cutH, cutB, iota, map_ren_rows]
    have hc : ((n : Int) + 1).toNat = n + 1 := by omega
    simp -implicitDefEqProofs -dsimp only [go_sem, Nat.reduceSub, Nat.reduceAdd, Nat.reduceMul, Nat.reduceLT, Nat.reduceLeDiff, Nat.reduceEqDiff, Nat.reduceDiv, Nat.reduceMod, Int.reduceToNat, Int.reduceLE, Int.reduceLT, Nat.le_refl, Int.toNat_natCast, beq_self_eq_true, bne_self_eq_false, Int.reduceBEq, Int.reduceBNe, Int.reduceNeg, Int.reduceAdd, Int.reduceSub, Int.reduceMul, decide_true, decide_false, eq_self, ne_eq, Option.some.injEq, reduceCtorEq, not_false_eq_true, Option.map_some, map_ren_rows, hc, hr, WeekRow.cs]
    repeat (with_reducible refine And.intro ?_ ?_; focus (first | omega | with_reducible rfl | kernel_rfl))
    refine condT.split (fun h3 => ?_) (fun h3 => ?_)
    · simp -implicitDefEqProofs -dsimp only [go_sem, Nat.reduceSub, Nat.reduceAdd, Nat.reduceMul, Nat.reduceLT, Nat.reduceLeDiff, Nat.reduceEqDiff, Nat.reduceDiv, Nat.reduceMod, Int.reduceToNat, Int.reduceLE, Int.reduceLT, Nat.le_refl, Int.toNat_natCast, beq_self_eq_true, bne_self_eq_false, Int.reduceBEq, Int.reduceBNe, Int.reduceNeg, Int.reduceAdd, Int.reduceSub, Int.reduceMul, decide_true, decide_false, eq_self, ne_eq, Option.some.injEq, reduceCtorEq, not_false_eq_true, Option.map_some, map_ren_rows, h3]
      have hk' : k < (L[n + 1].Week - (L[n].Week + 1)).toNat := by simp at h3; omega
      have hlk := iota_len (L[n].Week + 1) k
      simp -implicitDefEqProofs -dsimp (disch := omega) only [wrap_i64, go_sem, Nat.reduceSub, Nat.reduceAdd, Nat.reduceMul, Nat.reduceLT, Nat.reduceLeDiff, Nat.reduceEqDiff, Nat.reduceDiv, Nat.reduceMod, Int.reduceToNat, Int.reduceLE, Int.reduceLT, Nat.le_refl, Int.toNat_natCast, beq_self_eq_true, bne_self_eq_false, Int.reduceBEq, Int.reduceBNe, Int.reduceNeg, Int.reduceAdd, Int.reduceSub, Int.reduceMul, decide_true, decide_false, eq_self, ne_eq, Option.some.injEq, reduceCtorEq, not_false_eq_true, Option.map_some, map_ren_rows, rows_length, List.length_append, Nat.mul_one, rows_cell]
      repeat (with_reducible refine And.intro ?_ ?_; focus (first | omega | with_reducible rfl | kernel_rfl))

      refine ⟨k + 1, hk', ?_, by omega⟩
      refine Weak.cut (1) (by simp) (by simp) ?_ ?_
      · simp [LeC, LeV, ren, cutF, iota_succ]
        omega
      · rw [iota_succ, ← List.append_assoc, ← rows_snoc]
        simp [cutH, cutB, map_ren_rows, killC, ren, IntS.cs]
    · simp -implicitDefEqProofs -dsimp only [go_sem, Nat.reduceSub, Nat.reduceAdd, Nat.reduceMul, Nat.reduceLT, Nat.reduceLeDiff, Nat.reduceEqDiff, Nat.reduceDiv, Nat.reduceMod, Int.reduceToNat, Int.reduceLE, Int.reduceLT, Nat.le_refl, Int.toNat_natCast, beq_self_eq_true, bne_self_eq_false, Int.reduceBEq, Int.reduceBNe, Int.reduceNeg, Int.reduceAdd, Int.reduceSub, Int.reduceMul, decide_true, decide_false, eq_self, ne_eq, Option.some.injEq, reduceCtorEq, not_false_eq_true, Option.map_some, map_ren_rows, h3]
      have hk' : k = (L[n + 1].Week - (L[n].Week + 1)).toNat := by simp at h3; omega
      have e : missTo L (n + 1) = missTo L n ++ iota (L[n].Week + 1) k := by rw [missTo_succ, gapAt_eq hi', hk']
      rw [wrap_i64 (by omega) (by omega)]
      refine ⟨n + 1, .inr (by omega), ?_, by omega⟩
      refine Weak.cut (1) (by simp) (by simp) ?_ ?_
      · rw [e]
        simp [LeC, LeV, ren, cutF]
      · rw [e]
        simp [cutH, cutB, map_ren_rows]
  · simp -implicitDefEqProofs -dsimp only [go_sem, Nat.reduceSub, Nat.reduceAdd, Nat.reduceMul, Nat.reduceLT, Nat.reduceLeDiff, Nat.reduceEqDiff, Nat.reduceDiv, Nat.reduceMod, Int.reduceToNat, Int.reduceLE, Int.reduceLT, Nat.le_refl, Int.toNat_natCast, beq_self_eq_true, bne_self_eq_false, Int.reduceBEq, Int.reduceBNe, Int.reduceNeg, Int.reduceAdd, Int.reduceSub, Int.reduceMul, decide_true, decide_false, eq_self, ne_eq, Option.some.injEq, reduceCtorEq, not_false_eq_true, Option.map_some, map_ren_rows, h2]
    have hn : missTo L (L.length - 1) = missTo L n := by
      simp at h2
      rcases hi with rfl | hi
      · have : L.length - 1 = 0 := by omega
        rw [this]
      · congr 1; omega
    refine condT.split (fun h3 => ?_) (fun h3 => ?_) <;> simp -implicitDefEqProofs -dsimp only [go_sem, Nat.reduceSub, Nat.reduceAdd, Nat.reduceMul, Nat.reduceLT, Nat.reduceLeDiff, Nat.reduceEqDiff, Nat.reduceDiv, Nat.reduceMod, Int.reduceToNat, Int.reduceLE, Int.reduceLT, Nat.le_refl, Int.toNat_natCast, beq_self_eq_true, bne_self_eq_false, Int.reduceBEq, Int.reduceBNe, Int.reduceNeg, Int.reduceAdd, Int.reduceSub, Int.reduceMul, decide_true, decide_false, eq_self, ne_eq, Option.some.injEq, reduceCtorEq, not_false_eq_true, Option.map_some, map_ren_rows, h3]
    · have hR : missR L = none := by
        rw [missR, if_neg]
        rw [hn]
        simp at h3
        omega
      rw [hR]
      exact WeakR.pick [1] (by decide) (fun j hj => by omega) (.inl rfl) rfl
    · have hR : missR L = some (missTo L n) := by
        rw [missR, if_pos, hn]
        rw [hn]
        simp at h3
        exact ⟨h1', by omega⟩
      rw [hR]
      exact WeakR.refl _ _ _
theorem iMissingWeeks_ok (L : List WeekRow) (hl : L.length ≤ 281474976710656) : Ctr Try.prog 33 [WeekRow.sl L] [] (optN 1 (missR L)) (optNh IntS.cs (missR L)) := by
  refine Ctr.intro Try.mixed Try.func33 rfl Try.okF33 ?_
  simp -implicitDefEqProofs -dsimp only [go_sem, Nat.reduceSub, Nat.reduceAdd, Nat.reduceMul, Nat.reduceLT, Nat.reduceLeDiff, Nat.reduceEqDiff, Nat.reduceDiv, Nat.reduceMod, Int.reduceToNat, Int.reduceLE, Int.reduceLT, Nat.le_refl, Int.toNat_natCast, beq_self_eq_true, bne_self_eq_false, Int.reduceBEq, Int.reduceBNe, Int.reduceNeg, Int.reduceAdd, Int.reduceSub, Int.reduceMul, decide_true, decide_false, eq_self, ne_eq, Option.some.injEq, reduceCtorEq, not_false_eq_true, Option.map_some, map_ren_rows, Try.ntmps33, Try.results33]
  (first | refine callT.intro (iAreWeekRows_ok L hl) ⟨.inl rfl, trivial⟩ (.inl rfl) ?_ | refine callS.intro (iAreWeekRows_ok L hl) ⟨.inl rfl, trivial⟩ (.inl rfl) ?_)
  simp -implicitDefEqProofs -dsimp only [go_sem, Nat.reduceSub, Nat.reduceAdd, Nat.reduceMul, Nat.reduceLT, Nat.reduceLeDiff, Nat.reduceEqDiff, Nat.reduceDiv, Nat.reduceMod, Int.reduceToNat, Int.reduceLE, Int.reduceLT, Nat.le_refl, Int.toNat_natCast, beq_self_eq_true, bne_self_eq_false, Int.reduceBEq, Int.reduceBNe, Int.reduceNeg, Int.reduceAdd, Int.reduceSub, Int.reduceMul, decide_true, decide_false, eq_self, ne_eq, Option.some.injEq, reduceCtorEq, not_false_eq_true, Option.map_some, map_ren_rows]
  refine condT.split (fun h1 => ?_) (fun h1 => ?_) <;> simp -implicitDefEqProofs -dsimp only [go_sem, Nat.reduceSub, Nat.reduceAdd, Nat.reduceMul, Nat.reduceLT, Nat.reduceLeDiff, Nat.reduceEqDiff, Nat.reduceDiv, Nat.reduceMod, Int.reduceToNat, Int.reduceLE, Int.reduceLT, Nat.le_refl, Int.toNat_natCast, beq_self_eq_true, bne_self_eq_false, Int.reduceBEq, Int.reduceBNe, Int.reduceNeg, Int.reduceAdd, Int.reduceSub, Int.reduceMul, decide_true, decide_false, eq_self, ne_eq, Option.some.injEq, reduceCtorEq, not_false_eq_true, Option.map_some, map_ren_rows, h1]
  · have hn : missR L = none := by rw [missR, if_neg]; simp at h1; simp [h1]
    rw [hn]
    exact WeakR.refl _ _ _
  have h1' : wrsB L = true := by simpa using h1
  obtain ⟨hv, hlen⟩ := wrsB_all h1'
  refine LoopT.intro (fun n : Nat => n = 0 ∨ n + 1 ≤ L.length) (fun n => ⟨[WeekRow.sl L, .undef, .undef, .undef, .osl 0 0 (missTo L n).length 1, .int .i64 ((n : Int) + 1), .undef, .undef, .undef, .undef, .undef, .undef, .undef, .undef, .undef, .undef, .undef, .undef, .undef, .undef, .undef, .undef, .undef, .undef, .undef, .undef, .undef, .undef, .undef, .undef, .undef, .undef, .undef, .undef, .undef, .undef, .undef, .undef, .undef, .undef, .undef], [some (rows IntS.cs (missTo L n))], 0⟩) (fun n => L.length - n) 0 (.inl rfl) ?_ (fun n hi => ?_)
  · refine Weak.cut (1) (by simp) (by simp) ?_ ?_
    · simp [LeC, LeV, ren, cutF, missTo]
    · simp [cutH, cutB, missTo, rows]
  simp -implicitDefEqProofs -dsimp only [go_sem, Nat.reduceSub, Nat.reduceAdd, Nat.reduceMul, Nat.reduceLT, Nat.reduceLeDiff, Nat.reduceEqDiff, Nat.reduceDiv, Nat.reduceMod, Int.reduceToNat, Int.reduceLE, Int.reduceLT, Nat.le_refl, Int.toNat_natCast, beq_self_eq_true, bne_self_eq_false, Int.reduceBEq, Int.reduceBNe, Int.reduceNeg, Int.reduceAdd, Int.reduceSub, Int.reduceMul, decide_true, decide_false, eq_self, ne_eq, Option.some.injEq, reduceCtorEq, not_false_eq_true, Option.map_some, map_ren_rows]
  refine condT.split (fun h2 => ?_) (fun h2 => ?_)
  · simp -implicitDefEqProofs -dsimp only [go_sem, Nat.reduceSub, Nat.reduceAdd, Nat.reduceMul, Nat.reduceLT, Nat.reduceLeDiff, Nat.reduceEqDiff, Nat.reduceDiv, Nat.reduceMod, Int.reduceToNat, Int.reduceLE, Int.reduceLT, Nat.le_refl, Int.toNat_natCast, beq_self_eq_true, bne_self_eq_false, Int.reduceBEq, Int.reduceBNe, Int.reduceNeg, Int.reduceAdd, Int.reduceSub, Int.reduceMul, decide_true, decide_false, eq_self, ne_eq, Option.some.injEq, reduceCtorEq, not_false_eq_true, Option.map_some, map_ren_rows, h2]
    have hi' : n + 1 < L.length := by simp at h2; omega
    have hn : n < L.length := by omega
    have hr := rows_at WeekRow.csl hi'
    have hr0 := rows_at WeekRow.csl hn
    have hw1 : IntKind.i64.wrap ((n : Int) + 1 - 1) = (n : Int) := by rw [wrap_i64 (by omega) (by omega)]; omega
    have hva := wrB_iff.1 (hv _ (List.getElem_mem hn))
    have hvb := wrB_iff.1 (hv _ (List.getElem_mem hi'))
    have hml := missTo_len hv n
    simp -implicitDefEqProofs -dsimp (disch := omega) only [wrap_i64, go_sem, Nat.reduceSub, Nat.reduceAdd, Nat.reduceMul, Nat.reduceLT, Nat.reduceLeDiff, Nat.reduceEqDiff, Nat.reduceDiv, Nat.reduceMod, Int.reduceToNat, Int.reduceLE, Int.reduceLT, Nat.le_refl, Int.toNat_natCast, beq_self_eq_true, bne_self_eq_false, Int.reduceBEq, Int.reduceBNe, Int.reduceNeg, Int.reduceAdd, Int.reduceSub, Int.reduceMul, decide_true, decide_false, eq_self, ne_eq, Option.some.injEq, reduceCtorEq, not_false_eq_true, Option.map_some, map_ren_rows, hw1, hr0, WeekRow.cs]
    repeat (with_reducible refine And.intro ?_ ?_; focus (first | omega | with_reducible rfl | kernel_rfl))
    refine LoopT.intro (fun k : Nat => k ≤ (L[n + 1].Week - (L[n].Week + 1)).toNat) (fun k => ⟨[WeekRow.sl L, .undef, .undef, .undef, .osl 0 0 (missTo L n ++ iota (L[n].Week + 1) k).length 1, .int .i64 ((n : Int) + 1), .int .i64 (L[n].Week + 1 + (k : Int)), .undef, .undef, .undef, .undef, .undef, .undef, .undef, .undef, .undef, .undef, .undef, .undef, .undef, .undef, .undef, .undef, .undef, .undef, .undef, .undef, .undef, .undef, .undef, .undef, .undef, .undef, .undef, .undef, .undef, .undef, .undef, .undef, .undef, .undef], [some (rows IntS.cs (missTo L n ++ iota (L[n].Week + 1) k))], 0⟩) (fun k => (L[n + 1].Week - (L[n].Week + 1)).toNat - k) 0 (Nat.zero_le _) ?_ (fun k hk => ?_)
    · refine Weak.cut (1) (by simp) (by simp) ?_ ?_
      · simp [LeC, LeV, ren, cutF, iota]
      · simp [cutH, cutB, iota, map_ren_rows]
    have hc : ((n : Int) + 1).toNat = n + 1 := by omega
    simp -implicitDefEqProofs -dsimp only [go_sem, Nat.reduceSub, Nat.reduceAdd, Nat.reduceMul, Nat.reduceLT, Nat.reduceLeDiff, Nat.reduceEqDiff, Nat.reduceDiv, Nat.reduceMod, Int.reduceToNat, Int.reduceLE, Int.reduceLT, Nat.le_refl, Int.toNat_natCast, beq_self_eq_true, bne_self_eq_false, Int.reduceBEq, Int.reduceBNe, Int.reduceNeg, Int.reduceAdd, Int.reduceSub, Int.reduceMul, decide_true, decide_false, eq_self, ne_eq, Option.some.injEq, reduceCtorEq, not_false_eq_true, Option.map_some, map_ren_rows, hc, hr, WeekRow.cs]
    repeat (with_reducible refine And.intro ?_ ?_; focus (first | omega | with_reducible rfl | kernel_rfl))
    refine condT.split (fun h3 => ?_) (fun h3 => ?_)
    · simp -implicitDefEqProofs -dsimp only [go_sem, Nat.reduceSub, Nat.reduceAdd, Nat.reduceMul, Nat.reduceLT, Nat.reduceLeDiff, Nat.reduceEqDiff, Nat.reduceDiv, Nat.reduceMod, Int.reduceToNat, Int.reduceLE, Int.reduceLT, Nat.le_refl, Int.toNat_natCast, beq_self_eq_true, bne_self_eq_false, Int.reduceBEq, Int.reduceBNe, Int.reduceNeg, Int.reduceAdd, Int.reduceSub, Int.reduceMul, decide_true, decide_false, eq_self, ne_eq, Option.some.injEq, reduceCtorEq, not_false_eq_true, Option.map_some, map_ren_rows, h3]
      have hk' : k < (L[n + 1].Week - (L[n].Week + 1)).toNat := by simp at h3; omega
      have hlk := iota_len (L[n].Week + 1) k
      simp -implicitDefEqProofs -dsimp (disch := omega) only [wrap_i64, go_sem, Nat.reduceSub, Nat.reduceAdd, Nat.reduceMul, Nat.reduceLT, Nat.reduceLeDiff, Nat.reduceEqDiff, Nat.reduceDiv, Nat.reduceMod, Int.reduceToNat, Int.reduceLE, Int.reduceLT, Nat.le_refl, Int.toNat_natCast, beq_self_eq_true, bne_self_eq_false, Int.reduceBEq, Int.reduceBNe, Int.reduceNeg, Int.reduceAdd, Int.reduceSub, Int.reduceMul, decide_true, decide_false, eq_self, ne_eq, Option.some.injEq, reduceCtorEq, not_false_eq_true, Option.map_some, map_ren_rows, rows_length, List.length_append, Nat.mul_one, rows_cell]
      repeat (with_reducible refine And.intro ?_ ?_; focus (first | omega | with_reducible rfl | kernel_rfl))

      refine ⟨k + 1, hk', ?_, by omega⟩
      refine Weak.cut (1) (by simp) (by simp) ?_ ?_
      · simp [LeC, LeV, ren, cutF, iota_succ]
        omega
      · rw [iota_succ, ← List.append_assoc, ← rows_snoc]
        simp [cutH, cutB, map_ren_rows, killC, ren, IntS.cs]
    · simp -implicitDefEqProofs -dsimp only [go_sem, Nat.reduceSub, Nat.reduceAdd, Nat.reduceMul, Nat.reduceLT, Nat.reduceLeDiff, Nat.reduceEqDiff, Nat.reduceDiv, Nat.reduceMod, Int.reduceToNat, Int.reduceLE, Int.reduceLT, Nat.le_refl, Int.toNat_natCast, beq_self_eq_true, bne_self_eq_false, Int.reduceBEq, Int.reduceBNe, Int.reduceNeg, Int.reduceAdd, Int.reduceSub, Int.reduceMul, decide_true, decide_false, eq_self, ne_eq, Option.some.injEq, reduceCtorEq, not_false_eq_true, Option.map_some, map_ren_rows, h3]
      have hk' : k = (L[n + 1].Week - (L[n].Week + 1)).toNat := by simp at h3; omega
      have e : missTo L (n + 1) = missTo L n ++ iota (L[n].Week + 1) k := by rw [missTo_succ, gapAt_eq hi', hk']
      rw [wrap_i64 (by omega) (by omega)]
      refine ⟨n + 1, .inr (by omega), ?_, by omega⟩
      refine Weak.cut (1) (by simp) (by simp) ?_ ?_
      · rw [e]
        simp [LeC, LeV, ren, cutF]
      · rw [e]
        simp [cutH, cutB, map_ren_rows]
  · simp -implicitDefEqProofs -dsimp only [go_sem, Nat.reduceSub, Nat.reduceAdd, Nat.reduceMul, Nat.reduceLT, Nat.reduceLeDiff, Nat.reduceEqDiff, Nat.reduceDiv, Nat.reduceMod, Int.reduceToNat, Int.reduceLE, Int.reduceLT, Nat.le_refl, Int.toNat_natCast, beq_self_eq_true, bne_self_eq_false, Int.reduceBEq, Int.reduceBNe, Int.reduceNeg, Int.reduceAdd, Int.reduceSub, Int.reduceMul, decide_true, decide_false, eq_self, ne_eq, Option.some.injEq, reduceCtorEq, not_false_eq_true, Option.map_some, map_ren_rows, h2]
    have hn : missTo L (L.length - 1) = missTo L n := by
      simp at h2
      rcases hi with rfl | hi
      · have : L.length - 1 = 0 := by omega
        rw [this]
      · congr 1; omega
    refine condT.split (fun h3 => ?_) (fun h3 => ?_) <;> simp -implicitDefEqProofs -dsimp only [go_sem, Nat.reduceSub, Nat.reduceAdd, Nat.reduceMul, Nat.reduceLT, Nat.reduceLeDiff, Nat.reduceEqDiff, Nat.reduceDiv, Nat.reduceMod, Int.reduceToNat, Int.reduceLE, Int.reduceLT, Nat.le_refl, Int.toNat_natCast, beq_self_eq_true, bne_self_eq_false, Int.reduceBEq, Int.reduceBNe, Int.reduceNeg, Int.reduceAdd, Int.reduceSub, Int.reduceMul, decide_true, decide_false, eq_self, ne_eq, Option.some.injEq, reduceCtorEq, not_false_eq_true, Option.map_some, map_ren_rows, h3]
    · have hR : missR L = none := by
        rw [missR, if_neg]
        rw [hn]
        simp at h3
        omega
      rw [hR]
      exact WeakR.drop' rfl rfl
    · have hR : missR L = some (missTo L n) := by
        rw [missR, if_pos, hn]
        rw [hn]
        simp at h3
        exact ⟨h1', by omega⟩
      rw [hR]
      exact WeakR.refl _ _ _
end Go.Proofs
