/-
  Week rows: picks for an event. Conditions: none.
-/
import Derived.Test.YtnoknihkmfbdbaaF26
set_option linter.unusedSimpArgs false
set_option linter.unusedVariables false
set_option maxRecDepth 100000
namespace Go.Proofs
open Go.Lv
theorem wrsB_all {L : List WeekRow} (h : wrsB L = true) : (∀ x ∈ L, wrB x = true) ∧ L.length ≤ 12 := listedB_all h
theorem wrs_picks {L : List WeekRow} (h : ∀ x ∈ L, wrB x = true) : ∀ x ∈ L, 0 ≤ x.Picks ∧ x.Picks ≤ 99999 := fun x hx => (wrB_iff.1 (h x hx)).2.2.2.1
theorem wrs_events {L : List WeekRow} (h : ∀ x ∈ L, wrB x = true) : ∀ x ∈ L, 0 ≤ x.Events ∧ x.Events ≤ 9999 := fun x hx => (wrB_iff.1 (h x hx)).2.1
theorem wrs_felt {L : List WeekRow} (h : ∀ x ∈ L, wrB x = true) : ∀ x ∈ L, 0 ≤ x.Felt ∧ x.Felt ≤ 9999 := fun x hx => by
  have := wrB_iff.1 (h x hx); omega
theorem wrs_lost {L : List WeekRow} (h : ∀ x ∈ L, wrB x = true) : ∀ x ∈ L, 0 ≤ x.Lost ∧ x.Lost ≤ 9999 := fun x hx => (wrB_iff.1 (h x hx)).2.2.2.2
theorem psum_take_le {α : Type} {f : α → Int} {B : Int} {L : List α} (h : ∀ x ∈ L, 0 ≤ f x ∧ f x ≤ B) (hB : 0 ≤ B) {n : Nat} (hn : L.length ≤ n) (i : Nat) : 0 ≤ psum f (L.take i) ∧ psum f (L.take i) ≤ n * B := by
  have h1 := psum_bound (L := L.take i) (fun x hx => h x (List.mem_of_mem_take hx))
  have h2 : (((L.take i).length : Nat) : Int) * B ≤ n * B := Int.mul_le_mul_of_nonneg_right (by simp; omega) hB
  omega
/-- Picks for an event: what both return. -/
def picksR (L : List WeekRow) : List V :=
  if wrsB L = true ∧ psum WeekRow.Events L ≠ 0 then
    [.int .i64 (((psum WeekRow.Picks L).toNat / Nat.gcd (psum WeekRow.Picks L).toNat (psum WeekRow.Events L).toNat : Nat) : Int), .int .i64 (((psum WeekRow.Events L).toNat / Nat.gcd (psum WeekRow.Picks L).toNat (psum WeekRow.Events L).toNat : Nat) : Int), .bool true]
  else [.int .i64 0, .int .i64 0, .bool false]
theorem sPicksForEvent_ok (L : List WeekRow) (hl : L.length ≤ 281474976710656) : Ctr Try.prog 23 [WeekRow.sl L] [] (.tup (picksR L)) [] := by
  refine Ctr.intro Try.mixed Try.func23 rfl Try.okF23 ?_
  simp -implicitDefEqProofs -dsimp only [go_sem, Nat.reduceSub, Nat.reduceAdd, Nat.reduceMul, Nat.reduceLT, Nat.reduceLeDiff, Nat.reduceEqDiff, Nat.reduceDiv, Nat.reduceMod, Int.reduceToNat, Int.reduceLE, Int.reduceLT, Nat.le_refl, Int.toNat_natCast, beq_self_eq_true, bne_self_eq_false, Int.reduceBEq, Int.reduceBNe, Int.reduceNeg, Int.reduceAdd, Int.reduceSub, Int.reduceMul, decide_true, decide_false, eq_self, ne_eq, Option.some.injEq, reduceCtorEq, not_false_eq_true, Option.map_some, map_ren_rows, Try.ntmps23, Try.results23]
  (first | refine callT.intro (l26Good_ok L hl) ⟨.inl rfl, trivial⟩ (.inl rfl) ?_ | refine callS.intro (l26Good_ok L hl) ⟨.inl rfl, trivial⟩ (.inl rfl) ?_)
  simp -implicitDefEqProofs -dsimp only [go_sem, Nat.reduceSub, Nat.reduceAdd, Nat.reduceMul, Nat.reduceLT, Nat.reduceLeDiff, Nat.reduceEqDiff, Nat.reduceDiv, Nat.reduceMod, Int.reduceToNat, Int.reduceLE, Int.reduceLT, Nat.le_refl, Int.toNat_natCast, beq_self_eq_true, bne_self_eq_false, Int.reduceBEq, Int.reduceBNe, Int.reduceNeg, Int.reduceAdd, Int.reduceSub, Int.reduceMul, decide_true, decide_false, eq_self, ne_eq, Option.some.injEq, reduceCtorEq, not_false_eq_true, Option.map_some, map_ren_rows]
  refine condT.split (fun h1 => ?_) (fun h1 => ?_) <;> simp -implicitDefEqProofs -dsimp only [go_sem, Nat.reduceSub, Nat.reduceAdd, Nat.reduceMul, Nat.reduceLT, Nat.reduceLeDiff, Nat.reduceEqDiff, Nat.reduceDiv, Nat.reduceMod, Int.reduceToNat, Int.reduceLE, Int.reduceLT, Nat.le_refl, Int.toNat_natCast, beq_self_eq_true, bne_self_eq_false, Int.reduceBEq, Int.reduceBNe, Int.reduceNeg, Int.reduceAdd, Int.reduceSub, Int.reduceMul, decide_true, decide_false, eq_self, ne_eq, Option.some.injEq, reduceCtorEq, not_false_eq_true, Option.map_some, map_ren_rows, h1]
  · obtain ⟨hv, hlen⟩ := wrsB_all h1
    have hp := psum_take_le (wrs_picks hv) (by decide) hlen
    have he := psum_take_le (wrs_events hv) (by decide) hlen
    refine LoopT.intro (fun i : Nat => i ≤ L.length) (fun i => ⟨[WeekRow.sl L, .undef, .undef, .undef, .undef, .int .i64 (psum WeekRow.Picks (L.take i)), .int .i64 (psum WeekRow.Events (L.take i)), .int .i64 i, .undef, .undef, .undef, .undef, .undef, .undef, .undef, .undef, .undef, .undef, .undef, .undef, .undef, .undef, .undef, .undef, .undef, .undef, .undef, .undef, .undef, .undef, .undef, .undef, .undef, .undef, .undef, .undef, .undef, .undef, .undef, .undef, .undef, .undef], [], 0⟩) (fun i => L.length - i) 0 (Nat.zero_le _) ?_ (fun i hi => ?_)
    · refine Weak.cut (0) (by simp) (by simp) ?_ ?_
      · simp [LeC, LeV, ren, cutF, psum]
      · rfl
    simp -implicitDefEqProofs -dsimp only [go_sem, Nat.reduceSub, Nat.reduceAdd, Nat.reduceMul, Nat.reduceLT, Nat.reduceLeDiff, Nat.reduceEqDiff, Nat.reduceDiv, Nat.reduceMod, Int.reduceToNat, Int.reduceLE, Int.reduceLT, Nat.le_refl, Int.toNat_natCast, beq_self_eq_true, bne_self_eq_false, Int.reduceBEq, Int.reduceBNe, Int.reduceNeg, Int.reduceAdd, Int.reduceSub, Int.reduceMul, decide_true, decide_false, eq_self, ne_eq, Option.some.injEq, reduceCtorEq, not_false_eq_true, Option.map_some, map_ren_rows]
    refine condT.split (fun h2 => ?_) (fun h2 => ?_)
    · simp -implicitDefEqProofs -dsimp only [go_sem, Nat.reduceSub, Nat.reduceAdd, Nat.reduceMul, Nat.reduceLT, Nat.reduceLeDiff, Nat.reduceEqDiff, Nat.reduceDiv, Nat.reduceMod, Int.reduceToNat, Int.reduceLE, Int.reduceLT, Nat.le_refl, Int.toNat_natCast, beq_self_eq_true, bne_self_eq_false, Int.reduceBEq, Int.reduceBNe, Int.reduceNeg, Int.reduceAdd, Int.reduceSub, Int.reduceMul, decide_true, decide_false, eq_self, ne_eq, Option.some.injEq, reduceCtorEq, not_false_eq_true, Option.map_some, map_ren_rows, h2]
      have hi' : i < L.length := by simpa using h2
      have hr := rows_at WeekRow.csl hi'
      have e1 := psum_succ WeekRow.Picks hi'
      have e2 := psum_succ WeekRow.Events hi'
      have p1 := hp (i + 1)
      have p2 := he (i + 1)
      simp -implicitDefEqProofs -dsimp (disch := omega) only [wrap_i64, go_sem, Nat.reduceSub, Nat.reduceAdd, Nat.reduceMul, Nat.reduceLT, Nat.reduceLeDiff, Nat.reduceEqDiff, Nat.reduceDiv, Nat.reduceMod, Int.reduceToNat, Int.reduceLE, Int.reduceLT, Nat.le_refl, Int.toNat_natCast, beq_self_eq_true, bne_self_eq_false, Int.reduceBEq, Int.reduceBNe, Int.reduceNeg, Int.reduceAdd, Int.reduceSub, Int.reduceMul, decide_true, decide_false, eq_self, ne_eq, Option.some.injEq, reduceCtorEq, not_false_eq_true, Option.map_some, map_ren_rows, hr, WeekRow.cs]
      repeat (with_reducible refine And.intro ?_ ?_; focus (first | omega | with_reducible rfl | kernel_rfl))
      refine ⟨i + 1, hi', ?_, by omega⟩
      refine Weak.cut (0) (by simp) (by simp) ?_ ?_
      · rw [e1, e2]
        simp [LeC, LeV, ren, cutF]
      · rfl
    · simp -implicitDefEqProofs -dsimp only [go_sem, Nat.reduceSub, Nat.reduceAdd, Nat.reduceMul, Nat.reduceLT, Nat.reduceLeDiff, Nat.reduceEqDiff, Nat.reduceDiv, Nat.reduceMod, Int.reduceToNat, Int.reduceLE, Int.reduceLT, Nat.le_refl, Int.toNat_natCast, beq_self_eq_true, bne_self_eq_false, Int.reduceBEq, Int.reduceBNe, Int.reduceNeg, Int.reduceAdd, Int.reduceSub, Int.reduceMul, decide_true, decide_false, eq_self, ne_eq, Option.some.injEq, reduceCtorEq, not_false_eq_true, Option.map_some, map_ren_rows, h2]
      have : i = L.length := by simp at h2; omega
      subst this
      have hp0 := hp L.length
      have he0 := he L.length
      rw [List.take_length] at hp0 he0
      rw [List.take_length]
      refine condT.split (fun h3 => ?_) (fun h3 => ?_) <;> simp -implicitDefEqProofs -dsimp only [go_sem, Nat.reduceSub, Nat.reduceAdd, Nat.reduceMul, Nat.reduceLT, Nat.reduceLeDiff, Nat.reduceEqDiff, Nat.reduceDiv, Nat.reduceMod, Int.reduceToNat, Int.reduceLE, Int.reduceLT, Nat.le_refl, Int.toNat_natCast, beq_self_eq_true, bne_self_eq_false, Int.reduceBEq, Int.reduceBNe, Int.reduceNeg, Int.reduceAdd, Int.reduceSub, Int.reduceMul, decide_true, decide_false, eq_self, ne_eq, Option.some.injEq, reduceCtorEq, not_false_eq_true, Option.map_some, map_ren_rows, h3]
      · refine WeakR.drop' ?_ (by rfl)
        have h3' : psum WeekRow.Events L = 0 := by simpa using h3
        rw [picksR, if_neg (by simp [h3'])]
      · have h3' : psum WeekRow.Events L ≠ 0 := by simpa using h3
        obtain ⟨a, ha⟩ := Int.eq_ofNat_of_zero_le hp0.1
        obtain ⟨b, hb⟩ := Int.eq_ofNat_of_zero_le he0.1
        rw [ha, hb]
        (first | refine callT.intro (l2Reduce_ok a b (by omega) (by omega) (by omega)) ⟨.inl rfl, .inl rfl, trivial⟩ (.inl rfl) ?_ | refine callS.intro (l2Reduce_ok a b (by omega) (by omega) (by omega)) ⟨.inl rfl, .inl rfl, trivial⟩ (.inl rfl) ?_)
        simp -implicitDefEqProofs -dsimp only [go_sem, Nat.reduceSub, Nat.reduceAdd, Nat.reduceMul, Nat.reduceLT, Nat.reduceLeDiff, Nat.reduceEqDiff, Nat.reduceDiv, Nat.reduceMod, Int.reduceToNat, Int.reduceLE, Int.reduceLT, Nat.le_refl, Int.toNat_natCast, beq_self_eq_true, bne_self_eq_false, Int.reduceBEq, Int.reduceBNe, Int.reduceNeg, Int.reduceAdd, Int.reduceSub, Int.reduceMul, decide_true, decide_false, eq_self, ne_eq, Option.some.injEq, reduceCtorEq, not_false_eq_true, Option.map_some, map_ren_rows]
        refine WeakR.drop' ?_ (by rfl)
        rw [picksR, if_pos ⟨h1, h3'⟩, ha, hb]
        simp
  · refine WeakR.drop' ?_ (by rfl)
    rw [picksR, if_neg (by simp [h1])]
theorem iPicksForEvent_ok (L : List WeekRow) (hl : L.length ≤ 281474976710656) : Ctr Try.prog 24 [WeekRow.sl L] [] (.tup (picksR L)) [] := by
  refine Ctr.intro Try.mixed Try.func24 rfl Try.okF24 ?_
  simp -implicitDefEqProofs -dsimp only [go_sem, Nat.reduceSub, Nat.reduceAdd, Nat.reduceMul, Nat.reduceLT, Nat.reduceLeDiff, Nat.reduceEqDiff, Nat.reduceDiv, Nat.reduceMod, Int.reduceToNat, Int.reduceLE, Int.reduceLT, Nat.le_refl, Int.toNat_natCast, beq_self_eq_true, bne_self_eq_false, Int.reduceBEq, Int.reduceBNe, Int.reduceNeg, Int.reduceAdd, Int.reduceSub, Int.reduceMul, decide_true, decide_false, eq_self, ne_eq, Option.some.injEq, reduceCtorEq, not_false_eq_true, Option.map_some, map_ren_rows, Try.ntmps24, Try.results24]
  (first | refine callT.intro (totals_ok L hl) ⟨.inl rfl, trivial⟩ (.inl rfl) ?_ | refine callS.intro (totals_ok L hl) ⟨.inl rfl, trivial⟩ (.inl rfl) ?_)
  simp -implicitDefEqProofs -dsimp only [go_sem, Nat.reduceSub, Nat.reduceAdd, Nat.reduceMul, Nat.reduceLT, Nat.reduceLeDiff, Nat.reduceEqDiff, Nat.reduceDiv, Nat.reduceMod, Int.reduceToNat, Int.reduceLE, Int.reduceLT, Nat.le_refl, Int.toNat_natCast, beq_self_eq_true, bne_self_eq_false, Int.reduceBEq, Int.reduceBNe, Int.reduceNeg, Int.reduceAdd, Int.reduceSub, Int.reduceMul, decide_true, decide_false, eq_self, ne_eq, Option.some.injEq, reduceCtorEq, not_false_eq_true, Option.map_some, map_ren_rows, WeekRow.v]
  (first | refine callT.intro (iAreWeekRows_ok L hl) ⟨.inl rfl, trivial⟩ (.inl rfl) ?_ | refine callS.intro (iAreWeekRows_ok L hl) ⟨.inl rfl, trivial⟩ (.inl rfl) ?_)
  simp -implicitDefEqProofs -dsimp only [go_sem, Nat.reduceSub, Nat.reduceAdd, Nat.reduceMul, Nat.reduceLT, Nat.reduceLeDiff, Nat.reduceEqDiff, Nat.reduceDiv, Nat.reduceMod, Int.reduceToNat, Int.reduceLE, Int.reduceLT, Nat.le_refl, Int.toNat_natCast, beq_self_eq_true, bne_self_eq_false, Int.reduceBEq, Int.reduceBNe, Int.reduceNeg, Int.reduceAdd, Int.reduceSub, Int.reduceMul, decide_true, decide_false, eq_self, ne_eq, Option.some.injEq, reduceCtorEq, not_false_eq_true, Option.map_some, map_ren_rows]
  have fin0 : (wrsB L = false ∨ wsum WeekRow.Events L = 0) → V.tup [.int .i64 0, .int .i64 0, .bool false] = .tup (picksR L) := by
    intro h
    rw [picksR, if_neg]
    rintro ⟨h1, h2⟩
    obtain ⟨hv, hlen⟩ := wrsB_all h1
    rw [wsum_psum (wrs_events hv) (by omega)] at h
    simp [h1, h2] at h
  refine guardT.splitF (fun h1 => ?_) (fun h1 => ?_) <;> simp -implicitDefEqProofs -dsimp only [go_sem, Nat.reduceSub, Nat.reduceAdd, Nat.reduceMul, Nat.reduceLT, Nat.reduceLeDiff, Nat.reduceEqDiff, Nat.reduceDiv, Nat.reduceMod, Int.reduceToNat, Int.reduceLE, Int.reduceLT, Nat.le_refl, Int.toNat_natCast, beq_self_eq_true, bne_self_eq_false, Int.reduceBEq, Int.reduceBNe, Int.reduceNeg, Int.reduceAdd, Int.reduceSub, Int.reduceMul, decide_true, decide_false, eq_self, ne_eq, Option.some.injEq, reduceCtorEq, not_false_eq_true, Option.map_some, map_ren_rows, h1]
  · simp -implicitDefEqProofs -dsimp only [go_sem, Nat.reduceSub, Nat.reduceAdd, Nat.reduceMul, Nat.reduceLT, Nat.reduceLeDiff, Nat.reduceEqDiff, Nat.reduceDiv, Nat.reduceMod, Int.reduceToNat, Int.reduceLE, Int.reduceLT, Nat.le_refl, Int.toNat_natCast, beq_self_eq_true, bne_self_eq_false, Int.reduceBEq, Int.reduceBNe, Int.reduceNeg, Int.reduceAdd, Int.reduceSub, Int.reduceMul, decide_true, decide_false, eq_self, ne_eq, Option.some.injEq, reduceCtorEq, not_false_eq_true, Option.map_some, map_ren_rows, tot]
    dsimp only [tot]
    refine condT.split (fun h3 => ?_) (fun h3 => ?_) <;> simp -implicitDefEqProofs -dsimp only [go_sem, Nat.reduceSub, Nat.reduceAdd, Nat.reduceMul, Nat.reduceLT, Nat.reduceLeDiff, Nat.reduceEqDiff, Nat.reduceDiv, Nat.reduceMod, Int.reduceToNat, Int.reduceLE, Int.reduceLT, Nat.le_refl, Int.toNat_natCast, beq_self_eq_true, bne_self_eq_false, Int.reduceBEq, Int.reduceBNe, Int.reduceNeg, Int.reduceAdd, Int.reduceSub, Int.reduceMul, decide_true, decide_false, eq_self, ne_eq, Option.some.injEq, reduceCtorEq, not_false_eq_true, Option.map_some, map_ren_rows, h3]
    · exact WeakR.drop' (fin0 (.inr (by simpa using h3))) rfl
    · have h1' : wrsB L = true := by simpa using h1
      obtain ⟨hv, hlen⟩ := wrsB_all h1'
      have hp0 := psum_take_le (wrs_picks hv) (by decide) hlen L.length
      have he0 := psum_take_le (wrs_events hv) (by decide) hlen L.length
      rw [List.take_length] at hp0 he0
      have h3' : wsum WeekRow.Events L ≠ 0 := by simpa using h3
      rw [wsum_psum (wrs_events hv) (by omega)] at h3' ⊢
      rw [wsum_psum (wrs_picks hv) (by omega)]
      obtain ⟨a, ha⟩ := Int.eq_ofNat_of_zero_le hp0.1
      obtain ⟨b, hb⟩ := Int.eq_ofNat_of_zero_le he0.1
      rw [ha, hb]
      (first | refine callT.intro (fraction_ok a b (by omega) (by omega) (by omega)) ⟨.inl rfl, .inl rfl, trivial⟩ (.inl rfl) ?_ | refine callS.intro (fraction_ok a b (by omega) (by omega) (by omega)) ⟨.inl rfl, .inl rfl, trivial⟩ (.inl rfl) ?_)
      simp -implicitDefEqProofs -dsimp only [go_sem, Nat.reduceSub, Nat.reduceAdd, Nat.reduceMul, Nat.reduceLT, Nat.reduceLeDiff, Nat.reduceEqDiff, Nat.reduceDiv, Nat.reduceMod, Int.reduceToNat, Int.reduceLE, Int.reduceLT, Nat.le_refl, Int.toNat_natCast, beq_self_eq_true, bne_self_eq_false, Int.reduceBEq, Int.reduceBNe, Int.reduceNeg, Int.reduceAdd, Int.reduceSub, Int.reduceMul, decide_true, decide_false, eq_self, ne_eq, Option.some.injEq, reduceCtorEq, not_false_eq_true, Option.map_some, map_ren_rows]
      refine WeakR.drop' ?_ (by rfl)
      rw [picksR, if_pos ⟨h1', h3'⟩, ha, hb]
      simp
  · exact WeakR.drop' (fin0 (.inl (by simpa using h1))) rfl
end Go.Proofs
