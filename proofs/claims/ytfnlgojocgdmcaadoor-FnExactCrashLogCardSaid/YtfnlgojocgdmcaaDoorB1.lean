/-
  Small functions that all others call, and sums. Conditions: none.
-/
import Derived.Test.YtfnlgojocgdmcaaDoorLvFacts
import Derived.Test.YtfnlgojocgdmcaaDoorLvR
set_option linter.unusedSimpArgs false
set_option linter.unusedVariables false
set_option maxRecDepth 100000
namespace Go.Proofs
open Go.Lv
def inB' (n a b : Int) : Bool := decide (a ≤ n) && decide (n ≤ b)
theorem inB'_iff {n a b : Int} : inB' n a b = true ↔ a ≤ n ∧ n ≤ b := by simp [inB']
theorem in_ok (n a b : Int) : Ctr Tryd.prog 40 [.int .i64 n, .int .i64 a, .int .i64 b] [] (.bool (inB' n a b)) [] := by
  refine Ctr.intro Tryd.mixed Tryd.func40 rfl Tryd.okF40 ?_
  simp -implicitDefEqProofs -dsimp only [go_sem, Nat.reduceSub, Nat.reduceAdd, Nat.reduceMul, Nat.reduceLT, Nat.reduceLeDiff, Nat.reduceEqDiff, Nat.reduceDiv, Nat.reduceMod, Int.reduceToNat, Int.reduceLE, Int.reduceLT, Int.reduceBEq, Int.reduceBNe, Int.reduceNeg, Int.reduceAdd, Int.reduceSub, Int.reduceMul, reduceCtorEq, Tryd.ntmps40, Tryd.results40]
  refine guardT.splitT (fun h1 => ?_) (fun h1 => ?_) <;> simp -implicitDefEqProofs -dsimp only [go_sem, Nat.reduceSub, Nat.reduceAdd, Nat.reduceMul, Nat.reduceLT, Nat.reduceLeDiff, Nat.reduceEqDiff, Nat.reduceDiv, Nat.reduceMod, Int.reduceToNat, Int.reduceLE, Int.reduceLT, Int.reduceBEq, Int.reduceBNe, Int.reduceNeg, Int.reduceAdd, Int.reduceSub, Int.reduceMul, reduceCtorEq, h1]
  · exact WeakR.of_eq (by simp [inB', h1])
  · exact WeakR.of_eq (by simp [inB', h1])
theorem l1In_ok (n a b : Int) : Ctr Tryd.prog 39 [.int .i64 n, .int .i64 a, .int .i64 b] [] (.bool (inB' n a b)) [] := by
  refine Ctr.intro Tryd.mixed Tryd.func39 rfl Tryd.okF39 ?_
  simp -implicitDefEqProofs -dsimp only [go_sem, Nat.reduceSub, Nat.reduceAdd, Nat.reduceMul, Nat.reduceLT, Nat.reduceLeDiff, Nat.reduceEqDiff, Nat.reduceDiv, Nat.reduceMod, Int.reduceToNat, Int.reduceLE, Int.reduceLT, Int.reduceBEq, Int.reduceBNe, Int.reduceNeg, Int.reduceAdd, Int.reduceSub, Int.reduceMul, reduceCtorEq, Tryd.ntmps39, Tryd.results39]
  refine guardT.splitT (fun h1 => ?_) (fun h1 => ?_) <;> simp -implicitDefEqProofs -dsimp only [go_sem, Nat.reduceSub, Nat.reduceAdd, Nat.reduceMul, Nat.reduceLT, Nat.reduceLeDiff, Nat.reduceEqDiff, Nat.reduceDiv, Nat.reduceMod, Int.reduceToNat, Int.reduceLE, Int.reduceLT, Int.reduceBEq, Int.reduceBNe, Int.reduceNeg, Int.reduceAdd, Int.reduceSub, Int.reduceMul, reduceCtorEq, h1]
  · exact WeakR.of_eq (by simp [inB', h1])
  · exact WeakR.of_eq (by simp [inB', h1])
theorem tmod_nat (a b : Nat) : Int.tmod (a : Int) (b : Int) = ((a % b : Nat) : Int) := rfl
theorem tdiv_nat (a b : Nat) : Int.tdiv (a : Int) (b : Int) = ((a / b : Nat) : Int) := rfl
theorem listedB_all {α : Type} {p : α → Bool} {k : α → Int} {m : Nat} {L : List α} (h : listedB p k m L = true) : (∀ x ∈ L, p x = true) ∧ L.length ≤ m := by
  simp only [listedB, Bool.and_eq_true, decide_eq_true_eq, List.all_eq_true, List.mem_range] at h
  refine ⟨fun x hx => ?_, h.2⟩
  obtain ⟨i, hi, rfl⟩ := List.getElem_of_mem hx
  have := h.1 i hi
  simp only [listedQ, List.getElem?_eq_getElem hi, Bool.and_eq_true] at this
  exact this.1
theorem listedB_lt {α : Type} {p : α → Bool} {k : α → Int} {m : Nat} {L : List α} (h : listedB p k m L = true) : (L.map k).Pairwise (· < ·) := by
  simp only [listedB, Bool.and_eq_true, List.all_eq_true, List.mem_range] at h
  have adj : ∀ j, (hj : j + 1 < L.length) → k (L[j]'(by omega)) < k L[j + 1] := by
    intro j hj
    have := h.1 (j + 1) hj
    rw [listedQ_succ hj] at this
    simp at this
    exact this.2
  rw [List.pairwise_iff_getElem]
  intro i j hi hj hij
  simp only [List.length_map] at hi hj
  simp only [List.getElem_map]
  induction j with
  | zero => omega
  | succ j ih =>
    have h1 := adj j hj
    rcases Nat.lt_succ_iff_lt_or_eq.1 hij with h2 | h2
    · have := ih (by simpa using (by omega : j < L.length)) h2 (by omega)
      omega
    · subst h2; exact h1
theorem nodup_get {α : Type} {L : List α} (h : L.Nodup) {i j : Nat} (hi : i < L.length) (hj : j < L.length) (e : L[i] = L[j]) : i = j := by
  have h2 := List.pairwise_iff_getElem.1 h
  rcases Nat.lt_trichotomy i j with h3 | h3 | h3
  · exact absurd e (h2 i j hi hj h3)
  · exact h3
  · exact absurd e.symm (h2 j i hj hi h3)
/-- Sums that may wrap. -/
def wsum {α : Type} (f : α → Int) (L : List α) : Int := L.foldl (fun a x => IntKind.i64.wrap (a + f x)) 0
theorem wsum_succ {α : Type} (f : α → Int) {L : List α} {i : Nat} (hi : i < L.length) : wsum f (L.take (i + 1)) = IntKind.i64.wrap (wsum f (L.take i) + f L[i]) := by
  rw [List.take_succ_eq_append_getElem hi, wsum, List.foldl_append]
  rfl
def psum {α : Type} (f : α → Int) (L : List α) : Int := (L.map f).sum
theorem psum_succ {α : Type} (f : α → Int) {L : List α} {i : Nat} (hi : i < L.length) : psum f (L.take (i + 1)) = psum f (L.take i) + f L[i] := by
  rw [psum, List.take_succ_eq_append_getElem hi, List.map_append, List.sum_append]
  show _ = (List.map f (List.take i L)).sum + f L[i]
  simp
theorem psum_bound {α : Type} {f : α → Int} {B : Int} : ∀ {L : List α}, (∀ x ∈ L, 0 ≤ f x ∧ f x ≤ B) → 0 ≤ psum f L ∧ psum f L ≤ L.length * B
  | [], _ => by simp [psum]
  | x :: L, h => by
    have h1 := h x (by simp)
    have h2 := psum_bound (L := L) (fun y hy => h y (by simp [hy]))
    have e : psum f (x :: L) = f x + psum f L := by simp [psum]
    rw [e, List.length_cons]
    have : ((L.length + 1 : Nat) : Int) * B = L.length * B + B := by rw [Int.natCast_add, Int.add_mul]; simp
    omega
theorem wsum_psum {α : Type} {f : α → Int} {B : Int} {L : List α} (h : ∀ x ∈ L, 0 ≤ f x ∧ f x ≤ B) (hB : L.length * B ≤ 9223372036854775807) : wsum f L = psum f L := by
  have hB0 : 0 ≤ B ∨ L = [] := by
    cases L with
    | nil => exact .inr rfl
    | cons x L => have := h x (by simp); exact .inl (by omega)
  have key : ∀ i, i ≤ L.length → wsum f (L.take i) = psum f (L.take i) := by
    intro i
    induction i with
    | zero => intro _; simp [wsum, psum]
    | succ i ih =>
      intro hi
      have hi' : i < L.length := hi
      rw [wsum_succ f hi', psum_succ f hi', ih (by omega)]
      have h1 := psum_bound (L := L.take (i + 1)) (fun x hx => h x (List.mem_of_mem_take hx))
      rw [psum_succ f hi'] at h1
      have h2 : (((L.take (i + 1)).length : Nat) : Int) * B ≤ L.length * B := by
        rcases hB0 with h0 | h0
        · exact Int.mul_le_mul_of_nonneg_right (by simp; omega) h0
        · subst h0; simp at hi'
      rw [wrap_i64 (by omega) (by omega)]
  have := key L.length (Nat.le_refl _)
  simpa using this
end Go.Proofs
