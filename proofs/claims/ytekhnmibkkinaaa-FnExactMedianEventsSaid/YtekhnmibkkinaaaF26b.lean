/-
  Week rows: picks for an event. Conditions: none.
-/
import Derived.Test.YtekhnmibkkinaaaF26
set_option linter.unusedSimpArgs false
set_option linter.unusedVariables false
set_option maxRecDepth 100000
namespace Go.Proofs
open Go.Lv
theorem wrsB_all {L : List WeekRow} (h : wrsB L = true) : (∀ x ∈ L, wrB x = true) ∧ L.length ≤ 12 := listedB_all h
theorem wrs_picks {L : List WeekRow} (h : ∀ x ∈ L, wrB x = true) : ∀ x ∈ L, 0 ≤ x.Picks ∧ x.Picks ≤ 99999 := fun x hx => (wrB_iff.1 (h x hx)).2.2.2.1
theorem wrs_events {L : List WeekRow} (h : ∀ x ∈ L, wrB x = true) : ∀ x ∈ L, 0 ≤ x.Events ∧ x.Events ≤ 9999 := fun x hx => (wrB_iff.1 (h x hx)).2.1
theorem wrs_felt {L : List WeekRow} (h : ∀ x ∈ L, wrB x = true) : ∀ x ∈ L, 0 ≤ x.Felt ∧ x.Felt ≤ 9999 := fun x hx => by
  have := wrB_iff.1 (h x hx); omega
theorem wrs_lost {L : List WeekRow} (h : ∀ x ∈ L, wrB x = true) : ∀ x ∈ L, 0 ≤ x.Lost ∧ x.Lost ≤ 9999 := fun x hx => (wrB_iff.1 (h x hx)).2.2.2.2
theorem psum_take_le {α : Type} {f : α → Int} {B : Int} {L : List α} (h : ∀ x ∈ L, 0 ≤ f x ∧ f x ≤ B) (hB : 0 ≤ B) {n : Nat} (hn : L.length ≤ n) (i : Nat) : 0 ≤ psum f (L.take i) ∧ psum f (L.take i) ≤ n * B := by
  have h1 := psum_bound (L := L.take i) (fun x hx => h x (List.mem_of_mem_take hx))
  have h2 : (((L.take i).length : Nat) : Int) * B ≤ n * B := Int.mul_le_mul_of_nonneg_right (by simp; omega) hB
  omega
/-- Picks for an event: what both return. -/
def picksR (L : List WeekRow) : List V :=
  if wrsB L = true ∧ psum WeekRow.Events L ≠ 0 then
    [.int .i64 (((psum WeekRow.Picks L).toNat / Nat.gcd (psum WeekRow.Picks L).toNat (psum WeekRow.Events L).toNat : Nat) : Int), .int .i64 (((psum WeekRow.Events L).toNat / Nat.gcd (psum WeekRow.Picks L).toNat (psum WeekRow.Events L).toNat : Nat) : Int), .bool true]
  else [.int .i64 0, .int .i64 0, .bool false]
end Go.Proofs
