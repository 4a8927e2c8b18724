/-
  Rows set one by one, and a list reversed in place. Conditions: none.
-/
import Derived.Test.YtfnlgojocgdmcaaDoorLvR
set_option linter.unusedSimpArgs false
set_option linter.unusedVariables false
namespace Go.Lv
theorem splice_row {α : Type} {cs : α → List V} {w : Nat} (hw : ∀ a, (cs a).length = w) {L : List α} {i : Nat} (hi : i < L.length) (x : α) : splice (rows cs L) (i * w) (cs x) = rows cs (L.set i x) := by
  have e : L = L.take i ++ L[i] :: L.drop (i + 1) := by rw [← List.drop_eq_getElem_cons hi, List.take_append_drop]
  have e2 : L.set i x = L.take i ++ x :: L.drop (i + 1) := by rw [List.set_eq_take_append_cons_drop, if_pos hi]
  have hA : (rows cs (L.take i)).length = i * w := by rw [rows_len hw, List.length_take, Nat.min_eq_left (by omega)]
  rw [e2, rowsOf_append, rows_cons]
  conv => lhs; rw [e, rowsOf_append, rows_cons]
  rw [splice_mid0 hA, splice_zero]
  congr 2
  rw [List.drop_append_of_le_length (by rw [hw, hw]; exact Nat.le_refl _), List.drop_of_length_le (by rw [hw, hw]; exact Nat.le_refl _)]
  rfl
/-- After j swaps. -/
def revJ {α : Type} (L : List α) (j : Nat) : List α := (List.range L.length).pmap (fun k (h : k < L.length) => if k < j ∨ L.length - j ≤ k then L[L.length - 1 - k] else L[k]) (fun k hk => List.mem_range.1 hk)
theorem revJ_len {α : Type} (L : List α) (j : Nat) : (revJ L j).length = L.length := by simp [revJ]
theorem revJ_get {α : Type} (L : List α) (j k : Nat) (h : k < (revJ L j).length) : (revJ L j)[k] = if k < j ∨ L.length - j ≤ k then L[L.length - 1 - k]'(by rw [revJ_len] at h; omega) else L[k]'(by rw [revJ_len] at h; exact h) := by
  simp [revJ]
theorem revJ_zero {α : Type} (L : List α) : revJ L 0 = L := by
  apply List.ext_getElem (revJ_len L 0)
  intro k h1 h2
  rw [revJ_get, if_neg (by omega)]
theorem revJ_end {α : Type} (L : List α) (j : Nat) (h : L.length ≤ 2 * j + 1) : revJ L j = L.reverse := by
  apply List.ext_getElem (by rw [revJ_len, List.length_reverse])
  intro k h1 h2
  rw [revJ_len] at h1
  rw [revJ_get, List.getElem_reverse]
  split
  · rfl
  · congr 1; omega
theorem revJ_step {α : Type} (L : List α) (j : Nat) (h : 2 * j + 1 < L.length) : ((revJ L j).set j (L[L.length - 1 - j])).set (L.length - 1 - j) L[j] = revJ L (j + 1) := by
  apply List.ext_getElem (by simp [revJ_len])
  intro k h1 h2
  rw [revJ_len] at h2
  rw [List.getElem_set, List.getElem_set, revJ_get, revJ_get]
  by_cases e1 : L.length - 1 - j = k
  · subst e1
    rw [if_pos rfl, if_pos (by omega)]
    congr 1; omega
  · rw [if_neg e1]
    by_cases e2 : j = k
    · subst e2
      rw [if_pos rfl, if_pos (by omega)]
    · rw [if_neg e2]
      by_cases e3 : k < j ∨ L.length - j ≤ k
      · rw [if_pos e3, if_pos (by omega)]
      · rw [if_neg e3, if_neg (by omega)]
end Go.Lv
