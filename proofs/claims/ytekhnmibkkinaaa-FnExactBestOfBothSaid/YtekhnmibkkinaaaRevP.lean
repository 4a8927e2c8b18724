/-
  A list sorted by insertion, by falling sizes: size by size. Conditions: none.
-/
import Derived.Test.YtekhnmibkkinaaaSort
set_option linter.unusedSimpArgs false
set_option linter.unusedVariables false
namespace Go.Lv
variable {α : Type}
theorem posK_split {lt : α → α → Bool} {A B : List α} {x : α} (hB : ∀ b ∈ B, lt x b = true) (hA : ∀ a ∈ A, lt x a = false) : ∀ k, k ≤ B.length → posK lt (A ++ B) x (A.length + k) = A.length
  | 0, _ => by
    cases h : A.length with
    | zero => rfl
    | succ m =>
      have hm : m < (A ++ B).length := by rw [List.length_append]; omega
      have e : (A ++ B)[m] = A[m]'(by omega) := List.getElem_append_left (by omega)
      exact posK_stay hm (by rw [e]; exact hA _ (List.getElem_mem _))
  | k + 1, hk => by
    have hm : A.length + k < (A ++ B).length := by rw [List.length_append]; omega
    have e : (A ++ B)[A.length + k] = B[k]'(by omega) := by
      rw [List.getElem_append_right (by omega)]
      congr 1; omega
    rw [← Nat.add_assoc, posK_down hm (by rw [e]; exact hB _ (List.getElem_mem _))]
    exact posK_split hB hA k (by omega)
theorem ins_split {lt : α → α → Bool} {A B : List α} {x : α} (hB : ∀ b ∈ B, lt x b = true) (hA : ∀ a ∈ A, lt x a = false) : ins lt (A ++ B) x = A ++ x :: B := by
  rw [ins, List.length_append, posK_split hB hA _ (Nat.le_refl _), putAt]
  simp
/-- The elements with the key c, then those with c - 1, and so on, n keys. -/
def byKey (f : α → Int) (c : Int) (L : List α) (J : List Nat) : List α := J.flatMap fun (j : Nat) => L.filter fun x => f x == c - (j : Int)
theorem byKey_app (f : α → Int) (c : Int) (L : List α) (J K : List Nat) : byKey f c L (J ++ K) = byKey f c L J ++ byKey f c L K := by simp [byKey]
theorem byKey_mem {f : α → Int} {c : Int} {L : List α} {J : List Nat} {x : α} (h : x ∈ byKey f c L J) : ∃ j ∈ J, f x = c - (j : Int) := by
  simp only [byKey, List.mem_flatMap, List.mem_filter, beq_iff_eq] at h
  obtain ⟨j, hj, _, e⟩ := h
  exact ⟨j, hj, e⟩
theorem byKey_skip {f : α → Int} {c : Int} {L : List α} {J : List Nat} {x : α} (h : ∀ j ∈ J, f x ≠ c - (j : Int)) : byKey f c (L ++ [x]) J = byKey f c L J := by
  induction J with
  | nil => rfl
  | cons j J ih =>
    have h1 : f x ≠ c - (j : Int) := h j (by simp)
    have h2 := ih (fun k hk => h k (by simp [hk]))
    simp only [byKey, List.flatMap_cons] at h2 ⊢
    rw [h2, List.filter_append]
    simp [h1]
theorem insSort_byKey {f : α → Int} {c : Int} {n : Nat} : ∀ {L : List α}, (∀ x ∈ L, c - n < f x ∧ f x ≤ c) → insSort (fun x y => decide (f y < f x)) L = byKey f c L (List.range n) := by
  intro L hL
  have key : ∀ i, i ≤ L.length → insSort (fun x y => decide (f y < f x)) (L.take i) = byKey f c (L.take i) (List.range n) := by
    intro i
    induction i with
    | zero => intro _; simp [insSort, byKey]
    | succ i ih =>
      intro hi
      have hi' : i < L.length := hi
      have hx := hL L[i] (List.getElem_mem hi')
      rw [insSort_take hi', ih (by omega), List.take_succ_eq_append_getElem hi']
      obtain ⟨j, m, e1, e2⟩ : ∃ j m : Nat, f L[i] = c - (j : Int) ∧ n = j + (m + 1) := ⟨(c - f L[i]).toNat, n - 1 - (c - f L[i]).toNat, by omega, by omega⟩
      have hr : List.range n = List.range j ++ ([j] ++ (List.range m).map (fun k => j + (k + 1))) := by
        rw [e2, List.range_add, List.range_succ_eq_map]
        simp
      rw [hr, byKey_app, byKey_app, byKey_app, byKey_app]
      rw [byKey_skip (J := List.range j) (by intro k hk; have := List.mem_range.1 hk; omega)]
      rw [byKey_skip (J := (List.range m).map (fun k => j + (k + 1))) (by
        intro k hk
        obtain ⟨k, _, rfl⟩ := List.mem_map.1 hk
        omega)]
      have hone : byKey f c (L.take i ++ [L[i]]) [j] = byKey f c (L.take i) [j] ++ [L[i]] := by
        simp only [byKey, List.flatMap_cons, List.flatMap_nil, List.append_nil, List.filter_append]
        simp [e1]
      rw [hone, ← List.append_assoc]
      rw [ins_split (A := byKey f c (L.take i) (List.range j) ++ byKey f c (L.take i) [j]) (B := byKey f c (L.take i) ((List.range m).map (fun k => j + (k + 1))))]
      · simp
      · intro b hb
        obtain ⟨k, hk, e⟩ := byKey_mem hb
        obtain ⟨k, _, rfl⟩ := List.mem_map.1 hk
        simp; omega
      · intro a ha
        rcases List.mem_append.1 ha with h | h
        · obtain ⟨k, hk, e⟩ := byKey_mem h
          have := List.mem_range.1 hk
          simp; omega
        · obtain ⟨k, hk, e⟩ := byKey_mem h
          simp at hk; subst hk
          simp; omega
  have := key L.length (Nat.le_refl _)
  simpa using this
end Go.Lv
