/-
  Insertion into a list from its end, and lists sorted so. Conditions: none.
-/
import Derived.Test.YtekhnmibkkinaaaLvR
set_option linter.unusedSimpArgs false
set_option linter.unusedVariables false
namespace Go.Lv
variable {α : Type}
/-- Where x comes to stand among the first k: behind the last one that it is not less than. -/
def posK (lt : α → α → Bool) (S : List α) (x : α) : Nat → Nat
  | 0 => 0
  | k + 1 => match S[k]? with
    | some y => if lt x y then posK lt S x k else k + 1
    | none => k + 1
theorem posK_le (lt : α → α → Bool) (S : List α) (x : α) : ∀ k, posK lt S x k ≤ k
  | 0 => Nat.le_refl _
  | k + 1 => by
    have := posK_le lt S x k
    unfold posK
    cases S[k]? with
    | none => simp
    | some y => dsimp only; split <;> omega
theorem posK_down {lt : α → α → Bool} {S : List α} {x : α} {k : Nat} (hk : k < S.length) (h : lt x S[k] = true) : posK lt S x (k + 1) = posK lt S x k := by
  simp [posK, hk, h]
theorem posK_stay {lt : α → α → Bool} {S : List α} {x : α} {k : Nat} (hk : k < S.length) (h : lt x S[k] = false) : posK lt S x (k + 1) = k + 1 := by
  simp [posK, hk, h]
/-- The list with x laid in at a place. -/
def putAt (S : List α) (x : α) (j : Nat) : List α := S.take j ++ x :: S.drop j
theorem putAt_len (S : List α) (x : α) (j : Nat) : (putAt S x j).length = S.length + 1 := by
  simp [putAt]; omega
theorem putAt_end (S : List α) (x : α) : putAt S x S.length = S ++ [x] := by simp [putAt]
def ins (lt : α → α → Bool) (S : List α) (x : α) : List α := putAt S x (posK lt S x S.length)
def insSort (lt : α → α → Bool) (L : List α) : List α := L.foldl (ins lt) []
theorem ins_len (lt : α → α → Bool) (S : List α) (x : α) : (ins lt S x).length = S.length + 1 := putAt_len _ _ _
theorem insSort_snoc (lt : α → α → Bool) (L : List α) (x : α) : insSort lt (L ++ [x]) = ins lt (insSort lt L) x := by simp [insSort]
theorem insSort_take {lt : α → α → Bool} {L : List α} {i : Nat} (hi : i < L.length) : insSort lt (L.take (i + 1)) = ins lt (insSort lt (L.take i)) L[i] := by
  rw [List.take_succ_eq_append_getElem hi, insSort_snoc]
theorem insSort_len (lt : α → α → Bool) (L : List α) : (insSort lt L).length = L.length := by
  have key : ∀ (L S : List α), (L.foldl (ins lt) S).length = S.length + L.length := by
    intro L
    induction L with
    | nil => intro S; simp
    | cons a L ih => intro S; rw [List.foldl_cons, ih, ins_len]; simp; omega
  have := key L []
  simpa [insSort] using this
theorem insSort_one (lt : α → α → Bool) (L : List α) (h : L.length ≤ 1) : insSort lt L = L := by
  match L, h with
  | [], _ => rfl
  | [a], _ => rfl
/-- In the midst of an insertion in place: S sorted, x at j of it, R behind. -/
def midS (S R : List α) (x : α) (j : Nat) : List α := putAt S x j ++ R
theorem midS_len (S R : List α) (x : α) (j : Nat) : (midS S R x j).length = S.length + 1 + R.length := by simp [midS, putAt_len]
theorem midS_get {S R : List α} {x : α} {j : Nat} (hj : j ≤ S.length) (h : j < (midS S R x j).length) : (midS S R x j)[j] = x := by
  have : (midS S R x j)[j]? = some x := by
    rw [midS, putAt, List.append_assoc, List.getElem?_append_right (by simp; omega)]
    simp [Nat.min_eq_left hj]
  rw [List.getElem?_eq_getElem h] at this
  exact Option.some.inj this
theorem midS_get_below {S R : List α} {x : α} {j : Nat} (hj : j < S.length) (h : j < (midS S R x (j + 1)).length) : (midS S R x (j + 1))[j] = S[j] := by
  have : (midS S R x (j + 1))[j]? = some S[j] := by
    rw [midS, putAt, List.append_assoc, List.getElem?_append_left (by simp; omega), List.getElem?_take_of_lt (by omega), List.getElem?_eq_getElem hj]
  rw [List.getElem?_eq_getElem h] at this
  exact Option.some.inj this
theorem midS_swap {S R : List α} {x : α} {j : Nat} (hj : j < S.length) : ((midS S R x (j + 1)).set (j + 1) S[j]).set j x = midS S R x j := by
  have hd : S.drop j = S[j] :: S.drop (j + 1) := List.drop_eq_getElem_cons hj
  have ht : S.take (j + 1) = S.take j ++ [S[j]] := List.take_succ_eq_append_getElem hj
  have hl : (S.take j).length = j := by simp; omega
  simp only [midS, putAt, ht, hd, List.append_assoc, List.cons_append, List.nil_append, List.singleton_append]
  rw [List.set_append_right _ _ (by omega), hl, List.set_append_right _ _ (by omega), hl]
  simp
theorem midS_swap' {S R : List α} {x : α} {j : Nat} (hj : j < S.length) : ((midS S R x (j + 1)).set j x).set (j + 1) S[j] = midS S R x j := by
  have hd : S.drop j = S[j] :: S.drop (j + 1) := List.drop_eq_getElem_cons hj
  have ht : S.take (j + 1) = S.take j ++ [S[j]] := List.take_succ_eq_append_getElem hj
  have hl : (S.take j).length = j := by simp; omega
  simp only [midS, putAt, ht, hd, List.append_assoc, List.cons_append, List.nil_append, List.singleton_append]
  rw [List.set_append_right _ _ (by omega), hl, List.set_append_right _ _ (by omega), hl]
  simp
/-- What lies in the block when the first i are sorted. -/
def srtS (lt : α → α → Bool) (L : List α) (i : Nat) : List α := insSort lt (L.take i) ++ L.drop i
theorem srtS_one (lt : α → α → Bool) (L : List α) : srtS lt L 1 = L := by
  rw [srtS, insSort_one lt _ (by simp; omega), List.take_append_drop]
theorem srtS_end (lt : α → α → Bool) (L : List α) {i : Nat} (h : L.length ≤ i) : srtS lt L i = insSort lt L := by
  simp [srtS, List.take_of_length_le h, List.drop_eq_nil_of_le h]
theorem srtS_mid {lt : α → α → Bool} {L : List α} {i : Nat} (hi : i < L.length) : srtS lt L i = midS (insSort lt (L.take i)) (L.drop (i + 1)) L[i] i := by
  have hl : (insSort lt (L.take i)).length = i := by rw [insSort_len]; simp; omega
  rw [srtS, List.drop_eq_getElem_cons hi, midS]
  have := putAt_end (insSort lt (L.take i)) L[i]
  rw [hl] at this
  rw [this]; simp
theorem srtS_next {lt : α → α → Bool} {L : List α} {i j : Nat} (hi : i < L.length) (h : posK lt (insSort lt (L.take i)) L[i] i = j) : midS (insSort lt (L.take i)) (L.drop (i + 1)) L[i] j = srtS lt L (i + 1) := by
  have hl : (insSort lt (L.take i)).length = i := by rw [insSort_len]; simp; omega
  rw [srtS, insSort_take hi, ins, hl, h, midS]
theorem srtS_len (lt : α → α → Bool) (L : List α) (i : Nat) : (srtS lt L i).length = L.length := by
  simp [srtS, insSort_len]; omega
end Go.Lv
