/-
  Bulletins: counts by depth. Conditions: none.
-/
import Derived.Test.YtekhnmibkkinaaaF24
import Derived.Test.YtekhnmibkkinaaaRev
import Derived.Test.YtekhnmibkkinaaaTIntS
set_option linter.unusedSimpArgs false
set_option linter.unusedVariables false
set_option maxRecDepth 100000
namespace Go.Proofs
open Go.Lv
def limsB (K : List Int) : Bool := decide (1 ≤ K.length) && listedB (fun n => inB' n 1 700) (fun n => n) 6 K
/-- In which layer a depth lies: the number of limits ahead that it reaches. -/
def layer (K : List Int) (d : Int) : Nat := (K.takeWhile (fun l => decide (l ≤ d))).length
theorem layer_le (K : List Int) (d : Int) : layer K d ≤ K.length := by
  unfold layer; exact List.takeWhile_prefix (p := fun l => decide (l ≤ d)) |>.length_le
theorem layer_ge {K : List Int} {d : Int} : ∀ {k : Nat}, (∀ j (hj : j < K.length), j < k → K[j] ≤ d) → k ≤ K.length → k ≤ layer K d := by
  unfold layer
  induction K with
  | nil => intro k _ h; simpa using h
  | cons l K ih =>
    intro k h1 h2
    cases k with
    | zero => omega
    | succ k =>
      have h0 : l ≤ d := h1 0 (by simp) (by omega)
      rw [List.takeWhile_cons_of_pos (by simpa using h0), List.length_cons]
      have := ih (k := k) (fun j hj hjk => by have := h1 (j + 1) (by simpa using hj) (by omega); rwa [List.getElem_cons_succ] at this) (by simpa using h2)
      omega
theorem layer_eq {K : List Int} {d : Int} {k : Nat} (h1 : ∀ j (hj : j < K.length), j < k → K[j] ≤ d) (hk : k ≤ K.length) (h2 : ∀ hk : k < K.length, d < K[k]) : layer K d = k := by
  have ge := layer_ge h1 hk
  rcases Nat.lt_or_ge k (layer K d) with h | h
  · have hkl : k < K.length := Nat.lt_of_lt_of_le h (layer_le K d)
    have := h2 hkl
    have hall : K[k] ≤ d := by
      have hm : K[k] ∈ K.takeWhile (fun l => decide (l ≤ d)) := by
        have e : (K.takeWhile (fun l => decide (l ≤ d)))[k]'h = K[k] := (List.takeWhile_prefix (p := fun l => decide (l ≤ d))).getElem h
        rw [← e]
        exact List.getElem_mem _
      have := List.all_eq_true.1 (List.all_takeWhile (p := fun l => decide (l ≤ d)) (l := K)) _ hm
      simpa using this
    omega
  · omega
/-- The counts. -/
def bump (C : List Int) (k : Nat) : List Int := C.set k (C.getD k 0 + 1)
def depthTo (K : List Int) (L : List QuakeRow) : List Int := L.foldl (fun C r => bump C (layer K r.Deep)) (List.replicate (K.length + 1) 0)
theorem depthTo_succ (K : List Int) {L : List QuakeRow} {i : Nat} (hi : i < L.length) : depthTo K (L.take (i + 1)) = bump (depthTo K (L.take i)) (layer K L[i].Deep) := by
  rw [List.take_succ_eq_append_getElem hi, depthTo, List.foldl_append]; rfl
theorem bump_len (C : List Int) (k : Nat) : (bump C k).length = C.length := by simp [bump]
theorem depthTo_len (K : List Int) {L : List QuakeRow} : ∀ i, i ≤ L.length → (depthTo K (L.take i)).length = K.length + 1
  | 0, _ => by simp [depthTo]
  | i + 1, hi => by rw [depthTo_succ K (by omega : i < L.length), bump_len, depthTo_len K i (by omega)]
theorem depthTo_bd (K : List Int) {L : List QuakeRow} : ∀ i, i ≤ L.length → ∀ x ∈ depthTo K (L.take i), 0 ≤ x ∧ x ≤ i
  | 0, _ => by intro x hx; simp [depthTo] at hx; omega
  | i + 1, hi => by
    intro x hx
    rw [depthTo_succ K (by omega : i < L.length), bump] at hx
    have ih := depthTo_bd K (L := L) i (by omega)
    rcases List.mem_or_eq_of_mem_set hx with h | h
    · have := ih x h; omega
    · subst h
      rw [List.getD_eq_getElem?_getD]
      cases h : (depthTo K (L.take i))[layer K (L[i]'(by omega)).Deep]? with
      | none => simp; omega
      | some y => have := ih y (List.mem_of_getElem? h); simp; omega
def depthR (L : List QuakeRow) (K : List Int) : Option (List Int) := if bulB L = true ∧ limsB K = true then some (depthTo K L) else none
theorem limsB_ok {K : List Int} (h : limsB K = true) : 1 ≤ K.length ∧ K.length ≤ 6 ∧ (∀ x ∈ K, 1 ≤ x ∧ x ≤ 700) := by
  simp only [limsB, Bool.and_eq_true, decide_eq_true_eq] at h
  obtain ⟨h1, h2⟩ := listedB_all h.2
  exact ⟨h.1, h2, fun x hx => inB'_iff.1 (h1 x hx)⟩
theorem zrow_ints (n : Nat) : zrow n [V.int .i64 0] = rows IntS.cs (List.replicate n 0) := by
  induction n with
  | zero => rfl
  | succ n ih =>
    have : zrow (n + 1) [V.int .i64 0] = zrow n [V.int .i64 0] ++ [V.int .i64 0] := by simp [zrow, List.range_succ, Nat.mod_one]
    rw [this, ih, List.replicate_succ', rowsOf_append]; rfl
def risB (lo up : Int) (K : List Int) : Bool := (List.range K.length).all (listedQ (fun n => inB' n lo up) (fun n => n) K)
end Go.Proofs
