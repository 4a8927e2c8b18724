/-
  A region whose order is drawn, in the world: all orders come to the text's. Conditions: the program follows every order (every checked program does).
-/
import Derived.Test.YtnoknihkmfbdbaaLvL
namespace Go.Lv

def setd (t : List V) (d : Option Tmp) (v : V) : List V :=
  match d with
  | some d => t.set d v
  | none => t

theorem put_eq (s : St) (d : Option Tmp) (v : V) : s.put d v = { s with t := setd s.t d v } := by cases d <;> rfl

section
variable (ops : Array Oper) (t0 : List V) (xs : Nat → V)

def dstOf (i : Nat) : Option Tmp := (ops[i]?).bind (·.dst)

/-- The slots when the operations of S below q have run, in the text's order. -/
def tS (S : Nat → Bool) : Nat → List V
  | 0 => t0
  | q + 1 => if S q then setd (tS S q) (dstOf ops q) (xs q) else tS S q

def all' : Nat → Bool := fun _ => true

theorem tS_all (q : Nat) : tS ops t0 xs all' (q + 1) = setd (tS ops t0 xs all' q) (dstOf ops q) (xs q) := by simp [tS, all']

theorem length_setd (t : List V) (d : Option Tmp) (v : V) : (setd t d v).length = t.length := by cases d <;> simp [setd]

theorem length_tS (S : Nat → Bool) : ∀ q, (tS ops t0 xs S q).length = t0.length
  | 0 => rfl
  | q + 1 => by
    simp only [tS]
    split
    · rw [length_setd]; exact length_tS S q
    · exact length_tS S q

theorem getD_setd (t : List V) (d : Option Tmp) (v : V) (u : Nat) (hu : u < t.length) : (setd t d v).getD u .undef = if d = some u then v else t.getD u .undef := by
  cases d with
  | none => simp [setd]
  | some d =>
    simp only [setd, List.getD_eq_getElem?_getD, List.getElem?_set, Option.some.injEq]
    by_cases e : d = u
    · subst e; simp [hu]
    · simp [e]

/-- A slot depends on its writers alone. -/
theorem getD_tS (S S' : Nat → Bool) (u : Nat) (hu : u < t0.length) : ∀ q, (∀ i, i < q → dstOf ops i = some u → S i = S' i) → (tS ops t0 xs S q).getD u .undef = (tS ops t0 xs S' q).getD u .undef
  | 0, _ => rfl
  | q + 1, h => by
    have ih := getD_tS S S' u hu q (fun i hi hd => h i (by omega) hd)
    simp only [tS]
    by_cases hd : dstOf ops q = some u
    · rw [h q (by omega) hd]
      split
      · rw [getD_setd _ _ _ _ (by rw [length_tS]; exact hu), getD_setd _ _ _ _ (by rw [length_tS]; exact hu), if_pos hd, if_pos hd]
      · exact ih
    · have e : ∀ T, (if S q then setd (tS ops t0 xs T q) (dstOf ops q) (xs q) else tS ops t0 xs T q).getD u .undef = (tS ops t0 xs T q).getD u .undef := by
        intro T
        split
        · rw [getD_setd _ _ _ _ (by rw [length_tS]; exact hu), if_neg hd]
        · rfl
      have e' : ∀ T, (if S' q then setd (tS ops t0 xs T q) (dstOf ops q) (xs q) else tS ops t0 xs T q).getD u .undef = (tS ops t0 xs T q).getD u .undef := by
        intro T
        split
        · rw [getD_setd _ _ _ _ (by rw [length_tS]; exact hu), if_neg hd]
        · rfl
      rw [e, e', ih]

/-- Writers from k on that have not run change nothing. -/
theorem getD_tS_stop (S : Nat → Bool) (u : Nat) (hu : u < t0.length) (k : Nat) : ∀ q, k ≤ q → (∀ i, k ≤ i → i < q → dstOf ops i = some u → S i = false) → (tS ops t0 xs S q).getD u .undef = (tS ops t0 xs S k).getD u .undef
  | 0, h, _ => by have : k = 0 := by omega
                  subst this; rfl
  | q + 1, h, hs => by
    by_cases e : k = q + 1
    · subst e; rfl
    · have ih := getD_tS_stop S u hu k q (by omega) (fun i h1 h2 hd => hs i h1 (by omega) hd)
      simp only [tS]
      by_cases hd : dstOf ops q = some u
      · rw [hs q (by omega) (by omega) hd]
        exact ih
      · split
        · rw [getD_setd _ _ _ _ (by rw [length_tS]; exact hu), if_neg hd]
          exact ih
        · exact ih

/-- If the writers of u that have run are those below i, the slot is as the text has it before i. -/
theorem getD_tS_at (S : Nat → Bool) (u i p : Nat) (hip : i ≤ p) (h : ∀ j, j < p → dstOf ops j = some u → (S j = true ↔ j < i)) :
    (tS ops t0 xs S p).getD u .undef = (tS ops t0 xs all' i).getD u .undef := by
  by_cases hu : u < t0.length
  · rw [getD_tS_stop ops t0 xs S u hu i p hip (fun j h1 h2 hd => by
      have := h j h2 hd
      cases hs : S j
      · rfl
      · have := this.1 hs; omega)]
    exact getD_tS ops t0 xs S all' u hu i (fun j hj hd => by
      have := h j (by omega) hd
      rw [this.2 hj]; rfl)
  · have e : ∀ (l : List V), l.length = t0.length → l.getD u .undef = .undef := fun l hl => by
      rw [List.getD_eq_getElem?_getD, List.getElem?_eq_none (by omega)]; rfl
    rw [e _ (length_tS ..), e _ (length_tS ..)]

end

theorem list_ext_getD {l l' : List V} (hl : l.length = l'.length) (h : ∀ u, u < l.length → l.getD u .undef = l'.getD u .undef) : l = l' := by
  apply List.ext_getElem hl
  intro u h1 h2
  have := h u h1
  simpa [List.getD_eq_getElem?_getD, h1, h2] using this

/-- One step of the text's path. -/
def Go1 (P : Program) (ops : Array Oper) (h : Hp) (o : Oper) (t : List V) (x : V) : Prop :=
  gdA ops t o.guard (kop P h (ev t) o.op fun y => y = x) (x = .skip)

theorem gdA_det {ops : Array Oper} {t : List V} {g : Option (Nat × Bool)} {F : (V → Prop) → Prop} (hF : Det F) {K : V → Prop} (hq : gdA ops t g (F K) (K .skip)) :
    ∃ x, K x ∧ gdA ops t g (F fun y => y = x) (x = .skip) := by
  unfold gdA at *
  cases g with
  | none => exact hF K hq
  | some jw =>
    obtain ⟨j, want⟩ := jw
    dsimp only at *
    unfold guardA at *
    split at hq
    · rename_i b hb
      by_cases e : b = want
      · obtain ⟨x, h1, h2⟩ := hF K (hq.1 e)
        exact ⟨x, h1, fun _ => h2, fun e2 => by subst e; cases b <;> simp at e2⟩
      · have e' : b = !want := by cases b <;> cases want <;> simp_all
        exact ⟨.skip, hq.2 e', fun e2 => absurd e2 e, fun _ => rfl⟩
    · exact ⟨.skip, hq, rfl⟩
    · exact hq.elim

section
variable {P : Program} {ops : Array Oper} {p : Nat} {B : Nat → Nat → Prop}

/-- The text's path through the quiet part, and what is left. -/
theorem dops_path (D : DrawOk ops p B) {s : St} {K : St → Prop} (hq : dopsA P ops ops.toList s K) : ∀ k, k ≤ p → ∃ xs : Nat → V,
    (∀ i o, i < k → ops[i]? = some o → Go1 P ops s.h o (tS ops s.t xs all' i) (xs i)) ∧ dopsA P ops (ops.toList.drop k) { s with t := tS ops s.t xs all' k } K
  | 0, _ => ⟨fun _ => .undef, fun i o hi => absurd hi (by omega), by simpa [tS] using hq⟩
  | k + 1, hk => by
    obtain ⟨xs, h1, h2⟩ := dops_path D hq k (by omega)
    have hlt : k < ops.size := by have := D.le; omega
    have hget : ops[k]? = some ops[k] := Array.getElem?_eq_getElem hlt
    have hdrop : ops.toList.drop k = ops[k] :: ops.toList.drop (k + 1) := by
      rw [List.drop_eq_getElem_cons (by simpa using hlt)]
      simp
    rw [hdrop] at h2
    unfold dopsA at h2
    rw [if_pos (D.q k _ (by omega) hget)] at h2
    obtain ⟨x, h3, h4⟩ := gdA_det (kop_det P s.h (ev (tS ops s.t xs all' k)) ops[k].op) h2
    have agree : ∀ i, i ≤ k → tS ops s.t (fun j => if j = k then x else xs j) all' i = tS ops s.t xs all' i := by
      intro i
      induction i with
      | zero => intro _; rfl
      | succ i ih =>
        intro hi
        rw [tS_all, tS_all, ih (by omega), if_neg (by omega)]
    refine ⟨fun j => if j = k then x else xs j, fun i o hi ho => ?_, ?_⟩
    · rw [agree i (by omega)]
      by_cases e : i = k
      · subst e
        rw [hget] at ho; simp at ho; subst ho
        simp only [if_true]
        exact h4
      · simp only [if_neg e]
        exact h1 i o (by omega) ho
    · have e1 : tS ops s.t (fun j => if j = k then x else xs j) all' (k + 1) = setd (tS ops s.t xs all' k) ops[k].dst x := by
        rw [tS_all, agree k (Nat.le_refl _)]
        simp [dstOf, hget]
      rw [e1]
      rw [put_eq] at h3
      exact h3

/-- The number of operations that have not run. -/
def left (n : Nat) (listed : Array Bool) : Nat := ((List.range n).filter fun i => !listed.getD i true).length

theorem filter_lt {f g : Nat → Bool} {i : Nat} : ∀ (l : List Nat), i ∈ l → (∀ j, g j = true → f j = true) → f i = true → g i = false → (l.filter g).length < (l.filter f).length
  | [], h, _, _, _ => by simp at h
  | x :: l, h, hgf, hf, hg => by
    have le : ∀ (l : List Nat), (l.filter g).length ≤ (l.filter f).length := by
      intro l
      induction l with
      | nil => simp
      | cons y l ih =>
        simp only [List.filter_cons]
        cases hgy : g y
        · cases f y <;> simp <;> omega
        · rw [hgf y hgy]; simp; omega
    simp only [List.filter_cons]
    by_cases e : x = i
    · subst e
      rw [hf, hg]
      simp
      have := le l; omega
    · have hm : i ∈ l := by simpa [Ne.symm e] using h
      have ih := filter_lt l hm hgf hf hg
      cases hgx : g x
      · cases f x <;> simp <;> omega
      · rw [hgf x hgx]; simp; omega

theorem left_set {n : Nat} {listed : Array Bool} {i : Nat} (hi : i < n) (hl : listed.size = n) (h : listed.getD i true = false) : left n (listed.setIfInBounds i true) < left n listed := by
  unfold left
  refine filter_lt (List.range n) (List.mem_range.2 hi) (fun j hj => ?_) (by simp [h]) ?_
  · by_cases e : i = j
    · subst e; simp [show i < listed.size from by omega] at hj
    · rw [getD_set_ne true e] at hj; exact hj
  · simp [show i < listed.size from by omega]

theorem getD_tf {listed : Array Bool} {i : Nat} (hi : i < listed.size) : listed.getD i true = listed.getD i false := by simp [Array.getD, hi]

end
end Go.Lv
