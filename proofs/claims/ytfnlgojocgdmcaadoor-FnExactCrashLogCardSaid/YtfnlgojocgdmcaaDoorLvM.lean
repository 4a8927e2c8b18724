/-
  A region whose order is drawn: the order of the text stands for all. Conditions: the region's own edges, by a closed check.
-/
import Derived.Test.YtfnlgojocgdmcaaDoorLvL
set_option linter.unusedSimpArgs false
set_option linter.unusedVariables false
namespace Go.Lv

/-- Whether the put-off operations leave both slots alone. -/
def clr (u v : Tmp) : List Oper → Bool
  | [] => true
  | o :: D => (match o.dst with | some x => x != u && x != v | none => true) && clr u v D

/-- An operation that may be taken ahead of those that change blocks. -/
def takeOp (o : Oper) : Bool :=
  match o.guard with
  | none => match o.op with
    | .fieldAddr _ (.tmp _) _ => true
    | .indexAddr _ (.tmp _) (.tmp _) => true
    | .move (.tmp _) => true
    | .nilCheck (.tmp _) => true
    | _ => false
  | some _ => false

def takeAt (D : List Oper) (o : Oper) : Bool :=
  match o.dst, o.op with
  | some d, .fieldAddr _ (.tmp a) _ => clr a d D
  | some d, .indexAddr _ (.tmp a) (.tmp b) => clr a d D && clr b d D
  | some d, .move (.tmp a) => clr a d D
  | some d, .nilCheck (.tmp a) => clr a d D
  | _, _ => false

/-- Whether an operation waits for none from b on. -/
def edL (b : Nat) : List Edge → Bool
  | [] => true
  | e :: l => if e.on < b then edL b l else false
def edB (b : Nat) (after : Array Edge) : Bool := edL b after.toList

/-- Whether an operation runs in the quiet part; D: what has been put off, b: the place of the first of these. -/
def quietAt (b : Nat) (D : List Oper) (o : Oper) : Bool :=
  match D with
  | [] => quietOp o.op
  | _ :: _ => takeOp o && (takeAt D o && edB b o.after)

def nextB (b : Nat) (D : List Oper) : Nat :=
  match D with
  | [] => b + 1
  | _ :: _ => b

def dopsG (P : Program) (ops : Array Oper) : List Oper → Nat → List Oper → St → (St → Prop) → Prop
  | [], _, D, s, K => fopsA P ops D s K
  | o :: rest, b, D, s, K => if quietAt b D o = true then gdA ops s.t o.guard (gop P s.h (ev s.t) o.op fun v n => dopsG P ops rest (nextB b D) D (({ s with h := s.h ++ n } : St).put o.dst v) K) (dopsG P ops rest (nextB b D) D (s.put o.dst .skip) K)
    else dopsG P ops rest b (D ++ [o]) s K

/-- Which operations run in the quiet part. -/
def dRun : List Oper → Nat → List Oper → List Bool
  | [], _, _ => []
  | o :: l, b, D => if quietAt b D o then true :: dRun l (nextB b D) D else false :: dRun l b (D ++ [o])

def inB (b : Array Nat) (i j : Nat) : Bool := (b.getD i 0).testBit j

def clash (ops : Array Oper) (j i : Nat) : Bool :=
  match ops[j]?, ops[i]? with
  | some x, some o => match x.dst with
    | some u => (o.looksAt ops).contains u || o.dst == some u
    | none => false
  | _, _ => false

/-- An operation whose result hangs on its slots alone. -/
def pureK : Op → Bool
  | .fieldAddr _ (.tmp _) _ => true
  | .indexAddr _ (.tmp _) (.tmp _) => true
  | .move (.tmp _) => true
  | .pick (.tmp _) _ _ => true
  | .binOp _ _ _ _ _ => true
  | .extract (.tmp _) _ => true
  | .unOp .not _ _ => true
  | .nilCheck (.tmp _) => true
  | _ => false
def pureOp (o : Oper) : Bool := pureK o.op

/-- Whether operation k may go first once it is ready. -/
def tkB (ops : Array Oper) (b : Array Nat) (k : Nat) : Bool :=
  match ops[k]? with
  | none => false
  | some o => pureOp o && (List.range ops.size).all fun j => match ops[j]? with
    | none => true
    | some o' => j == k || inB b k j || (o'.after.toList.any fun e => Region.binds .any e && e.on == k) || o.apart ops o'

/-- The closed check of a region's edges. -/
def drawOk (ops : Array Oper) : Bool :=
  let b := Region.before ops
  let zl := dRun ops.toList 0 []
  (List.range ops.size).all fun i => match ops[i]? with
    | none => false
    | some o =>
      ((List.range ops.size).all fun j => !(inB b i j) || o.after.toList.any fun e => Region.binds .any e && (e.on == j || inB b e.on j)) &&
      (o.after.toList.all fun e => !(Region.binds .any e) || decide (e.on < i)) &&
      (match o.op with | .select _ _ => false | _ => true) &&
      (match zl.getD i false with
        | true => (o.after.toList.all fun e => !(Region.binds .any e) || zl.getD e.on false) &&
          (List.range ops.size).all fun j => !(zl.getD j false) || j == i || !(clash ops j i) || (if j < i then inB b i j else inB b j i)
        | false => (List.range ops.size).all fun j => match zl.getD j false with
          | true => inB b i j || tkB ops b j
          | false => !(decide (j < i)) || inB b i j)

structure DrawOk (ops : Array Oper) (z : Nat → Bool) (B : Nat → Nat → Prop) (tk : Nat → Bool) (la : Nat → Bool := fun _ => false) : Prop where
  clo : ∀ (i : Nat) (o : Oper) (j : Nat), ops[i]? = some o → B i j → ∃ e ∈ o.after, Region.binds .any e = true ∧ (e.on = j ∨ B e.on j)
  lt : ∀ (i : Nat) (o : Oper), ops[i]? = some o → ∀ e ∈ o.after, Region.binds .any e = true → e.on < i
  cl : ∀ i j, i < ops.size → j < ops.size → z i = true → z j = true → j ≠ i → clash ops j i = true → (j < i → B i j) ∧ (i < j → B j i)
  noq : ∀ (i : Nat) (o : Oper), ops[i]? = some o → z i = true → ∀ e ∈ o.after, Region.binds .any e = true → z e.on = true
  mix : ∀ i j, i < ops.size → j < ops.size → z i = false → z j = true → B i j ∨ tk j = true ∨ la i = true
  bar : ∀ i j, i < ops.size → z i = false → j < i → z j = false → B i j
  take : ∀ (k : Nat) (o : Oper), ops[k]? = some o → tk k = true → pureOp o = true ∧ ∀ (j : Nat) (o' : Oper), ops[j]? = some o' → j ≠ k → ¬ B k j → (∀ e ∈ o'.after, Region.binds .any e = true → e.on ≠ k) → o.apart ops o' = true
  sel : ∀ (i : Nat) (o : Oper) (cs : Array SelectCase) (b : Bool), ops[i]? = some o → o.op ≠ .select cs b

def zOf (ops : Array Oper) (i : Nat) : Bool := (dRun ops.toList 0 []).getD i false

theorem drawOk_some {ops : Array Oper} (hd : drawOk ops = true) : DrawOk ops (zOf ops) (fun i j => j < ops.size ∧ inB (Region.before ops) i j = true) (tkB ops (Region.before ops)) := by
  have h : ∀ i, i < ops.size → ∃ o, ops[i]? = some o ∧
      ((List.range ops.size).all fun j => !(inB (Region.before ops) i j) || o.after.toList.any fun e => Region.binds .any e && (e.on == j || inB (Region.before ops) e.on j)) = true ∧
      (o.after.toList.all fun e => !(Region.binds .any e) || decide (e.on < i)) = true ∧ (match o.op with | .select _ _ => false | _ => true) = true ∧
      (match zOf ops i with
        | true => (o.after.toList.all fun e => !(Region.binds .any e) || zOf ops e.on) &&
          (List.range ops.size).all fun j => !(zOf ops j) || j == i || !(clash ops j i) || (if j < i then inB (Region.before ops) i j else inB (Region.before ops) j i)
        | false => (List.range ops.size).all fun j => match zOf ops j with
          | true => inB (Region.before ops) i j || tkB ops (Region.before ops) j
          | false => !(decide (j < i)) || inB (Region.before ops) i j) = true := by
    intro i hi
    have := List.all_eq_true.1 hd i (List.mem_range.2 hi)
    split at this
    · cases this
    · rename_i o ho
      simp only [Bool.and_eq_true] at this
      exact ⟨o, ho, this.1.1.1, this.1.1.2, this.1.2, this.2⟩
  have lt_of : ∀ {i : Nat} {o : Oper}, ops[i]? = some o → i < ops.size := fun h => (Array.getElem?_eq_some_iff.1 h).1
  refine ⟨fun i o j ho hB => ?_, fun i o ho e he hb => ?_, fun i j hi hj zi zj hne hc => ?_, fun i o ho zi e he hb => ?_, fun i j hi hj zi zj => ?_, fun i j hi zi hj zj => ?_, fun k o ho ht => ?_, fun i o cs b ho => ?_⟩
  · obtain ⟨o', ho', h1, _⟩ := h i (lt_of ho)
    rw [ho] at ho'; simp at ho'; subst ho'
    have := List.all_eq_true.1 h1 j (List.mem_range.2 hB.1)
    simp only [hB.2, Bool.not_true, Bool.false_or, List.any_eq_true, Bool.and_eq_true, Bool.or_eq_true, beq_iff_eq] at this
    obtain ⟨e, he, hb, hc⟩ := this
    exact ⟨e, by simpa using he, hb, hc.imp (fun h => h) (fun h => ⟨hB.1, h⟩)⟩
  · obtain ⟨o', ho', _, h2, _⟩ := h i (lt_of ho)
    rw [ho] at ho'; simp at ho'; subst ho'
    have := List.all_eq_true.1 h2 e (by simpa using he)
    simpa [hb] using this
  · obtain ⟨o', ho', _, _, _, h3⟩ := h i hi
    rw [zi] at h3
    simp only [Bool.and_eq_true] at h3
    have := List.all_eq_true.1 h3.2 j (List.mem_range.2 hj)
    have hne' : (j == i) = false := by simpa using hne
    rw [hne', hc, zj] at this
    simp only [Bool.not_true, Bool.false_or] at this
    refine ⟨fun hlt => ⟨by omega, by rw [if_pos hlt] at this; exact this⟩, fun hlt => ⟨by omega, by rw [if_neg (by omega)] at this; exact this⟩⟩
  · obtain ⟨o', ho', _, _, _, h3⟩ := h i (lt_of ho)
    rw [ho] at ho'; simp at ho'; subst ho'
    rw [zi] at h3
    simp only [Bool.and_eq_true] at h3
    have := List.all_eq_true.1 h3.1 e (by simpa using he)
    simpa [hb] using this
  · obtain ⟨o', ho', _, _, _, h3⟩ := h i hi
    rw [zi] at h3
    have := List.all_eq_true.1 h3 j (List.mem_range.2 hj)
    rw [zj] at this
    simp only [Bool.or_eq_true] at this
    exact this.imp (fun h => ⟨hj, h⟩) (fun h => .inl h)
  · obtain ⟨o', ho', _, _, _, h3⟩ := h i hi
    rw [zi] at h3
    have := List.all_eq_true.1 h3 j (List.mem_range.2 (by omega))
    rw [zj] at this
    simp only [decide_eq_true hj, Bool.not_true, Bool.false_or] at this
    exact ⟨by omega, this⟩
  · unfold tkB at ht
    rw [ho] at ht
    simp only [Bool.and_eq_true] at ht
    refine ⟨ht.1, fun j o' ho' hne hB hall => ?_⟩
    have := List.all_eq_true.1 ht.2 j (List.mem_range.2 (lt_of ho'))
    rw [ho'] at this
    simp only [Bool.or_eq_true, beq_iff_eq, List.any_eq_true, Bool.and_eq_true] at this
    rcases this with ((h1 | h1) | ⟨e, he, hb, h1⟩) | h1
    · exact absurd h1 hne
    · exact absurd ⟨lt_of ho', h1⟩ hB
    · exact absurd h1 (hall e (by simpa using he) hb)
    · exact h1
  · obtain ⟨o', ho', _, _, h5, _⟩ := h i (lt_of ho)
    rw [ho] at ho'; simp at ho'; subst ho'
    intro e
    rw [e] at h5
    cases h5

def setd (t : List V) (d : Option Tmp) (v : V) : List V :=
  match d with
  | some d => t.set d v
  | none => t

theorem put_eq (s : St) (d : Option Tmp) (v : V) : s.put d v = { s with t := setd s.t d v } := by cases d <;> rfl

section
variable (ops : Array Oper) (t0 : List V) (xs : Nat → V)

def dstOf (i : Nat) : Option Tmp := (ops[i]?).bind (·.dst)

/-- The slots when the operations of S below q have run, in the text's order. -/
def tS (S : Nat → Bool) : Nat → List V
  | 0 => t0
  | q + 1 => if S q then setd (tS S q) (dstOf ops q) (xs q) else tS S q

theorem length_setd (t : List V) (d : Option Tmp) (v : V) : (setd t d v).length = t.length := by cases d <;> simp [setd]

theorem length_tS (S : Nat → Bool) : ∀ q, (tS ops t0 xs S q).length = t0.length
  | 0 => rfl
  | q + 1 => by
    simp only [tS]
    split
    · rw [length_setd]; exact length_tS S q
    · exact length_tS S q

theorem getD_setd (t : List V) (d : Option Tmp) (v : V) (u : Nat) (hu : u < t.length) : (setd t d v).getD u .undef = if d = some u then v else t.getD u .undef := by
  cases d with
  | none => simp [setd]
  | some d =>
    simp only [setd, List.getD_eq_getElem?_getD, List.getElem?_set, Option.some.injEq]
    by_cases e : d = u
    · subst e; simp [hu]
    · simp [e]

/-- A slot depends on its writers alone. -/
theorem getD_tS (S S' : Nat → Bool) (u : Nat) (hu : u < t0.length) : ∀ q, (∀ i, i < q → dstOf ops i = some u → S i = S' i) → (tS ops t0 xs S q).getD u .undef = (tS ops t0 xs S' q).getD u .undef
  | 0, _ => rfl
  | q + 1, h => by
    have ih := getD_tS S S' u hu q (fun i hi hd => h i (by omega) hd)
    simp only [tS]
    by_cases hd : dstOf ops q = some u
    · rw [h q (by omega) hd]
      split
      · rw [getD_setd _ _ _ _ (by rw [length_tS]; exact hu), getD_setd _ _ _ _ (by rw [length_tS]; exact hu), if_pos hd, if_pos hd]
      · exact ih
    · have e : ∀ T, (if S q then setd (tS ops t0 xs T q) (dstOf ops q) (xs q) else tS ops t0 xs T q).getD u .undef = (tS ops t0 xs T q).getD u .undef := by
        intro T
        split
        · rw [getD_setd _ _ _ _ (by rw [length_tS]; exact hu), if_neg hd]
        · rfl
      have e' : ∀ T, (if S' q then setd (tS ops t0 xs T q) (dstOf ops q) (xs q) else tS ops t0 xs T q).getD u .undef = (tS ops t0 xs T q).getD u .undef := by
        intro T
        split
        · rw [getD_setd _ _ _ _ (by rw [length_tS]; exact hu), if_neg hd]
        · rfl
      rw [e, e', ih]

/-- Writers from k on that have not run change nothing. -/
theorem getD_tS_stop (S : Nat → Bool) (u : Nat) (hu : u < t0.length) (k : Nat) : ∀ q, k ≤ q → (∀ i, k ≤ i → i < q → dstOf ops i = some u → S i = false) → (tS ops t0 xs S q).getD u .undef = (tS ops t0 xs S k).getD u .undef
  | 0, h, _ => by have : k = 0 := by omega
                  subst this; rfl
  | q + 1, h, hs => by
    by_cases e : k = q + 1
    · subst e; rfl
    · have ih := getD_tS_stop S u hu k q (by omega) (fun i h1 h2 hd => hs i h1 (by omega) hd)
      simp only [tS]
      by_cases hd : dstOf ops q = some u
      · rw [hs q (by omega) (by omega) hd]
        exact ih
      · split
        · rw [getD_setd _ _ _ _ (by rw [length_tS]; exact hu), if_neg hd]
          exact ih
        · exact ih

/-- If the writers of u that have run are those of z below i, the slot is as the text has it before i. -/
theorem getD_tS_at (S z : Nat → Bool) (u i p : Nat) (hip : i ≤ p) (h : ∀ j, j < p → dstOf ops j = some u → (S j = true ↔ j < i ∧ z j = true)) :
    (tS ops t0 xs S p).getD u .undef = (tS ops t0 xs z i).getD u .undef := by
  by_cases hu : u < t0.length
  · rw [getD_tS_stop ops t0 xs S u hu i p hip (fun j h1 h2 hd => by
      have := h j h2 hd
      cases hs : S j
      · rfl
      · have := (this.1 hs).1; omega)]
    exact getD_tS ops t0 xs S z u hu i (fun j hj hd => by
      have := h j (by omega) hd
      cases hz : z j
      · cases hs : S j
        · rfl
        · rw [(this.1 hs).2] at hz; cases hz
      · exact this.2 ⟨hj, hz⟩)
  · have e : ∀ (l : List V), l.length = t0.length → l.getD u .undef = .undef := fun l hl => by
      rw [List.getD_eq_getElem?_getD, List.getElem?_eq_none (by omega)]; rfl
    rw [e _ (length_tS ..), e _ (length_tS ..)]

end

theorem list_ext_getD {l l' : List V} (hl : l.length = l'.length) (h : ∀ u, u < l.length → l.getD u .undef = l'.getD u .undef) : l = l' := by
  apply List.ext_getElem hl
  intro u h1 h2
  have := h u h1
  simpa [List.getD_eq_getElem?_getD, h1, h2] using this

/-- The blocks when the operations of S have run: each quiet operation has its place. -/
def hS (h0 : Hp) (ns : Nat → Hp) (z S : Nat → Bool) : Nat → Hp
  | 0 => h0
  | q + 1 => if z q then hS h0 ns z S q ++ (if S q then ns q else List.replicate (ns q).length none) else hS h0 ns z S q

section
variable (h0 : Hp) (ns : Nat → Hp) (z : Nat → Bool)

theorem hS_len (S S' : Nat → Bool) : ∀ q, (hS h0 ns z S q).length = (hS h0 ns z S' q).length
  | 0 => rfl
  | q + 1 => by
    have := hS_len S S' q
    simp only [hS]
    split
    · simp only [List.length_append, this]
      split <;> split <;> simp
    · exact this

theorem hS_congr {S S' : Nat → Bool} : ∀ q, (∀ i, i < q → z i = true → S i = S' i) → hS h0 ns z S q = hS h0 ns z S' q
  | 0, _ => rfl
  | q + 1, h => by
    simp only [hS]
    rw [hS_congr q (fun i hi => h i (by omega))]
    split
    · rename_i hz; rw [h q (by omega) hz]
    · rfl

theorem hS_le (S : Nat → Bool) : ∀ q, h0.length ≤ (hS h0 ns z S q).length
  | 0 => Nat.le_refl _
  | q + 1 => by
    have := hS_le S q
    simp only [hS]
    split
    · simp only [List.length_append]; omega
    · exact this

/-- What lies behind an operation's place. -/
theorem hS_tail (S : Nat → Bool) (i : Nat) : ∀ q, i ≤ q → ∃ B : Hp, ∀ S' : Nat → Bool, (∀ j, i ≤ j → S' j = S j) → hS h0 ns z S' q = hS h0 ns z S' i ++ B
  | 0, h => ⟨[], fun S' _ => by have : i = 0 := by omega
                                subst this; simp⟩
  | q + 1, h => by
    by_cases e : i = q + 1
    · subst e; exact ⟨[], fun S' _ => by simp⟩
    · obtain ⟨B, hB⟩ := hS_tail S i q (by omega)
      by_cases hz : z q = true
      · refine ⟨B ++ (if S q then ns q else List.replicate (ns q).length none), fun S' hS' => ?_⟩
        simp only [hS, if_pos hz]
        rw [hB S' hS', hS' q (by omega), List.append_assoc]
      · refine ⟨B, fun S' hS' => ?_⟩
        simp only [hS, if_neg hz]
        exact hB S' hS'

theorem hS_cmp (S : Nat → Bool) : ∀ (q id : Nat), (hS h0 ns z S q)[id]? = (hS h0 ns z z q)[id]? ∨ (hS h0 ns z S q)[id]? = some none
  | 0, id => .inl rfl
  | q + 1, id => by
    have ih := hS_cmp S q id
    have hl := hS_len h0 ns z S z q
    by_cases hz : z q = true
    · simp only [hS, hz, if_true]
      rcases Nat.lt_or_ge id (hS h0 ns z S q).length with h | h
      · rw [List.getElem?_append_left h, List.getElem?_append_left (by omega)]
        exact ih
      · rw [List.getElem?_append_right h, List.getElem?_append_right (by omega), hl]
        by_cases hs : S q = true
        · rw [if_pos hs]; exact .inl rfl
        · rw [if_neg hs]
          rcases Nat.lt_or_ge (id - (hS h0 ns z z q).length) (ns q).length with h2 | h2
          · refine .inr ?_
            rw [List.getElem?_replicate, if_pos h2]
          · refine .inl ?_
            rw [List.getElem?_replicate, if_neg (by omega), List.getElem?_eq_none h2]
    · simp only [hS, hz]
      exact ih

theorem hS_same (S : Nat → Bool) {k q : Nat} (hk : k ≤ q) (id : Nat) (cs cs' : List V) (h1 : (hS h0 ns z S q)[id]? = some (some cs)) (h2 : (hS h0 ns z z k)[id]? = some (some cs')) : cs = cs' := by
  obtain ⟨B, hB⟩ := hS_tail h0 ns z z k q hk
  have h3 : (hS h0 ns z z q)[id]? = some (some cs') := by
    rw [hB z (fun _ _ => rfl), List.getElem?_append_left (List.getElem?_eq_some_iff.1 h2).1]
    exact h2
  rcases hS_cmp h0 ns z S q id with h | h
  · rw [h1, h3] at h; simpa using h
  · rw [h1] at h; cases h

theorem placeH_mid : ∀ (bs A B : Hp), placeH (A ++ List.replicate bs.length none ++ B) A.length bs = A ++ bs ++ B
  | [], A, B => by simp [placeH]
  | b :: bs, A, B => by
    show placeH ((A ++ List.replicate (bs.length + 1) none ++ B).set A.length b) (A.length + 1) bs = _
    have e : (A ++ List.replicate (bs.length + 1) none ++ B).set A.length b = (A ++ [b]) ++ List.replicate bs.length none ++ B := by
      rw [List.append_assoc, List.set_append_right _ _ (Nat.le_refl _), Nat.sub_self, List.replicate_succ]
      simp
    rw [e]
    have := placeH_mid bs (A ++ [b]) B
    simp only [List.length_append, List.length_singleton] at this
    rw [this]
    simp

theorem hS_none (S : Nat → Bool) {i q : Nat} (hi : i < q) (hz : z i = true) (hs : S i = false) (j : Nat) (hj : j < (ns i).length) : (hS h0 ns z S q)[(hS h0 ns z z i).length + j]? = some none := by
  obtain ⟨B, hB⟩ := hS_tail h0 ns z S (i + 1) q (by omega)
  rw [hB S (fun _ _ => rfl)]
  simp only [hS, hz, if_true, hs]
  rw [hS_len h0 ns z z S i, List.append_assoc, List.getElem?_append_right (by omega), Nat.add_sub_cancel_left]
  simp only [Bool.false_eq_true, if_false]
  rw [List.getElem?_append_left (by simpa using hj), List.getElem?_replicate, if_pos hj]

theorem hS_place (S S' : Nat → Bool) {i q : Nat} (hi : i < q) (hz : z i = true) (hs : S i = false) (hs' : S' i = true) (he : ∀ j, j ≠ i → S' j = S j) : placeH (hS h0 ns z S q) (hS h0 ns z z i).length (ns i) = hS h0 ns z S' q := by
  obtain ⟨B, hB⟩ := hS_tail h0 ns z S (i + 1) q (by omega)
  rw [hB S (fun _ _ => rfl), hB S' (fun j hj => he j (by omega))]
  simp only [hS, hz, if_true, hs, hs', Bool.false_eq_true, if_false]
  rw [hS_congr h0 ns z (S := S') (S' := S) i (fun j hj _ => he j (by omega)), hS_len h0 ns z z S i]
  exact placeH_mid _ _ _

theorem hS_start : ∀ q, ∃ k, hS h0 ns z (fun _ => false) q = h0 ++ List.replicate k none
  | 0 => ⟨0, by simp [hS]⟩
  | q + 1 => by
    obtain ⟨k, hk⟩ := hS_start q
    simp only [hS, hk]
    split
    · exact ⟨k + (ns q).length, by simp only [Bool.false_eq_true, if_false]; rw [List.append_assoc, List.replicate_append_replicate]⟩
    · exact ⟨k, rfl⟩

end

/-- One step of the text's path. -/
def Go2 (P : Program) (ops : Array Oper) (h : Hp) (o : Oper) (t : List V) (x : V) (n : Hp) : Prop :=
  gdA ops t o.guard (gop P h (ev t) o.op fun y m => y = x ∧ m = n) (x = .skip ∧ n = [])

theorem gdA_det {ops : Array Oper} {t : List V} {g : Option (Nat × Bool)} {F : (V → Hp → Prop) → Prop} (hF : Det2 F) {K : V → Hp → Prop} (hq : gdA ops t g (F K) (K .skip [])) :
    ∃ x n, K x n ∧ gdA ops t g (F fun y m => y = x ∧ m = n) (x = .skip ∧ n = []) := by
  unfold gdA at *
  cases g with
  | none => exact hF K hq
  | some jw =>
    obtain ⟨j, want⟩ := jw
    dsimp only at *
    unfold guardA at *
    split at hq
    · rename_i b hb
      by_cases e : b = want
      · obtain ⟨x, n, h1, h2⟩ := hF K (hq.1 e)
        exact ⟨x, n, h1, fun _ => h2, fun e2 => by subst e; cases b <;> simp at e2⟩
      · have e' : b = !want := by cases b <;> cases want <;> simp_all
        exact ⟨.skip, [], hq.2 e', fun e2 => absurd e2 e, fun _ => ⟨rfl, rfl⟩⟩
    · exact ⟨.skip, [], hq, rfl, rfl⟩
    · exact hq.elim

/-- What is put off, from q on. -/
def restFrom (ops : Array Oper) (z : Nat → Bool) (q : Nat) : List Oper := ((List.range ops.size).drop q).filterMap fun i => if z i then none else ops[i]?

def restTo (ops : Array Oper) (z : Nat → Bool) (q : Nat) : List Oper := (List.range q).filterMap fun i => if z i then none else ops[i]?

section
variable {P : Program} {ops : Array Oper}

/-- The text's path, and what is left. -/
theorem dops_path {s : St} {K : St → Prop} (hq : dopsG P ops ops.toList 0 [] s K) : ∀ k, k ≤ ops.size → ∃ (xs : Nat → V) (ns : Nat → Hp) (b : Nat),
    (∀ i o, i < k → zOf ops i = true → ops[i]? = some o → Go2 P ops (hS s.h ns (zOf ops) (zOf ops) i) o (tS ops s.t xs (zOf ops) i) (xs i) (ns i)) ∧
    dRun (ops.toList.drop k) b (restTo ops (zOf ops) k) = (dRun ops.toList 0 []).drop k ∧
    dopsG P ops (ops.toList.drop k) b (restTo ops (zOf ops) k) { s with t := tS ops s.t xs (zOf ops) k, h := hS s.h ns (zOf ops) (zOf ops) k } K
  | 0, _ => ⟨fun _ => .undef, fun _ => [], 0, fun i o hi => absurd hi (by omega), by simp [restTo], by simpa [tS, hS, restTo] using hq⟩
  | k + 1, hk => by
    obtain ⟨xs, ns, b, h1, hr, h2⟩ := dops_path hq k (by omega)
    have hlt : k < ops.size := by omega
    have hget : ops[k]? = some ops[k] := Array.getElem?_eq_getElem hlt
    have hdrop : ops.toList.drop k = ops[k] :: ops.toList.drop (k + 1) := by
      rw [List.drop_eq_getElem_cons (by simpa using hlt)]
      simp
    rw [hdrop] at h2 hr
    have hrest : restTo ops (zOf ops) (k + 1) = if zOf ops k then restTo ops (zOf ops) k else restTo ops (zOf ops) k ++ [ops[k]] := by
      simp only [restTo, List.range_succ, List.filterMap_append, List.filterMap_cons, List.filterMap_nil, hget]
      cases zOf ops k <;> simp
    have hr1 : ∀ o l b D, dRun (o :: l) b D = if quietAt b D o then true :: dRun l (nextB b D) D else false :: dRun l b (D ++ [o]) := fun _ _ _ _ => rfl
    rw [hr1] at hr
    unfold dopsG at h2
    by_cases hz : quietAt b (restTo ops (zOf ops) k) ops[k] = true
    · rw [if_pos hz] at hr h2
      have hzk : zOf ops k = true := by
        unfold zOf
        have := congrArg List.head? hr
        simp only [List.head?_cons, List.head?_drop] at this
        rw [List.getD_eq_getElem?_getD, ← this]; rfl
      have hr2 : dRun (ops.toList.drop (k + 1)) (nextB b (restTo ops (zOf ops) k)) (restTo ops (zOf ops) (k + 1)) = (dRun ops.toList 0 []).drop (k + 1) := by
        have := congrArg List.tail hr
        simp only [List.tail_cons, List.tail_drop] at this
        rw [hrest, hzk, if_pos rfl, this]
      have h2' : gdA ops (tS ops s.t xs (zOf ops) k) ops[k].guard (gop P (hS s.h ns (zOf ops) (zOf ops) k) (ev (tS ops s.t xs (zOf ops) k)) ops[k].op fun v n =>
          dopsG P ops (ops.toList.drop (k + 1)) (nextB b (restTo ops (zOf ops) k)) (restTo ops (zOf ops) k) (({ s with t := tS ops s.t xs (zOf ops) k, h := hS s.h ns (zOf ops) (zOf ops) k ++ n } : St).put ops[k].dst v) K)
          (dopsG P ops (ops.toList.drop (k + 1)) (nextB b (restTo ops (zOf ops) k)) (restTo ops (zOf ops) k) (({ s with t := tS ops s.t xs (zOf ops) k, h := hS s.h ns (zOf ops) (zOf ops) k ++ [] } : St).put ops[k].dst .skip) K) := by
        rw [List.append_nil]; exact h2
      obtain ⟨x, n, h3, h4⟩ := gdA_det (gop_det P (hS s.h ns (zOf ops) (zOf ops) k) (ev (tS ops s.t xs (zOf ops) k)) ops[k].op)
        (K := fun v n => dopsG P ops (ops.toList.drop (k + 1)) (nextB b (restTo ops (zOf ops) k)) (restTo ops (zOf ops) k) (({ s with t := tS ops s.t xs (zOf ops) k, h := hS s.h ns (zOf ops) (zOf ops) k ++ n } : St).put ops[k].dst v) K) h2'
      have agree : ∀ i, i ≤ k → tS ops s.t (fun j => if j = k then x else xs j) (zOf ops) i = tS ops s.t xs (zOf ops) i := by
        intro i
        induction i with
        | zero => intro _; rfl
        | succ i ih =>
          intro hi
          simp only [tS]
          rw [ih (by omega)]
          simp only [if_neg (show ¬ i = k by omega)]
      have agreeH : ∀ i, i ≤ k → hS s.h (fun j => if j = k then n else ns j) (zOf ops) (zOf ops) i = hS s.h ns (zOf ops) (zOf ops) i := by
        intro i
        induction i with
        | zero => intro _; rfl
        | succ i ih =>
          intro hi
          simp only [hS]
          rw [ih (by omega)]
          simp only [if_neg (show ¬ i = k by omega)]
      refine ⟨fun j => if j = k then x else xs j, fun j => if j = k then n else ns j, _, fun i o hi zi ho => ?_, hr2, ?_⟩
      · rw [agree i (by omega), agreeH i (by omega)]
        by_cases e : i = k
        · subst e
          rw [hget] at ho; simp at ho; subst ho
          simp only [if_true]
          exact h4
        · simp only [if_neg e]
          exact h1 i o (by omega) zi ho
      · rw [hrest, hzk, if_pos rfl]
        have e1 : tS ops s.t (fun j => if j = k then x else xs j) (zOf ops) (k + 1) = setd (tS ops s.t xs (zOf ops) k) ops[k].dst x := by
          simp only [tS]
          rw [agree k (Nat.le_refl _), hzk]
          simp [dstOf, hget]
        have e2 : hS s.h (fun j => if j = k then n else ns j) (zOf ops) (zOf ops) (k + 1) = hS s.h ns (zOf ops) (zOf ops) k ++ n := by
          simp only [hS]
          rw [agreeH k (Nat.le_refl _), hzk]
          simp
        rw [e1, e2]
        rw [put_eq] at h3
        exact h3
    · rw [if_neg hz] at hr h2
      have hzk : zOf ops k = false := by
        unfold zOf
        have := congrArg List.head? hr
        simp only [List.head?_cons, List.head?_drop] at this
        rw [List.getD_eq_getElem?_getD, ← this]; rfl
      refine ⟨xs, ns, b, fun i o hi zi ho => ?_, ?_, ?_⟩
      · by_cases e : i = k
        · subst e; rw [hzk] at zi; cases zi
        · exact h1 i o (by omega) zi ho
      · have := congrArg List.tail hr
        simp only [List.tail_cons, List.tail_drop] at this
        rw [hrest, hzk, ← this]; rfl
      · rw [hrest, hzk]
        simp only [tS, hS, hzk]
        exact h2

/-- The number of operations that have not run. -/
def left (n : Nat) (listed : Array Bool) : Nat := ((List.range n).filter fun i => !listed.getD i true).length

theorem filter_lt {f g : Nat → Bool} {i : Nat} : ∀ (l : List Nat), i ∈ l → (∀ j, g j = true → f j = true) → f i = true → g i = false → (l.filter g).length < (l.filter f).length
  | [], h, _, _, _ => by simp at h
  | x :: l, h, hgf, hf, hg => by
    have le : ∀ (l : List Nat), (l.filter g).length ≤ (l.filter f).length := by
      intro l
      induction l with
      | nil => simp
      | cons y l ih =>
        simp only [List.filter_cons]
        cases hgy : g y
        · cases f y <;> simp <;> omega
        · rw [hgf y hgy]; simp; omega
    simp only [List.filter_cons]
    by_cases e : x = i
    · subst e
      rw [hf, hg]
      simp
      have := le l; omega
    · have hm : i ∈ l := by simpa [Ne.symm e] using h
      have ih := filter_lt l hm hgf hf hg
      cases hgx : g x
      · cases f x <;> simp <;> omega
      · rw [hgf x hgx]; simp; omega

theorem left_set {n : Nat} {listed : Array Bool} {i : Nat} (hi : i < n) (hl : listed.size = n) (h : listed.getD i true = false) : left n (listed.setIfInBounds i true) < left n listed := by
  unfold left
  refine filter_lt (List.range n) (List.mem_range.2 hi) (fun j hj => ?_) (by simp [h]) ?_
  · by_cases e : i = j
    · subst e; simp [show i < listed.size from by omega] at hj
    · rw [getD_set_ne true e] at hj; exact hj
  · simp [show i < listed.size from by omega]

theorem getD_tf {listed : Array Bool} {i : Nat} (hi : i < listed.size) : listed.getD i true = listed.getD i false := by simp [Array.getD, hi]

end
end Go.Lv
