/-
  A region whose order is drawn: the order of the text stands for all. Conditions: the region's own edges, by a closed check.
-/
import Derived.Test.YtnoknihkmfbdbaaLvJ
namespace Go.Lv

def dopsA (P : Program) (ops : Array Oper) : List Oper → St → (St → Prop) → Prop
  | [], s, K => K s
  | o :: rest, s, K => if quietOp o.op = true then gdA ops s.t o.guard (kop P s.h (ev s.t) o.op fun v => dopsA P ops rest (s.put o.dst v) K) (dopsA P ops rest (s.put o.dst .skip) K)
    else fopsA P ops (o :: rest) s K

def quietLen (ops : Array Oper) : Nat := (ops.toList.takeWhile fun o => quietOp o.op).length

def inB (b : Array Nat) (i j : Nat) : Bool := (b.getD i 0).testBit j

def clash (ops : Array Oper) (j i : Nat) : Bool :=
  match ops[j]?, ops[i]? with
  | some x, some o => match x.dst with
    | some u => (o.looksAt ops).contains u || o.dst == some u
    | none => false
  | _, _ => false

/-- The closed check of a region's edges. -/
def drawOk (ops : Array Oper) : Bool :=
  let b := Region.before ops
  let p := quietLen ops
  (List.range ops.size).all fun i => match ops[i]? with
    | none => false
    | some o =>
      ((List.range ops.size).all fun j => !(inB b i j) || o.after.toList.any fun e => Region.binds .any e && (e.on == j || inB b e.on j)) &&
      (o.after.toList.all fun e => !(Region.binds .any e) || decide (e.on < i)) &&
      (decide (p ≤ i) || (List.range p).all fun j => j == i || !(clash ops j i) || (if j < i then inB b i j else inB b j i)) &&
      (decide (i < p) || (List.range i).all fun j => inB b i j) &&
      (match o.op with | .select _ _ => false | _ => true)

structure DrawOk (ops : Array Oper) (p : Nat) (B : Nat → Nat → Prop) : Prop where
  le : p ≤ ops.size
  clo : ∀ (i : Nat) (o : Oper) (j : Nat), ops[i]? = some o → B i j → ∃ e ∈ o.after, Region.binds .any e = true ∧ (e.on = j ∨ B e.on j)
  lt : ∀ (i : Nat) (o : Oper), ops[i]? = some o → ∀ e ∈ o.after, Region.binds .any e = true → e.on < i
  cl : ∀ i j, i < p → j < p → j ≠ i → clash ops j i = true → (j < i → B i j) ∧ (i < j → B j i)
  bar : ∀ i j, i < ops.size → p ≤ i → j < i → B i j
  q : ∀ (i : Nat) (o : Oper), i < p → ops[i]? = some o → quietOp o.op = true
  nq : ∀ (o : Oper), ops[p]? = some o → quietOp o.op = false
  sel : ∀ (i : Nat) (o : Oper) (cs : Array SelectCase) (b : Bool), ops[i]? = some o → o.op ≠ .select cs b

theorem takeWhile_get {α : Type} (f : α → Bool) : ∀ (l : List α) (i : Nat) (o : α), i < (l.takeWhile f).length → l[i]? = some o → f o = true
  | [], i, o, hi, _ => by simp at hi
  | x :: l, i, o, hi, ho => by
    by_cases hx : f x = true
    · rw [List.takeWhile_cons_of_pos hx] at hi
      cases i with
      | zero => simp at ho; subst ho; exact hx
      | succ i => exact takeWhile_get f l i o (by simpa using hi) (by simpa using ho)
    · rw [List.takeWhile_cons_of_neg hx] at hi
      simp at hi

theorem takeWhile_stop {α : Type} (f : α → Bool) : ∀ (l : List α) (o : α), l[(l.takeWhile f).length]? = some o → f o = false
  | [], o, ho => by simp at ho
  | x :: l, o, ho => by
    by_cases hx : f x = true
    · rw [List.takeWhile_cons_of_pos hx] at ho
      exact takeWhile_stop f l o (by simpa using ho)
    · rw [List.takeWhile_cons_of_neg hx] at ho
      simp at ho; subst ho
      simpa using hx

theorem drawOk_some {ops : Array Oper} (hd : drawOk ops = true) : DrawOk ops (quietLen ops) (fun i j => j < ops.size ∧ inB (Region.before ops) i j = true) := by
  have hle : quietLen ops ≤ ops.size := by
    unfold quietLen
    rw [← Array.length_toList]
    exact List.Sublist.length_le (List.takeWhile_sublist _)
  have h : ∀ i, i < ops.size → ∃ o, ops[i]? = some o ∧
      ((List.range ops.size).all fun j => !(inB (Region.before ops) i j) || o.after.toList.any fun e => Region.binds .any e && (e.on == j || inB (Region.before ops) e.on j)) = true ∧
      (o.after.toList.all fun e => !(Region.binds .any e) || decide (e.on < i)) = true ∧
      (decide (quietLen ops ≤ i) || (List.range (quietLen ops)).all fun j => j == i || !(clash ops j i) || (if j < i then inB (Region.before ops) i j else inB (Region.before ops) j i)) = true ∧
      (decide (i < quietLen ops) || (List.range i).all fun j => inB (Region.before ops) i j) = true ∧ (match o.op with | .select _ _ => false | _ => true) = true := by
    intro i hi
    have := List.all_eq_true.1 hd i (List.mem_range.2 hi)
    split at this
    · cases this
    · rename_i o ho
      simp only [Bool.and_eq_true] at this
      exact ⟨o, ho, this.1.1.1.1, this.1.1.1.2, this.1.1.2, this.1.2, this.2⟩
  have lt_of : ∀ {i : Nat} {o : Oper}, ops[i]? = some o → i < ops.size := fun h => (Array.getElem?_eq_some_iff.1 h).1
  refine ⟨hle, fun i o j ho hB => ?_, fun i o ho e he hb => ?_, fun i j hi hj hne hc => ?_, fun i j hi hp hj => ?_, fun i o hi ho => ?_, fun o ho => takeWhile_stop (fun o => quietOp o.op) ops.toList o (by simpa [quietLen] using ho), fun i o cs b ho => ?_⟩
  · obtain ⟨o', ho', h1, _⟩ := h i (lt_of ho)
    rw [ho] at ho'; simp at ho'; subst ho'
    have := List.all_eq_true.1 h1 j (List.mem_range.2 hB.1)
    simp only [hB.2, Bool.not_true, Bool.false_or, List.any_eq_true, Bool.and_eq_true, Bool.or_eq_true, beq_iff_eq] at this
    obtain ⟨e, he, hb, hc⟩ := this
    exact ⟨e, by simpa using he, hb, hc.imp (fun h => h) (fun h => ⟨hB.1, h⟩)⟩
  · obtain ⟨o', ho', _, h2, _⟩ := h i (lt_of ho)
    rw [ho] at ho'; simp at ho'; subst ho'
    have := List.all_eq_true.1 h2 e (by simpa using he)
    simpa [hb] using this
  · obtain ⟨o', ho', _, _, h3, _⟩ := h i (by omega)
    have h3' : decide (quietLen ops ≤ i) = false := by simpa using hi
    rw [h3', Bool.false_or] at h3
    have := List.all_eq_true.1 h3 j (List.mem_range.2 hj)
    have hne' : (j == i) = false := by simpa using hne
    rw [hne', hc] at this
    simp only [Bool.not_true, Bool.false_or] at this
    refine ⟨fun hlt => ⟨by omega, by rw [if_pos hlt] at this; exact this⟩, fun hlt => ⟨by omega, by rw [if_neg (by omega)] at this; exact this⟩⟩
  · obtain ⟨o', ho', _, _, _, h4, _⟩ := h i hi
    have h4' : decide (i < quietLen ops) = false := by simpa using hp
    rw [h4', Bool.false_or] at h4
    exact ⟨by omega, List.all_eq_true.1 h4 j (List.mem_range.2 hj)⟩
  · exact takeWhile_get _ _ i o hi (by simpa using ho)
  · obtain ⟨o', ho', _, _, _, _, h5⟩ := h i (lt_of ho)
    rw [ho] at ho'; simp at ho'; subst ho'
    intro e
    rw [e] at h5
    cases h5

section
variable {P : Program} {w0 : World} {m0 : Nat → Nat} {h0 : Hp} {av0 : Nat → Prop} {s : St} {a : Act} {w : World} {m : Nat → Nat}

/-- A quiet operation over a state. -/
theorem kop_ok (I : Inv w0 m0 h0 av0 s a w m) {o : Oper} {K : V → Prop} (hq : kop P s.h (ev s.t) o.op K) {Kc : Act → World → Prop} {Q : Exit → Act → World → Prop}
    (hk : ∀ x v w', K x → Inv w0 m0 h0 av0 (s.put o.dst x) (a.put o.dst v) w' m → Kc (a.put o.dst v) w') : o.wp P a w Kc Q := by
  obtain ⟨dst, op, ty, pos, after, guard⟩ := o
  unfold kop at hq
  dsimp only at hq
  split at hq
  · rename_i t parts
    obtain ⟨v, x, h1, h2, h3⟩ := build_ok (P := P) I.ev hq
    exact wp_value (v := v) (w' := w) (by simp [execOp, h3]) (hk _ _ _ h1 (I.put h2))
  · rename_i t n parts
    split at hq
    · rename_i e sz by_ he
      split at hq
      · rename_i zs hz
        split at hq
        · rename_i cs hs
          obtain ⟨h1, h2, h3, h4, hq⟩ := hq
          obtain ⟨D, hD, hrun⟩ := buildSlice_ok (P := P) I.ev he hz h1 h2 hs
          have hE : Ext (fun _ => False) w (w.alloc (.cells D e)) := Ext.alloc _ w _
          have J := I.world hE
          refine wp_value (v := .slice (some ⟨w.heap.size, 0, none⟩) n n) (w' := w.alloc (.cells D e)) (by simp [execOp, hrun]) (hk _ _ _ hq (J.put ?_))
          refine .sl w.heap.size 0 n n sz cs (fun i => D.getD i Go.undef) h3 (fun _ hb => ?_) (Nat.le_refl _) (fun i hi => ?_) (fun i hi => ?_)
          · have := I.avlt hb; omega
          · rw [cell_of_row _ w.heap.size (0 + i) D e (0, 0) (heap_alloc_new w _)]
            have : i < D.size := by rw [hD.1]; exact hi
            simp [Array.getD, this]
          · have h5 := RV.noOwn 2 _ (List.all_eq_true.1 h4 _ (List.getElem_mem hi)) (hD.2 i hi)
            exact h5.ro_step (fun b off v hb hc => ⟨hb, hE.cell hc (fun h => h)⟩) rfl
        · exact hq.elim
      · exact hq.elim
    · exact hq.elim
  · rename_i f args ts
    refine call_wp I I.ev hq (fun r hout w' v m' avX h1 L => hk _ _ _ h1 ((L.inv.world L.ext).put L.quiet))
  · obtain ⟨v, x, h1, h2, h3⟩ := qop_ok (P := P) I.rh I.ev (⟨dst, op, ty, pos, after, guard⟩ : Oper) hq
    exact wp_value h3 (hk _ _ _ h1 (I.put h2))

end
end Go.Lv
