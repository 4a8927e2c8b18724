/-
  A part of the proof: texts put together by a program of the prover. Conditions: none.
-/
import Derived.Test.YtignogijdoaipaaGreatDoorZT2
set_option linter.unusedSimpArgs false
set_option linter.unusedVariables false
section
namespace Go.Lv

def jc (zl : List Bool) (p i : Nat) : Bool := !(zl.getD i true) && decide (((zl.take i).filter (!·)).length < p)

def aht (o : Oper) : Bool :=
 match o with
 | ⟨none, .store _ _ _, _, _, _, none⟩ => true
 | _ => false

def ae1 (ops : Array Oper) (zl fl : List Bool) (p : Nat) : Bool :=
 let b := Region.before ops
 decide (zl.length = ops.size) && decide (fl.length = ops.size) &&
 (List.range ops.size).all fun i => match ops[i]? with
  | none => false
  | some o =>
   ((List.range ops.size).all fun j => !(inB b i j) || o.after.toList.any fun e => Region.binds .any e && (e.on == j || inB b e.on j)) &&
   (o.after.toList.all fun e => !(Region.binds .any e) || decide (e.on < i)) &&
   (match o.op with | .select _ _ => false | _ => true) &&
   (match zl.getD i false with
    | true => (o.after.toList.all fun e => !(Region.binds .any e) || zl.getD e.on false) &&
     (List.range ops.size).all fun j => !(zl.getD j false) || j == i || !(ly ops j i) || (if j < i then inB b i j else inB b j i)
    | false => ((List.range ops.size).all fun j => match zl.getD j false with
     | true => inB b i j || tkB ops b j || jc zl p i
     | false => !(decide (j < i)) || inB b i j)) &&
   (!(jc zl p i) || (aht o && (List.range ops.size).all fun j => !(zl.getD j false) || ((!(ly ops j i) || inB b i j) && (fl.getD j false || inB b i j))))

structure axv (ops : Array Oper) (z fl : Nat → Bool) (B : Nat → Nat → Prop) (lt : Nat → Bool) : Prop where
 op : ∀ i, lt i = true → i < ops.size ∧ z i = false ∧ ∃ t a x ty pos af, ops[i]? = some ⟨none, .store t a x, ty, pos, af, none⟩
 cl : ∀ i j, lt i = true → j < ops.size → z j = true → ly ops j i = true → B i j
 af : ∀ i j, lt i = true → j < ops.size → z j = true → fl j = false → B i j

theorem ak9 {ops : Array Oper} {zl fl : List Bool} {p : Nat} (hd : ae1 ops zl fl p = true) :
 nk ops (fun i => zl.getD i false) (fun i j => j < ops.size ∧ inB (Region.before ops) i j = true) (tkB ops (Region.before ops)) (jc zl p) ∧ zl.length = ops.size ∧ fl.length = ops.size ∧
 axv ops (fun i => zl.getD i false) (fun i => fl.getD i false) (fun i j => j < ops.size ∧ inB (Region.before ops) i j = true) (jc zl p) := by
 unfold ae1 at hd
 simp only [Bool.and_eq_true, decide_eq_true_eq] at hd
 obtain ⟨⟨hzl, hfl⟩, hd⟩ := hd
 have h : ∀ i, i < ops.size → ∃ o, ops[i]? = some o ∧
  ((List.range ops.size).all fun j => !(inB (Region.before ops) i j) || o.after.toList.any fun e => Region.binds .any e && (e.on == j || inB (Region.before ops) e.on j)) = true ∧
  (o.after.toList.all fun e => !(Region.binds .any e) || decide (e.on < i)) = true ∧ (match o.op with | .select _ _ => false | _ => true) = true ∧
  (match zl.getD i false with
   | true => (o.after.toList.all fun e => !(Region.binds .any e) || zl.getD e.on false) &&
    (List.range ops.size).all fun j => !(zl.getD j false) || j == i || !(ly ops j i) || (if j < i then inB (Region.before ops) i j else inB (Region.before ops) j i)
   | false => ((List.range ops.size).all fun j => match zl.getD j false with
    | true => inB (Region.before ops) i j || tkB ops (Region.before ops) j || jc zl p i
    | false => !(decide (j < i)) || inB (Region.before ops) i j)) = true ∧
  (!(jc zl p i) || (aht o && (List.range ops.size).all fun j => !(zl.getD j false) || ((!(ly ops j i) || inB (Region.before ops) i j) && (fl.getD j false || inB (Region.before ops) i j)))) = true := by
  intro i hi
  have := List.all_eq_true.1 hd i (List.mem_range.2 hi)
  split at this
  · cases this
  · rename_i o ho
    simp only [Bool.and_eq_true] at this
    refine ⟨o, ho, this.1.1.1.1, this.1.1.1.2, this.1.1.2, this.1.2, ?_⟩
    simpa only [Bool.and_eq_true] using this.2
 have lt_of : ∀ {i : Nat} {o : Oper}, ops[i]? = some o → i < ops.size := fun h => (Array.getElem?_eq_some_iff.1 h).1
 have late_lt : ∀ i, jc zl p i = true → i < ops.size ∧ zl.getD i false = false := fun i hi => by
  unfold jc at hi
  simp only [Bool.and_eq_true, Bool.not_eq_true'] at hi
  have h1 := hi.1
  rcases Nat.lt_or_ge i zl.length with h2 | h2
  · simp only [List.getD_eq_getElem?_getD, List.getElem?_eq_getElem h2, Option.getD_some] at h1 ⊢
    exact ⟨by omega, h1⟩
  · simp only [List.getD_eq_getElem?_getD, List.getElem?_eq_none h2, Option.getD_none] at h1
    cases h1
 refine ⟨⟨fun i o j ho hB => ?_, fun i o ho e he hb => ?_, fun i j hi hj zi zj hne hc => ?_, fun i o ho zi e he hb => ?_, fun i j hi hj zi zj => ?_, fun i j hi zi hj zj => ?_, fun k o ho ht => ?_, fun i o cs b ho => ?_⟩, hzl, hfl, ?_⟩
 · obtain ⟨o', ho', h1, _⟩ := h i (lt_of ho)
   rw [ho] at ho'; simp at ho'; subst ho'
   have := List.all_eq_true.1 h1 j (List.mem_range.2 hB.1)
   simp only [hB.2, Bool.not_true, Bool.false_or, List.any_eq_true, Bool.and_eq_true, Bool.or_eq_true, beq_iff_eq] at this
   obtain ⟨e, he, hb, hc⟩ := this
   exact ⟨e, by simpa using he, hb, hc.imp (fun h => h) (fun h => ⟨hB.1, h⟩)⟩
 · obtain ⟨o', ho', _, h2, _⟩ := h i (lt_of ho)
   rw [ho] at ho'; simp at ho'; subst ho'
   have := List.all_eq_true.1 h2 e (by simpa using he)
   simpa [hb] using this
 · obtain ⟨o', ho', _, _, _, h3, _⟩ := h i hi
   rw [zi] at h3
   simp only [Bool.and_eq_true] at h3
   have := List.all_eq_true.1 h3.2 j (List.mem_range.2 hj)
   have hne' : (j == i) = false := by simpa using hne
   rw [hne', hc, zj] at this
   simp only [Bool.not_true, Bool.false_or] at this
   refine ⟨fun hlt => ⟨by omega, by rw [if_pos hlt] at this; exact this⟩, fun hlt => ⟨by omega, by rw [if_neg (by omega)] at this; exact this⟩⟩
 · obtain ⟨o', ho', _, _, _, h3, _⟩ := h i (lt_of ho)
   rw [ho] at ho'; simp at ho'; subst ho'
   rw [zi] at h3
   simp only [Bool.and_eq_true] at h3
   have := List.all_eq_true.1 h3.1 e (by simpa using he)
   simpa [hb] using this
 · obtain ⟨o', ho', _, _, _, h3, _⟩ := h i hi
   rw [zi] at h3
   have := List.all_eq_true.1 h3 j (List.mem_range.2 hj)
   rw [zj] at this
   simp only [Bool.or_eq_true] at this
   rcases this with (h | h) | h
   · exact .inl ⟨hj, h⟩
   · exact .inr (.inl h)
   · exact .inr (.inr h)
 · obtain ⟨o', ho', _, _, _, h3, _⟩ := h i hi
   rw [zi] at h3
   have := List.all_eq_true.1 h3 j (List.mem_range.2 (by omega))
   rw [zj] at this
   simp only [decide_eq_true hj, Bool.not_true, Bool.false_or] at this
   exact ⟨by omega, this⟩
 · unfold tkB at ht
   rw [ho] at ht
   simp only [Bool.and_eq_true] at ht
   refine ⟨ht.1, fun j o' ho' hne hB hall => ?_⟩
   have := List.all_eq_true.1 ht.2 j (List.mem_range.2 (lt_of ho'))
   rw [ho'] at this
   simp only [Bool.or_eq_true, beq_iff_eq, List.any_eq_true, Bool.and_eq_true] at this
   rcases this with ((h1 | h1) | ⟨e, he, hb, h1⟩) | h1
   · exact absurd h1 hne
   · exact absurd ⟨lt_of ho', h1⟩ hB
   · exact absurd h1 (hall e (by simpa using he) hb)
   · exact h1
 · obtain ⟨o', ho', _, _, h5, _⟩ := h i (lt_of ho)
   rw [ho] at ho'; simp at ho'; subst ho'
   intro e
   rw [e] at h5
   cases h5
 · have key : ∀ i, jc zl p i = true → ∃ o, ops[i]? = some o ∧ aht o = true ∧ ∀ j, j < ops.size → zl.getD j false = true → (ly ops j i = true → inB (Region.before ops) i j = true) ∧ (fl.getD j false = false → inB (Region.before ops) i j = true) := by
    intro i hi
    obtain ⟨o, ho, _, _, _, _, h6⟩ := h i (late_lt i hi).1
    rw [hi] at h6
    simp only [Bool.not_true, Bool.false_or, Bool.and_eq_true] at h6
    refine ⟨o, ho, h6.1, fun j hj hz => ?_⟩
    have := List.all_eq_true.1 h6.2 j (List.mem_range.2 hj)
    rw [hz] at this
    simp only [Bool.not_true, Bool.false_or, Bool.and_eq_true, Bool.or_eq_true, Bool.not_eq_true'] at this
    exact ⟨fun hc => this.1.resolve_left (by rw [hc]; simp), fun hf => this.2.resolve_left (by rw [hf]; simp)⟩
   refine ⟨fun i hi => ?_, fun i j hi hj hz hc => ?_, fun i j hi hj hz hf => ?_⟩
   · obtain ⟨o, ho, h1, _⟩ := key i hi
     refine ⟨(late_lt i hi).1, (late_lt i hi).2, ?_⟩
     unfold aht at h1
     split at h1
     · exact ⟨_, _, _, _, _, _, ho⟩
     · cases h1
   · obtain ⟨o, ho, _, h2⟩ := key i hi
     exact ⟨hj, (h2 j hj hz).1 hc⟩
   · obtain ⟨o, ho, _, h2⟩ := key i hi
     exact ⟨hj, (h2 j hj hz).2 hf⟩

def hol : List Nat → Hp → Hp
 | [], h => h
 | i :: l, h => hol l (h.set i none)

theorem an8 : ∀ (l : List Nat) (h : Hp), (hol l h).length = h.length
 | [], _ => rfl
 | i :: l, h => by rw [hol, an8 l]; simp

theorem ano : ∀ (l : List Nat) (h : Hp) (id : Nat) (c : List V), (hol l h)[id]? = some (some c) → id ∉ l ∧ h[id]? = some (some c)
 | [], _, _, _, hc => ⟨by simp, hc⟩
 | i :: l, h, id, c, hc => by
  rw [hol] at hc
  obtain ⟨h1, h2⟩ := ano l _ id c hc
  rw [List.getElem?_set] at h2
  by_cases e : i = id
  · rw [if_pos e] at h2
    split at h2 <;> simp at h2
  · rw [if_neg e] at h2
    exact ⟨by simp [Ne.symm e, h1], h2⟩

def ac4 (ids : List Nat) : Bool → Hp → Hp
 | true, h => hol ids h
 | false, h => h

theorem adt (ids : List Nat) (f : Bool) (h : Hp) : (ac4 ids f h).length = h.length := by cases f; rfl; exact an8 ids h

def wa : List Bool → List Bool → List Oper → List (Bool × Oper)
 | z :: zl, f :: fl, o :: l => if z then (f, o) :: wa zl fl l else wa zl fl l
 | _, _, _ => []

def gF (P : Program) (ops : Array Oper) (ids : List Nat) : List (Bool × Oper) → St → (St → Prop) → Prop
 | [], s, K => K s
 | (f, o) :: l, s, K => gdA ops s.t o.guard (gop P (ac4 ids f s.h) (ev s.t) o.op fun v n => gF P ops ids l (({ s with h := s.h ++ n } : St).put o.dst v) K) (gF P ops ids l (s.put o.dst .skip) K)

def akv (P : Program) (ids : List Nat) (s : St) (o : Oper) (K : St → Prop) : Prop :=
 match o with
 | ⟨none, .store t a x, _, _, _, none⟩ => (match ev s.t a with | .ptr id _ => ids.contains id = true | _ => False) ∧ mi P s.h t (ev s.t a) (ev s.t x) fun h' => K { s with h := h' }
 | _ => False

def rz (P : Program) (ops : Array Oper) (ids : List Nat) : Nat → List Oper → St → (St → Prop) → Prop
 | 0, D, s, K => ib P ops D s K
 | _ + 1, [], _, _ => False
 | p + 1, o :: D, s, K => akv P ids s o fun s' => rz P ops ids p D s' K

def ltT (P : Program) (ops : Array Oper) (s : St) (K : St → Prop) : Prop :=
 ∃ (zl fl : List Bool) (p : Nat) (ids : List Nat), ae1 ops zl fl p = true ∧ gF P ops ids (wa zl fl ops.toList) s fun e => rz P ops ids p (o7 (zl.map (!·)) ops.toList) e K

theorem ltT.intro {P : Program} {ops : List Oper} {s : St} {K : St → Prop} (zl fl : List Bool) (p : Nat) (ids : List Nat) (h1 : ae1 ops.toArray zl fl p = true)
 (h2 : gF P ops.toArray ids (wa zl fl ops) s fun e => rz P ops.toArray ids p (o7 (zl.map (!·)) ops) e K) : ltT P ops.toArray s K := ⟨zl, fl, p, ids, h1, h2⟩

def ar5 : Ground → Bool
 | .gcOnly _ => true
 | _ => false
def gcL : List Edge → Bool
 | [] => false
 | e :: l => ar5 e.ground || gcL l
def sd (op : Op) (after : Array Edge) : Bool :=
 match op with
 | .load _ _ => gcL after.toList
 | _ => false
def kz : Op → Bool
 | .store _ _ _ => true
 | _ => false
def aph : List Oper → Bool
 | [] => false
 | o :: l => sd o.op o.after || aph l
def ap8 : List Oper → Bool
 | [] => false
 | o :: l => kz o.op || ap8 l
def hasLt (l : List Oper) : Bool := aph l && ap8 l

def ac0 (u : Option (Nat × List V)) (b : Bool) (h : Hp) : Hp :=
 match u with
 | some (id, cs) => if b then h.set id (some cs) else h
 | none => h

def oS (us : Nat → Option (Nat × List V)) (S : Nat → Bool) : Nat → Hp → Hp
 | 0, h => h
 | q + 1, h => ac0 (us q) (S q) (oS us S q h)

section
variable {us : Nat → Option (Nat × List V)} {S S' : Nat → Bool}

theorem aqt (u : Option (Nat × List V)) (b : Bool) (h : Hp) : (ac0 u b h).length = h.length := by
 unfold ac0
 split
 · split <;> simp
 · rfl

theorem atb : ∀ (q : Nat) (h : Hp), (oS us S q h).length = h.length
 | 0, _ => rfl
 | q + 1, h => by rw [oS, aqt, atb q]

theorem q9 : ∀ (q : Nat) (h : Hp), (∀ i, i < q → us i ≠ none → S i = S' i) → oS us S q h = oS us S' q h
 | 0, _, _ => rfl
 | q + 1, h, hs => by
  rw [oS, oS, q9 q h (fun i hi => hs i (by omega))]
  cases hu : us q with
  | none => rfl
  | some u => rw [hs q (by omega) (by simp [hu])]

theorem afd : ∀ (q : Nat) (h : Hp) (id : Nat), (∀ i, i < q → S i = true → ∀ cs, us i ≠ some (id, cs)) → (oS us S q h)[id]? = h[id]?
 | 0, _, _, _ => rfl
 | q + 1, h, id, hs => by
  rw [oS]
  have ih := afd q h id (fun i hi => hs i (by omega))
  unfold ac0
  split
  · rename_i id' cs hu
    split
    · rename_i hb
      have hne : id' ≠ id := fun e => hs q (by omega) hb cs (by rw [hu, e])
      rw [List.getElem?_set_ne hne]
      exact ih
    · exact ih
  · exact ih

theorem adp : ∀ (bs h : Hp) (off id : Nat) (x : Option (List V)), (id < off ∨ off + bs.length ≤ id) → dv (h.set id x) off bs = (dv h off bs).set id x
 | [], _, _, _, _, _ => rfl
 | b :: bs, h, off, id, x, hid => by
  simp only [List.length_cons] at hid
  show dv ((h.set id x).set off b) (off + 1) bs = (dv (h.set off b) (off + 1) bs).set id x
  rw [List.set_comm _ _ (show id ≠ off by omega)]
  exact adp bs _ _ _ _ (by omega)

theorem alm : ∀ (q : Nat) (h : Hp) (off : Nat) (bs : Hp), (∀ i, i < q → S i = true → ∀ id cs, us i = some (id, cs) → (id < off ∨ off + bs.length ≤ id)) → oS us S q (dv h off bs) = dv (oS us S q h) off bs
 | 0, _, _, _, _ => rfl
 | q + 1, h, off, bs, hs => by
  rw [oS, oS, alm q h off bs (fun i hi => hs i (by omega))]
  unfold ac0
  split
  · rename_i id cs hu
    split
    · rename_i hb
      exact (adp _ _ _ _ _ (hs q (by omega) hb id cs hu)).symm
    · rfl
  · rfl

theorem as9 {i : Nat} {id : Nat} {cs : List V} (hi : us i = some (id, cs)) (hS : S i = false) (hS' : S' i = true) (he : ∀ j, j ≠ i → S' j = S j) (hlast : ∀ j, i < j → S j = true → us j = none) (h : Hp) :
 ∀ q, i < q → oS us S' q h = (oS us S q h).set id (some cs)
 | 0, hq => by omega
 | q + 1, hq => by
  by_cases e : q = i
  · subst e
    rw [oS, oS, q9 (S := S') (S' := S) q h (fun j hj _ => he j (by omega)), hi, hS, hS']
    rfl
  · rw [oS, oS, as9 hi hS hS' he hlast h q (by omega), he q e]
    unfold ac0
    cases hu : us q with
    | none => rfl
    | some u =>
     obtain ⟨id', cs'⟩ := u
     dsimp only
     cases hb : S q with
     | false => rfl
     | true => rw [hlast q (by omega) hb] at hu; cases hu

theorem ah5 (i : Nat) (h : Hp) : ∀ q, i ≤ q → oS us (fun j => decide (j < i)) q h = oS us (fun _ => true) i h
 | 0, hq => by have : i = 0 := by omega
               subst this; rfl
 | q + 1, hq => by
  by_cases e : i = q + 1
  · subst e
    exact q9 _ _ (fun j hj _ => by simp [hj])
  · rw [oS, ah5 i h q (by omega)]
    have : decide (q < i) = false := decide_eq_false (by omega)
    rw [this]
    unfold ac0
    split <;> rfl

theorem am9 : ∀ (q : Nat) (h h' : Hp), h.length = h'.length → (∀ (id : Nat) (c : List V), h[id]? = some (some c) → h'[id]? = some (some c)) → ∀ (id : Nat) (c : List V), (oS us S q h)[id]? = some (some c) → (oS us S q h')[id]? = some (some c)
 | 0, _, _, _, hh => hh
 | q + 1, h, h', hl, hh => by
  have ih := am9 q h h' hl hh
  intro id c hc
  rw [oS] at hc ⊢
  unfold ac0 at hc ⊢
  split at hc
  · rename_i id' cs hu
    split at hc
    · rename_i hb
      rw [if_pos hb]
      rw [List.getElem?_set] at hc ⊢
      by_cases e : id' = id
      · rw [if_pos e] at hc ⊢
        rw [atb] at hc ⊢
        rw [← hl]
        exact hc
      · rw [if_neg e] at hc ⊢
        exact ih id c hc
    · rename_i hb
      rw [if_neg hb]
      exact ih id c hc
  · exact ih id c hc
end

theorem air (h0 : Hp) (ns : Nat → Hp) (z S S' : Nat → Bool) : ∀ (q id : Nat) (c : List V), (∀ i, i < q → z i = true → S i = true → S' i = true) → (hS h0 ns z S q)[id]? = some (some c) → (hS h0 ns z S' q)[id]? = some (some c)
 | 0, _, _, _, h => h
 | q + 1, id, c, hs, h => by
  have ih := air h0 ns z S S' q id c (fun i hi => hs i (by omega))
  have hl := xd h0 ns z S S' q
  simp only [hS] at h ⊢
  by_cases hz : z q = true
  · rw [if_pos hz] at h ⊢
    rcases Nat.lt_or_ge id (hS h0 ns z S q).length with h1 | h1
    · rw [List.getElem?_append_left h1] at h
      rw [List.getElem?_append_left (by omega)]
      exact ih h
    · rw [List.getElem?_append_right h1] at h
      rw [List.getElem?_append_right (by omega), ← hl]
      by_cases hb : S q = true
      · rw [if_pos hb] at h
        rw [if_pos (hs q (by omega) hz hb)]
        exact h
      · rw [if_neg hb, List.getElem?_replicate] at h
        split at h <;> simp at h
  · rw [if_neg hz] at h ⊢
    exact ih h

section
variable {P : Program} {ops : Array Oper} {w0 : World} {m0 : Nat → Nat} {h0 : Hp} {av0 : Nat → Prop} {s : St} {a : Act} {w : World} {m : Nat → Nat}

theorem aqj (I : Inv w0 m0 h0 av0 s a w m) {o : Oper} (hp : om o = true) {ht : Hp} {K : V → Hp → Prop} (hq : gop P ht (ev s.t) o.op K) :
 ∃ v x, K x [] ∧ RV w m s.h (avm av0 m s.h) true v x ∧ ∀ w', (execOp a.eval o).run P w' = .ok (.value v) w' := by
 obtain ⟨dst, op, ty, pos, after, guard⟩ := o
 unfold om at hp
 unfold ag7 at hp
 dsimp only at hp hq ⊢
 split at hp
 · rename_i T u f
   have hq' : ff P T f (ev s.t (.tmp u)) (fun v => K v []) := hq
   obtain ⟨v, y, h1, h3, h4⟩ := adl (P := P) (I.ev (.tmp u)) hq'
   exact ⟨v, y, h1, h3, fun w' => by simp [execOp, h4 w']⟩
 · rename_i T u1 u2
   have hq' : jg (ev s.t (.tmp u2)) (fun _ n => eo P T (ev s.t (.tmp u1)) n fun v => K v []) := hq
   obtain ⟨kd, n, e1, _, hq'⟩ := l9 (I.ev (.tmp u2)) hq'
   obtain ⟨v, y, h1, h3, h4⟩ := aa3 (P := P) (t := T) (I.ev (.tmp u1)) e1 hq'
   exact ⟨v, y, h1, h3, fun w' => by simp [execOp, h4 w']⟩
 · rename_i u
   have hq' : K (ev s.t (.tmp u)) [] := hq
   exact ⟨_, _, hq', I.ev (.tmp u), fun w' => by simp [execOp]⟩
 · rename_i u x1 x2
   have hq' : km (ev s.t (.tmp u)) (fun b => K (if b then ev s.t x1 else ev s.t x2) []) := hq
   obtain ⟨b, e1, _, hq'⟩ := ng (I.ev (.tmp u)) hq'
   refine ⟨if b then a.eval x1 else a.eval x2, _, hq', ?_, fun w' => ?_⟩
   · cases b
     · exact I.ev x2
     · exact I.ev x1
   · cases b <;> simp [execOp, e1, asBool]
 · rename_i bop T x1 x2 t'
   have hq' : bin P bop T (kO x1 || kO x2) (ev s.t x1) (ev s.t x2) (fun v => K v []) := hq
   obtain ⟨z, e1, hl, h4⟩ := adk (P := P) (t := T) (I.ev x1) (I.ev x2) hq'
   refine ⟨al5 z, z, e1, ae6 hl, fun w' => ?_⟩
   have := h4 w' x1 x2 id
   simp only [execOp]
   rw [Sem.run_bind, this]
   rfl
 · rename_i u j
   have hq' : o2 (ev s.t (.tmp u)) j (fun v => K v []) := hq
   have hx := I.ev (.tmp u)
   generalize hue : a.eval (.tmp u) = uv at hx
   generalize ev s.t (.tmp u) = xv at hx hq'
   cases hx with
   | tup ar vs ha hra =>
    unfold o2 at hq'
    dsimp only at hq'
    split at hq'
    · rename_i v hv
      have hlt : j < vs.length := (List.getElem?_eq_some_iff.1 hv).1
      have hr := hra j hlt
      rw [(List.getElem?_eq_some_iff.1 hv).2] at hr
      have hlt' : j < ar.size := by omega
      exact ⟨ar.getD j Go.undef, v, hq', hr, fun w' => by simp [execOp, hue, Instr.extract, Array.getD, hlt']⟩
    · exact hq'.elim
   | _ => exact hq'.elim
 · rename_i T x
   have hq' : km (ev s.t x) (fun b => K (.bool (!b)) []) := hq
   obtain ⟨b, e1, _, hq'⟩ := ng (I.ev x) hq'
   exact ⟨.bool (!b), _, hq', .bool _, fun w' => by simp [execOp, Op.unary, e1]⟩
 · rename_i u
   have hq' : ya (ev s.t (.tmp u)) (fun v => K v []) := hq
   have hx := I.ev (.tmp u)
   generalize hue : a.eval (.tmp u) = uv at hx
   generalize ev s.t (.tmp u) = xv at hx hq'
   cases hx with
   | ptr id off cs hid => exact ⟨_, _, hq', .ptr id off cs hid, fun w' => by simp [execOp, hue]⟩
   | pt b off cs vals ha hv hr => exact ⟨_, _, hq', .pt b off cs vals ha hv hr, fun w' => by simp [execOp, hue]⟩
   | fn f a1 c1 a' c' ha hc hra hrc =>
    cases f with
    | func f => exact ⟨_, _, hq', .fn _ a1 c1 a' c' ha hc hra hrc, fun w' => by simp [execOp, hue]⟩
    | _ => exact False.elim hq'
   | _ => exact False.elim hq'
 · cases hp
end

def aoz (P : Program) (ops : Array Oper) (ids : List Nat) (f : Bool) (h : Hp) (o : Oper) (t : List V) (x : V) (n : Hp) : Prop :=
 gdA ops t o.guard (gop P (ac4 ids f h) (ev t) o.op fun y m => y = x ∧ m = n) (x = .skip ∧ n = [])

section
variable {P : Program} {ops : Array Oper}

theorem apr {zl fl : List Bool} (hz : zl.length = ops.size) (hf : fl.length = ops.size) {k : Nat} (hk : k < ops.size) :
 wa (zl.drop k) (fl.drop k) (ops.toList.drop k) = if zl.getD k false then (fl.getD k false, ops[k]) :: wa (zl.drop (k + 1)) (fl.drop (k + 1)) (ops.toList.drop (k + 1)) else wa (zl.drop (k + 1)) (fl.drop (k + 1)) (ops.toList.drop (k + 1)) := by
 have h1 : ops.toList.drop k = ops[k] :: ops.toList.drop (k + 1) := by
  rw [List.drop_eq_getElem_cons (by simpa using hk)]
  simp
 have h2 : zl.drop k = zl.getD k false :: zl.drop (k + 1) := by
  rw [List.drop_eq_getElem_cons (by omega)]
  simp [List.getD, List.getElem?_eq_getElem (show k < zl.length by omega)]
 have h3 : fl.drop k = fl.getD k false :: fl.drop (k + 1) := by
  rw [List.drop_eq_getElem_cons (by omega)]
  simp [List.getD, List.getElem?_eq_getElem (show k < fl.length by omega)]
 rw [h1, h2, h3]
 rfl

theorem an2 {zl fl : List Bool} {ids : List Nat} (hl : zl.length = ops.size) (hf : fl.length = ops.size) {s : St} {K : St → Prop} (hq : gF P ops ids (wa zl fl ops.toList) s K) : ∀ k, k ≤ ops.size → ∃ (xs : Nat → V) (ns : Nat → Hp),
 (∀ i o, i < k → zl.getD i false = true → ops[i]? = some o → aoz P ops ids (fl.getD i false) (hS s.h ns (fun i => zl.getD i false) (fun i => zl.getD i false) i) o (tS ops s.t xs (fun i => zl.getD i false) i) (xs i) (ns i)) ∧
 gF P ops ids (wa (zl.drop k) (fl.drop k) (ops.toList.drop k)) { s with t := tS ops s.t xs (fun i => zl.getD i false) k, h := hS s.h ns (fun i => zl.getD i false) (fun i => zl.getD i false) k } K
 | 0, _ => ⟨fun _ => .undef, fun _ => [], fun i o hi => absurd hi (by omega), by simpa [tS, hS] using hq⟩
 | k + 1, hk => by
  obtain ⟨xs, ns, h1, h2⟩ := an2 hl hf hq k (by omega)
  have hlt : k < ops.size := by omega
  have hget : ops[k]? = some ops[k] := Array.getElem?_eq_getElem hlt
  rw [apr hl hf hlt] at h2
  cases hz : zl.getD k false with
  | true =>
   rw [hz, if_pos rfl] at h2
   unfold gF at h2
   have h2' : gdA ops (tS ops s.t xs (fun i => zl.getD i false) k) ops[k].guard (gop P (ac4 ids (fl.getD k false) (hS s.h ns (fun i => zl.getD i false) (fun i => zl.getD i false) k)) (ev (tS ops s.t xs (fun i => zl.getD i false) k)) ops[k].op fun v n =>
    gF P ops ids (wa (zl.drop (k + 1)) (fl.drop (k + 1)) (ops.toList.drop (k + 1))) (({ s with t := tS ops s.t xs (fun i => zl.getD i false) k, h := hS s.h ns (fun i => zl.getD i false) (fun i => zl.getD i false) k ++ n } : St).put ops[k].dst v) K)
    (gF P ops ids (wa (zl.drop (k + 1)) (fl.drop (k + 1)) (ops.toList.drop (k + 1))) (({ s with t := tS ops s.t xs (fun i => zl.getD i false) k, h := hS s.h ns (fun i => zl.getD i false) (fun i => zl.getD i false) k ++ [] } : St).put ops[k].dst .skip) K) := by
    rw [List.append_nil]; exact h2
   obtain ⟨x, n, h3, h4⟩ := aje (ais P (ac4 ids (fl.getD k false) (hS s.h ns (fun i => zl.getD i false) (fun i => zl.getD i false) k)) (ev (tS ops s.t xs (fun i => zl.getD i false) k)) ops[k].op)
    (K := fun v n => gF P ops ids (wa (zl.drop (k + 1)) (fl.drop (k + 1)) (ops.toList.drop (k + 1))) (({ s with t := tS ops s.t xs (fun i => zl.getD i false) k, h := hS s.h ns (fun i => zl.getD i false) (fun i => zl.getD i false) k ++ n } : St).put ops[k].dst v) K) h2'
   have agree : ∀ i, i ≤ k → tS ops s.t (fun j => if j = k then x else xs j) (fun i => zl.getD i false) i = tS ops s.t xs (fun i => zl.getD i false) i := by
    intro i
    induction i with
    | zero => intro _; rfl
    | succ i ih =>
     intro hi
     simp only [tS]
     rw [ih (by omega)]
     simp only [if_neg (show ¬ i = k by omega)]
   have agreeH : ∀ i, i ≤ k → hS s.h (fun j => if j = k then n else ns j) (fun i => zl.getD i false) (fun i => zl.getD i false) i = hS s.h ns (fun i => zl.getD i false) (fun i => zl.getD i false) i := by
    intro i
    induction i with
    | zero => intro _; rfl
    | succ i ih =>
     intro hi
     simp only [hS]
     rw [ih (by omega)]
     simp only [if_neg (show ¬ i = k by omega)]
   refine ⟨fun j => if j = k then x else xs j, fun j => if j = k then n else ns j, fun i o hi zi ho => ?_, ?_⟩
   · rw [agree i (by omega), agreeH i (by omega)]
     by_cases e : i = k
     · subst e
       rw [hget] at ho; simp at ho; subst ho
       simp only [if_true]
       exact h4
     · simp only [if_neg e]
       exact h1 i o (by omega) zi ho
   · have e1 : tS ops s.t (fun j => if j = k then x else xs j) (fun i => zl.getD i false) (k + 1) = ze (tS ops s.t xs (fun i => zl.getD i false) k) ops[k].dst x := by
      simp only [tS]
      rw [agree k (Nat.le_refl _), hz]
      simp [ez, hget]
     have e2 : hS s.h (fun j => if j = k then n else ns j) (fun i => zl.getD i false) (fun i => zl.getD i false) (k + 1) = hS s.h ns (fun i => zl.getD i false) (fun i => zl.getD i false) k ++ n := by
      simp only [hS]
      rw [agreeH k (Nat.le_refl _), hz]
      simp
     rw [e1, e2]
     rw [put_eq] at h3
     exact h3
  | false =>
   rw [hz, if_neg (by simp)] at h2
   refine ⟨xs, ns, fun i o hi zi ho => ?_, ?_⟩
   · by_cases e : i = k
     · subst e; rw [hz] at zi; cases zi
     · exact h1 i o (by omega) zi ho
   · simp only [tS, hS, hz]
     exact h2

def ltU (ops : Array Oper) (lt : Nat → Bool) (t : List V) (h : Hp) (q : Nat) : Option (Nat × List V) :=
 if lt q then match ops[q]? with
  | some o => match o.op with
   | .store _ a x => match ev t a, cellsOf (ev t x) with
    | .ptr id off, some nv => match h[id]? with
     | some (some cs) => some (id, dq cs off nv)
     | _ => none
    | _, _ => none
   | _ => none
  | none => none
 else none

def ltH (ops : Array Oper) (lt : Nat → Bool) (t : List V) (h : Hp) : Nat → Hp
 | 0 => h
 | q + 1 => ac0 (ltU ops lt t (ltH ops lt t h q) q) true (ltH ops lt t h q)

theorem amr (lt : Nat → Bool) (t : List V) (h : Hp) : ∀ q, oS (fun i => ltU ops lt t (ltH ops lt t h i) i) (fun _ => true) q h = ltH ops lt t h q
 | 0 => rfl
 | q + 1 => by rw [oS, amr lt t h q]; rfl

theorem ab6 {ids : List Nat} {s : St} {o : Oper} {K : St → Prop} (hq : akv P ids s o K) : ∃ T a x ty pos af id off cs0 nv sz ag, o = ⟨none, .store T a x, ty, pos, af, none⟩ ∧ ev s.t a = .ptr id off ∧ id ∈ ids ∧ s.h[id]? = some (some cs0) ∧ cellsOf (ev s.t x) = some nv ∧
 jl P T = some (sz, ag) ∧ nv.length = sz ∧ off + sz ≤ cs0.length ∧ K { s with h := s.h.set id (some (dq cs0 off nv)) } := by
 unfold akv at hq
 split at hq
 · rename_i T a x ty pos af
   obtain ⟨h1, h2⟩ := hq
   generalize he : ev s.t a = ad at h1 h2
   cases ad with
   | ptr id off =>
    have h1' : ids.contains id = true := h1
    unfold mi at h2
    dsimp only at h2
    split at h2
    · rename_i cs0 hcs
      split at h2
      · rename_i nv hnv
        split at h2
        · rename_i sz ag hsz
          exact ⟨T, a, x, ty, pos, af, id, off, cs0, nv, sz, ag, rfl, he, by simpa using h1', hcs, hnv, hsz, h2.1, h2.2.1, h2.2.2⟩
        · exact h2.elim
      · exact h2.elim
    · exact h2.elim
   | _ => exact h1.elim
 · exact hq.elim

theorem afa {ids : List Nat} : ∀ (p : Nat) (D : List Oper) (s : St) (K : St → Prop), rz P ops ids p D s K → ib P ops D s K
 | 0, _, _, _, h => h
 | _ + 1, [], _, _, h => h.elim
 | p + 1, o :: D, s, K, h => by
  obtain ⟨T, a, x, ty, pos, af, id, off, cs0, nv, sz, ag, rfl, h1, h2, h3, h4, h5, h6, h7, h8⟩ := ab6 h
  have := afa p D _ K h8
  unfold ib gdA
  dsimp only
  show mi P s.h T (ev s.t a) (ev s.t x) fun h' => ib P ops D (({ s with h := h' } : St).put none .skip) K
  unfold mi
  rw [h1]
  dsimp only
  rw [h3, h4, h5]
  exact ⟨h6, h7, this⟩

theorem asw (zl : List Bool) {q : Nat} (hq : q < zl.length) : ((zl.take (q + 1)).filter (!·)).length = ((zl.take q).filter (!·)).length + (if zl.getD q false then 0 else 1) := by
 rw [List.take_succ_eq_append_getElem hq, List.filter_append, List.length_append]
 congr 1
 simp only [List.getD_eq_getElem?_getD, List.getElem?_eq_getElem hq, Option.getD_some]
 cases zl[q] <;> rfl

theorem agt {zl : List Bool} (hl : zl.length = ops.size) {ids : List Nat} {p : Nat} {s : St} {K : St → Prop} (hq : rz P ops ids p (gf ops (fun i => zl.getD i false) 0) s K) :
 ∀ q, q ≤ ops.size → (∀ j, j < q → zl.getD j false = false → jc zl p j = true) →
  rz P ops ids (p - ((zl.take q).filter (!·)).length) (gf ops (fun i => zl.getD i false) q) { s with h := ltH ops (jc zl p) s.t s.h q } K
 | 0, _, _ => hq
 | q + 1, hqn, hall => by
  have ih := agt hl hq q (by omega) (fun j hj => hall j (by omega))
  rw [asw zl (by omega)]
  rw [ov (show q < ops.size by omega)] at ih
  cases hz : zl.getD q false with
  | true =>
   rw [hz, if_pos rfl] at ih
   have hlt : jc zl p q = false := by
    unfold jc
    have : zl.getD q true = true := by
     simp only [List.getD_eq_getElem?_getD, List.getElem?_eq_getElem (show q < zl.length by omega), Option.getD_some] at hz ⊢
     exact hz
    rw [this]; rfl
   have hU : ltU ops (jc zl p) s.t (ltH ops (jc zl p) s.t s.h q) q = none := by unfold ltU; rw [hlt]; rfl
   rw [if_pos rfl, Nat.add_zero]
   show rz P ops ids _ _ { s with h := ac0 (ltU ops (jc zl p) s.t (ltH ops (jc zl p) s.t s.h q) q) true (ltH ops (jc zl p) s.t s.h q) } K
   rw [hU]
   exact ih
  | false =>
   rw [hz, if_neg (by simp)] at ih
   have hlt := hall q (by omega) hz
   have hcnt : ((zl.take q).filter (!·)).length < p := by
    unfold jc at hlt
    simp only [Bool.and_eq_true, decide_eq_true_eq] at hlt
    exact hlt.2
   obtain ⟨r, hr⟩ : ∃ r, p - ((zl.take q).filter (!·)).length = r + 1 := ⟨p - ((zl.take q).filter (!·)).length - 1, by omega⟩
   rw [hr] at ih
   obtain ⟨T, a, x, ty, pos, af, id, off, cs0, nv, sz, ag, ho, h1, h2, h3, h4, h5, h6, h7, h8⟩ := ab6 ih
   have hget : ops[q]? = some ops[q] := Array.getElem?_eq_getElem (by omega)
   have hU : ltU ops (jc zl p) s.t (ltH ops (jc zl p) s.t s.h q) q = some (id, dq cs0 off nv) := by
    unfold ltU
    rw [hlt, hget, ho]
    dsimp only at h1 h4 h3 ⊢
    rw [if_pos rfl, h1, h4]
    dsimp only
    rw [h3]
   have hp : p - (((zl.take q).filter (!·)).length + (if false = true then 0 else 1)) = r := by simp; omega
   rw [hp]
   show rz P ops ids _ _ { s with h := ac0 (ltU ops (jc zl p) s.t (ltH ops (jc zl p) s.t s.h q) q) true (ltH ops (jc zl p) s.t s.h q) } K
   rw [hU]
   exact h8

variable {z fl tk lt : Nat → Bool} {B : Nat → Nat → Prop} {w0 : World} {m0 : Nat → Nat} {h0 : Hp} {av0 : Nat → Prop}

theorem auc (D : nk ops z B tk lt) (F : axv ops z fl B lt) {Q : Exit → Act → World → Prop} {K : St → Prop} (hQp : ∀ c a a' w, Q (.panic c) a w → Q (.panic c) a' w) (hk : ∀ s' a' w' m', K s' → Inv w0 m0 h0 av0 s' a' w' m' → Q .normal a' w') {s : St} (hlen : h0.length ≤ s.h.length) {xs : Nat → V} {ns : Nat → Hp} {ids : List Nat} {us : Nat → Option (Nat × List V)}
 (hgo : ∀ i o, i < ops.size → z i = true → ops[i]? = some o → aoz P ops ids (fl i) (hS s.h ns z z i) o (tS ops s.t xs z i) (xs i) (ns i))
 (hus : ∀ i, us i ≠ none → lt i = true)
 (hst : ∀ i, lt i = true → ∃ T a x ty pos af id off cs0 nv sz ag, ops[i]? = some ⟨none, .store T a x, ty, pos, af, none⟩ ∧ ev (tS ops s.t xs z ops.size) a = .ptr id off ∧ id ∈ ids ∧ (oS us (fun _ => true) i (hS s.h ns z z ops.size))[id]? = some (some cs0) ∧
  cellsOf (ev (tS ops s.t xs z ops.size) x) = some nv ∧ jl P T = some (sz, ag) ∧ nv.length = sz ∧ off + sz ≤ cs0.length ∧ us i = some (id, dq cs0 off nv))
 (hend : ∀ q, q ≤ ops.size → (∀ j, j < q → z j = false → lt j = true) → ib P ops (gf ops z q) { s with t := tS ops s.t xs z ops.size, h := oS us (fun _ => true) q (hS s.h ns z z ops.size) } K) :
 ∀ (fuel : Nat) (listed : Array Bool) (a : Act) (w : World) (m : Nat → Nat), listed.size = ops.size → wi B listed → (∀ i, listed.getD i false = true → z i = true ∨ lt i = true) →
  (∀ k, listed.getD k false = true → ∀ id cs, us k = some (id, cs) → ∃ c, (hS s.h ns z (fun i => listed.getD i false) ops.size)[id]? = some (some c)) → left ops.size listed ≤ fuel →
  Inv w0 m0 h0 av0 { s with t := tS ops s.t xs (fun i => listed.getD i false) ops.size, h := oS us (fun i => listed.getD i false) ops.size (hS s.h ns z (fun i => listed.getD i false) ops.size) } a w m → wpAny P .any ops Q fuel listed a w := by
 have zlt : ∀ i, lt i = true → z i = false := fun i hi => (F.op i hi).2.1
 have zus : ∀ i, z i = true → us i = none := fun i hi => by
  cases hu : us i with
  | none => rfl
  | some u => have := zlt i (hus i (by simp [hu])); rw [hi] at this; cases this
 have dlt : ∀ i, lt i = true → ez ops i = none := fun i hi => by
  obtain ⟨_, _, _, _, _, _, _, _, ho⟩ := F.op i hi
  simp [ez, ho]
 -- what is listed of the put-off operations lies ahead of what is not
 have order : ∀ (listed : Array Bool), wi B listed → ∀ i j, i < ops.size → z i = false → listed.getD i false = true → j < i → z j = false → listed.getD j false = true :=
  fun listed hc i j hi zi li hj zj => hc i j li (D.bar i j hi zi hj zj)
 have done : ∀ (fuel : Nat) (listed : Array Bool) (a : Act) (w : World) (m : Nat → Nat), listed.size = ops.size → wi B listed → (∀ i, listed.getD i false = true → z i = true ∨ lt i = true) → left ops.size listed ≤ fuel →
  Inv w0 m0 h0 av0 { s with t := tS ops s.t xs (fun i => listed.getD i false) ops.size, h := oS us (fun i => listed.getD i false) ops.size (hS s.h ns z (fun i => listed.getD i false) ops.size) } a w m → (∀ i, i < ops.size → z i = true → listed.getD i false = true) → wpAny P .any ops Q fuel listed a w := by
  intro fuel listed a w m hl hc hlz hf I hall
  -- the first one that is put off and has not run
  obtain ⟨q, hqn, hqall, hqstop⟩ : ∃ q, q ≤ ops.size ∧ (∀ j, j < q → z j = false → listed.getD j false = true) ∧ (q < ops.size → z q = false ∧ listed.getD q false = false) := by
   by_cases h : ∀ i, i < ops.size → (z i || listed.getD i false) = true
   · exact ⟨ops.size, Nat.le_refl _, fun j hj hz => by have := h j hj; rw [hz] at this; simpa using this, fun h => by omega⟩
   · obtain ⟨k, hk1, hk2, hk3⟩ := o4 ops.size (fun i => z i || listed.getD i false) h
     simp only [Bool.or_eq_false_iff] at hk2
     exact ⟨k, by omega, fun j hj hz => by have := hk3 j hj; simpa [hz] using this, fun _ => hk2⟩
  have hlate : ∀ i, i < ops.size → z i = false → (listed.getD i false = true ↔ i < q) := by
   intro i hi hz
   refine ⟨fun hli => ?_, fun hlt => hqall i hlt hz⟩
   rcases Nat.lt_or_ge i q with h | h
   · exact h
   · exfalso
     obtain ⟨hzq, hlq⟩ := hqstop (by omega)
     rcases Nat.eq_or_lt_of_le h with e | e
     · subst e; rw [hlq] at hli; cases hli
     · have := order listed hc i q hi hz hli e hzq
       rw [hlq] at this; cases this
  have ht : tS ops s.t xs (fun i => listed.getD i false) ops.size = tS ops s.t xs z ops.size := by
   refine oz (by rw [cd, cd]) (fun u hu => ?_)
   rw [cd] at hu
   refine u9 ops s.t xs _ _ u hu ops.size (fun j hj hd => ?_)
   cases hz : z j
   · cases hx : listed.getD j false
     · rfl
     · rcases hlz j hx with h | h
       · rw [hz] at h; cases h
       · rw [dlt j h] at hd; cases hd
   · exact hall j hj hz
  have hh : hS s.h ns z (fun i => listed.getD i false) ops.size = hS s.h ns z z ops.size := ka s.h ns z ops.size (fun i hi hz => by rw [hz]; exact hall i hi hz)
  have ho : oS us (fun i => listed.getD i false) ops.size (hS s.h ns z z ops.size) = oS us (fun _ => true) q (hS s.h ns z z ops.size) := by
   rw [← ah5 q _ ops.size hqn]
   refine q9 _ _ (fun i hi hu => ?_)
   have := hlate i hi (zlt i (hus i hu))
   by_cases e : i < q
   · rw [this.2 e]; simp [e]
   · cases hx : listed.getD i false
     · simp [e]
     · exact absurd (this.1 hx) e
  rw [ht, hh, ho] at I
  refine amn D hk (ops.size - q) q (by omega) fuel listed _ a w m hl (fun i hi => ?_) hf I (hend q hqn (fun j hj hz => by
   rcases hlz j (hqall j hj hz) with h | h
   · rw [hz] at h; cases h
   · exact h))
  cases hz : z i
  · rw [hlate i hi hz]; simp
  · simp [hall i hi hz]
 intro fuel
 induction fuel with
 | zero =>
  intro listed a w m hl hc hlz hpr hf I
  refine done 0 listed a w m hl hc hlz hf I (fun i hi _ => ?_)
  cases hx : listed.getD i false
  · have := zx (listed := listed) hi (by rw [gq (by omega)]; exact hx)
    omega
  · rfl
 | succ fuel ih =>
  intro listed a w m hl hc hlz hpr hf I
  by_cases hall : ∀ i, i < ops.size → (!(z i) || listed.getD i false) = true
  · exact done (fuel + 1) listed a w m hl hc hlz hf I (fun i hi hz => by have := hall i hi; simpa [hz] using this)
  · obtain ⟨k, hkn, hku, hkl⟩ := o4 ops.size (fun i => !(z i) || listed.getD i false) hall
    simp only [Bool.or_eq_false_iff, Bool.not_eq_false'] at hku
    obtain ⟨hkz, hku⟩ := hku
    have hkr : k ∈ Region.ready .any ops listed := progress D hkn (by rw [gq (by omega)]; exact hku) (fun j hj hz => by
     have := hkl j hj
     simpa [hz hkz] using this)
    -- what is closed after one more
    have closed' : ∀ i, i ∈ Region.ready .any ops listed → wi B (listed.setIfInBounds i true) := by
     intro i hr i' j hl' hB
     obtain ⟨hi, hu⟩ := gx hr
     rw [cq (by omega)] at hl' ⊢
     by_cases e : i = j
     · rw [if_pos e]
     · rw [if_neg e]
       by_cases e' : i = i'
       · subst e'
         exact jm D hc hr hB
       · rw [if_neg e'] at hl'
         exact hc i' j hl' hB
    -- a block that is there under the stores is there without them
    have under : ∀ (id : Nat) (c : List V), (oS us (fun i => listed.getD i false) ops.size (hS s.h ns z (fun i => listed.getD i false) ops.size))[id]? = some (some c) → ∃ c', (hS s.h ns z (fun i => listed.getD i false) ops.size)[id]? = some (some c') := by
     intro id c hid
     by_cases hex : ∃ k cs, listed.getD k false = true ∧ us k = some (id, cs)
     · obtain ⟨k, cs, h1, h2⟩ := hex
       exact hpr k h1 id cs h2
     · rw [afd _ _ _ (fun i hi hs cs hu => hex ⟨i, cs, hs, hu⟩)] at hid
       exact ⟨c, hid⟩
    -- one quiet operation, ready
    have main : ∀ i, i ∈ Region.ready .any ops listed → z i = true → (∃ hi : i < ops.size, aoz P ops ids (fl i) (hS s.h ns z z i) ops[i] (tS ops s.t xs (fun i => listed.getD i false) ops.size) (xs i) (ns i) ∧
     ∀ (v : Value) (w' : World) (m' : Nat → Nat), Inv w0 m0 h0 av0 (({ s with t := tS ops s.t xs (fun i => listed.getD i false) ops.size, h := dv (oS us (fun i => listed.getD i false) ops.size (hS s.h ns z (fun i => listed.getD i false) ops.size)) (hS s.h ns z z i).length (ns i) } : St).put ops[i].dst (xs i)) (a.put ops[i].dst v) w' m' →
      wpAny P .any ops Q fuel (listed.setIfInBounds i true) (a.put ops[i].dst v) w') := by
     intro i hr hzi
     obtain ⟨hi, hu⟩ := gx hr
     have hu' : listed.getD i false = false := by rw [← gq (by omega)]; exact hu
     have hget : ops[i]? = some ops[i] := Array.getElem?_eq_getElem hi
     have hwr : ∀ u, (u ∈ ops[i].looksAt ops ∨ ops[i].dst = some u) → ∀ j, j < ops.size → ez ops j = some u → (listed.getD j false = true ↔ j < i ∧ z j = true) := by
      intro u hmem j hj hd
      by_cases e : j = i
      · subst e; simp [hu']
      · by_cases hzj : z j = true
        · have hgj : ops[j]? = some ops[j] := Array.getElem?_eq_getElem hj
          have hcl : ly ops j i = true := by
           have hd' : ops[j].dst = some u := by simpa [ez, hgj] using hd
           unfold ly
           simp only [hgj, hget, hd']
           rcases hmem with h | h
           · simp [h]
           · simp [h]
          obtain ⟨c1, c2⟩ := D.cl i j hi hj hzi hzj e hcl
          rcases Nat.lt_or_ge j i with h | h
          · exact ⟨fun _ => ⟨h, hzj⟩, fun _ => jm D hc hr (c1 h)⟩
          · refine ⟨fun hx => ?_, fun hx => by omega⟩
            have := hc j i hx (c2 (by omega))
            rw [hu'] at this
            cases this
        · refine ⟨fun hx => ?_, fun hx => absurd hx.2 hzj⟩
          rcases hlz j hx with h | h
          · exact absurd h hzj
          · rw [dlt j h] at hd; cases hd
     have hat : ∀ u, (u ∈ ops[i].looksAt ops ∨ ops[i].dst = some u) → (tS ops s.t xs z i).getD u .undef = (tS ops s.t xs (fun i => listed.getD i false) ops.size).getD u .undef :=
      fun u hmem => (qy ops s.t xs _ z u i ops.size (by omega) (hwr u hmem)).symm
     have hgo1 := hgo i _ hi hzi hget
     refine ⟨hi, ?_, ?_⟩
     · unfold aoz at hgo1 ⊢
       refine ab4 (fun g b hg => ?_) (fun h => abm (fun x hx => aay fun u hxu => hat u (.inl (ia (hxu ▸ hx)))) h) hgo1
       unfold gv
       cases hd : (ops[g]?).bind (·.dst) with
       | none => rfl
       | some d => exact hat d (.inl (ny hg hd))
     · intro v w' m' I'
       have hout : ∀ k, listed.getD k false = true → ∀ id cs, us k = some (id, cs) → id < (hS s.h ns z z i).length ∨ (hS s.h ns z z i).length + (ns i).length ≤ id := by
        intro k hlk id cs huk
        obtain ⟨c, hc1⟩ := hpr k hlk id cs huk
        rcases Nat.lt_or_ge id (hS s.h ns z z i).length with h1 | h1
        · exact .inl h1
        · rcases Nat.lt_or_ge id ((hS s.h ns z z i).length + (ns i).length) with h2 | h2
          · have := z8 s.h ns z (fun i => listed.getD i false) hi hzi hu' (id - (hS s.h ns z z i).length) (by omega)
            rw [show (hS s.h ns z z i).length + (id - (hS s.h ns z z i).length) = id by omega, hc1] at this
            simp at this
          · exact .inr h2
       have hst' : ({ s with t := tS ops s.t xs (fun i => listed.getD i false) ops.size, h := dv (oS us (fun i => listed.getD i false) ops.size (hS s.h ns z (fun i => listed.getD i false) ops.size)) (hS s.h ns z z i).length (ns i) } : St).put ops[i].dst (xs i) =
        { s with t := tS ops s.t xs (fun j => (listed.setIfInBounds i true).getD j false) ops.size, h := oS us (fun j => (listed.setIfInBounds i true).getD j false) ops.size (hS s.h ns z (fun j => (listed.setIfInBounds i true).getD j false) ops.size) } := by
        rw [put_eq]
        congr 1
        · refine oz (by rw [kj, cd, cd]) (fun u hu2 => ?_)
          rw [kj, cd] at hu2
          rw [iv _ _ _ _ (by rw [cd]; exact hu2)]
          have hdi : ez ops i = ops[i].dst := by simp [ez, hget]
          by_cases hd : ops[i].dst = some u
          · rw [if_pos hd]
            rw [qy ops s.t xs _ z u (i + 1) ops.size (by omega) (fun j hj hdj => ?_)]
            · simp only [tS, hzi, if_true]
              rw [iv _ _ _ _ (by rw [cd]; exact hu2), hdi, if_pos hd]
            · rw [cq (by omega)]
              by_cases e : i = j
              · subst e; simp [hzi]
              · rw [if_neg e, hwr u (.inr hd) j hj hdj]
                constructor <;> rintro ⟨h, h'⟩ <;> exact ⟨by omega, h'⟩
          · rw [if_neg hd]
            refine u9 ops s.t xs _ _ u hu2 ops.size (fun j hj hdj => ?_)
            rw [cq (by omega), if_neg]
            rintro rfl
            rw [hdi] at hdj
            exact hd hdj
        · have e1 : hS s.h ns z (fun j => (listed.setIfInBounds i true).getD j false) ops.size = dv (hS s.h ns z (fun i => listed.getD i false) ops.size) (hS s.h ns z z i).length (ns i) := by
           refine (ads s.h ns z _ _ hi hzi hu' ?_ (fun j hj => ?_)).symm
           · rw [cq (by omega), if_pos rfl]
           · rw [cq (by omega), if_neg (Ne.symm hj)]
          have e2 : ∀ h, oS us (fun j => (listed.setIfInBounds i true).getD j false) ops.size h = oS us (fun i => listed.getD i false) ops.size h := fun h => q9 _ _ (fun j hj hu2 => by
           rw [cq (by omega), if_neg]
           rintro rfl
           exact hu2 (zus i hzi))
          rw [e1, e2]
          exact (alm _ _ _ _ (fun k _ hlk id cs huk => hout k hlk id cs huk)).symm
       rw [hst'] at I'
       refine ih _ _ w' m' (by simpa using hl) (closed' i hr) (fun j hj => ?_) (fun k' hk' id cs huk => ?_) (by have := lv hi hl hu; omega) I'
       · rw [cq (by omega)] at hj
         by_cases e : i = j
         · subst e; exact .inl hzi
         · rw [if_neg e] at hj
           exact hlz j hj
       · rw [cq (by omega)] at hk'
         by_cases e : i = k'
         · subst e; rw [zus i hzi] at huk; cases huk
         · rw [if_neg e] at hk'
           obtain ⟨c, hc1⟩ := hpr k' hk' id cs huk
           exact ⟨c, air s.h ns z _ _ ops.size id c (fun j hj _ hjl => by rw [cq (by omega)]; split; rfl; exact hjl) hc1⟩
    -- one of the first stores, ready
    have store : ∀ i, i ∈ Region.ready .any ops listed → lt i = true → wpOp P ops Q i (wpAny P .any ops Q fuel (listed.setIfInBounds i true)) a w := by
     intro i hr hli
     obtain ⟨hi, hu⟩ := gx hr
     have hu' : listed.getD i false = false := by rw [← gq (by omega)]; exact hu
     obtain ⟨T, ad, x, ty, pos, af, id, off, cs0, nv, sz, ag, ho, h1, h2, h3, h4, h5, h6, h7, h8⟩ := hst i hli
     have hgi : ops[i] = ⟨none, .store T ad x, ty, pos, af, none⟩ := by
      rw [Array.getElem?_eq_getElem hi] at ho
      simpa using ho
     have hat : ∀ y, y ∈ (Op.store T ad x).operands → ev (tS ops s.t xs z ops.size) y = ev (tS ops s.t xs (fun i => listed.getD i false) ops.size) y := by
      intro y hy
      refine aay fun u hyu => ?_
      subst hyu
      have hmem : u ∈ (⟨none, .store T ad x, ty, pos, af, none⟩ : Oper).looksAt ops := ia hy
      by_cases hu2 : u < s.t.length
      · refine u9 ops s.t xs _ _ u hu2 ops.size (fun j hj hd => ?_)
        cases hz : z j
        · cases hx : listed.getD j false
          · rfl
          · rcases hlz j hx with h | h
            · rw [hz] at h; cases h
            · rw [dlt j h] at hd; cases hd
        · have hgj : ops[j]? = some ops[j] := Array.getElem?_eq_getElem hj
          have hcl : ly ops j i = true := by
           have hd' : ops[j].dst = some u := by simpa [ez, hgj] using hd
           unfold ly
           simp only [hgj, ho, hd']
           simp [hmem]
          exact (jm D hc hr (F.cl i j hli hj hz hcl)).symm
      · have e : ∀ (l : List V), l.length = s.t.length → l.getD u .undef = .undef := fun l hl2 => by
         rw [List.getD_eq_getElem?_getD, List.getElem?_eq_none (by rw [hl2]; exact Nat.le_of_not_lt hu2)]; rfl
        rw [e _ (cd ..), e _ (cd ..)]
     have hA := hat ad (by simp [Op.operands])
     have hX := hat x (by simp [Op.operands])
     -- the block as it is now
     have hrv := I.ev ad
     dsimp only at hrv
     rw [← hA, h1] at hrv
     have hcl : ∃ c, (oS us (fun i => listed.getD i false) ops.size (hS s.h ns z (fun i => listed.getD i false) ops.size))[id]? = some (some c) := by
      revert hrv
      generalize a.eval ad = val
      intro hrv
      cases hrv with
      | ptr _ _ cs hid => exact ⟨cs, hid.1⟩
     obtain ⟨c, hc1⟩ := hcl
     have hbefore : ∀ j, j < ops.size → us j ≠ none → (listed.getD j false = true ↔ j < i) := by
      intro j hj huj
      have hzj := zlt j (hus j huj)
      refine ⟨fun hlj => ?_, fun hji => jm D hc hr (D.bar i j hi (zlt i hli) hji hzj)⟩
      rcases Nat.lt_or_ge j i with h | h
      · exact h
      · exfalso
        rcases Nat.eq_or_lt_of_le h with e | e
        · subst e; rw [hu'] at hlj; cases hlj
        · have := order listed hc j i hj hzj hlj e (zlt i hli)
          rw [hu'] at this; cases this
     have hoe : ∀ h, oS us (fun i => listed.getD i false) ops.size h = oS us (fun _ => true) i h := fun h => by
      rw [← ah5 i h ops.size (Nat.le_of_lt hi)]
      refine q9 _ _ (fun j hj huj => ?_)
      have := hbefore j hj huj
      by_cases e : j < i
      · rw [this.2 e]; simp [e]
      · cases hx : listed.getD j false
        · simp [e]
        · exact absurd (this.1 hx) e
     have hcc : c = cs0 := by
      have h9 := hc1
      rw [hoe] at h9
      have := am9 (us := us) (S := fun _ => true) i _ (hS s.h ns z z ops.size) (xd s.h ns z _ _ ops.size) (fun id c hid => air s.h ns z _ _ ops.size id c (fun j hj hz _ => hz) hid) id c h9
      rw [h3] at this
      simpa using this.symm
     subst hcc
     have hfop : fop P { s with t := tS ops s.t xs (fun i => listed.getD i false) ops.size, h := oS us (fun i => listed.getD i false) ops.size (hS s.h ns z (fun i => listed.getD i false) ops.size) } ⟨none, .store T ad x, ty, pos, af, none⟩
      (fun s' => s' = { s with t := tS ops s.t xs (fun i => listed.getD i false) ops.size, h := (oS us (fun i => listed.getD i false) ops.size (hS s.h ns z (fun i => listed.getD i false) ops.size)).set id (some (dq c off nv)) }) := by
      have hs2 : mi P (oS us (fun i => listed.getD i false) ops.size (hS s.h ns z (fun i => listed.getD i false) ops.size)) T (ev (tS ops s.t xs (fun i => listed.getD i false) ops.size) ad) (ev (tS ops s.t xs (fun i => listed.getD i false) ops.size) x)
       (fun h' => h' = (oS us (fun i => listed.getD i false) ops.size (hS s.h ns z (fun i => listed.getD i false) ops.size)).set id (some (dq c off nv))) := by
       unfold mi
       rw [← hA, ← hX, h1, h4]
       dsimp only
       rw [hc1, h5]
       exact ⟨h6, h7, rfl⟩
      unfold fop
      dsimp only
      unfold mi at hs2 ⊢
      rw [← hA, ← hX, h1, h4] at hs2 ⊢
      dsimp only at hs2 ⊢
      rw [hc1, h5] at hs2 ⊢
      exact ⟨h6, h7, rfl⟩
     have hset : (oS us (fun i => listed.getD i false) ops.size (hS s.h ns z (fun i => listed.getD i false) ops.size)).set id (some (dq c off nv)) =
      oS us (fun j => (listed.setIfInBounds i true).getD j false) ops.size (hS s.h ns z (fun j => (listed.setIfInBounds i true).getD j false) ops.size) := by
      have e1 : hS s.h ns z (fun j => (listed.setIfInBounds i true).getD j false) ops.size = hS s.h ns z (fun i => listed.getD i false) ops.size := ka s.h ns z ops.size (fun j hj hz => by
       rw [cq (by omega), if_neg]
       rintro rfl
       rw [zlt i hli] at hz; cases hz)
      rw [e1]
      refine (as9 (us := us) (S := fun i => listed.getD i false) (i := i) h8 hu' ?_ (fun j hj => ?_) (fun j hj hlj => ?_) _ ops.size hi).symm
      · rw [cq (by omega), if_pos rfl]
      · rw [cq (by omega), if_neg (Ne.symm hj)]
      · cases huj : us j with
        | none => rfl
        | some u =>
         exfalso
         have hjn : j < ops.size := by
          rcases Nat.lt_or_ge j ops.size with h | h
          · exact h
          · simp [Array.getD, show ¬ j < listed.size by omega] at hlj
         have := (hbefore j hjn (by simp [huj])).1 hlj
         omega
     have hts : tS ops s.t xs (fun j => (listed.setIfInBounds i true).getD j false) ops.size = tS ops s.t xs (fun i => listed.getD i false) ops.size := by
      refine oz (by rw [cd, cd]) (fun u hu2 => ?_)
      rw [cd] at hu2
      refine u9 ops s.t xs _ _ u hu2 ops.size (fun j hj hdj => ?_)
      rw [cq (by omega), if_neg]
      rintro rfl
      rw [dlt i hli] at hdj; cases hdj
     unfold wpOp
     rw [ho]
     dsimp only
     have hw : Region.wanted (⟨none, .store T ad x, ty, pos, af, none⟩ : Oper) (yielded ops a.tmps) = true := rfl
     rw [if_pos hw]
     refine .inl (afo I hfop (fun s' a' w' m' hs' I' => ?_))
     subst hs'
     rw [hset, ← hts] at I'
     refine ih _ a' w' m' (by simpa using hl) (closed' i hr) (fun j hj => ?_) (fun k' hk' id' cs huk => ?_) (by have := lv hi hl hu; omega) I'
     · rw [cq (by omega)] at hj
       by_cases e : i = j
       · subst e; exact .inr hli
       · rw [if_neg e] at hj
         exact hlz j hj
     · have e1 : hS s.h ns z (fun j => (listed.setIfInBounds i true).getD j false) ops.size = hS s.h ns z (fun i => listed.getD i false) ops.size := ka s.h ns z ops.size (fun j hj hz => by
        rw [cq (by omega), if_neg]
        rintro rfl
        rw [zlt i hli] at hz; cases hz)
       rw [e1]
       rw [cq (by omega)] at hk'
       by_cases e : i = k'
       · subst e
         rw [h8] at huk
         simp only [Option.some.injEq, Prod.mk.injEq] at huk
         obtain ⟨rfl, _⟩ := huk
         exact under id c hc1
       · rw [if_neg e] at hk'
         exact hpr k' hk' id' cs huk
    -- no store has run ahead of a quiet operation that no store may come ahead of
    have nost : ∀ i, i ∈ Region.ready .any ops listed → z i = true → fl i = false → ∀ j, listed.getD j false = true → us j = none := by
     intro i hr hzi hfi j hlj
     obtain ⟨hi, hu⟩ := gx hr
     cases huj : us j with
     | none => rfl
     | some u =>
      exfalso
      have := hc j i hlj (F.af j i (hus j (by simp [huj])) hi hzi hfi)
      rw [← gq (by omega), hu] at this
      cases this
    have agree : ∀ i, i ∈ Region.ready .any ops listed → z i = true → ∀ (id : Nat) (cs cs' : List V), (oS us (fun i => listed.getD i false) ops.size (hS s.h ns z (fun i => listed.getD i false) ops.size))[id]? = some (some cs) → (ac4 ids (fl i) (hS s.h ns z z i))[id]? = some (some cs') → cs = cs' := by
     intro i hr hzi id cs cs' g1 g2
     obtain ⟨hi, hu⟩ := gx hr
     cases hfi : fl i with
     | true =>
      rw [hfi] at g2
      obtain ⟨g3, g4⟩ := ano ids _ id cs' g2
      rw [afd _ _ _ (fun j hj hs c hu => by
       obtain ⟨_, _, _, _, _, _, id', _, _, _, _, _, _, _, h2, _, _, _, _, _, h8⟩ := hst j (hus j (by simp [hu]))
       rw [hu] at h8
       simp only [Option.some.injEq, Prod.mk.injEq] at h8
       exact g3 (h8.1 ▸ h2))] at g1
      exact aaq s.h ns z _ (Nat.le_of_lt hi) id cs cs' g1 g4
     | false =>
      rw [hfi] at g2
      rw [afd _ _ _ (fun j hj hs c hu => by
       have := nost i hr hzi hfi j hs
       rw [this] at hu; cases hu)] at g1
      exact aaq s.h ns z _ (Nat.le_of_lt hi) id cs cs' g1 g2
    have hplace : ∀ i, i ∈ Region.ready .any ops listed → z i = true → ∀ j, j < (ns i).length → (oS us (fun i => listed.getD i false) ops.size (hS s.h ns z (fun i => listed.getD i false) ops.size))[(ac4 ids (fl i) (hS s.h ns z z i)).length + j]? = some none := by
     intro i hr hzi j hj
     obtain ⟨hi, hu⟩ := gx hr
     have hu' : listed.getD i false = false := by rw [← gq (by omega)]; exact hu
     have hn := z8 s.h ns z (fun i => listed.getD i false) hi hzi hu' j hj
     rw [adt, afd _ _ _ (fun k _ hlk cs huk => ?_)]
     · exact hn
     · obtain ⟨c, hc1⟩ := hpr k hlk _ cs huk
       rw [hn] at hc1
       simp at hc1
    by_cases ht : tk k = true
    · -- the operation goes first
      obtain ⟨hi, hg, next⟩ := main k hkr hkz
      have hget : ops[k]? = some ops[k] := Array.getElem?_eq_getElem hi
      obtain ⟨hto, hap⟩ := D.take k _ hget ht
      unfold aoz at hg
      have hyn : ∃ v, Yields P ops ops[k] v a ∧ RV w m (oS us (fun i => listed.getD i false) ops.size (hS s.h ns z (fun i => listed.getD i false) ops.size)) (avm av0 m (oS us (fun i => listed.getD i false) ops.size (hS s.h ns z (fun i => listed.getD i false) ops.size))) true v (xs k) ∧ ns k = [] := by
       rcases oo I hg with ⟨hw, hg⟩ | ⟨hw, hg⟩
       · obtain ⟨v, x, ⟨h1, h2⟩, h3, h4⟩ := aqj I hto hg
         subst h1
         exact ⟨v, .inl ⟨hw, h4⟩, h3, h2.symm⟩
       · exact ⟨Go.undef, .inr ⟨hw, rfl⟩, by rw [hg.1]; exact .skip, hg.2⟩
      obtain ⟨v, hy, hrv, hn⟩ := hyn
      refine wpAny_first hget D.sel (fun c a' w' h => hQp c _ _ w' h) fuel listed a w (fun j oj hj hne hun hno => hap j oj hj hne (fun hB => ?_) hno) hkr hy (next v w m ?_)
      · have := jm D hc hkr hB
        rw [gq (by rw [hl]; exact (Array.getElem?_eq_some_iff.1 hj).1), this] at hun
        cases hun
      · rw [hn]
        exact I.put hrv
    · refine ⟨(fun hr => by rw [hr] at hkr; cases hkr), fun i hr => ?_⟩
      obtain ⟨hi, hu⟩ := gx hr
      cases hzi : z i with
      | false =>
       rcases D.mix i k hi hkn hzi hkz with h | h | h
       · have := jm D hc hr h
         rw [hku] at this
         cases this
       · exact absurd h ht
       · exact store i hr h
      | true =>
       obtain ⟨_, hg, next⟩ := main i hr hzi
       have hu' : listed.getD i false = false := by rw [← gq (by omega)]; exact hu
       unfold wpOp
       simp only [Array.getElem?_eq_getElem hi]
       unfold aoz at hg
       rcases oo I hg with ⟨h1, h2⟩ | ⟨h1, h2⟩
       · rw [if_pos h1]
         refine .inl (alu I (ht := ac4 ids (fl i) (hS s.h ns z z i)) (agree i hr hzi) (by rw [adt]; exact Nat.le_trans hlen (aku s.h ns z z i)) (hplace i hr hzi) h2 (fun v w' m' I' => next v w' m' (by rw [adt] at I'; exact I')))
       · rw [if_neg (by simp [h1])]
         refine next _ w m ?_
         rw [h2.1, h2.2]
         exact I.put .skip

theorem aqc {zl : List Bool} {p i j : Nat} (hi : jc zl p i = true) (hj : j < i) (hzj : zl.getD j false = false) (hl : j < zl.length) : jc zl p j = true := by
 unfold jc at hi ⊢
 simp only [Bool.and_eq_true, decide_eq_true_eq, Bool.not_eq_true'] at hi ⊢
 refine ⟨?_, ?_⟩
 · simp only [List.getD_eq_getElem?_getD, List.getElem?_eq_getElem hl, Option.getD_some] at hzj ⊢
   exact hzj
 · have : ((zl.take j).filter (!·)).length ≤ ((zl.take i).filter (!·)).length := by
    have h2 : zl.take j = (zl.take i).take j := by rw [List.take_take]; congr 1; omega
    rw [h2]
    exact List.Sublist.length_le (List.Sublist.filter _ (List.take_sublist _ _))
   omega

theorem ai7 (hm : P.follows .mixedOrders = true) {Q : Exit → Act → World → Prop} {K : St → Prop} (hk : ∀ s' a' w' m', K s' → Inv w0 m0 h0 av0 s' a' w' m' → Q .normal a' w')
 {s : St} {a : Act} {w : World} {m : Nat → Nat} (I : Inv w0 m0 h0 av0 s a w m) (hq : ltT P ops s K) {id : Nat} : (Code.region id ops true).wp P Q a w := by
 obtain ⟨zl, fl, p, ids, h1, h2⟩ := hq
 obtain ⟨D, hzl, hfl, F⟩ := ak9 h1
 obtain ⟨xs, ns, g1, g2⟩ := an2 hzl hfl h2 ops.size (Nat.le_refl _)
 rw [List.drop_of_length_le (show zl.length ≤ ops.size by omega)] at g2
 have g3 : rz P ops ids p (o7 (zl.map (!·)) ops.toList) { s with t := tS ops s.t xs (fun i => zl.getD i false) ops.size, h := hS s.h ns (fun i => zl.getD i false) (fun i => zl.getD i false) ops.size } K := g2
 have hrs : gf ops (fun i => zl.getD i false) 0 = o7 (zl.map (!·)) ops.toList := by simpa using vk hzl ops.size 0 (by omega)
 rw [← hrs] at g3
 have path := agt hzl g3
 dsimp only at path
 refine wp_mono (Q := fun e a w => e = .normal ∧ Q .normal a w) ?_ (fun e a w h => by rw [h.1]; exact h.2)
 refine wp_region_any hm ?_
 have hz : ∀ i, (Array.replicate ops.size false).getD i false = false := fun i => by simp [Array.getD]
 refine auc (fl := fun i => fl.getD i false) D F (fun c a a' w h => by cases h.1) (fun s' a' w' m' g1 g2 => ⟨rfl, hk s' a' w' m' g1 g2⟩) I.len (xs := xs) (ns := ns) (ids := ids)
  (us := fun i => ltU ops (jc zl p) (tS ops s.t xs (fun i => zl.getD i false) ops.size) (ltH ops (jc zl p) (tS ops s.t xs (fun i => zl.getD i false) ops.size) (hS s.h ns (fun i => zl.getD i false) (fun i => zl.getD i false) ops.size) i) i)
  (fun i o hi zi ho => g1 i o hi zi ho) (fun i hi => ?_) (fun i hi => ?_) (fun q hq hall => ?_) ops.size _ a _ m (by simp) (fun i j hl => by rw [hz] at hl; cases hl) (fun i hl => by rw [hz] at hl; cases hl) (fun i hl => by rw [hz] at hl; cases hl) ?_ ?_
 · cases hl : jc zl p i with
   | true => rfl
   | false => exact absurd (by unfold ltU; rw [hl]; rfl) hi
 · obtain ⟨hin, hzi, _⟩ := F.op i hi
   have hp := path i (Nat.le_of_lt hin) (fun j hj hzj => aqc hi hj hzj (by omega))
   rw [ov hin] at hp
   have hzi' : zl.getD i false = false := hzi
   rw [hzi', if_neg (by simp)] at hp
   have hcnt : ((zl.take i).filter (!·)).length < p := by
    unfold jc at hi
    simp only [Bool.and_eq_true, decide_eq_true_eq] at hi
    exact hi.2
   obtain ⟨r, hr⟩ : ∃ r, p - ((zl.take i).filter (!·)).length = r + 1 := ⟨p - ((zl.take i).filter (!·)).length - 1, by omega⟩
   rw [hr] at hp
   obtain ⟨T, ad, x, ty, pos, af, id, off, cs0, nv, sz, ag, ho, k1, k2, k3, k4, k5, k6, k7, k8⟩ := ab6 hp
   have hget : ops[i]? = some ops[i] := Array.getElem?_eq_getElem hin
   rw [ho] at hget
   refine ⟨T, ad, x, ty, pos, af, id, off, cs0, nv, sz, ag, hget, k1, k2, ?_, k4, k5, k6, k7, ?_⟩
   · rw [amr]
     exact k3
   · unfold ltU
     rw [hi, if_pos rfl, hget]
     dsimp only at k1 k4 k3 ⊢
     rw [k1, k4]
     dsimp only
     rw [k3]
 · rw [amr]
   exact afa _ _ _ _ (path q hq hall)
 · unfold left
   exact Nat.le_trans (List.length_filter_le _ _) (by simp)
 · have e : tS ops s.t xs (fun i => (Array.replicate ops.size false).getD i false) ops.size = s.t := by
    rw [wx ops _ xs _ (fun _ => false) ops.size (fun i _ => hz i)]
    have : ∀ q, tS ops s.t xs (fun _ => false) q = s.t := by
     intro q
     induction q with
     | zero => rfl
     | succ q ih => simpa [tS] using ih
    exact this _
   rw [e, ka s.h ns (fun i => zl.getD i false) (S' := fun _ => false) ops.size (fun i _ _ => hz i), q9 ops.size _ (S' := fun _ => false) (fun i _ _ => hz i)]
   have e2 : ∀ (us : Nat → Option (Nat × List V)) (q : Nat) (h : Hp), oS us (fun _ => false) q h = h := by
    intro us q h
    induction q with
    | zero => rfl
    | succ q ih =>
     rw [oS, ih]
     unfold ac0
     split <;> rfl
   rw [e2]
   obtain ⟨k, hk'⟩ := zd s.h ns (fun i => zl.getD i false) ops.size
   rw [hk']
   exact (I.world (Ext.drew _ w)).pad k

end
end Go.Lv
end
section
namespace Go.Lv

inductive Tr where
 | done
 | stop
 | take (i : Nat) (t : Tr)
 | alt (i : Nat) (t u : Tr)

def Tr.heads : Tr → List Nat
 | .alt i _ u => i :: u.heads
 | _ => []

def vx (P : Program) (ops : Array Oper) (i : Nat) (s : St) (K : St → Prop) : Prop :=
 match ops[i]? with
 | some o => gdA ops s.t o.guard (fop P s o K) (K (s.put o.dst .skip))
 | none => False

def trA (P : Program) (ops : Array Oper) : Tr → St → (St → Prop) → Prop
 | .done, s, K => K s
 | .stop, _, _ => True
 | .take i t, s, K => vx P ops i s fun s' => trA P ops t s' K
 | .alt i t u, s, K => vx P ops i s (fun s' => trA P ops t s' K) ∧ trA P ops u s K

def aiu (ops : Array Oper) (i : Nat) : Bool :=
 match ops[i]? with
 | some o => om o
 | none => false

def ac3 (ops : Array Oper) : Tr → Array Bool → Bool → Bool
 | .done, l, f => f && (Region.ready .any ops l).isEmpty
 | .stop, _, f => !f
 | .take i t, l, f => f && ((Region.ready .any ops l).contains i && (aiu ops i && (Region.free .any ops l i && ac3 ops t (l.setIfInBounds i true) true)))
 | .alt i t u, l, f => (!f || (!(Region.ready .any ops l).isEmpty && (Region.ready .any ops l).all fun j => (Tr.alt i t u).heads.contains j)) && (ac3 ops t (l.setIfInBounds i true) true && ac3 ops u l false)

def trT (P : Program) (ops : Array Oper) (s : St) (K : St → Prop) : Prop :=
 ∃ tr : Tr, (Region.noSelect ops && ac3 ops tr (Array.replicate ops.size false) true) = true ∧ trA P ops tr s K

theorem trT.intro {P : Program} {ops : List Oper} {s : St} {K : St → Prop} (tr : Tr) (h1 : (Region.noSelect ops.toArray && ac3 ops.toArray tr (Array.replicate ops.toArray.size false) true) = true) (h2 : trA P ops.toArray tr s K) : trT P ops.toArray s K := ⟨tr, h1, h2⟩

section
variable {P : Program} {ops : Array Oper} {w0 : World} {m0 : Nat → Nat} {h0 : Hp} {av0 : Nat → Prop} {s : St} {a : Act} {w : World} {m : Nat → Nat}

theorem anh (I : Inv w0 m0 h0 av0 s a w m) {o : Oper} (hp : om o = true) {K : St → Prop} (hq : fop P s o K) :
 ∃ v x, K (s.put o.dst x) ∧ RV w m s.h (avm av0 m s.h) true v x ∧ ∀ w', (execOp a.eval o).run P w' = .ok (.value v) w' := by
 obtain ⟨dst, op, ty, pos, after, guard⟩ := o
 unfold om at hp
 unfold ag7 at hp
 dsimp only at hp hq ⊢
 split at hp
 · rename_i T u f
   have hq' : ff P T f (ev s.t (.tmp u)) (fun v => K (s.put dst v)) := hq
   obtain ⟨v, y, h1, h3, h4⟩ := adl (P := P) (I.ev (.tmp u)) hq'
   exact ⟨v, y, h1, h3, fun w' => by simp [execOp, h4 w']⟩
 · rename_i T u1 u2
   have hq' : jg (ev s.t (.tmp u2)) (fun _ n => eo P T (ev s.t (.tmp u1)) n fun v => K (s.put dst v)) := hq
   obtain ⟨kd, n, e1, _, hq'⟩ := l9 (I.ev (.tmp u2)) hq'
   obtain ⟨v, y, h1, h3, h4⟩ := aa3 (P := P) (t := T) (I.ev (.tmp u1)) e1 hq'
   exact ⟨v, y, h1, h3, fun w' => by simp [execOp, h4 w']⟩
 · rename_i u
   have hq' : K (s.put dst (ev s.t (.tmp u))) := hq
   exact ⟨_, _, hq', I.ev (.tmp u), fun w' => by simp [execOp]⟩
 · rename_i u x1 x2
   have hq' : km (ev s.t (.tmp u)) (fun b => K (s.put dst (if b then ev s.t x1 else ev s.t x2))) := hq
   obtain ⟨b, e1, _, hq'⟩ := ng (I.ev (.tmp u)) hq'
   refine ⟨if b then a.eval x1 else a.eval x2, _, hq', ?_, fun w' => ?_⟩
   · cases b
     · exact I.ev x2
     · exact I.ev x1
   · cases b <;> simp [execOp, e1, asBool]
 · rename_i bop T x1 x2 t'
   have hq' : bin P bop T (kO x1 || kO x2) (ev s.t x1) (ev s.t x2) (fun v => K (s.put dst v)) := hq
   obtain ⟨z, e1, hl, h4⟩ := adk (P := P) (t := T) (I.ev x1) (I.ev x2) hq'
   refine ⟨al5 z, z, e1, ae6 hl, fun w' => ?_⟩
   have := h4 w' x1 x2 id
   simp only [execOp]
   rw [Sem.run_bind, this]
   rfl
 · rename_i u j
   have hq' : o2 (ev s.t (.tmp u)) j (fun v => K (s.put dst v)) := hq
   have hx := I.ev (.tmp u)
   generalize hue : a.eval (.tmp u) = uv at hx
   generalize ev s.t (.tmp u) = xv at hx hq'
   cases hx with
   | tup ar vs ha hra =>
    unfold o2 at hq'
    dsimp only at hq'
    split at hq'
    · rename_i v hv
      have hlt : j < vs.length := (List.getElem?_eq_some_iff.1 hv).1
      have hr := hra j hlt
      rw [(List.getElem?_eq_some_iff.1 hv).2] at hr
      have hlt' : j < ar.size := by omega
      exact ⟨ar.getD j Go.undef, v, hq', hr, fun w' => by simp [execOp, hue, Instr.extract, Array.getD, hlt']⟩
    · exact hq'.elim
   | _ => exact hq'.elim
 · rename_i T x
   have hq' : km (ev s.t x) (fun b => K (s.put dst (.bool (!b)))) := hq
   obtain ⟨b, e1, _, hq'⟩ := ng (I.ev x) hq'
   exact ⟨.bool (!b), _, hq', .bool _, fun w' => by simp [execOp, Op.unary, e1]⟩
 · rename_i u
   have hq' : ya (ev s.t (.tmp u)) (fun v => K (s.put dst v)) := hq
   have hx := I.ev (.tmp u)
   generalize hue : a.eval (.tmp u) = uv at hx
   generalize ev s.t (.tmp u) = xv at hx hq'
   cases hx with
   | ptr id off cs hid => exact ⟨_, _, hq', .ptr id off cs hid, fun w' => by simp [execOp, hue]⟩
   | pt b off cs vals ha hv hr => exact ⟨_, _, hq', .pt b off cs vals ha hv hr, fun w' => by simp [execOp, hue]⟩
   | fn f a1 c1 a' c' ha hc hra hrc =>
    cases f with
    | func f => exact ⟨_, _, hq', .fn _ a1 c1 a' c' ha hc hra hrc, fun w' => by simp [execOp, hue]⟩
    | _ => exact False.elim hq'
   | _ => exact False.elim hq'
 · cases hp

theorem a7h (hs : Region.noSelect ops = true) {Q : Exit → Act → World → Prop} {K : St → Prop} (hQp : ∀ c a a' w, Q (.panic c) a w → Q (.panic c) a' w)
 (hk : ∀ s' a' w' m', K s' → Inv w0 m0 h0 av0 s' a' w' m' → Q .normal a' w') :
 ∀ (tr : Tr) (listed : Array Bool) (f : Bool) (s : St) (a : Act) (w : World) (m : Nat → Nat), listed.size = ops.size → ac3 ops tr listed f = true → trA P ops tr s K → Inv w0 m0 h0 av0 s a w m →
  (f = true → ∀ fuel, left ops.size listed ≤ fuel → wpAny P .any ops Q fuel listed a w) ∧
  (∀ j ∈ tr.heads, j ∈ Region.ready .any ops listed → ∀ fuel, left ops.size listed ≤ fuel + 1 → wpOp P ops Q j (wpAny P .any ops Q fuel (listed.setIfInBounds j true)) a w) := by
 intro tr
 induction tr with
 | done =>
  intro listed f s a w m hl hok hq I
  simp only [ac3, Bool.and_eq_true, List.isEmpty_iff] at hok
  exact ⟨fun _ fuel _ => wpAny_done hok.2 (hk s a w m hq I) fuel, fun j hj => by simp [Tr.heads] at hj⟩
 | stop =>
  intro listed f s a w m hl hok hq I
  simp only [ac3, Bool.not_eq_true'] at hok
  exact ⟨fun h => by (rw [hok] at h; cases h), fun j hj => by simp [Tr.heads] at hj⟩
 | take i t ih =>
  intro listed f s a w m hl hok hq I
  simp only [ac3, Bool.and_eq_true] at hok
  obtain ⟨_, hr, hp, hfr, hok⟩ := hok
  refine ⟨fun _ fuel hf => ?_, fun j hj => by simp [Tr.heads] at hj⟩
  have hr' : i ∈ Region.ready .any ops listed := by simpa using hr
  obtain ⟨hi, hu⟩ := gx hr'
  have hlt := lv hi hl hu
  cases fuel with
  | zero => omega
  | succ fuel =>
   have hget : ops[i]? = some ops[i] := Array.getElem?_eq_getElem hi
   have hpo : om ops[i] = true := by simpa [aiu, hget] using hp
   have hq' : gdA ops s.t ops[i].guard (fop P s ops[i] fun s' => trA P ops t s' K) (trA P ops t (s.put ops[i].dst .skip) K) := by
    have : vx P ops i s (fun s' => trA P ops t s' K) := hq
    unfold vx at this
    rwa [hget] at this
   have fin : ∃ v, Yields P ops ops[i] v a ∧ wpAny P .any ops Q fuel (listed.setIfInBounds i true) (a.put ops[i].dst v) w := by
    rcases oo I hq' with ⟨hw, hq'⟩ | ⟨hw, hq'⟩
    · obtain ⟨v, x, h1, h2, h3⟩ := anh I hpo hq'
      exact ⟨v, .inl ⟨hw, h3⟩, (ih _ true _ _ w m (by simpa using hl) hok h1 (I.put h2)).1 rfl fuel (by omega)⟩
    · exact ⟨Go.undef, .inr ⟨hw, rfl⟩, (ih _ true _ _ w m (by simpa using hl) hok hq' (I.put .skip)).1 rfl fuel (by omega)⟩
   obtain ⟨v, hy, hv⟩ := fin
   exact wpAny_take hget hs hfr hr (fun c a' w' h => hQp c _ _ w' h) hy hv
 | alt i t u iht ihu =>
  intro listed f s a w m hl hok hq I
  simp only [ac3, Bool.and_eq_true, Bool.or_eq_true, Bool.not_eq_true'] at hok
  obtain ⟨hall, hok1, hok2⟩ := hok
  have second : ∀ j ∈ (Tr.alt i t u).heads, j ∈ Region.ready .any ops listed → ∀ fuel, left ops.size listed ≤ fuel + 1 → wpOp P ops Q j (wpAny P .any ops Q fuel (listed.setIfInBounds j true)) a w := by
   intro j hj hr fuel hf
   obtain ⟨hi, hun⟩ := gx hr
   have hlt := lv hi hl hun
   rcases List.mem_cons.1 (show j ∈ i :: u.heads from hj) with rfl | hj
   · have hget : ops[j]? = some ops[j] := Array.getElem?_eq_getElem hi
     have hq' : gdA ops s.t ops[j].guard (fop P s ops[j] fun s' => trA P ops t s' K) (trA P ops t (s.put ops[j].dst .skip) K) := by
      have : vx P ops j s (fun s' => trA P ops t s' K) := hq.1
      unfold vx at this
      rwa [hget] at this
     unfold wpOp
     simp only [hget]
     rcases oo I hq' with ⟨h1, h2⟩ | ⟨h1, h2⟩
     · rw [if_pos h1]
       exact .inl (afo I h2 (fun s' a' w' m' h3 h4 => (iht _ true _ _ w' m' (by simpa using hl) hok1 h3 h4).1 rfl fuel (by omega)))
     · rw [if_neg (by simp [h1])]
       exact (iht _ true _ _ w m (by simpa using hl) hok1 h2 (I.put .skip)).1 rfl fuel (by omega)
   · exact (ihu listed false s a w m hl hok2 hq.2 I).2 j hj hr fuel hf
  refine ⟨fun hf fuel hfu => ?_, second⟩
  have hall' : Region.ready .any ops listed ≠ [] ∧ ∀ j ∈ Region.ready .any ops listed, j ∈ (Tr.alt i t u).heads := by
   rcases hall with h | h
   · rw [hf] at h; cases h
   · exact ⟨fun e => by rw [e] at h; simp at h, fun j hj => by simpa using List.all_eq_true.1 h.2 j hj⟩
  obtain ⟨hne, hsub⟩ := hall'
  cases fuel with
  | zero =>
   exfalso
   cases hr : Region.ready .any ops listed with
   | nil => exact hne hr
   | cons j l =>
    have hj : j ∈ Region.ready .any ops listed := by rw [hr]; simp
    obtain ⟨hi, hun⟩ := gx hj
    have := lv hi hl hun
    omega
  | succ fuel => exact wpAny_all rfl hne (fun j hj => second j (hsub j hj) hj fuel hfu)

theorem zk (hm : P.follows .mixedOrders = true) {Q : Exit → Act → World → Prop} {K : St → Prop} (hk : ∀ s' a' w' m', K s' → Inv w0 m0 h0 av0 s' a' w' m' → Q .normal a' w')
 (I : Inv w0 m0 h0 av0 s a w m) (hq : trT P ops s K) {id : Nat} : (Code.region id ops true).wp P Q a w := by
 obtain ⟨tr, h1, h2⟩ := hq
 simp only [Bool.and_eq_true] at h1
 refine wp_mono (Q := fun e a w => e = .normal ∧ Q .normal a w) ?_ (fun e a w h => by rw [h.1]; exact h.2)
 refine wp_region_any hm ?_
 refine (a7h h1.1 (fun c a a' w h => by cases h.1) (fun s' a' w' m' g1 g2 => ⟨rfl, hk s' a' w' m' g1 g2⟩) tr _ true s a _ m (by simp) h1.2 h2 (I.world (Ext.drew _ w))).1 rfl ops.size ?_
 unfold left
 exact Nat.le_trans (List.length_filter_le _ _) (by simp)

end
end Go.Lv
end
section
namespace Go.Lv

abbrev Nd := Nat × List Nat
def qc (n m : Nat) : Array Bool := (Array.range n).map fun i => m.testBit i

def al1 (ops : Array Oper) (N : List Nd) (p : Nd) : Bool :=
 let l := qc ops.size p.1
 let r := Region.ready .any ops l
 ((r.isEmpty && p.2.isEmpty) || (!r.isEmpty && ((match p.2 with
  | [i] => aiu ops i && (r.contains i && Region.free .any ops l i)
  | _ => false) || r.all fun j => p.2.contains j))) &&
 p.2.all fun i => decide (i < ops.size) && (!p.1.testBit i && N.any fun q => q.1 == p.1 ||| 2 ^ i)

def aqz (ops : Array Oper) (N : List Nd) : Bool := Region.noSelect ops && ((N.any fun q => q.1 == 0) && N.all (al1 ops N))

def agu (P : Program) (ops : Array Oper) (A : Nat → St → Prop) (m : Nat) (s : St) : List Nat → Prop
 | [] => True
 | i :: l => vx P ops i s (fun s' => ∃ s2, A (m ||| 2 ^ i) s2 ∧ bo s' s2) ∧ agu P ops A m s l
def abf (P : Program) (ops : Array Oper) (A : Nat → St → Prop) (K : St → Prop) : List Nd → Prop
 | [] => True
 | (m, []) :: l => (∀ s, A m s → K s) ∧ abf P ops A K l
 | (m, i :: is) :: l => (∀ s, A m s → agu P ops A m s (i :: is)) ∧ abf P ops A K l

def dgT (P : Program) (ops : Array Oper) (s : St) (K : St → Prop) : Prop :=
 ∃ (N : List Nd) (A : Nat → St → Prop), aqz ops N = true ∧ A 0 s ∧ abf P ops A K N

theorem abd (n m : Nat) : (qc n m).size = n := by simp [qc]
theorem testBit_add {m i j : Nat} : (m ||| 2 ^ i).testBit j = (if i = j then true else m.testBit j) := by
 rw [Nat.testBit_or, Nat.testBit_two_pow]
 by_cases h1 : i = j
 · simp [h1]
 · simp [h1]
theorem asp {n m i : Nat} : (qc n m).setIfInBounds i true = qc n (m ||| 2 ^ i) := by
 apply Array.ext
 · simp [qc]
 · intro j h1 h2
   have hj : j < n := by simpa [qc] using h2
   rw [Array.getElem_setIfInBounds]
   · simp only [qc, Array.getElem_map, Array.getElem_range, testBit_add]
   · simpa [qc] using hj

theorem ag0 {P : Program} {ops : Array Oper} {A : Nat → St → Prop} {m : Nat} {s : St} : ∀ {l : List Nat}, agu P ops A m s l → ∀ i ∈ l, vx P ops i s (fun s' => ∃ s2, A (m ||| 2 ^ i) s2 ∧ bo s' s2)
 | [], _, i, hi => by cases hi
 | j :: l, h, i, hi => by
  rcases List.mem_cons.1 hi with rfl | hi
  · exact h.1
  · exact ag0 h.2 i hi
theorem vg {P : Program} {ops : Array Oper} {A : Nat → St → Prop} {K : St → Prop} : ∀ {N : List Nd}, abf P ops A K N → ∀ p ∈ N, ∀ s, A p.1 s → (p.2 = [] → K s) ∧ agu P ops A p.1 s p.2
 | [], _, p, hp => by cases hp
 | (m, []) :: l, h, p, hp => by
  rcases List.mem_cons.1 hp with rfl | hp
  · exact fun s hs => ⟨fun _ => h.1 s hs, trivial⟩
  · exact vg h.2 p hp
 | (m, i :: is) :: l, h, p, hp => by
  rcases List.mem_cons.1 hp with rfl | hp
  · exact fun s hs => ⟨fun e => (by simp at e), h.1 s hs⟩
  · exact vg h.2 p hp

section
variable {P : Program} {ops : Array Oper} {w0 : World} {m0 : Nat → Nat} {h0 : Hp} {av0 : Nat → Prop} {s : St} {a : Act} {w : World} {m : Nat → Nat}

theorem a6n {Q : Exit → Act → World → Prop} {K : St → Prop} {N : List Nd} {A : Nat → St → Prop} (hok : aqz ops N = true) (hA : abf P ops A K N) (hQp : ∀ c a a' w, Q (.panic c) a w → Q (.panic c) a' w)
 (hk : ∀ s' a' w' m', K s' → Inv w0 m0 h0 av0 s' a' w' m' → Q .normal a' w') :
 ∀ (fuel : Nat) (p : Nd), p ∈ N → left ops.size (qc ops.size p.1) ≤ fuel → ∀ (s : St) (a : Act) (w : World) (m : Nat → Nat), A p.1 s → Inv w0 m0 h0 av0 s a w m → wpAny P .any ops Q fuel (qc ops.size p.1) a w := by
 simp only [aqz, Bool.and_eq_true] at hok
 obtain ⟨hs, _, hN⟩ := hok
 have hnode := fun p hp => List.all_eq_true.1 hN p hp
 intro fuel
 induction fuel with
 | zero =>
  intro p hp hl s a w m hAs I
  have h := hnode p hp
  simp only [al1, Bool.and_eq_true] at h
  obtain ⟨h1, h2⟩ := h
  have hr : Region.ready .any ops (qc ops.size p.1) = [] := by
   cases hr : Region.ready .any ops (qc ops.size p.1) with
   | nil => rfl
   | cons j l =>
    have hj : j ∈ Region.ready .any ops (qc ops.size p.1) := by rw [hr]; simp
    obtain ⟨hi, hun⟩ := gx hj
    have := lv hi (abd _ _) hun
    omega
  have hp2 : p.2 = [] := by
   rw [hr] at h1
   simpa using h1
  exact wpAny_done hr (hk s a w m ((vg hA p hp s hAs).1 hp2) I) 0
 | succ fuel ih =>
  intro p hp hl s a w m hAs I
  have h := hnode p hp
  simp only [al1, Bool.and_eq_true] at h
  obtain ⟨h1, h2⟩ := h
  obtain ⟨hK, hnx⟩ := vg hA p hp s hAs
  have goon : ∀ i ∈ p.2, ∃ q ∈ N, q.1 = p.1 ||| 2 ^ i ∧ i < ops.size ∧ (qc ops.size p.1).setIfInBounds i true = qc ops.size q.1 ∧ left ops.size (qc ops.size q.1) ≤ fuel := by
   intro i hi
   have := List.all_eq_true.1 h2 i hi
   simp only [Bool.and_eq_true, decide_eq_true_eq, Bool.not_eq_true', List.any_eq_true, beq_iff_eq] at this
   obtain ⟨hlt, hb, q, hq, e⟩ := this
   have e2 := asp (n := ops.size) (m := p.1) (i := i)
   have hlt2 := lv (listed := qc ops.size p.1) hlt (abd _ _) (by simp [Array.getD, abd, hlt, qc, hb])
   refine ⟨q, hq, e, hlt, by rw [e]; exact e2, ?_⟩
   rw [e, ← e2]
   omega
  have after : ∀ i ∈ p.2, ∀ s' a' w' m', (∃ s2, A (p.1 ||| 2 ^ i) s2 ∧ bo s' s2) → Inv w0 m0 h0 av0 s' a' w' m' → wpAny P .any ops Q fuel ((qc ops.size p.1).setIfInBounds i true) a' w' := by
   intro i hi s' a' w' m' hs' I'
   obtain ⟨q, hq, e, _, e2, hlf⟩ := goon i hi
   obtain ⟨s2, hA2, hw⟩ := hs'
   obtain ⟨m2, I2⟩ := hw _ _ _ _ _ _ _ I'
   rw [e2]
   exact ih q hq hlf s2 a' w' m2 (by rw [e]; exact hA2) I2
  have stp : ∀ i ∈ p.2, ∃ o, ops[i]? = some o ∧ gdA ops s.t o.guard (fop P s o fun s' => ∃ s2, A (p.1 ||| 2 ^ i) s2 ∧ bo s' s2) (∃ s2, A (p.1 ||| 2 ^ i) s2 ∧ bo (s.put o.dst .skip) s2) := by
   intro i hi
   obtain ⟨_, _, _, hlt, _⟩ := goon i hi
   have hg : ops[i]? = some ops[i] := Array.getElem?_eq_getElem hlt
   have := ag0 hnx i hi
   unfold vx at this
   rw [hg] at this
   exact ⟨_, hg, this⟩
  simp only [Bool.or_eq_true, Bool.and_eq_true, List.isEmpty_iff, Bool.not_eq_true'] at h1
  rcases h1 with ⟨h1, hp2⟩ | ⟨hr0, h1 | h1⟩
  · exact wpAny_done h1 (hk s a w m (hK hp2) I) _
  · split at h1
    · rename_i i e
      simp only [Bool.and_eq_true] at h1
      obtain ⟨hpu, hrd, hfr⟩ := h1
      have hi : i ∈ p.2 := by rw [e]; simp
      obtain ⟨o, hget, hq⟩ := stp i hi
      have hpo : om o = true := by simpa [aiu, hget] using hpu
      have fin : ∃ v, Yields P ops o v a ∧ wpAny P .any ops Q fuel ((qc ops.size p.1).setIfInBounds i true) (a.put o.dst v) w := by
       rcases oo I hq with ⟨hw, hq⟩ | ⟨hw, hq⟩
       · obtain ⟨v, x, g1, g2, g3⟩ := anh I hpo hq
         exact ⟨v, .inl ⟨hw, g3⟩, after i hi _ _ _ _ g1 (I.put g2)⟩
       · exact ⟨Go.undef, .inr ⟨hw, rfl⟩, after i hi _ _ _ _ hq (I.put .skip)⟩
      obtain ⟨v, hy, hv⟩ := fin
      exact wpAny_take hget hs hfr (by simpa using hrd) (fun c a' w' h => hQp c _ _ w' h) hy hv
    · cases h1
  · refine wpAny_all rfl (fun e => by rw [e] at hr0; cases hr0) (fun j hj => ?_)
    have hj2 : j ∈ p.2 := by simpa using List.all_eq_true.1 h1 j hj
    obtain ⟨o, hget, hq⟩ := stp j hj2
    unfold wpOp
    simp only [hget]
    rcases oo I hq with ⟨g1, g2⟩ | ⟨g1, g2⟩
    · rw [if_pos g1]
      exact .inl (afo I g2 (fun s' a' w' m' h3 h4 => after j hj2 s' a' w' m' h3 h4))
    · rw [if_neg (by simp [g1])]
      exact after j hj2 _ _ _ _ g2 (I.put .skip)

theorem ait (hm : P.follows .mixedOrders = true) {Q : Exit → Act → World → Prop} {K : St → Prop} (hk : ∀ s' a' w' m', K s' → Inv w0 m0 h0 av0 s' a' w' m' → Q .normal a' w')
 (I : Inv w0 m0 h0 av0 s a w m) (hq : dgT P ops s K) {id : Nat} : (Code.region id ops true).wp P Q a w := by
 obtain ⟨N, A, h1, h2, h3⟩ := hq
 refine wp_mono (Q := fun e a w => e = .normal ∧ Q .normal a w) ?_ (fun e a w h => by rw [h.1]; exact h.2)
 refine wp_region_any hm ?_
 have h1' := h1
 simp only [aqz, Bool.and_eq_true, List.any_eq_true, beq_iff_eq] at h1'
 obtain ⟨_, ⟨q, hq, e⟩, _⟩ := h1'
 have hl0 : qc ops.size 0 = Array.replicate ops.size false := by
  apply Array.ext
  · simp [qc]
  · intro i h1 h2; simp [qc]
 have := a6n (Q := fun e a w => e = .normal ∧ Q .normal a w) h1 h3 (fun c a a' w h => by cases h.1) (fun s' a' w' m' g1 g2 => ⟨rfl, hk s' a' w' m' g1 g2⟩) ops.size q hq (by
  unfold left
  exact Nat.le_trans (List.length_filter_le _ _) (by simp)) s a _ m (by rw [e]; exact h2) (I.world (Ext.drew _ w))
 rw [e, hl0] at this
 exact this

end
end Go.Lv
end
section
namespace Go.Lv

def r4 (next : St → Prop) (Q : Exit → St → Prop) : Exit → St → Prop
 | .normal, s => next s
 | e, s => Q e s

def qh (id : Nat) (Q : Exit → St → Prop) : Exit → St → Prop
 | .exit j, s => if j = id then Q .normal s else Q (.exit j) s
 | e, s => Q e s

def an6 (W : (Exit → St → Prop) → St → Prop) (Q : Exit → St → Prop) (s : St) : Prop :=
 ∃ (σ : Type) (I : σ → Prop) (emb : σ → St) (μ : σ → Nat) (x0 : σ), I x0 ∧ bo s (emb x0) ∧ ∀ x, I x → W (r4 (fun s' => ∃ y, I y ∧ bo s' (emb y) ∧ μ y < μ x) Q) (emb x)

theorem an6.intro {W : (Exit → St → Prop) → St → Prop} {Q : Exit → St → Prop} {s : St} {σ : Type} (I : σ → Prop) (emb : σ → St) (μ : σ → Nat) (x0 : σ) (h0 : I x0) (hW : bo s (emb x0))
 (hr : ∀ x, I x → W (r4 (fun s' => ∃ y, I y ∧ bo s' (emb y) ∧ μ y < μ x) Q) (emb x)) : an6 W Q s := ⟨σ, I, emb, μ, x0, h0, hW, hr⟩

def r9 (P : Program) (op : Op) : Bool :=
 match op with
 | .call ⟨.value _, _, ts⟩ => (match ts.toList with | t :: _ => abe P t | [] => false)
 | _ => false
def sb (op : Op) : Bool :=
 match op with
 | .load _ _ => true
 | _ => false
def ag5 (P : Program) : List Oper → Bool
 | [] => false
 | o :: l => r9 P o.op || ag5 P l
def ahp : List Oper → Bool
 | [] => false
 | o :: l => sb o.op || ahp l
def asn (P : Program) (l : List Oper) : Bool := ahp l && ag5 P l

def trW (P : Program) (ops : Array Oper) (s : St) (K : St → Prop) : Prop :=
 ∃ Ψ : St → Prop, trT P ops s (fun s' => ∃ s2, Ψ s2 ∧ bo s' s2) ∧ ∀ s2, Ψ s2 → K s2

def wpA (P : Program) : Code → (Exit → St → Prop) → St → Prop
 | .skip => fun Q s => Q .normal s
 | .region _ ops false => fun Q s => ib P ops ops.toList s (Q .normal)
 | .region _ ops true => fun Q s => if ath ops.toList = true then chT P ops s (Q .normal) else if hasLt ops.toList = true then (ltT P ops s (Q .normal) ∨ trT P ops s (Q .normal)) else if asn P ops.toList = true then (trW P ops s (Q .normal) ∨ dgT P ops s (Q .normal) ∨ (cc ops = true ∧ nq P ops ops.toList 0 [] s (Q .normal))) else (cc ops = true ∧ nq P ops ops.toList 0 [] s (Q .normal))
 | .seq a b => fun Q s => wpA P a (r4 (wpA P b Q) Q) s
 | .cond c x y => fun Q s => km (ev s.t c) fun t => (t = true → wpA P x Q s) ∧ (t = false → wpA P y Q s)
 | .block id c => fun Q s => wpA P c (qh id Q) s
 | .loop body => fun Q s => an6 (wpA P body) Q s
 | .exit id => fun Q s => Q (.exit id) s
 | .ret => fun Q s => Q .ret s
 | _ => fun _ _ => False

theorem rn {p : Nat → Prop} (h : ∃ n, p n) : ∃ n, p n ∧ ∀ k, p k → n ≤ k := by
 obtain ⟨n, hn⟩ := h
 induction n using Nat.strongRecOn with
 | _ n ih =>
  by_cases hk : ∃ k, k < n ∧ p k
  · obtain ⟨k, h1, h2⟩ := hk
    exact ih k h1 h2
  · refine ⟨n, hn, fun k hp => ?_⟩
    rcases Nat.lt_or_ge k n with h | h
    · exact absurd ⟨k, h, hp⟩ hk
    · exact h

section
variable {P : Program} {w0 : World} {m0 : Nat → Nat} {h0 : Hp} {av0 : Nat → Prop}

theorem aq3 (hm : P.follows .mixedOrders = true) : ∀ (c : Code) (Q : Exit → St → Prop) (Q' : Exit → Act → World → Prop), (∀ e s a w m, Q e s → Inv w0 m0 h0 av0 s a w m → Q' e a w) →
 ∀ (s : St) (a : Act) (w : World) (m : Nat → Nat), Inv w0 m0 h0 av0 s a w m → wpA P c Q s → c.wp P Q' a w := by
 intro c
 induction c with
 | skip => exact fun Q Q' hQ s a w m I h => wp_skip (hQ _ _ _ _ m h I)
 | region id ops draw =>
  intro Q Q' hQ s a w m I h
  cases draw with
  | false => exact wp_region_list (ale (fun s' a' w' m' h1 h2 => hQ _ _ _ _ m' h1 h2) _ s a w m I h)
  | true =>
   unfold wpA at h
   split at h
   · exact ahv hm (fun s' a' w' m' h1 h2 => hQ _ _ _ _ m' h1 h2) I h
   split at h
   · rcases h with h | h
     · exact ai7 hm (fun s' a' w' m' h1 h2 => hQ _ _ _ _ m' h1 h2) I h
     · exact zk hm (fun s' a' w' m' h1 h2 => hQ _ _ _ _ m' h1 h2) I h
   split at h
   · rcases h with ⟨Ψ, h, hΨ⟩ | h | h
     · refine zk hm (fun s' a' w' m' h1 h2 => ?_) I h
       obtain ⟨s2, h3, h4⟩ := h1
       obtain ⟨m2, I2⟩ := h4 _ _ _ _ _ _ _ h2
       exact hQ _ _ _ _ m2 (hΨ s2 h3) I2
     · exact ait hm (fun s' a' w' m' h1 h2 => hQ _ _ _ _ m' h1 h2) I h
     · exact acd hm h.1 (fun s' a' w' m' h1 h2 => hQ _ _ _ _ m' h1 h2) I h.2
   · exact acd hm h.1 (fun s' a' w' m' h1 h2 => hQ _ _ _ _ m' h1 h2) I h.2
 | seq x y ihx ihy =>
  intro Q Q' hQ s a w m I h
  refine wp_seq (ihx (r4 (wpA P y Q) Q) _ (fun e s' a' w' m' h1 h2 => ?_) s a w m I h)
  cases e with
  | normal => exact ihy Q Q' hQ s' a' w' m' h2 h1
  | _ => exact hQ _ _ _ _ m' h1 h2
 | cond c x y ihx ihy =>
  intro Q Q' hQ s a w m I h
  obtain ⟨t, h1, _, h2⟩ := ng (I.ev c) h
  refine wp_cond h1 ?_
  cases t with
  | true => exact ihx Q Q' hQ s a w m I (h2.1 rfl)
  | false => exact ihy Q Q' hQ s a w m I (h2.2 rfl)
 | block id c ih =>
  intro Q Q' hQ s a w m I h
  refine wp_block (ih (qh id Q) _ (fun e s' a' w' m' h1 h2 => ?_) s a w m I h)
  cases e with
  | exit j =>
   simp only [qh] at h1
   simp only [Exit.inBlock]
   split at h1
   · rename_i e; rw [if_pos e]; exact hQ _ _ _ _ m' h1 h2
   · rename_i e; rw [if_neg e]; exact hQ _ _ _ _ m' h1 h2
  | _ => exact hQ _ _ _ _ m' h1 h2
 | loop body ih =>
  intro Q Q' hQ s a w m I h
  obtain ⟨σ, J, emb, μ, x0, hJ0, hW, hround⟩ := h
  obtain ⟨m1, I1⟩ := hW _ _ _ _ _ _ _ I
  let M : Act → World → Nat → Prop := fun a w n => ∃ x m, J x ∧ Inv w0 m0 h0 av0 (emb x) a w m ∧ μ x = n
  let meas : Act → World → Nat := fun a w => @dite Nat (∃ n, M a w n) (Classical.propDecidable _) (fun h => Classical.choose (rn h)) (fun _ => 0)
  refine wp_loop (fun a w => ∃ n, M a w n) meas ⟨_, x0, m1, hJ0, I1, rfl⟩ (fun a w hI => ?_)
  have hme : meas a w = Classical.choose (rn hI) := dif_pos hI
  obtain ⟨⟨x, m, hJx, hx, hmu⟩, _⟩ := Classical.choose_spec (rn hI)
  refine ih _ _ (fun e s' a' w' m' h1 h2 => ?_) (emb x) a w m hx (hround x hJx)
  cases e with
  | normal =>
   obtain ⟨y, hJy, hy, hlt⟩ := h1
   obtain ⟨m2, I2⟩ := hy _ _ _ _ _ _ _ h2
   have hI' : ∃ n, M a' w' n := ⟨_, y, m2, hJy, I2, rfl⟩
   refine ⟨hI', ?_⟩
   have hme' : meas a' w' = Classical.choose (rn hI') := dif_pos hI'
   have := (Classical.choose_spec (rn hI')).2 (μ y) ⟨y, m2, hJy, I2, rfl⟩
   rw [hme, hme', ← hmu]
   omega
  | _ => exact hQ _ _ _ _ m' h1 h2
 | exit id => exact fun Q Q' hQ s a w m I h => wp_exit (hQ _ _ _ _ m h I)
 | ret => exact fun Q Q' hQ s a w m I h => wp_ret (hQ _ _ _ _ m h I)
 | rangeFunc => exact fun Q Q' hQ s a w m I h => h.elim
 | scope => exact fun Q Q' hQ s a w m I h => h.elim
 | label => exact fun Q Q' hQ s a w m I h => h.elim
 | goto => exact fun Q Q' hQ s a w m I h => h.elim
 | refuse => exact fun Q Q' hQ s a w m I h => h.elim

end

def wc (P : Program) (s : St) : List ResultVar → (List V → Prop) → Prop
 | [], K => K []
 | .tmp t :: l, K => wc P s l fun vs => K (s.t.getD t .undef :: vs)
 | .cell a t :: l, K => pq P s.h t (s.t.getD a .undef) fun v => wc P s l fun vs => K (v :: vs)

def ud : List V → V
 | [v] => v
 | vs => .tup vs

def aj (k : Nat) (v : V) (h : Hp) (r : V) (hout : Hp) : Prop :=
 ∀ (w0 : World) (m0 : Nat → Nat) (h0 : Hp) (av0 : Nat → Prop) (w : World) (m : Nat → Nat) (val : Value), h0.length = k → k ≤ h.length → (∀ b, av0 b → b < w0.heap.size) → w0.heap.size ≤ w.heap.size →
  RH w m h (avm av0 m h) → RV w m h (avm av0 m h) true val v → Ids w0.heap.size m0 m h0 h →
  ∃ m', RH w m' hout (avm av0 m' hout) ∧ RV w m' hout (avm av0 m' hout) true val r ∧ Ids w0.heap.size m0 m' h0 hout

theorem aj.refl (k : Nat) (v : V) (h : Hp) : aj k v h v h := fun _ _ _ _ _ m _ _ _ _ _ h1 h2 h3 => ⟨m, h1, h2, h3⟩

def yl (k : Nat) (v : V) (h : Hp) (Φ : V → Hp → Prop) : Prop := ∃ r hout, Φ r hout ∧ aj k v h r hout
theorem yl.intro {k : Nat} {v : V} {h : Hp} {Φ : V → Hp → Prop} (r : V) (hout : Hp) (hφ : Φ r hout) (hw : aj k v h r hout) : yl k v h Φ := ⟨r, hout, hφ, hw⟩

def retP (P : Program) (res : List ResultVar) (Φ : V → Hp → Prop) (e : Exit) (s : St) : Prop :=
 match e with
 | .normal => wc P s res fun vs => yl s.k (ud vs) s.h Φ
 | .ret => wc P s res fun vs => yl s.k (ud vs) s.h Φ
 | _ => False

def azg (P : Program) (res : List ResultVar) (r : V) (hout : Hp) (e : Exit) (s : St) : Prop :=
 match e with
 | .normal => wc P s res fun vs => aj s.k (ud vs) s.h r hout
 | .ret => wc P s res fun vs => aj s.k (ud vs) s.h r hout
 | _ => False

section
variable {P : Program} {w0 : World} {m0 : Nat → Nat} {h0 : Hp} {av0 : Nat → Prop} {s : St} {a : Act} {w : World} {m : Nat → Nat}

def ar2 (tmps : Array Value) : ResultVar → Sem Value
 | .tmp t => pure (tmps.getD t Go.undef)
 | .cell ad t => do loadVar t (← asAddr (tmps.getD ad Go.undef))

theorem ajh (I : Inv w0 m0 h0 av0 s a w m) : ∀ (l : List ResultVar) (K : List V → Prop), wc P s l K → ∃ (vs : List Value) (xs : List V), K xs ∧ vs.length = xs.length ∧
 (∀ i (hi : i < xs.length), RV w m s.h (avm av0 m s.h) true (vs.getD i Go.undef) xs[i]) ∧
 (l.mapM (ar2 a.tmps)).run P w = .ok vs w
 | [], K, hq => ⟨[], [], hq, rfl, fun i hi => by simp at hi, rfl⟩
 | .tmp t :: l, K, hq => by
  obtain ⟨vs, xs, h1, h2, h3, h4⟩ := ajh I l _ hq
  refine ⟨a.tmps.getD t Go.undef :: vs, s.t.getD t .undef :: xs, h1, by simp [h2], fun i hi => ?_, by simp only [List.mapM_cons, ar2, Sem.run_bind, Sem.run_pure, Result.andThen_ok, h4]⟩
  cases i with
  | zero => exact I.ev (.tmp t)
  | succ i => exact h3 i (by simpa using hi)
 | .cell ad t :: l, K, hq => by
  have hx : RV w m s.h (avm av0 m s.h) true (a.tmps.getD ad Go.undef) (s.t.getD ad .undef) := I.ev (.tmp ad)
  obtain ⟨v, x, h5, h6, h7⟩ := anf (P := P) I.rh hx hq
  obtain ⟨vs, xs, h1, h2, h3, h4⟩ := ajh I l _ h5
  have haddr : (ar2 a.tmps (.cell ad t)).run P w = .ok v w := by
   simp only [ar2, Sem.run_bind]
   revert h7
   generalize a.tmps.getD ad Go.undef = u
   intro h7
   unfold Instr.loadAt at h7
   cases u <;> simp [Instr.sureAddr] at h7
   rename_i ao
   cases ao with
   | none => simp at h7
   | some ad => simpa [asAddr] using h7
  refine ⟨v :: vs, x :: xs, h1, by simp [h2], fun i hi => ?_, by simp only [List.mapM_cons, Sem.run_bind, haddr, Sem.run_pure, Result.andThen_ok, h4]⟩
  cases i with
  | zero => exact h6
  | succ i => exact h3 i (by simpa using hi)

theorem ael (I : Inv w0 m0 h0 av0 s a w m) (fn : Func) (K : List V → Prop) (hq : wc P s fn.results.toList K) :
 ∃ v xs, K xs ∧ RV w m s.h (avm av0 m s.h) true v (ud xs) ∧ (results fn a.tmps).run P w = .ok v w := by
 obtain ⟨vs, xs, h1, h2, h3, h4⟩ := ajh I _ _ hq
 refine ⟨if h : vs.toArray.size = 1 then vs.toArray[0] else .tuple vs.toArray, xs, h1, ?_, ?_⟩
 · match xs, vs, h2, h3 with
   | [x], [v], _, h3 => exact h3 0 (by simp)
   | [], [], _, _ => exact .tup _ _ rfl (fun i hi => by simp at hi)
   | x :: y :: xs, u :: v :: vs, h2, h3 =>
    have : ¬ (u :: v :: vs).toArray.size = 1 := by simp
    rw [dif_neg this]
    exact .tup _ _ (by simpa using h2) (fun i hi => by
     have := h3 i hi
     simpa [Array.getD_eq_getD_getElem?, List.getD_eq_getElem?_getD] using this)
 · unfold results
   rw [Array.mapM_eq_mapM_toList]
   simp only [Sem.run_bind, Sem.run_map]
   have e : ∀ (g : ResultVar → Sem Value), (∀ x, g x = ar2 a.tmps x) → (fn.results.toList.mapM g).run P w = .ok vs w := fun g hg => by rw [funext hg]; exact h4
   rw [e _ (fun x => by cases x <;> rfl)]
   simp

theorem Ctr.intro {f : FuncId} {fn : Func} {c : Code} {args : List V} {hin : Hp} {r : V} {hout : Hp} (hm : P.follows .mixedOrders = true) (hf : P.funcs[f]? = some fn) (hb : fn.body = some c) (hok : okF P f = true)
 (hw : wpA P c (azg P fn.results.toList r hout) ⟨args ++ List.replicate (fn.ntmps - args.length) .undef, hin, hin.length⟩) : Ctr P f args hin r hout := by
 refine ⟨hok, fun w vs m av hH hav hgl hs ha => ?_⟩
 have hav' : ∀ b, avm av m hin b → av b := fun b hb => by
  rcases hb with hb | ⟨id, cs, h1, rfl⟩
  · exact hb
  · exact hH.avd id cs h1
 have hstep : ∀ {o : Bool} {v : Value} {x : V}, RV w m hin av o v x → RV w m hin (avm av m hin) o v x :=
  fun {o v x} hx => RV.step (w := w) (w' := w) (m := m) (m' := m) (h := hin) (h' := hin) (av := av) (av' := avm av m hin) (fun b off v hb hc => ⟨fun h => hb (hav' b h), hc⟩) (fun id c hid => ⟨c, hid, Nat.le_refl _, rfl, Nat.le_refl _, rfl⟩) hx
 have I : Inv w m hin av ⟨args ++ List.replicate (fn.ntmps - args.length) .undef, hin, hin.length⟩ { tmps := vs ++ Array.replicate (fn.ntmps - vs.size) Go.undef, defers := [] } w m := by
  refine ⟨⟨hH.inj, fun id cs h => .inr ⟨id, cs, h, rfl⟩, fun id cs h => ?_⟩, by simp [hs], fun i hi => ?_, rfl, Ext.refl _ _, fun id cs h => .inl ⟨e8 h, cs, h, Nat.le_refl _, .inl rfl⟩, hav, fun b ⟨id, cs, h1, h2⟩ => h2 ▸ hH.avd id cs h1, hgl, rfl, Nat.le_refl _⟩
  · exact (hH.blk id cs h).step rfl (fun v x => hstep)
  · by_cases h : i < args.length
    · simp only [List.getElem_append_left h]
      rw [iq _ _ (by omega)]
      exact hstep (ha i h)
    · simp only [List.getElem_append_right (Nat.le_of_not_lt h), List.getElem_replicate]
      exact .undef _
 refine calls_of_wp hf hb (aq3 hm c _ _ (fun e s' a' w' m' hq I' => ?_) _ _ w m I hw)
 have fin : (wc P s' fn.results.toList fun vs => aj s'.k (ud vs) s'.h r hout) → a'.defers = [] ∧ ∃ v, (results fn a'.tmps).run P w' = .ok v w' ∧ ∃ v1 m'1, Ending.returned v = Ending.returned v1 ∧ Ext (own m hin) w w' ∧ RH w' m'1 hout (avm av m'1 hout) ∧ RV w' m'1 hout (avm av m'1 hout) true v1 r ∧ Ids w.heap.size m m'1 hin hout := by
  intro hq
  obtain ⟨v, xs, h1, h2, h3⟩ := ael (P := P) I' fn _ hq
  obtain ⟨m'', g1, g2, g3⟩ := h1 w m hin av w' m' v I'.k.symm (by rw [I'.k]; exact I'.len) I'.lt I'.ext.size I'.rh h2 I'.ids
  exact ⟨I'.defers, v, h3, v, m'', rfl, I'.ext, g1, g2, g3⟩
 cases e with
 | normal => exact fin hq
 | ret => exact fin hq
 | _ => exact hq.elim

theorem lr.intro {f : FuncId} {fn : Func} {c : Code} {args : List V} {hin : Hp} {Φ : V → Hp → Prop} (hm : P.follows .mixedOrders = true) (hf : P.funcs[f]? = some fn) (hb : fn.body = some c) (hok : okF P f = true)
 (hw : wpA P c (retP P fn.results.toList Φ) ⟨args ++ List.replicate (fn.ntmps - args.length) .undef, hin, hin.length⟩) : lr P f args hin Φ := by
 refine ⟨hok, fun w vs m av hH hav hgl hs ha => ?_⟩
 have hav' : ∀ b, avm av m hin b → av b := fun b hb => by
  rcases hb with hb | ⟨id, cs, h1, rfl⟩
  · exact hb
  · exact hH.avd id cs h1
 have hstep : ∀ {o : Bool} {v : Value} {x : V}, RV w m hin av o v x → RV w m hin (avm av m hin) o v x :=
  fun {o v x} hx => RV.step (w := w) (w' := w) (m := m) (m' := m) (h := hin) (h' := hin) (av := av) (av' := avm av m hin) (fun b off v hb hc => ⟨fun h => hb (hav' b h), hc⟩) (fun id c hid => ⟨c, hid, Nat.le_refl _, rfl, Nat.le_refl _, rfl⟩) hx
 have I : Inv w m hin av ⟨args ++ List.replicate (fn.ntmps - args.length) .undef, hin, hin.length⟩ { tmps := vs ++ Array.replicate (fn.ntmps - vs.size) Go.undef, defers := [] } w m := by
  refine ⟨⟨hH.inj, fun id cs h => .inr ⟨id, cs, h, rfl⟩, fun id cs h => ?_⟩, by simp [hs], fun i hi => ?_, rfl, Ext.refl _ _, fun id cs h => .inl ⟨e8 h, cs, h, Nat.le_refl _, .inl rfl⟩, hav, fun b ⟨id, cs, h1, h2⟩ => h2 ▸ hH.avd id cs h1, hgl, rfl, Nat.le_refl _⟩
  · exact (hH.blk id cs h).step rfl (fun v x => hstep)
  · by_cases h : i < args.length
    · simp only [List.getElem_append_left h]
      rw [iq _ _ (by omega)]
      exact hstep (ha i h)
    · simp only [List.getElem_append_right (Nat.le_of_not_lt h), List.getElem_replicate]
      exact .undef _
 refine calls_of_wp hf hb (aq3 hm c _ _ (fun e s' a' w' m' hq I' => ?_) _ _ w m I hw)
 have fin : (wc P s' fn.results.toList fun vs => yl s'.k (ud vs) s'.h Φ) → a'.defers = [] ∧ ∃ v, (results fn a'.tmps).run P w' = .ok v w' ∧ ∃ v1 m'1 r hout, Φ r hout ∧ Ending.returned v = Ending.returned v1 ∧ Ext (own m hin) w w' ∧ RH w' m'1 hout (avm av m'1 hout) ∧ RV w' m'1 hout (avm av m'1 hout) true v1 r ∧ Ids w.heap.size m m'1 hin hout := by
  intro hq
  obtain ⟨v, xs, h1, h2, h3⟩ := ael (P := P) I' fn _ hq
  obtain ⟨r, hout, hφ, h1⟩ := h1
  obtain ⟨m'', g1, g2, g3⟩ := h1 w m hin av w' m' v I'.k.symm (by rw [I'.k]; exact I'.len) I'.lt I'.ext.size I'.rh h2 I'.ids
  exact ⟨I'.defers, v, h3, v, m'', r, hout, hφ, rfl, I'.ext, g1, g2, g3⟩
 cases e with
 | normal => exact fin hq
 | ret => exact fin hq
 | _ => exact hq.elim

end
end Go.Lv
end
section
namespace Go.Lv

structure Tag {α : Type} (a : α) : Type where
 mk ::

def aw (t : Bool) (A B : Prop) (_ : Tag A) (_ : Tag B) : Prop := (t = true → A) ∧ (t = false → B)
@[go_sem] theorem a0d {A B : Prop} {x : Tag A} {y : Tag B} : aw true A B x y = A := by simp [aw]
@[go_sem] theorem axa {A B : Prop} {x : Tag A} {y : Tag B} : aw false A B x y = B := by simp [aw]
theorem aw.split {t : Bool} {A B : Prop} {x : Tag A} {y : Tag B} (h1 : t = true → A) (h2 : t = false → B) : aw t A B x y := ⟨h1, h2⟩

def ax (want : Bool) (g : V) (A B : Prop) (_ : Tag A) (_ : Tag B) : Prop := vr want g A B
@[go_sem] theorem a1y {A B : Prop} {x : Tag A} {y : Tag B} : ax true (.bool true) A B x y = A := by simp [ax, vr]
@[go_sem] theorem a07 {A B : Prop} {x : Tag A} {y : Tag B} : ax true (.bool false) A B x y = B := by simp [ax, vr]
@[go_sem] theorem a1p {A B : Prop} {x : Tag A} {y : Tag B} : ax false (.bool true) A B x y = B := by simp [ax, vr]
@[go_sem] theorem a23 {A B : Prop} {x : Tag A} {y : Tag B} : ax false (.bool false) A B x y = A := by simp [ax, vr]
@[go_sem] theorem awu {want : Bool} {A B : Prop} {x : Tag A} {y : Tag B} : ax want .skip A B x y = B := rfl
theorem ax.bz {b : Bool} {A B : Prop} {x : Tag A} {y : Tag B} (h1 : b = true → A) (h2 : b = false → B) : ax true (.bool b) A B x y := ⟨h1, h2⟩
theorem ax.cu {b : Bool} {A B : Prop} {x : Tag A} {y : Tag B} (h1 : b = false → A) (h2 : b = true → B) : ax false (.bool b) A B x y := ⟨h1, h2⟩
theorem ax.split {want b : Bool} {A B : Prop} {x : Tag A} {y : Tag B} (h1 : b = want → A) (h2 : b = !want → B) : ax want (.bool b) A B x y := ⟨h1, h2⟩

def ak (P : Program) (h : Hp) (fv : V) (args : List V) (K : V → Hp → Prop) (_ : Tag K) : Prop := (pw h 4 fv = true ∧ args.all (pw h 3) = true) ∧ w6 P h fv args K
def ai (P : Program) (s : St) (dst : Option Tmp) (fv : V) (args : List V) (K : St → Prop) (_ : Tag K) : Prop := w6 P s.h fv args (fun r hout => K (qp s dst r hout)) ∨ ar3 P s dst fv args K ∨ aq8 P s dst fv args K ∨ asx P s dst fv args K
def dn (W : (Exit → St → Prop) → St → Prop) (Q : Exit → St → Prop) (s : St) (_ : Tag W) (_ : Tag Q) : Prop := an6 W Q s

@[congr] theorem a18 {P : Program} {c : Code} {Q : Exit → St → Prop} {s s' : St} (h : s = s') : wpA P c Q s = wpA P c Q s' := by rw [h]
@[congr] theorem axu {P : Program} {ops : Array Oper} {l : List Oper} {s s' : St} {K : St → Prop} (h : s = s') : ib P ops l s K = ib P ops l s' K := by rw [h]
def dG (P : Program) (ops : Array Oper) (l : List Oper) (b : Nat) (R : List Oper) (s : St) (K : St → Prop) : Prop := nq P ops l b R.reverse s K
def fR (P : Program) (ops : Array Oper) (R acc : List Oper) (s : St) (K : St → Prop) : Prop := ib P ops (R.reverse ++ acc) s K
@[congr] theorem a3q {P : Program} {ops : Array Oper} {l R : List Oper} {b b' : Nat} {s s' : St} {K : St → Prop} (hb : b = b') (h : s = s') : dG P ops l b R s K = dG P ops l b' R s' K := by rw [hb, h]
@[congr] theorem a66 {P : Program} {ops : Array Oper} {l R : List Oper} {s s' : St} {K : St → Prop} (h : s = s') : fR P ops l R s K = fR P ops l R s' K := by rw [h]
@[congr] theorem a8u {P : Program} {ops : Array Oper} {l l' : List Oper} {s s' : St} {K : St → Prop} (hl : l = l') (h : s = s') : gA P ops l s K = gA P ops l' s' K := by rw [hl, h]
def aao (P : Program) (ops : Array Oper) : List Oper → Nat → St → (St → Prop) → Prop
 | [], _, _, _ => False
 | o :: _, 0, s, K => gdA ops s.t o.guard (fop P s o K) (K (s.put o.dst .skip))
 | _ :: l, i + 1, s, K => aao P ops l i s K
theorem akp {P : Program} {ops : Array Oper} : ∀ (l : List Oper) (i : Nat) (s : St) (K : St → Prop), aao P ops l i s K = (match l[i]? with | some o => gdA ops s.t o.guard (fop P s o K) (K (s.put o.dst .skip)) | none => False)
 | [], _, _, _ => rfl
 | _ :: _, 0, _, _ => rfl
 | _ :: l, i + 1, s, K => akp l i s K
theorem aeb {P : Program} {l : List Oper} {i : Nat} {s : St} {K : St → Prop} : vx P l.toArray i s K = aao P l.toArray l i s K := by
 rw [akp]
 unfold vx
 simp only [List.getElem?_toArray]
 all_goals (cases l[i]? <;> rfl)
def n8 (P : Program) (ops : Array Oper) (s : St) (K : St → Prop) : Prop := ltT P ops s K ∨ trT P ops s K
theorem n8.path {P : Program} {ops : List Oper} {s : St} {K : St → Prop} (zl fl : List Bool) (p : Nat) (ids : List Nat) (h1 : ae1 ops.toArray zl fl p = true)
 (h2 : gF P ops.toArray ids (wa zl fl ops) s fun e => rz P ops.toArray ids p (o7 (zl.map (!·)) ops) e K) : n8 P ops.toArray s K := .inl (ltT.intro zl fl p ids h1 h2)
theorem n8.tree {P : Program} {ops : List Oper} {s : St} {K : St → Prop} (tr : Tr) (h1 : (Region.noSelect ops.toArray && ac3 ops.toArray tr (Array.replicate ops.toArray.size false) true) = true) (h2 : trA P ops.toArray tr s K) : n8 P ops.toArray s K := .inr (trT.intro tr h1 h2)
@[congr] theorem aw3 {P : Program} {ops : Array Oper} {s s' : St} {K : St → Prop} (h : s = s') : n8 P ops s K = n8 P ops s' K := by rw [h]
@[congr] theorem a5l {P : Program} {ops : Array Oper} {ids : List Nat} {l l' : List (Bool × Oper)} {s s' : St} {K : St → Prop} (hl : l = l') (h : s = s') : gF P ops ids l s K = gF P ops ids l' s' K := by rw [hl, h]
@[congr] theorem awe {P : Program} {ops : Array Oper} {ids : List Nat} {p p' : Nat} {l l' : List Oper} {s s' : St} {K : St → Prop} (hp : p = p') (hl : l = l') (h : s = s') : rz P ops ids p l s K = rz P ops ids p' l' s' K := by rw [hp, hl, h]
@[congr] theorem a1t {P : Program} {ops : Array Oper} {t : Tr} {s s' : St} {K : St → Prop} (h : s = s') : trA P ops t s K = trA P ops t s' K := by rw [h]
@[congr] theorem a1a {P : Program} {ops : Array Oper} {s s' : St} {K : St → Prop} (h : s = s') : chT P ops s K = chT P ops s' K := by rw [h]
@[congr] theorem avj {P : Program} {t t' : List V} {h h' : Hp} {l : List Tip} {s s' : St} {K : St → Prop} (h1 : t = t') (h2 : h = h') (h3 : s = s') : qv P t h l s K = qv P t' h' l s' K := by rw [h1, h2, h3]
@[congr] theorem awh {h h' : Hp} {sz n n' : Nat} {l l' : List V} {cs cs' : List V} {K : Nat → List V → Prop} (h1 : h = h') (h2 : l = l') (h3 : n = n') (h4 : cs = cs') : wm h sz l n cs K = wm h' sz l' n' cs' K := by rw [h1, h2, h3, h4]
@[congr] theorem av7 {n : St → Prop} {Q : Exit → St → Prop} {e : Exit} {s s' : St} (h : s = s') : r4 n Q e s = r4 n Q e s' := by rw [h]
@[congr] theorem at6 {i : Nat} {Q : Exit → St → Prop} {e : Exit} {s s' : St} (h : s = s') : qh i Q e s = qh i Q e s' := by rw [h]


@[congr] theorem a3k {P : Program} {o : Oper} {s s' : St} {K : St → Prop} (h : s = s') : fop P s o K = fop P s' o K := by rw [h]
@[congr] theorem aw9 {P : Program} {t : Nat} {h h' : Hp} {x x' : V} {K : V → Prop} (h1 : h = h') (h2 : x = x') : pq P h t x K = pq P h' t x' K := by rw [h1, h2]
@[congr] theorem aor {P : Program} {t f : Nat} {x x' : V} {K : V → Prop} (h2 : x = x') : ff P t f x K = ff P t f x' K := by rw [h2]
@[congr] theorem au8 {P : Program} {t f : Nat} {x x' : V} {K : V → Prop} (h2 : x = x') : yx P t f x K = yx P t f x' K := by rw [h2]
@[congr] theorem aqa {P : Program} {t : Nat} {z z' : Int} {x x' : V} {K : V → Prop} (h1 : x = x') (h2 : z = z') : eo P t x z K = eo P t x' z' K := by rw [h1, h2]
@[congr] theorem aui {P : Program} {t : Nat} {z z' : Int} {x x' : V} {K : V → Prop} (h1 : x = x') (h2 : z = z') : u7 P t x z K = u7 P t x' z' K := by rw [h1, h2]
@[congr] theorem awb {P : Program} {ρ : Operand → V} {t : Nat} {z z' : Int} {hi : Option Operand} {x x' : V} {K : V → Prop} (h1 : x = x') (h2 : z = z') : nz P ρ t x z hi K = nz P ρ t x' z' hi K := by rw [h1, h2]
@[congr] theorem ayf {P : Program} {t : Nat} {x x' : V} {K : V → Prop} (h2 : x = x') : ac5 P t x K = ac5 P t x' K := by rw [h2]
@[congr] theorem aw0 {P : Program} {t u : Nat} {x x' : V} {K : V → Prop} (h2 : x = x') : acv P t u x K = acv P t u x' K := by rw [h2]
@[congr] theorem axe {P : Program} {t u : Nat} {h h' : Hp} {x x' : V} {K : V → Prop} (h1 : h = h') (h2 : x = x') : j5 P h t u x K = j5 P h' t u x' K := by rw [h1, h2]
@[congr] theorem az5 {x x' : V} {K : V → Prop} (h2 : x = x') : ya x K = ya x' K := by rw [h2]
@[congr] theorem at0 {P : Program} {t : Nat} {h h' : Hp} {x x' y y' : V} {ok : Bool} {K : V → Prop} (h1 : h = h') (h2 : x = x') (h3 : y = y') : ks P h t x y ok K = ks P h' t x' y' ok K := by rw [h1, h2, h3]
@[congr] theorem ay6 {P : Program} {t : Nat} {h h' : Hp} {x x' y y' v v' : V} {K : Hp → Prop} (h1 : h = h') (h2 : x = x') (h3 : y = y') (h4 : v = v') : alk P h t x y v K = alk P h' t x' y' v' K := by rw [h1, h2, h3, h4]
@[congr] theorem axx {x x' : V} {K : IntKind → Int → Prop} (h2 : x = x') : jg x K = jg x' K := by rw [h2]
@[congr] theorem aug {x x' : V} {K : Bool → Prop} (h2 : x = x') : km x K = km x' K := by rw [h2]
@[congr] theorem awn {i : Nat} {x x' : V} {K : V → Prop} (h2 : x = x') : o2 x i K = o2 x' i K := by rw [h2]
@[congr] theorem a1m {P : Program} {op : BinOp} {t : Nat} {c : Bool} {x x' y y' : V} {K : V → Prop} (h1 : x = x') (h2 : y = y') : bin P op t c x y K = bin P op t c x' y' K := by rw [h1, h2]
@[congr] theorem auo {op : BinOp} {k : IntKind} {x x' y y' : Int} {K : V → Prop} (h1 : x = x') (h2 : y = y') : xl op k x y K = xl op k x' y' K := by rw [h1, h2]
@[congr] theorem avz {op : BinOp} {x x' y y' : ByteArray} {K : V → Prop} (h1 : x = x') (h2 : y = y') : xg op x y K = xg op x' y' K := by rw [h1, h2]
@[congr] theorem aue {P : Program} {t : Nat} {x x' : List (Nat × V)} {K : V → Prop} (h2 : x = x') : ri P t x K = ri P t x' K := by rw [h2]
@[congr] theorem av4 {P : Program} {t : Nat} {h h' : Hp} {x x' y y' : V} {K : Hp → Prop} (h1 : h = h') (h2 : x = x') (h3 : y = y') : mi P h t x y K = mi P h' t x' y' K := by rw [h1, h2, h3]
@[congr] theorem az1 {z : Nat} {n : Option Nat} {h h' : Hp} {y y' : V} {K : Nat → List V → Prop} (h1 : h = h') (h3 : y = y') : n5 h z n y K = n5 h' z n y' K := by rw [h1, h3]
@[congr] theorem at5 {P : Program} {t u : Nat} {s s' : St} {x x' y y' : V} {K : St → V → Prop} (h1 : s = s') (h2 : x = x') (h3 : y = y') : uz P s t u x y K = uz P s' t u x' y' K := by rw [h1, h2, h3]

def clT (P : Program) (ops : Array Oper) (l : List Oper) (s : St) (K : St → Prop) : Prop := trW P ops s K ∨ dgT P ops s K ∨ (cc ops = true ∧ dG P ops l 0 [] s K)
theorem clT.tree {P : Program} {ops : List Oper} {l : List Oper} {s : St} {K : St → Prop} (Ψ : St → Prop) (tr : Tr) (h1 : (Region.noSelect ops.toArray && ac3 ops.toArray tr (Array.replicate ops.toArray.size false) true) = true)
 (hK : ∀ s2, Ψ s2 → K s2) (h2 : trA P ops.toArray tr s (fun s' => ∃ s2, Ψ s2 ∧ bo s' s2)) : clT P ops.toArray l s K := .inl ⟨Ψ, ⟨tr, h1, h2⟩, hK⟩
theorem clT.text {P : Program} {ops : Array Oper} {l : List Oper} {s : St} {K : St → Prop} (h1 : cc ops = true) (h2 : dG P ops l 0 [] s K) : clT P ops l s K := .inr (.inr ⟨h1, h2⟩)
theorem clT.graph {P : Program} {ops : List Oper} {l : List Oper} {s : St} {K : St → Prop} (N : List Nd) (A : Nat → St → Prop) (h1 : aqz ops.toArray N = true) (h2 : A 0 s) (h3 : abf P ops.toArray A K N) : clT P ops.toArray l s K := .inr (.inl ⟨N, A, h1, h2, h3⟩)
theorem ad4 {P : Program} {l : List Oper} {A : Nat → St → Prop} {m m' i : Nat} {s : St} {is : List Nat} (e : m ||| 2 ^ i = m') (h : aao P l.toArray l i s (fun s' => ∃ s2, A m' s2 ∧ bo s' s2)) (h2 : agu P l.toArray A m s is) : agu P l.toArray A m s (i :: is) := by
 subst e
 exact ⟨by rw [aeb]; exact h, h2⟩
@[congr] theorem a3d {P : Program} {ops : Array Oper} {l : List Oper} {s s' : St} {K : St → Prop} (h : s = s') : clT P ops l s K = clT P ops l s' K := by rw [h]
section
variable {P : Program} {Q : Exit → St → Prop} {s : St}
@[go_sem] theorem a8g : wpA P .skip Q s = Q .normal s := rfl
@[go_sem] theorem av8 {id : Nat} {ops : List Oper} : wpA P (.region id ops.toArray false) Q s = ib P ops.toArray ops s (Q .normal) := rfl
@[go_sem] theorem avk {id : Nat} {ops : List Oper} : wpA P (.region id ops.toArray true) Q s = if ath ops = true then chT P ops.toArray s (Q .normal) else if hasLt ops = true then n8 P ops.toArray s (Q .normal) else if asn P ops = true then clT P ops.toArray ops s (Q .normal) else (cc ops.toArray = true ∧ dG P ops.toArray ops 0 [] s (Q .normal)) := rfl
@[go_sem] theorem bay {a b : Code} : wpA P (.seq a b) Q s = wpA P a (r4 (wpA P b Q) Q) s := rfl
@[go_sem] theorem a4w {c : Operand} {x y : Code} : wpA P (.cond c x y) Q s = km (ev s.t c) fun t => aw t (wpA P x Q s) (wpA P y Q s) ⟨⟩ ⟨⟩ := rfl
@[go_sem] theorem a1h {id : Nat} {c : Code} : wpA P (.block id c) Q s = wpA P c (qh id Q) s := rfl
@[go_sem] theorem a48 {c : Code} : wpA P (.loop c) Q s = dn (wpA P c) Q s ⟨⟩ ⟨⟩ := rfl
@[go_sem] theorem a8r {id : Nat} : wpA P (.exit id) Q s = Q (.exit id) s := rfl
@[go_sem] theorem a9h : wpA P .ret Q s = Q .ret s := rfl
@[go_sem] theorem atr {n : St → Prop} : r4 n Q .normal s = n s := rfl
@[go_sem] theorem aw7 {n : St → Prop} {i : Nat} : r4 n Q (.exit i) s = Q (.exit i) s := rfl
@[go_sem] theorem az2 {n : St → Prop} : r4 n Q .ret s = Q .ret s := rfl
@[go_sem] theorem aq9 {i : Nat} : qh i Q .normal s = Q .normal s := rfl
@[go_sem] theorem awf {i : Nat} : qh i Q .ret s = Q .ret s := rfl
@[go_sem] theorem aub {i j : Nat} : qh i Q (.exit j) s = if j = i then Q .normal s else Q (.exit j) s := rfl
end

section
variable {P : Program} {ops : Array Oper} {t : List V} {h : Hp} {k : Nat} {K : St → Prop} {rest : List Oper} {dst : Option Tmp} {ty : TypeId} {pos : String} {after : Array Edge} {g : Option (Nat × Bool)}

@[go_sem] theorem a2h {s : St} : ib P ops [] s K = K s := rfl
@[go_sem] theorem ayc {op : Op} {v0 : V} : ib P ops (⟨dst, op, ty, pos, after, none⟩ :: rest) ⟨v0 :: t, h, k⟩ K = fop P ⟨v0 :: t, h, k⟩ ⟨dst, op, ty, pos, after, none⟩ (fun s' => ib P ops rest s' K) := rfl
@[go_sem] theorem awi {op : Op} {j : Nat} {want : Bool} {v0 : V} : ib P ops (⟨dst, op, ty, pos, after, some (j, want)⟩ :: rest) ⟨v0 :: t, h, k⟩ K =
 ax want (gv ops (v0 :: t) j) (fop P ⟨v0 :: t, h, k⟩ ⟨dst, op, ty, pos, after, some (j, want)⟩ (fun s' => ib P ops rest s' K)) (ib P ops rest (St.put ⟨v0 :: t, h, k⟩ dst .skip) K) ⟨⟩ ⟨⟩ := rfl
@[go_sem] theorem gA_nil {s : St} : gA P ops [] s K = K s := rfl
@[go_sem] theorem baq {op : Op} {v0 : V} : gA P ops (⟨dst, op, ty, pos, after, none⟩ :: rest) ⟨v0 :: t, h, k⟩ K = gop P h (ev (v0 :: t)) op (fun v n => gA P ops rest (St.put ⟨v0 :: t, h ++ n, k⟩ dst v) K) := rfl
@[go_sem] theorem ay0 {t : List V} {h : Hp} {s : St} {K : St → Prop} : qv P t h [] s K = K s := rfl
@[go_sem] theorem aw6 {u : List V} {hh : Hp} {i d ty' : Nat} {ys : List Tmp} {l : List Tip} {sh : Hp} : qv P u hh (⟨i, d, ty', ys⟩ :: l) ⟨t, sh, k⟩ K = match jo P ty' with
 | some (e, sz, by_) => match zeroOf P e with
  | some zs => zs.length = sz ∧ wm hh sz (ys.map fun y => u.getD y .undef) 0 [] fun n cs => (n * by_ ≤ 140737488355328 ∧ n ≤ 4611686018427387904 ∧ cs.all (de 2) = true) ∧
   qv P u hh l ⟨t.set d (.osl sh.length 0 n sz), sh ++ [some cs], k⟩ K
  | none => False
 | none => False := rfl
@[go_sem] theorem a09 {hh : Hp} {sz n : Nat} {cs : List V} {K : Nat → List V → Prop} : wm hh sz [] n cs K = K n cs := rfl
@[go_sem] theorem ayd {hh : Hp} {sz n : Nat} {y : V} {l cs : List V} {K : Nat → List V → Prop} : wm hh sz (y :: l) n cs K = n5 hh sz none y fun k ys => wm hh sz l (n + k) (cs ++ ys) K := rfl
@[go_sem] theorem a4n {f : List Bool} : o7 f [] = [] := by cases f with | nil => rfl | cons b f => cases b <;> rfl
@[go_sem] theorem selB_t {f : List Bool} {o : Oper} {l : List Oper} : o7 (true :: f) (o :: l) = o :: o7 f l := rfl
@[go_sem] theorem selB_f {f : List Bool} {o : Oper} {l : List Oper} : o7 (false :: f) (o :: l) = o7 f l := rfl
@[go_sem] theorem a7i {t : List V} : qb [] t = t := rfl
@[go_sem] theorem a1z {l : List (Option CE)} {t : List V} : qb (none :: l) t = qb l t := rfl
@[go_sem] theorem a2b {l : List (Option CE)} {pv : Option Nat} {d ty' : Nat} {ys : List Tmp} {t : List V} : qb (some ⟨pv, d, ty', ys⟩ :: l) t = qb l (t.set d .undef) := rfl
@[go_sem] theorem a6x {l : List Oper} : ath l = (hasB l && aon l) := rfl
@[go_sem] theorem a57 {l : List Oper} : asn P l = (ahp l && ag5 P l) := rfl
@[go_sem] theorem a3c : ahp [] = false := rfl
@[go_sem] theorem ayp {op : Op} {l : List Oper} : ahp (⟨dst, op, ty, pos, after, g⟩ :: l) = (sb op || ahp l) := rfl
@[go_sem] theorem a1u : ag5 P [] = false := rfl
@[go_sem] theorem a0t {op : Op} {l : List Oper} : ag5 P (⟨dst, op, ty, pos, after, g⟩ :: l) = (r9 P op || ag5 P l) := rfl
@[go_sem] theorem a4r {l : List Oper} : hasLt l = (aph l && ap8 l) := rfl
@[go_sem] theorem a7b : aph [] = false := rfl
@[go_sem] theorem a1n {op : Op} {l : List Oper} : aph (⟨dst, op, ty, pos, after, g⟩ :: l) = (sd op after || aph l) := rfl
@[go_sem] theorem a7r : ap8 [] = false := rfl
@[go_sem] theorem a26 {op : Op} {l : List Oper} : ap8 (⟨dst, op, ty, pos, after, g⟩ :: l) = (kz op || ap8 l) := rfl
@[go_sem] theorem a9z : gcL [] = false := rfl
@[go_sem] theorem a4s {n : Nat} {g : Ground} {l : List Edge} : gcL (⟨n, g⟩ :: l) = (ar5 g || gcL l) := rfl
@[go_sem] theorem a9m : ar5 .data = false := rfl
@[go_sem] theorem a5o : ar5 .guard = false := rfl
@[go_sem] theorem gc_gc {r : Departure} : ar5 (.gcOnly r) = true := rfl
@[go_sem] theorem a33 {b : Nat} : ([] : List Nat).contains b = false := rfl
@[go_sem] theorem a3g {a b : Nat} {l : List Nat} : (a :: l).contains b = (b == a || l.contains b) := List.contains_cons
@[go_sem] theorem gF_nil {ids : List Nat} {s : St} : gF P ops ids [] s K = K s := rfl
@[go_sem] theorem ba1 {ids : List Nat} {f : Bool} {op : Op} {l : List (Bool × Oper)} {v0 : V} : gF P ops ids ((f, ⟨dst, op, ty, pos, after, none⟩) :: l) ⟨v0 :: t, h, k⟩ K = gop P (ac4 ids f h) (ev (v0 :: t)) op (fun v n => gF P ops ids l (St.put ⟨v0 :: t, h ++ n, k⟩ dst v) K) := rfl
@[go_sem] theorem a7g {ids : List Nat} {f : Bool} {op : Op} {j : Nat} {want : Bool} {l : List (Bool × Oper)} {v0 : V} : gF P ops ids ((f, ⟨dst, op, ty, pos, after, some (j, want)⟩) :: l) ⟨v0 :: t, h, k⟩ K =
 ax want (gv ops (v0 :: t) j) (gop P (ac4 ids f h) (ev (v0 :: t)) op (fun v n => gF P ops ids l (St.put ⟨v0 :: t, h ++ n, k⟩ dst v) K)) (gF P ops ids l (St.put ⟨v0 :: t, h, k⟩ dst .skip) K) ⟨⟩ ⟨⟩ := rfl
@[go_sem] theorem holB_t {ids : List Nat} {h : Hp} : ac4 ids true h = hol ids h := rfl
@[go_sem] theorem holB_f {ids : List Nat} {h : Hp} : ac4 ids false h = h := rfl
@[go_sem] theorem bat {h : Hp} : hol [] h = h := rfl
@[go_sem] theorem a7p {i : Nat} {l : List Nat} {h : Hp} : hol (i :: l) h = hol l (h.set i none) := rfl
@[go_sem] theorem a7y {a b : List Bool} : wa a b [] = [] := by cases a with | nil => rfl | cons x a => cases b <;> rfl
@[go_sem] theorem selF_t {f : Bool} {a b : List Bool} {o : Oper} {l : List Oper} : wa (true :: a) (f :: b) (o :: l) = (f, o) :: wa a b l := rfl
@[go_sem] theorem selF_f {f : Bool} {a b : List Bool} {o : Oper} {l : List Oper} : wa (false :: a) (f :: b) (o :: l) = wa a b l := rfl
@[go_sem] theorem a0y {ids : List Nat} {D : List Oper} {s : St} : rz P ops ids 0 D s K = ib P ops D s K := rfl
@[go_sem] theorem ayr {ids : List Nat} {p : Nat} {o : Oper} {D : List Oper} {s : St} : rz P ops ids (p + 1) (o :: D) s K = akv P ids s o fun s' => rz P ops ids p D s' K := rfl
@[go_sem] theorem axb {ids : List Nat} {u : TypeId} {a x : Operand} {s : St} : akv P ids s ⟨none, .store u a x, ty, pos, after, none⟩ K = ((match ev s.t a with | .ptr id _ => ids.contains id = true | _ => False) ∧ mi P s.h u (ev s.t a) (ev s.t x) fun h' => K { s with h := h' }) := rfl
@[go_sem] theorem a3u {s : St} : trA P ops .done s K = K s := rfl
@[go_sem] theorem a4c {s : St} : trA P ops .stop s K = True := rfl
@[go_sem] theorem a5y {i : Nat} {u : Tr} {s : St} {l : List Oper} : trA P l.toArray (.take i u) s K = aao P l.toArray l i s (fun s' => trA P l.toArray u s' K) := aeb
@[go_sem] theorem a9s {i : Nat} {u v : Tr} {s : St} {l : List Oper} : trA P l.toArray (.alt i u v) s K = (aao P l.toArray l i s (fun s' => trA P l.toArray u s' K) ∧ trA P l.toArray v s K) := by
 show (vx P l.toArray i s _ ∧ _) = _
 rw [aeb]
@[go_sem] theorem a0z {op : Op} {l : List Oper} {v0 : V} : aao P ops (⟨dst, op, ty, pos, after, none⟩ :: l) 0 ⟨v0 :: t, h, k⟩ K = fop P ⟨v0 :: t, h, k⟩ ⟨dst, op, ty, pos, after, none⟩ K := rfl
@[go_sem] theorem ay7 {o : Oper} {l : List Oper} {i : Nat} {s : St} : aao P ops (o :: l) (i + 1) s K = aao P ops l i s K := rfl
@[go_sem] theorem a42 : hasB [] = false := rfl
@[go_sem] theorem a2m {op : Op} {l : List Oper} : hasB (⟨dst, op, ty, pos, after, g⟩ :: l) = (sf op || hasB l) := rfl
@[go_sem] theorem a7u : aon [] = false := rfl
@[go_sem] theorem a3f {op : Op} {l : List Oper} : aon (⟨dst, op, ty, pos, after, g⟩ :: l) = (sa op || aon l) := rfl
@[go_sem] theorem dG_nil {b : Nat} {R : List Oper} {s : St} : dG P ops [] b R s K = fR P ops R [] s K := by
 show ib P ops R.reverse s K = ib P ops (R.reverse ++ []) s K
 rw [List.append_nil]
@[go_sem] theorem fR_nil {acc : List Oper} {s : St} : fR P ops [] acc s K = ib P ops acc s K := rfl
@[go_sem] theorem a9k {o : Oper} {R acc : List Oper} {s : St} : fR P ops (o :: R) acc s K = fR P ops R (o :: acc) s K := by
 show ib P ops ((o :: R).reverse ++ acc) s K = ib P ops (R.reverse ++ (o :: acc)) s K
 simp
theorem arf {op : Op} {v0 : V} {b : Nat} (hq : fe op = true) : dG P ops (⟨dst, op, ty, pos, after, none⟩ :: rest) b [] ⟨v0 :: t, h, k⟩ K = gop P h (ev (v0 :: t)) op (fun v n => dG P ops rest (b + 1) [] (St.put ⟨v0 :: t, h ++ n, k⟩ dst v) K) := by
 conv => lhs; unfold dG nq
 rw [if_pos (show quietAt b [].reverse ⟨dst, op, ty, pos, after, none⟩ = true from hq)]; rfl
theorem art {op : Op} {j : Nat} {want : Bool} {v0 : V} {b : Nat} (hq : fe op = true) : dG P ops (⟨dst, op, ty, pos, after, some (j, want)⟩ :: rest) b [] ⟨v0 :: t, h, k⟩ K =
 ax want (gv ops (v0 :: t) j) (gop P h (ev (v0 :: t)) op (fun v n => dG P ops rest (b + 1) [] (St.put ⟨v0 :: t, h ++ n, k⟩ dst v) K)) (dG P ops rest (b + 1) [] (St.put ⟨v0 :: t, h, k⟩ dst .skip) K) ⟨⟩ ⟨⟩ := by
 conv => lhs; unfold dG nq
 rw [if_pos (show quietAt b [].reverse ⟨dst, op, ty, pos, after, some (j, want)⟩ = true from hq)]; rfl
theorem aze {o : Oper} {s : St} {b : Nat} (hq : fe o.op = false) : dG P ops (o :: rest) b [] s K = dG P ops rest b [o] s K := by
 conv => lhs; unfold dG nq
 rw [if_neg (by show ¬ fe o.op = true; simp [hq])]; rfl
theorem amo {b : Nat} {D : List Oper} (hD : D ≠ []) (o : Oper) : quietAt b D o = (aea o && (ahx D o && edB b o.after)) := by
 cases D with
 | nil => exact absurd rfl hD
 | cons e D => rfl
theorem ass {b : Nat} {D : List Oper} (hD : D ≠ []) : np b D = b := by
 cases D with
 | nil => exact absurd rfl hD
 | cons e D => rfl
def clrB (u v : Tmp) (o : Oper) : Bool := match o.dst with | some x => x != u && x != v | none => true
theorem aim (u v : Tmp) : ∀ D : List Oper, clr u v D = D.all (clrB u v)
 | [] => rfl
 | o :: D => by
  rw [List.all_cons, ← aim u v D]; rfl
theorem pd (u v : Tmp) (D : List Oper) : clr u v D.reverse = clr u v D := by rw [aim, aim, List.all_reverse]
@[go_sem] theorem a9j {u v : Tmp} : clr u v [] = true := rfl
@[go_sem] theorem a4e {u v : Tmp} {op : Op} {D : List Oper} : clr u v (⟨none, op, ty, pos, after, g⟩ :: D) = clr u v D := by simp [clr]
@[go_sem] theorem a47 {u v x : Tmp} {op : Op} {D : List Oper} : clr u v (⟨some x, op, ty, pos, after, g⟩ :: D) = if x = u then false else if x = v then false else clr u v D := by
 simp only [clr]
 by_cases h1 : x = u
 · simp [h1]
 · by_cases h2 : x = v
   · simp [h2]
   · simp [h1, h2]
@[go_sem] theorem edB_eq {b : Nat} {l : List Edge} : edB b l.toArray = edL b l := rfl
@[go_sem] theorem baf {b : Nat} : edL b [] = true := rfl
@[go_sem] theorem a6m {b n : Nat} {g : Ground} {l : List Edge} : edL b (⟨n, g⟩ :: l) = if n < b then edL b l else false := rfl
theorem zz {o : Oper} {e : Oper} {R : List Oper} {s : St} {b : Nat} : dG P ops (o :: rest) b (e :: R) s K =
 if (aea o && (ahx (e :: R).reverse o && edB b o.after)) = true then gdA ops s.t o.guard (gop P s.h (ev s.t) o.op fun v n => dG P ops rest b (e :: R) (({ s with h := s.h ++ n } : St).put o.dst v) K) (dG P ops rest b (e :: R) (s.put o.dst .skip) K)
 else dG P ops rest b (o :: e :: R) s K := by
 conv => lhs; unfold dG nq
 rw [amo (by simp), ass (by simp)]
 by_cases hc : (aea o && (ahx (e :: R).reverse o && edB b o.after)) = true
 · rw [if_pos hc, if_pos hc]; rfl
 · rw [if_neg hc, if_neg hc]
   show nq P ops rest b ((e :: R).reverse ++ [_]) _ K = nq P ops rest b (_ :: e :: R).reverse _ K
   rw [List.reverse_cons (as := e :: R)]
@[go_sem] theorem a88 {b : Nat} {e : Oper} {R : List Oper} {T f a d : Nat} {v0 : V} : dG P ops (⟨some d, .fieldAddr T (.tmp a) f, ty, pos, after, none⟩ :: rest) b (e :: R) ⟨v0 :: t, h, k⟩ K =
 if edB b after = true ∧ clr a d (e :: R) = true then gop P h (ev (v0 :: t)) (.fieldAddr T (.tmp a) f) (fun v n => dG P ops rest b (e :: R) (St.put ⟨v0 :: t, h ++ n, k⟩ (some d) v) K)
 else dG P ops rest b (⟨some d, .fieldAddr T (.tmp a) f, ty, pos, after, none⟩ :: e :: R) ⟨v0 :: t, h, k⟩ K := by
 rw [zz]
 show (if (true && (clr a d (e :: R).reverse && edB b after)) = true then _ else _) = _
 rw [pd, Bool.true_and]
 by_cases hc : edB b after = true ∧ clr a d (e :: R) = true
 · rw [if_pos (by rw [hc.2, hc.1]; rfl), if_pos hc]; rfl
 · rw [if_neg (by intro h; rw [Bool.and_eq_true] at h; exact hc ⟨h.2, h.1⟩), if_neg hc]
@[go_sem] theorem a7q {m : Nat} {e : Oper} {R : List Oper} {T a b d : Nat} {v0 : V} : dG P ops (⟨some d, .indexAddr T (.tmp a) (.tmp b), ty, pos, after, none⟩ :: rest) m (e :: R) ⟨v0 :: t, h, k⟩ K =
 if edB m after = true ∧ clr a d (e :: R) = true ∧ clr b d (e :: R) = true then gop P h (ev (v0 :: t)) (.indexAddr T (.tmp a) (.tmp b)) (fun v n => dG P ops rest m (e :: R) (St.put ⟨v0 :: t, h ++ n, k⟩ (some d) v) K)
 else dG P ops rest m (⟨some d, .indexAddr T (.tmp a) (.tmp b), ty, pos, after, none⟩ :: e :: R) ⟨v0 :: t, h, k⟩ K := by
 rw [zz]
 show (if (true && ((clr a d (e :: R).reverse && clr b d (e :: R).reverse) && edB m after)) = true then _ else _) = _
 rw [pd, pd, Bool.true_and]
 by_cases hc : edB m after = true ∧ clr a d (e :: R) = true ∧ clr b d (e :: R) = true
 · rw [if_pos (by rw [hc.2.1, hc.2.2, hc.1]; rfl), if_pos hc]; rfl
 · rw [if_neg (by intro h; rw [Bool.and_eq_true, Bool.and_eq_true] at h; exact hc ⟨h.2, h.1⟩), if_neg hc]
@[go_sem] theorem a8w {b : Nat} {e : Oper} {R : List Oper} {a d : Nat} {v0 : V} : dG P ops (⟨some d, .move (.tmp a), ty, pos, after, none⟩ :: rest) b (e :: R) ⟨v0 :: t, h, k⟩ K =
 if edB b after = true ∧ clr a d (e :: R) = true then gop P h (ev (v0 :: t)) (.move (.tmp a)) (fun v n => dG P ops rest b (e :: R) (St.put ⟨v0 :: t, h ++ n, k⟩ (some d) v) K)
 else dG P ops rest b (⟨some d, .move (.tmp a), ty, pos, after, none⟩ :: e :: R) ⟨v0 :: t, h, k⟩ K := by
 rw [zz]
 show (if (true && (clr a d (e :: R).reverse && edB b after)) = true then _ else _) = _
 rw [pd, Bool.true_and]
 by_cases hc : edB b after = true ∧ clr a d (e :: R) = true
 · rw [if_pos (by rw [hc.2, hc.1]; rfl), if_pos hc]; rfl
 · rw [if_neg (by intro h; rw [Bool.and_eq_true] at h; exact hc ⟨h.2, h.1⟩), if_neg hc]
@[go_sem] theorem a6h {b : Nat} {e : Oper} {R : List Oper} {a d : Nat} {v0 : V} : dG P ops (⟨some d, .nilCheck (.tmp a), ty, pos, after, none⟩ :: rest) b (e :: R) ⟨v0 :: t, h, k⟩ K =
 if edB b after = true ∧ clr a d (e :: R) = true then gop P h (ev (v0 :: t)) (.nilCheck (.tmp a)) (fun v n => dG P ops rest b (e :: R) (St.put ⟨v0 :: t, h ++ n, k⟩ (some d) v) K)
 else dG P ops rest b (⟨some d, .nilCheck (.tmp a), ty, pos, after, none⟩ :: e :: R) ⟨v0 :: t, h, k⟩ K := by
 rw [zz]
 show (if (true && (clr a d (e :: R).reverse && edB b after)) = true then _ else _) = _
 rw [pd, Bool.true_and]
 by_cases hc : edB b after = true ∧ clr a d (e :: R) = true
 · rw [if_pos (by rw [hc.2, hc.1]; rfl), if_pos hc]; rfl
 · rw [if_neg (by intro h; rw [Bool.and_eq_true] at h; exact hc ⟨h.2, h.1⟩), if_neg hc]
def aae : Op → Bool
 | .fieldAddr _ _ _ => false
 | .indexAddr _ _ _ => false
 | .move _ => false
 | .nilCheck _ => false
 | _ => true
theorem av2 {b : Nat} {op : Op} {e : Oper} {R : List Oper} {s : St} (hq : aae op = true) : dG P ops (⟨dst, op, ty, pos, after, none⟩ :: rest) b (e :: R) s K = dG P ops rest b (⟨dst, op, ty, pos, after, none⟩ :: e :: R) s K := by
 rw [zz, if_neg (by
  have : aea ⟨dst, op, ty, pos, after, none⟩ = false := by cases op <;> first | rfl | cases hq
  rw [this]; simp)]
@[go_sem] theorem a8d {d : Tmp} {v : V} : St.put ⟨t, h, k⟩ (some d) v = ⟨t.set d v, h, k⟩ := rfl
@[go_sem] theorem a5u {v : V} : St.put ⟨t, h, k⟩ none v = ⟨t, h, k⟩ := rfl
@[go_sem] theorem ev_tmp {i : Nat} : ev t (.tmp i) = t.getD i .undef := rfl
@[go_sem] theorem a8m {v : Value} : ev t (.const v) = cv v := rfl
@[go_sem] theorem ba2 {f : FuncId} : ev t (.func f) = .fn (.func f) [] [] := rfl
@[go_sem] theorem a9l {b : Bool} : cv (.bool b) = .bool b := rfl
@[go_sem] theorem cv_int {kd : IntKind} {n : Int} : cv (.int kd n) = .int kd n := rfl
@[go_sem] theorem cv_str {s : ByteArray} : cv (.string s) = .str s := rfl
@[go_sem] theorem cv_nil : cv (.slice none 0 0) = .nilsl := rfl

section
variable {s : St}
@[go_sem] theorem a8j {x : Operand} : fop P s ⟨dst, .move x, ty, pos, after, g⟩ K = K (s.put dst (ev s.t x)) := rfl
@[go_sem] theorem azz {x : Operand} : fop P s ⟨dst, .assign x, ty, pos, after, g⟩ K = K (s.put dst (ev s.t x)) := rfl
@[go_sem] theorem a7v {c a b : Operand} : fop P s ⟨dst, .pick c a b, ty, pos, after, g⟩ K = km (ev s.t c) fun t => K (s.put dst (if t then ev s.t a else ev s.t b)) := rfl
@[go_sem] theorem a1v {t : TypeId} : fop P s ⟨dst, .alloc t, ty, pos, after, g⟩ K = match zeroOf P t with
 | some zs => K (({ s with h := s.h ++ [some zs] } : St).put dst (.ptr s.h.length 0))
 | none => False := rfl
@[go_sem] theorem a99 {t : TypeId} {x : Operand} : fop P s ⟨dst, .box t x, ty, pos, after, g⟩ K = match cellsOf (ev s.t x) with
 | some cs => K (({ s with h := s.h ++ [some cs] } : St).put dst (.ptr s.h.length 0))
 | none => False := rfl
@[go_sem] theorem a2z {t : TypeId} {parts : List (Nat × Operand)} : fop P s ⟨dst, .build t parts.toArray, ty, pos, after, g⟩ K = ri P t (parts.map fun p => (p.1, ev s.t p.2)) fun v => K (s.put dst v) := rfl
@[go_sem] theorem asg {t : TypeId} {n : Nat} {parts : List (Nat × Operand)} : fop P s ⟨dst, .buildSlice t n parts.toArray, ty, pos, after, g⟩ K = match jo P t with
 | some (e, sz, _) => match zeroOf P e with
  | some _ => match abh sz 0 (parts.map fun p => (p.1, ev s.t p.2)) with
   | some cs => parts.length = n ∧ n * sz ≤ 16777216 ∧ cs.length = n * sz ∧ K (({ s with h := s.h ++ [some cs] } : St).put dst (.osl s.h.length 0 n sz))
   | none => False
  | none => False
 | none => False := rfl
@[go_sem] theorem at7 {t : TypeId} {l c : Operand} : fop P s ⟨dst, .makeSlice t l c, ty, pos, after, g⟩ K = jg (ev s.t l) fun _ n => jg (ev s.t c) fun _ n' => n' = n ∧ match jo P t with
 | some (e, sz, by_) => match zeroOf P e with
  | some zs => 0 ≤ n ∧ (by_ : Int) * n ≤ 281474976710656 ∧ n ≤ 9223372036854775807 ∧ K (({ s with h := s.h ++ [some (xn (n.toNat * sz) zs)] } : St).put dst (.osl s.h.length 0 n.toNat sz))
  | none => False
 | none => False := rfl
@[go_sem] theorem a1r {t : TypeId} {a x : Operand} : fop P s ⟨dst, .store t a x, ty, pos, after, g⟩ K = mi P s.h t (ev s.t a) (ev s.t x) fun h' => K (({ s with h := h' } : St).put dst .skip) := rfl
@[go_sem] theorem axf {t : TypeId} : fop P s ⟨dst, .makeMap t none, ty, pos, after, g⟩ K = K (({ s with h := s.h ++ [some [.mb []]] } : St).put dst (.mp s.h.length)) := rfl
@[go_sem] theorem ay2 {t : TypeId} {x k v : Operand} : fop P s ⟨dst, .insert t x k v, ty, pos, after, g⟩ K = alk P s.h t (ev s.t x) (ev s.t k) (ev s.t v) fun h' => K (({ s with h := h' } : St).put dst .skip) := rfl
@[go_sem] theorem a0s {t : TypeId} {x k : Operand} {ok : Bool} : fop P s ⟨dst, .lookup t x k ok, ty, pos, after, g⟩ K = ks P s.h t (ev s.t x) (ev s.t k) ok fun v => K (s.put dst v) := rfl
@[go_sem] theorem ay1 {x y : Operand} {t u : TypeId} : fop P s ⟨dst, .call { callee := .builtin .append, args := #[x, y], argTypes := #[t, u] }, ty, pos, after, g⟩ K = uz P s t u (ev s.t x) (ev s.t y) fun s' r => K (s'.put dst r) := rfl
@[go_sem] theorem a7w {f : Operand} {args : List Operand} {ts : Array TypeId} : fop P s ⟨dst, .call { callee := .value f, args := args.toArray, argTypes := ts }, ty, pos, after, g⟩ K = ai P s dst (ev s.t f) (args.map (ev s.t)) K ⟨⟩ := rfl
@[go_sem] theorem a7e {t : TypeId} {a : Operand} : fop P s ⟨dst, .load t a, ty, pos, after, g⟩ K = pq P s.h t (ev s.t a) fun v => K (s.put dst v) := rfl
@[go_sem] theorem atu {t : TypeId} {a : Operand} {f : Nat} : fop P s ⟨dst, .fieldAddr t a f, ty, pos, after, g⟩ K = ff P t f (ev s.t a) fun v => K (s.put dst v) := rfl
@[go_sem] theorem at2 {t : TypeId} {x i : Operand} : fop P s ⟨dst, .indexAddr t x i, ty, pos, after, g⟩ K = jg (ev s.t i) fun _ z => eo P t (ev s.t x) z fun v => K (s.put dst v) := rfl
@[go_sem] theorem a3b {t : TypeId} {x i : Operand} : fop P s ⟨dst, .index t x i, ty, pos, after, g⟩ K = jg (ev s.t i) fun _ z => u7 P t (ev s.t x) z fun v => K (s.put dst v) := rfl
@[go_sem] theorem a2s {t : TypeId} {x : Operand} {lo hi : Option Operand} : fop P s ⟨dst, .slice t x lo hi none, ty, pos, after, g⟩ K = match vz (ev s.t) lo with
 | none => False
 | some l => nz P (ev s.t) t (ev s.t x) l hi fun v => K (s.put dst v) := rfl
@[go_sem] theorem a2p {op : BinOp} {t u : TypeId} {x y : Operand} : fop P s ⟨dst, .binOp op t x y u, ty, pos, after, g⟩ K = bin P op t (kO x || kO y) (ev s.t x) (ev s.t y) fun v => K (s.put dst v) := rfl
@[go_sem] theorem bag {t : TypeId} {x : Operand} : fop P s ⟨dst, .unOp .not t x, ty, pos, after, g⟩ K = km (ev s.t x) fun b => K (s.put dst (.bool (!b))) := rfl
@[go_sem] theorem a9p {t : TypeId} {x : Operand} : fop P s ⟨dst, .unOp .neg t x, ty, pos, after, g⟩ K = jg (ev s.t x) fun kd n => K (s.put dst (.int kd (kd.wrap (0 - n)))) := rfl
@[go_sem] theorem awl {t u : TypeId} {x : Operand} : fop P s ⟨dst, .convert t u x, ty, pos, after, g⟩ K = alb P s dst t u (ev s.t x) K := rfl
@[go_sem] theorem a2t {t u : TypeId} {kd : IntKind} {n : Int} : alb P s dst t u (.int kd n) K = j5 P s.h t u (.int kd n) fun v => K (s.put dst v) := rfl
@[go_sem] theorem a2k {t u : TypeId} {id off n wd : Nat} : alb P s dst t u (.osl id off n wd) K = j5 P s.h t u (.osl id off n wd) fun v => K (s.put dst v) := rfl
@[go_sem] theorem az7 {A B : Prop} : aeg true A B = A := rfl
@[go_sem] theorem awz {x : Operand} {i : Nat} : fop P s ⟨dst, .extract x i, ty, pos, after, g⟩ K = o2 (ev s.t x) i fun v => K (s.put dst v) := rfl
@[go_sem] theorem auz {x : Operand} : fop P s ⟨dst, .nilCheck x, ty, pos, after, g⟩ K = ya (ev s.t x) fun v => K (s.put dst v) := rfl
@[go_sem] theorem awa {f : Fn} {a c : List Operand} : fop P s ⟨dst, .makeFunc f a.toArray c.toArray, ty, pos, after, g⟩ K = K (s.put dst (.fn f (a.map (ev s.t)) (c.map (ev s.t)))) := rfl
@[go_sem] theorem baj {x : Operand} {t : TypeId} : fop P s ⟨dst, .call { callee := .builtin .len, args := #[x], argTypes := #[t] }, ty, pos, after, g⟩ K = ac5 P t (ev s.t x) fun v => K (s.put dst v) := rfl
@[go_sem] theorem a94 {x y : Operand} {ts : Array TypeId} : fop P s ⟨dst, .call { callee := .builtin .min, args := #[x, y], argTypes := ts }, ty, pos, after, g⟩ K = jg (ev s.t x) fun kd a => jg (ev s.t y) fun _ b => K (s.put dst (.int kd (if b < a then b else a))) := rfl
end

section
variable {ρ : Operand → V} {K : V → Hp → Prop}
@[go_sem] theorem a4d {x : Operand} : gop P h ρ (.move x) K = K (ρ x) [] := rfl
@[go_sem] theorem ax1 {x : Operand} : gop P h ρ (.assign x) K = K (ρ x) [] := rfl
@[go_sem] theorem a6k {c a b : Operand} : gop P h ρ (.pick c a b) K = km (ρ c) fun t => K (if t then ρ a else ρ b) [] := rfl
@[go_sem] theorem a2e {t : TypeId} : gop P h ρ (.alloc t) K = match zeroOf P t with
 | some zs => K (.ptr h.length 0) [some zs]
 | none => False := rfl
@[go_sem] theorem a08 {t : TypeId} {parts : List (Nat × Operand)} : gop P h ρ (.build t parts.toArray) K = ri P t (parts.map fun p => (p.1, ρ p.2)) fun v => K v [] := rfl
@[go_sem] theorem aqe {t : TypeId} {n : Nat} {parts : List (Nat × Operand)} : gop P h ρ (.buildSlice t n parts.toArray) K = match jo P t with
 | some (e, sz, _) => match zeroOf P e with
  | some _ => match abh sz 0 (parts.map fun p => (p.1, ρ p.2)) with
   | some cs => parts.length = n ∧ n * sz ≤ 16777216 ∧ cs.length = n * sz ∧ K (.osl h.length 0 n sz) [some cs]
   | none => False
  | none => False
 | none => False := rfl
@[go_sem] theorem a36 {f : Operand} {args : List Operand} {ts : Array TypeId} : gop P h ρ (.call { callee := .value f, args := args.toArray, argTypes := ts }) K = ak P h (ρ f) (args.map ρ) (fun r hout => K (ren (shf h.length) 3 r) (shH h.length hout)) ⟨⟩ := rfl
@[go_sem] theorem a7c {t : TypeId} {a : Operand} : gop P h ρ (.load t a) K = pq P h t (ρ a) fun v => K v [] := rfl
@[go_sem] theorem atx {t : TypeId} {a : Operand} {f : Nat} : gop P h ρ (.fieldAddr t a f) K = ff P t f (ρ a) fun v => K v [] := rfl
@[go_sem] theorem ats {t : TypeId} {x i : Operand} : gop P h ρ (.indexAddr t x i) K = jg (ρ i) fun _ z => eo P t (ρ x) z fun v => K v [] := rfl
@[go_sem] theorem a2y {t : TypeId} {x : Operand} {lo hi : Option Operand} : gop P h ρ (.slice t x lo hi none) K = match vz ρ lo with
 | none => False
 | some l => nz P ρ t (ρ x) l hi fun v => K v [] := rfl
@[go_sem] theorem a25 {op : BinOp} {t u : TypeId} {x y : Operand} : gop P h ρ (.binOp op t x y u) K = bin P op t (kO x || kO y) (ρ x) (ρ y) fun v => K v [] := rfl
@[go_sem] theorem a92 {t : TypeId} {x : Operand} : gop P h ρ (.unOp .not t x) K = km (ρ x) fun b => K (.bool (!b)) [] := rfl
@[go_sem] theorem axt {t u : TypeId} {x : Operand} : gop P h ρ (.convert t u x) K = ahb P h t u (ρ x) K := rfl
@[go_sem] theorem a1k {t u : TypeId} {b : ByteArray} : ahb P h t u (.str b) K = aeg (sr P u) (isStr P t = true ∧ K (.osl h.length 0 b.size 1) [some (strCells b)]) (j5 P h t u (.str b) fun v => K v []) := rfl
@[go_sem] theorem a1x {t u : TypeId} {kd : IntKind} {n : Int} : ahb P h t u (.int kd n) K = j5 P h t u (.int kd n) fun v => K v [] := rfl
@[go_sem] theorem awj {x : Operand} {i : Nat} : gop P h ρ (.extract x i) K = o2 (ρ x) i fun v => K v [] := rfl
@[go_sem] theorem ayv {t : TypeId} {x k : Operand} {ok : Bool} : gop P h ρ (.lookup t x k ok) K = ks P h t (ρ x) (ρ k) ok fun v => K v [] := rfl
@[go_sem] theorem auf {x : Operand} : gop P h ρ (.nilCheck x) K = ya (ρ x) fun v => K v [] := rfl
@[go_sem] theorem a9n {x : Operand} {t : TypeId} : gop P h ρ (.call { callee := .builtin .len, args := #[x], argTypes := #[t] }) K = ac5 P t (ρ x) fun v => K v [] := rfl
end
end

@[go_sem] theorem a2g {k : IntKind} {n : Int} {K : IntKind → Int → Prop} : jg (.int k n) K = K k n := rfl
@[go_sem] theorem axk {b : Bool} {K : Bool → Prop} : km (.bool b) K = K b := rfl
@[go_sem] theorem a98 {P : Program} {t n w : Nat} {cs : List V} {K : V → Prop} : ac5 P t (.sl n w cs) K = (x8 P t = true ∧ K (.int .i64 n)) := rfl
@[go_sem] theorem a4g {P : Program} {t id off n w : Nat} {K : V → Prop} : ac5 P t (.osl id off n w) K = (x8 P t = true ∧ K (.int .i64 n)) := rfl
@[go_sem] theorem a7s {P : Program} {t : Nat} {s : ByteArray} {K : V → Prop} : ac5 P t (.str s) K = (isStr P t = true ∧ K (.int .i64 s.size)) := rfl
@[go_sem] theorem a97 {P : Program} {op : BinOp} {t : Nat} {c : Bool} {k k' : IntKind} {a b : Int} {K : V → Prop} : bin P op t c (.int k a) (.int k' b) K = (k = k' ∧ xl op k a b K) := rfl
@[go_sem] theorem ban {P : Program} {op : BinOp} {t : Nat} {c : Bool} {a b : ByteArray} {K : V → Prop} : bin P op t c (.str a) (.str b) K = xg op a b K := rfl
@[go_sem] theorem avo {P : Program} {t : Nat} {c : Bool} {a b : Bool} {K : V → Prop} : bin P .eql t c (.bool a) (.bool b) K = (aav P t = true ∧ K (.bool (a == b))) := rfl
@[go_sem] theorem awp {P : Program} {t : Nat} {c : Bool} {a b : List V} {K : V → Prop} : bin P .eql t c (.agg a) (.agg b) K = match xh P t with
 | some ds => match eqL ds a b with
  | some r => K (.bool r)
  | none => False
 | none => False := rfl
@[go_sem] theorem awv {P : Program} {t : Nat} {c : Bool} {a b : List V} {K : V → Prop} : bin P .neq t c (.agg a) (.agg b) K = match xh P t with
 | some ds => match eqL ds a b with
  | some r => K (.bool (!r))
  | none => False
 | none => False := rfl
@[go_sem] theorem a96 : eqL [] [] [] = some true := rfl
@[go_sem] theorem bam {k0 k : IntKind} {ds : List TypeDesc} {a b : Int} {l l' : List V} : eqL (.int k0 :: ds) (.int k a :: l) (.int k b :: l') = match eqL ds l l' with
 | some y => some ((a == b) && y)
 | none => none := by
 simp only [eqL, eqV, if_true]; cases eqL ds l l' <;> rfl
@[go_sem] theorem a6t {ds : List TypeDesc} {a b : Bool} {l l' : List V} : eqL (.bool :: ds) (.bool a :: l) (.bool b :: l') = match eqL ds l l' with
 | some y => some ((a == b) && y)
 | none => none := by
 simp only [eqL, eqV]; cases eqL ds l l' <;> rfl
@[go_sem] theorem a9a {ds : List TypeDesc} {a b : ByteArray} {l l' : List V} : eqL (.string :: ds) (.str a :: l) (.str b :: l') = match eqL ds l l' with
 | some y => some ((a.toList == b.toList) && y)
 | none => none := by
 simp only [eqL, eqV]; cases eqL ds l l' <;> rfl
@[go_sem] theorem auy {P : Program} {t : Nat} {c : Bool} {a b : Bool} {K : V → Prop} : bin P .neq t c (.bool a) (.bool b) K = (aav P t = true ∧ K (.bool (!(a == b)))) := rfl

section
variable {P : Program} {h : Hp} {t f : Nat} {K : V → Prop}
@[go_sem] theorem a3t {cs : List V} : pq P h t (.pt cs) K = match jl P t with
 | some (sz, ag) => sz ≤ cs.length ∧ (ag = true ∨ sz = 1) ∧ K (mk ag (cs.take sz))
 | none => False := rfl
@[go_sem] theorem a3i {id off : Nat} : pq P h t (.ptr id off) K = match jl P t with
 | some (sz, ag) => match h[id]? with
  | some (some cs) => off + sz ≤ cs.length ∧ (ag = true ∨ sz = 1) ∧ K (mk ag ((cs.drop off).take sz))
  | _ => False
 | none => False := rfl
@[go_sem] theorem atv {cs : List V} : ff P t f (.pt cs) K = match kr P t f with
 | some (off, sz, _) => 0 < sz ∧ K (.pt (cs.drop off))
 | none => False := rfl
@[go_sem] theorem asc {id o : Nat} : ff P t f (.ptr id o) K = match kr P t f with
 | some (off, sz, _) => 0 < sz ∧ K (.ptr id (o + off))
 | none => False := rfl
@[go_sem] theorem at3 {n w : Nat} {cs : List V} {z : Int} : eo P t (.sl n w cs) z K = match jo P t with
 | some (_, sz, _) => (0 ≤ z ∧ z < n) ∧ w = sz ∧ K (.pt ((cs.drop (z.toNat * w)).take w))
 | none => False := rfl
@[go_sem] theorem as6 {id off n w : Nat} {z : Int} : eo P t (.osl id off n w) z K = match jo P t with
 | some (_, sz, _) => (0 ≤ z ∧ z < n) ∧ w = sz ∧ K (.ptr id (off + z.toNat * w))
 | none => False := rfl
@[go_sem] theorem a0g {s : ByteArray} {z : Int} : u7 P t (.str s) z K = (isStr P t = true ∧ ∃ hi : 0 ≤ z ∧ z.toNat < s.size, K (.int .u8 ((s[z.toNat]'hi.2).toNat : Int))) := rfl
@[go_sem] theorem a29 {ρ : Operand → V} {n w : Nat} {cs : List V} {l : Int} {hi : Option Operand} : nz P ρ t (.sl n w cs) l hi K = match jo P t with
 | some (_, sz, _) => match hi with
  | none => (0 ≤ l ∧ l ≤ n) ∧ w = sz ∧ K (.sl (n - l.toNat) w (cs.drop (l.toNat * w)))
  | some hh => jg (ρ hh) fun _ u => (0 ≤ l ∧ l ≤ u ∧ u ≤ n) ∧ w = sz ∧ K (.sl (u.toNat - l.toNat) w ((cs.drop (l.toNat * w)).take ((u.toNat - l.toNat) * w)))
 | none => False := rfl
@[go_sem] theorem a0c {ρ : Operand → V} {s : ByteArray} {l : Int} {hi : Option Operand} : nz P ρ t (.str s) l hi K = (isStr P t = true ∧ match hi with
 | none => (0 ≤ l ∧ l ≤ s.size) ∧ K (.str (s.extract l.toNat s.size))
 | some hh => jg (ρ hh) fun _ u => (0 ≤ l ∧ l ≤ u ∧ u ≤ s.size) ∧ K (.str (s.extract l.toNat u.toNat))) := rfl
@[go_sem] theorem a1c {u : Nat} {kd : IntKind} {n : Int} : acv P t u (.int kd n) K = ((P.underlying t).isSome = true ∧ match xf P u with
 | some k => K (.int k (k.wrap n))
 | none => isStr P u = true ∧ K (.str (Utf8.encode n))) := rfl
@[go_sem] theorem a1o {h : Hp} {u : Nat} {kd : IntKind} {n : Int} : j5 P h t u (.int kd n) K = ((P.underlying t).isSome = true ∧ match xf P u with
 | some k => K (.int k (k.wrap n))
 | none => isStr P u = true ∧ K (.str (Utf8.encode n))) := rfl
@[go_sem] theorem a2w {h : Hp} {u : Nat} {b : ByteArray} : j5 P h t u (.str b) K = ((P.underlying t).isSome = true ∧ isStr P u = true ∧ K (.str b)) := rfl
@[go_sem] theorem a27 {h : Hp} {u id off n wd : Nat} : j5 P h t u (.osl id off n wd) K = ((sr P t = true ∧ isStr P u = true ∧ wd = 1) ∧ match h[id]? with
 | some (some cs) => match oa ((cs.drop off).take n) with
  | some xs => K (.str (strOfNums xs))
  | none => False
 | _ => False) := rfl
@[go_sem] theorem a3s {id off : Nat} : ya (.ptr id off) K = K (.ptr id off) := rfl
@[go_sem] theorem a1s {vs : List V} {i : Nat} : o2 (.tup vs) i K = match vs[i]? with
 | some v => K v
 | none => False := rfl
@[go_sem] theorem az9 {id : Nat} {y : V} {ok : Bool} : ks P h t (.mp id) y ok K = match h[id]? with
 | some (some [.mb es]) => match af3 y, mapOf P t with
  | some k, some (d, z) => yh d k = true ∧ match kn d k es 0 with
   | some (some (_, v)) => K (if ok then .tup [lf v, .bool true] else lf v)
   | some none => K (if ok then .tup [z, .bool false] else z)
   | none => False
  | _, _ => False
 | _ => False := rfl
@[go_sem] theorem a9y {id : Nat} {y v : V} {K : Hp → Prop} : alk P h t (.mp id) y v K = match h[id]? with
 | some (some [.mb es]) => match af3 y, af3 v, mapOf P t with
  | some k, some vl, some (d, _) => yh d k = true ∧ match kn d k es 0 with
   | some r => K (h.set id (some [.mb (vw k vl r es)]))
   | none => False
  | _, _, _ => False
 | _ => False := rfl
@[go_sem] theorem a8l {k : IntKind} {n : Int} : af3 (.int k n) = some (.int k n) := rfl
@[go_sem] theorem a4q {s : ByteArray} : af3 (.str s) = some (.string s) := rfl
@[go_sem] theorem a2i {s : ByteArray} : yh .string (.string s) = true := rfl
@[go_sem] theorem lf_int {k : IntKind} {n : Int} : lf (.int k n) = .int k n := rfl
@[go_sem] theorem a1d {parts : List (Nat × V)} : ri P t parts K = match zeroOf P t, ac1 P t with
 | some zs, some pl => match xo pl parts zs with
  | some cs => K (.agg cs)
  | none => False
 | _, _ => False := rfl
@[go_sem] theorem ayo {id off : Nat} {v : V} {K : Hp → Prop} : mi P h t (.ptr id off) v K = match h[id]? with
 | some (some cs) => match cellsOf v with
  | some ns => match jl P t with
   | some (sz, _) => ns.length = sz ∧ off + sz ≤ cs.length ∧ K (h.set id (some (dq cs off ns)))
   | none => False
  | none => False
 | _ => False := rfl
@[go_sem] theorem a9d {sz n w : Nat} {cs : List V} {no : Option Nat} {K : Nat → List V → Prop} : n5 h sz no (.sl n w cs) K = (w = sz ∧ cs.all ch = true ∧ K n cs) := rfl
@[go_sem] theorem a7k {sz id off n w : Nat} {no : Option Nat} {K : Nat → List V → Prop} : n5 h sz no (.osl id off n w) K = (some id ≠ no ∧ match h[id]? with
 | some (some cs) => w = sz ∧ ((cs.drop off).take (n * sz)).all ch = true ∧ K n ((cs.drop off).take (n * sz))
 | _ => False) := rfl
@[go_sem] theorem aww {s : St} {u : Nat} {y : V} {K : St → V → Prop} : uz P s t u .nilsl y K = (x8 P u = true ∧ match jo P t with
 | some (e, sz, by_) => match zeroOf P e with
  | some zs => zs.length = sz ∧ n5 s.h sz none y fun n2 cs2 => 0 < n2 ∧ n2 * by_ ≤ 140737488355328 ∧ n2 ≤ 4611686018427387904 ∧ K { s with h := s.h ++ [some cs2] } (.osl s.h.length 0 n2 sz)
  | none => False
 | none => False) := rfl
@[go_sem] theorem awq {s : St} {u id off n wd : Nat} {y : V} {K : St → V → Prop} : uz P s t u (.osl id off n wd) y K = (x8 P u = true ∧ match jo P t with
 | some (e, sz, by_) => match zeroOf P e with
  | some zs => zs.length = sz ∧ match s.h[id]? with
   | some (some cs) => off = 0 ∧ wd = sz ∧ n * sz = cs.length ∧ n5 s.h sz (some id) y fun n2 cs2 =>
    (s.k ≤ id ∨ cs2 ≠ []) ∧ (n + n2) * by_ ≤ 140737488355328 ∧ n + n2 ≤ 4611686018427387904 ∧
    K { s with t := xj id s.t, h := (s.h.map (kb id)).set id (some (dj id (cs ++ cs2))) } (.osl id 0 (n + n2) sz)
   | _ => False
  | none => False
 | none => False) := rfl
end
attribute [go_sem] xl xg mk vz
def LeC (n : Nat) : List V → List V → Prop
 | [], [] => True
 | a :: l, b :: l' => LeV (ren (bh n) 3 a) b ∧ LeC n l l'
 | _, _ => False

theorem aow {n : Nat} {a : V} {l l' : List V} : LeC n (a :: l) (.undef :: l') = LeC n l l' := by
 simp [LeC, LeV]
theorem aq2 {n : Nat} {a b : V} {l l' : List V} : LeC n (a :: l) (b :: l') = (LeV (ren (bh n) 3 a) b ∧ LeC n l l') := rfl
theorem avt {n : Nat} : LeC n [] [] = True := rfl
theorem LeC.get {n : Nat} : ∀ {l l' : List V}, LeC n l l' → l.length = l'.length ∧ ∀ i (hi : i < l.length) (hi' : i < l'.length), LeV (ren (bh n) 3 l[i]) l'[i]
 | [], [], _ => ⟨rfl, fun i hi => by simp at hi⟩
 | a :: l, b :: l', h => by
  obtain ⟨h1, h2⟩ := LeC.get h.2
  refine ⟨by simp [h1], fun i hi hi' => ?_⟩
  cases i with
  | zero => exact h.1
  | succ i => exact h2 i (by simpa using hi) (by simpa using hi')
 | [], _ :: _, h => h.elim
 | _ :: _, [], h => h.elim


theorem bo.cut {t t2 : List V} {h h2 : Hp} {k : Nat} (n : Nat) (hk : k ≤ n) (hn : n ≤ h.length) (ht : LeC n t t2) (hh : cb n h = h2) : bo ⟨t, h, k⟩ ⟨t2, h2, k⟩ := by
 subst hh
 intro w0 m0 h0 av0 a w m I
 have hcase : ∀ (j : Nat) (c : List V), (cb n h)[j]? = some (some c) → j < n ∧ ∃ c0, h[j]? = some (some c0) ∧ c = c0.map (ren (bh n) 2) := by
  intro j c hj
  have hlt : j < n := by
   have := e8 hj
   simp [cb] at this; omega
  simp only [cb, List.getElem?_map, List.getElem?_take_of_lt hlt] at hj
  cases h2 : h[j]? with
  | none => simp [h2] at hj
  | some b =>
   cases b with
   | none => simp [h2, ck] at hj
   | some c0 => simp [h2, ck] at hj; exact ⟨hlt, c0, rfl, hj.symm⟩
 have hnew : ∀ (j : Nat) (c : List V), j < n → h[j]? = some (some c) → (cb n h)[j]? = some (some (c.map (ren (bh n) 2))) := by
  intro j c hlt hj
  simp [cb, List.getElem?_take_of_lt hlt, hj, ck]
 have hown : ∀ b, own m (cb n h) b → own m h b := by
  rintro b ⟨j, c, h1, rfl⟩
  obtain ⟨_, c0, h2, _⟩ := hcase j c h1
  exact ⟨j, c0, h2, rfl⟩
 have hR : Ren w w m m h (cb n h) (avm av0 m h) (avm av0 m (cb n h)) (bh n) := by
  refine ⟨fun b off v hb hc => ⟨fun h => hb (h.imp (fun x => x) (hown b)), hc⟩, fun j c j' hj hf => ?_, fun j c c' hj hf => ?_⟩
  · unfold bh at hf
    split at hf
    · rename_i hlt; simp at hf; subst hf
      exact ⟨_, hnew j c hlt hj, by simp, rfl, Nat.le_refl _, er _ _ _⟩
    · cases hf
  · unfold bh at hf
    split at hf <;> cases hf
 obtain ⟨hlen, hget⟩ := ht.get
 refine ⟨m, ⟨fun i j ci cj h1 h2 he => ?_, fun j c h1 => .inr ⟨j, c, h1, rfl⟩, fun j c h1 => ?_⟩, by rw [I.size]; exact hlen, fun i hi => ?_, I.defers, I.ext, fun j c h1 => ?_, I.lt, I.lent, I.gl, I.k, ?_⟩
 · obtain ⟨_, c0, h3, _⟩ := hcase i ci h1
   obtain ⟨_, c1, h4, _⟩ := hcase j cj h2
   exact I.rh.inj i j c0 c1 h3 h4 he
 · obtain ⟨_, c0, h2, rfl⟩ := hcase j c h1
   exact (I.rh.blk j c0 h2).map rfl (kh _ 2) (fun v x hx => hx.ren hR 2)
 · have hi' : i < t.length := by rw [hlen]; exact hi
   exact ((I.slots i hi').ren hR 3).le (hget i hi' hi)
 · obtain ⟨_, c0, h2, rfl⟩ := hcase j c h1
   rw [List.length_map]
   exact I.ids j c0 h2
 · have := I.k
   dsimp only at this
   simp [cb]; omega


@[go_sem] theorem q_move (x : Operand) : fe (.move x) = true := rfl
@[go_sem] theorem a6z (x : Operand) : fe (.assign x) = true := rfl
@[go_sem] theorem q_pick (x y z : Operand) : fe (.pick x y z) = true := rfl
@[go_sem] theorem baz (t : Nat) (x : Array (Nat × Operand)) : fe (.build t x) = true := rfl
@[go_sem] theorem avl (t n : Nat) (x : Array (Nat × Operand)) : fe (.buildSlice t n x) = true := rfl
@[go_sem] theorem q_load (t : Nat) (x : Operand) : fe (.load t x) = true := rfl
@[go_sem] theorem ay9 (x : Operand) : fe (.nilCheck x) = true := rfl
@[go_sem] theorem a9x (o : BinOp) (t u : Nat) (x y : Operand) : fe (.binOp o t x y u) = true := rfl
@[go_sem] theorem q_unOp (o : UnOp) (t : Nat) (x : Operand) : fe (.unOp o t x) = true := rfl
@[go_sem] theorem a2u (t u : Nat) (x : Operand) : fe (.convert t u x) = true := rfl
@[go_sem] theorem a9i (t : Nat) (x : Operand) (a b c : Option Operand) : fe (.slice t x a b c) = true := rfl
@[go_sem] theorem axz (t : Nat) (x : Operand) (f : Nat) : fe (.fieldAddr t x f) = true := rfl
@[go_sem] theorem axy (t : Nat) (x y : Operand) : fe (.indexAddr t x y) = true := rfl
@[go_sem] theorem a1f (x : Operand) (i : Nat) : fe (.extract x i) = true := rfl
@[go_sem] theorem bao (f : Operand) (a : Array Operand) (t : Array TypeId) : fe (.call { callee := .value f, args := a, argTypes := t }) = !(ayq t || ann f) := rfl
@[go_sem] theorem a01 (f : FuncId) : ann (.func f) = yc amm f := rfl
@[go_sem] theorem a1i (t : Tmp) : ann (.tmp t) = false := rfl
@[go_sem] theorem a2x (t : TypeId) (l : List TypeId) : ayq (t :: l).toArray = yc am3 t := rfl
attribute [go_sem] am3 amm yc Bool.not_true Bool.not_false
@[go_sem] theorem q_len (a : Array Operand) (t : Array TypeId) : fe (.call { callee := .builtin .len, args := a, argTypes := t }) = true := rfl
@[go_sem] theorem a30 (t : Nat) (x y : Operand) : fe (.store t x y) = false := rfl
@[go_sem] theorem a4o (t : Nat) (x y : Operand) (ok : Bool) : fe (.lookup t x y ok) = true := rfl
@[go_sem] theorem a2v (a : Array Operand) (t : Array TypeId) : fe (.call { callee := .builtin .append, args := a, argTypes := t }) = false := rfl
@[go_sem] theorem a9r (t : Nat) : fe (.alloc t) = true := rfl
@[go_sem] theorem ba0 (x : Operand) : sf (.move x) = false := rfl
@[go_sem] theorem a84 (x : Operand) (l : Array Edge) : sd (.move x) l = false := rfl
@[go_sem] theorem a9c (x : Operand) : kz (.move x) = false := rfl
@[go_sem] theorem a8z (x : Operand)  : sb (.move x) = false := rfl
@[go_sem] theorem a9t {P : Program} (x : Operand)  : r9 P (.move x) = false := rfl
@[go_sem] theorem a83 (x : Operand) : sa (.move x) = false := rfl
@[go_sem] theorem a1g (x : Operand) : sf (.assign x) = false := rfl
@[go_sem] theorem a1b (x : Operand) (l : Array Edge) : sd (.assign x) l = false := rfl
@[go_sem] theorem a2a (x : Operand) : kz (.assign x) = false := rfl
@[go_sem] theorem a2l (x : Operand)  : sb (.assign x) = false := rfl
@[go_sem] theorem a3a {P : Program} (x : Operand)  : r9 P (.assign x) = false := rfl
@[go_sem] theorem a2r (x : Operand) : sa (.assign x) = false := rfl
@[go_sem] theorem a9b (x y z : Operand) : sf (.pick x y z) = false := rfl
@[go_sem] theorem bau (x y z : Operand) (l : Array Edge) : sd (.pick x y z) l = false := rfl
@[go_sem] theorem bak (x y z : Operand) : kz (.pick x y z) = false := rfl
@[go_sem] theorem a8y (x y z : Operand)  : sb (.pick x y z) = false := rfl
@[go_sem] theorem bas {P : Program} (x y z : Operand)  : r9 P (.pick x y z) = false := rfl
@[go_sem] theorem a81 (x y z : Operand) : sa (.pick x y z) = false := rfl
@[go_sem] theorem a5f (t : Nat) (x : Array (Nat × Operand)) : sf (.build t x) = false := rfl
@[go_sem] theorem a5b (t : Nat) (x : Array (Nat × Operand)) (l : Array Edge) : sd (.build t x) l = false := rfl
@[go_sem] theorem a6j (t : Nat) (x : Array (Nat × Operand)) : kz (.build t x) = false := rfl
@[go_sem] theorem a3n (t : Nat) (x : Array (Nat × Operand))  : sb (.build t x) = false := rfl
@[go_sem] theorem a78 {P : Program} (t : Nat) (x : Array (Nat × Operand))  : r9 P (.build t x) = false := rfl
@[go_sem] theorem a8e (t : Nat) (x : Array (Nat × Operand)) : sa (.build t x) = false := rfl
@[go_sem] theorem atz (t n : Nat) (x : Array (Nat × Operand)) : sf (.buildSlice t n x) = (if n = 0 then true else false) := rfl
@[go_sem] theorem att (t n : Nat) (x : Array (Nat × Operand)) (l : Array Edge) : sd (.buildSlice t n x) l = false := rfl
@[go_sem] theorem at1 (t n : Nat) (x : Array (Nat × Operand)) : kz (.buildSlice t n x) = false := rfl
@[go_sem] theorem aty (t n : Nat) (x : Array (Nat × Operand))  : sb (.buildSlice t n x) = false := rfl
@[go_sem] theorem atw {P : Program} (t n : Nat) (x : Array (Nat × Operand))  : r9 P (.buildSlice t n x) = false := rfl
@[go_sem] theorem aua (t n : Nat) (x : Array (Nat × Operand)) : sa (.buildSlice t n x) = false := rfl
@[go_sem] theorem bap (t : Nat) (x : Operand) : sf (.load t x) = false := rfl
@[go_sem] theorem bae (t : Nat) (x : Operand) (l : List Edge) : sd (.load t x) l.toArray = gcL l := rfl
@[go_sem] theorem a90 (t : Nat) (x : Operand) : kz (.load t x) = false := rfl
@[go_sem] theorem a9v (t : Nat) (x : Operand)  : sb (.load t x) = true := rfl
@[go_sem] theorem a89 {P : Program} (t : Nat) (x : Operand)  : r9 P (.load t x) = false := rfl
@[go_sem] theorem a9u (t : Nat) (x : Operand) : sa (.load t x) = false := rfl
@[go_sem] theorem awt (x : Operand) : sf (.nilCheck x) = false := rfl
@[go_sem] theorem axq (x : Operand) (l : Array Edge) : sd (.nilCheck x) l = false := rfl
@[go_sem] theorem ax0 (x : Operand) : kz (.nilCheck x) = false := rfl
@[go_sem] theorem axm (x : Operand)  : sb (.nilCheck x) = false := rfl
@[go_sem] theorem aws {P : Program} (x : Operand)  : r9 P (.nilCheck x) = false := rfl
@[go_sem] theorem axn (x : Operand) : sa (.nilCheck x) = false := rfl
@[go_sem] theorem a4x (o : BinOp) (t u : Nat) (x y : Operand) : sf (.binOp o t x y u) = false := rfl
@[go_sem] theorem a4m (o : BinOp) (t u : Nat) (x y : Operand) (l : Array Edge) : sd (.binOp o t x y u) l = false := rfl
@[go_sem] theorem a54 (o : BinOp) (t u : Nat) (x y : Operand) : kz (.binOp o t x y u) = false := rfl
@[go_sem] theorem a65 (o : BinOp) (t u : Nat) (x y : Operand)  : sb (.binOp o t x y u) = false := rfl
@[go_sem] theorem a6v {P : Program} (o : BinOp) (t u : Nat) (x y : Operand)  : r9 P (.binOp o t x y u) = false := rfl
@[go_sem] theorem a34 (o : BinOp) (t u : Nat) (x y : Operand) : sa (.binOp o t x y u) = false := rfl
@[go_sem] theorem bah (o : UnOp) (t : Nat) (x : Operand) : sf (.unOp o t x) = false := rfl
@[go_sem] theorem baa (o : UnOp) (t : Nat) (x : Operand) (l : Array Edge) : sd (.unOp o t x) l = false := rfl
@[go_sem] theorem a9g (o : UnOp) (t : Nat) (x : Operand) : kz (.unOp o t x) = false := rfl
@[go_sem] theorem a95 (o : UnOp) (t : Nat) (x : Operand)  : sb (.unOp o t x) = false := rfl
@[go_sem] theorem a9q {P : Program} (o : UnOp) (t : Nat) (x : Operand)  : r9 P (.unOp o t x) = false := rfl
@[go_sem] theorem bax (o : UnOp) (t : Nat) (x : Operand) : sa (.unOp o t x) = false := rfl
@[go_sem] theorem a0a (t u : Nat) (x : Operand) : sf (.convert t u x) = false := rfl
@[go_sem] theorem ayn (t u : Nat) (x : Operand) (l : Array Edge) : sd (.convert t u x) l = false := rfl
@[go_sem] theorem a0r (t u : Nat) (x : Operand) : kz (.convert t u x) = false := rfl
@[go_sem] theorem az6 (t u : Nat) (x : Operand)  : sb (.convert t u x) = false := rfl
@[go_sem] theorem a05 {P : Program} (t u : Nat) (x : Operand)  : r9 P (.convert t u x) = false := rfl
@[go_sem] theorem ay3 (t u : Nat) (x : Operand) : sa (.convert t u x) = false := rfl
@[go_sem] theorem a5e (t : Nat) (x : Operand) (a b c : Option Operand) : sf (.slice t x a b c) = false := rfl
@[go_sem] theorem a3o (t : Nat) (x : Operand) (a b c : Option Operand) (l : Array Edge) : sd (.slice t x a b c) l = false := rfl
@[go_sem] theorem a63 (t : Nat) (x : Operand) (a b c : Option Operand) : kz (.slice t x a b c) = false := rfl
@[go_sem] theorem a7a (t : Nat) (x : Operand) (a b c : Option Operand)  : sb (.slice t x a b c) = false := rfl
@[go_sem] theorem a3m {P : Program} (t : Nat) (x : Operand) (a b c : Option Operand)  : r9 P (.slice t x a b c) = false := rfl
@[go_sem] theorem a4l (t : Nat) (x : Operand) (a b c : Option Operand) : sa (.slice t x a b c) = false := rfl
@[go_sem] theorem avu (t : Nat) (x : Operand) (f : Nat) : sf (.fieldAddr t x f) = false := rfl
@[go_sem] theorem aut (t : Nat) (x : Operand) (f : Nat) (l : Array Edge) : sd (.fieldAddr t x f) l = false := rfl
@[go_sem] theorem avi (t : Nat) (x : Operand) (f : Nat) : kz (.fieldAddr t x f) = false := rfl
@[go_sem] theorem au6 (t : Nat) (x : Operand) (f : Nat)  : sb (.fieldAddr t x f) = false := rfl
@[go_sem] theorem au2 {P : Program} (t : Nat) (x : Operand) (f : Nat)  : r9 P (.fieldAddr t x f) = false := rfl
@[go_sem] theorem avv (t : Nat) (x : Operand) (f : Nat) : sa (.fieldAddr t x f) = false := rfl
@[go_sem] theorem ava (t : Nat) (x y : Operand) : sf (.indexAddr t x y) = false := rfl
@[go_sem] theorem avg (t : Nat) (x y : Operand) (l : Array Edge) : sd (.indexAddr t x y) l = false := rfl
@[go_sem] theorem avn (t : Nat) (x y : Operand) : kz (.indexAddr t x y) = false := rfl
@[go_sem] theorem au0 (t : Nat) (x y : Operand)  : sb (.indexAddr t x y) = false := rfl
@[go_sem] theorem aul {P : Program} (t : Nat) (x y : Operand)  : r9 P (.indexAddr t x y) = false := rfl
@[go_sem] theorem auv (t : Nat) (x y : Operand) : sa (.indexAddr t x y) = false := rfl
@[go_sem] theorem a0f (x : Operand) (i : Nat) : sf (.extract x i) = false := rfl
@[go_sem] theorem az8 (x : Operand) (i : Nat) (l : Array Edge) : sd (.extract x i) l = false := rfl
@[go_sem] theorem a0k (x : Operand) (i : Nat) : kz (.extract x i) = false := rfl
@[go_sem] theorem azn (x : Operand) (i : Nat)  : sb (.extract x i) = false := rfl
@[go_sem] theorem ayw {P : Program} (x : Operand) (i : Nat)  : r9 P (.extract x i) = false := rfl
@[go_sem] theorem a0j (x : Operand) (i : Nat) : sa (.extract x i) = false := rfl
@[go_sem] theorem a6o (f : Operand) (a : Array Operand) (t : Array TypeId) : sf (.call { callee := .value f, args := a, argTypes := t }) = false := rfl
@[go_sem] theorem a6u (f : Operand) (a : Array Operand) (t : Array TypeId) (l : Array Edge) : sd (.call { callee := .value f, args := a, argTypes := t }) l = false := rfl
@[go_sem] theorem a5h (f : Operand) (a : Array Operand) (t : Array TypeId) : kz (.call { callee := .value f, args := a, argTypes := t }) = false := rfl
@[go_sem] theorem a5r (f : Operand) (a : Array Operand) (t : Array TypeId)  : sb (.call { callee := .value f, args := a, argTypes := t }) = false := rfl
@[go_sem] theorem a3x {P : Program} (f : Operand) (a : Array Operand) (t : TypeId) (ts : List TypeId) : r9 P (.call { callee := .value f, args := a, argTypes := (t :: ts).toArray }) = abe P t := rfl
@[go_sem] theorem a8t (f : Operand) (a : Array Operand) (t : Array TypeId) : sa (.call { callee := .value f, args := a, argTypes := t }) = false := rfl
@[go_sem] theorem b0_len (a : Array Operand) (t : Array TypeId) : sf (.call { callee := .builtin .len, args := a, argTypes := t }) = false := rfl
@[go_sem] theorem lg_len (a : Array Operand) (t : Array TypeId) (l : Array Edge) : sd (.call { callee := .builtin .len, args := a, argTypes := t }) l = false := rfl
@[go_sem] theorem st_len (a : Array Operand) (t : Array TypeId) : kz (.call { callee := .builtin .len, args := a, argTypes := t }) = false := rfl
@[go_sem] theorem ld_len (a : Array Operand) (t : Array TypeId)  : sb (.call { callee := .builtin .len, args := a, argTypes := t }) = false := rfl
@[go_sem] theorem vc_len {P : Program} (a : Array Operand) (t : Array TypeId)  : r9 P (.call { callee := .builtin .len, args := a, argTypes := t }) = false := rfl
@[go_sem] theorem ap_len (a : Array Operand) (t : Array TypeId) : sa (.call { callee := .builtin .len, args := a, argTypes := t }) = false := rfl
@[go_sem] theorem a5g (t : Nat) (x y : Operand) : sf (.store t x y) = false := rfl
@[go_sem] theorem a5n (t : Nat) (x y : Operand) (l : Array Edge) : sd (.store t x y) l = false := rfl
@[go_sem] theorem a6c (t : Nat) (x y : Operand) : kz (.store t x y) = true := rfl
@[go_sem] theorem a5j (t : Nat) (x y : Operand)  : sb (.store t x y) = false := rfl
@[go_sem] theorem a5a {P : Program} (t : Nat) (x y : Operand)  : r9 P (.store t x y) = false := rfl
@[go_sem] theorem a4t (t : Nat) (x y : Operand) : sa (.store t x y) = false := rfl
@[go_sem] theorem a1j (t : Nat) (x y : Operand) (ok : Bool) : sf (.lookup t x y ok) = false := rfl
@[go_sem] theorem a2q (t : Nat) (x y : Operand) (ok : Bool) (l : Array Edge) : sd (.lookup t x y ok) l = false := rfl
@[go_sem] theorem a3h (t : Nat) (x y : Operand) (ok : Bool) : kz (.lookup t x y ok) = false := rfl
@[go_sem] theorem a3j (t : Nat) (x y : Operand) (ok : Bool)  : sb (.lookup t x y ok) = false := rfl
@[go_sem] theorem a1e {P : Program} (t : Nat) (x y : Operand) (ok : Bool)  : r9 P (.lookup t x y ok) = false := rfl
@[go_sem] theorem a2c (t : Nat) (x y : Operand) (ok : Bool) : sa (.lookup t x y ok) = false := rfl
@[go_sem] theorem a2n (a : Array Operand) (t : Array TypeId) : sf (.call { callee := .builtin .append, args := a, argTypes := t }) = false := rfl
@[go_sem] theorem a3e (a : Array Operand) (t : Array TypeId) (l : Array Edge) : sd (.call { callee := .builtin .append, args := a, argTypes := t }) l = false := rfl
@[go_sem] theorem a19 (a : Array Operand) (t : Array TypeId) : kz (.call { callee := .builtin .append, args := a, argTypes := t }) = false := rfl
@[go_sem] theorem a2f (a : Array Operand) (t : Array TypeId)  : sb (.call { callee := .builtin .append, args := a, argTypes := t }) = false := rfl
@[go_sem] theorem a1q {P : Program} (a : Array Operand) (t : Array TypeId)  : r9 P (.call { callee := .builtin .append, args := a, argTypes := t }) = false := rfl
@[go_sem] theorem a22 (a : Array Operand) (t : Array TypeId) : sa (.call { callee := .builtin .append, args := a, argTypes := t }) = true := rfl
@[go_sem] theorem a8k (t : Nat) : sf (.alloc t) = false := rfl
@[go_sem] theorem a6d (t : Nat) (l : Array Edge) : sd (.alloc t) l = false := rfl
@[go_sem] theorem a6y (t : Nat) : kz (.alloc t) = false := rfl
@[go_sem] theorem a41 (t : Nat)  : sb (.alloc t) = false := rfl
@[go_sem] theorem a3z {P : Program} (t : Nat)  : r9 P (.alloc t) = false := rfl
@[go_sem] theorem a6a (t : Nat) : sa (.alloc t) = false := rfl
@[go_sem] theorem a2d (x : Operand) : aae (.assign x) = true := rfl
@[go_sem] theorem a58 (t : Nat) : aae (.alloc t) = true := rfl
@[go_sem] theorem a44 (t : Nat) (x : Array (Nat × Operand)) : aae (.build t x) = true := rfl
@[go_sem] theorem at4 (t n : Nat) (x : Array (Nat × Operand)) : aae (.buildSlice t n x) = true := rfl
@[go_sem] theorem a9o (t : Nat) (x : Operand) : aae (.load t x) = true := rfl
@[go_sem] theorem ayy (x : Operand) (i : Nat) : aae (.extract x i) = true := rfl
@[go_sem] theorem a82 (c : Call) : aae (.call c) = true := rfl
@[go_sem] theorem a7d (t : Nat) (x y : Operand) : aae (.store t x y) = true := rfl
attribute [go_sem] bh cb ck Bool.true_or Bool.or_true Bool.or_false Bool.false_or Bool.false_and Bool.and_false
attribute [go_sem] arf art aze av2
attribute [go_sem] avt aq2
attribute [go_sem high] aow

attribute [go_sem] List.cons_append List.nil_append List.append_nil List.getD_cons_zero List.getD_cons_succ List.set_cons_zero List.set_cons_succ List.length_cons List.length_nil List.map_cons List.map_nil List.take_succ_cons List.take_zero List.drop_succ_cons List.drop_zero
 gv Option.bind_some List.getElem?_toArray List.getElem?_cons_zero List.getElem?_cons_succ List.replicate_succ List.replicate_zero List.all_cons List.all_nil
@[go_sem] theorem a8o {P : Program} {s : St} {K : List V → Prop} : wc P s [] K = K [] := rfl
@[go_sem] theorem a8f {P : Program} {s : St} {t : Tmp} {l : List ResultVar} {K : List V → Prop} : wc P s (.tmp t :: l) K = wc P s l fun vs => K (s.t.getD t .undef :: vs) := rfl
@[go_sem] theorem a2o {P : Program} {s : St} {a : Tmp} {t : TypeId} {l : List ResultVar} {K : List V → Prop} : wc P s (.cell a t :: l) K = pq P s.h t (s.t.getD a .undef) fun v => wc P s l fun vs => K (v :: vs) := rfl
@[go_sem] theorem a45 {P : Program} {res : List ResultVar} {Φ : V → Hp → Prop} {s : St} : retP P res Φ .ret s = wc P s res fun vs => yl s.k (ud vs) s.h Φ := rfl
@[go_sem] theorem awr {P : Program} {res : List ResultVar} {r : V} {hout : Hp} {s : St} : azg P res r hout .normal s = wc P s res fun vs => aj s.k (ud vs) s.h r hout := rfl
@[go_sem] theorem a6b {P : Program} {res : List ResultVar} {r : V} {hout : Hp} {s : St} : azg P res r hout .ret s = wc P s res fun vs => aj s.k (ud vs) s.h r hout := rfl
@[go_sem] theorem a2j {v : V} : ud [v] = v := rfl
@[go_sem] theorem a1w {v u : V} : ud [v, u] = .tup [v, u] := rfl
@[go_sem] theorem axr {v u x : V} : ud [v, u, x] = .tup [v, u, x] := rfl

theorem aj.drop {v : V} {h : Hp} (hn : de 3 v = true) : aj 0 v h v [] := by
 intro w0 m0 h0 av0 w m val hk _ hlt hle H hx hi
 refine ⟨m, ⟨fun i j ci cj h => by simp at h, fun id cs h => by simp at h, fun id cs h => by simp at h⟩, ?_, fun id cs h => by simp at h⟩
 have h1 := (RV.de 3 v hn hx)
 have h2 : RV w m [] (avm av0 m []) false val v := h1.x6 (fun b off u hb hc => ⟨fun h => hb (by
  rcases h with h | ⟨id, cs, h, _⟩
  · exact .inl h
  · simp at h), hc⟩) rfl
 exact h2.se

theorem y6 (p : Nat → Bool) : ∀ (d : Nat) (v : V), de d v = true → tf p d v = true
 | 0, v, hv => by cases v <;> first | rfl | (simp [de] at hv; done)
 | d + 1, v, hv => by
  have key : ∀ l : List V, l.all (de d) = true → l.all (tf p d) = true := fun l hl =>
   List.all_eq_true.2 fun x hx => y6 p d x (List.all_eq_true.1 hl x hx)
  cases v with
  | agg cs => exact key cs hv
  | tup cs => exact key cs hv
  | fn f a c =>
   simp only [de, Bool.and_eq_true] at hv
   simp only [tf, Bool.and_eq_true]
   exact ⟨key a hv.1, key c hv.2⟩
  | _ => first | rfl | (simp [de] at hv; done)
theorem akq (h : Hp) (d : Nat) (v : V) (hv : de d v = true) : pw h d v = true := y6 _ d v hv
theorem uj {h : Hp} {f : Fn} {vc : List V} (hv : vc.all (de 3) = true) : pw h 4 (.fn f [] vc) = true :=
 akq h 4 _ (by simp only [de, List.all_nil, Bool.true_and]; exact hv)

theorem ak.intro {P : Program} {h : Hp} {g : FuncId} {a c args : List V} {K : V → Hp → Prop} {x : Tag K} {as' : List V} {r : V} {hout : Hp} (hs : Ctr P g as' [] r hout)
 (hle : LeL ((a ++ args ++ c).map (ren (fh h 3) 3)) as') (hro : (a ++ args ++ c).all (de 3) = true ∨ wb r ∧ my hout) (hrf : pw h 4 (.fn (.func g) a c) = true ∧ args.all (pw h 3) = true) (hk : K r hout) : ak P h (.fn (.func g) a c) args K x :=
 ⟨hrf, as', r, hout, hle, hs, hro, hk⟩

theorem ai.intro {P : Program} {t : List V} {h : Hp} {k : Nat} {dst : Option Tmp} {g : FuncId} {a c args : List V} {K : St → Prop} {x : Tag K} {as' : List V} {r : V} {hout : Hp} (hs : Ctr P g as' [] r hout)
 (hle : LeL ((a ++ args ++ c).map (ren (fh h 3) 3)) as') (hro : (a ++ args ++ c).all (de 3) = true ∨ wb r ∧ my hout) (hk : K (qp ⟨t, h, k⟩ dst r hout)) : ai P ⟨t, h, k⟩ dst (.fn (.func g) a c) args K x :=
 .inl ⟨as', r, hout, hle, hs, hro, hk⟩

theorem ai.dp {P : Program} {t : List V} {h : Hp} {k : Nat} {dst : Option Tmp} {g : FuncId} {a c args : List V} {K : St → Prop} {x : Tag K} (sel : List Nat) (fz : Bool) {as' : List V} {hin : Hp} {r : V} {hout : Hp} (hs : Ctr P g as' hin r hout) (hn : sel.Nodup)
 (hle : LeL ((a ++ args ++ c).map (ren (bb sel h fz) 3)) as') (hh : az sel h fz = hin) (hg : grown hin hout) (hro : fz = false ∨ wb r ∧ my hout) (hk : K (tj ⟨t, h, k⟩ dst sel r hout)) : ai P ⟨t, h, k⟩ dst (.fn (.func g) a c) args K x :=
 .inr (.inl ⟨sel, fz, as', r, hout, hn, hle, by rw [hh]; exact hs, by rw [hh]; exact hg, hro, hk⟩)

theorem ai.rel {P : Program} {t : List V} {h : Hp} {k : Nat} {dst : Option Tmp} {g : FuncId} {a c args : List V} {K : St → Prop} {x : Tag K} (sel : List Nat) {as' : List V} {hin : Hp} {Φ : V → Hp → Prop} (hs : lr P g as' hin Φ) (hn : sel.Nodup)
 (hle : LeL ((a ++ args ++ c).map (ren (bb sel h false) 3)) as') (hh : az sel h false = hin) (hall : hin.all Option.isSome = true) (hk : ∀ r hout, Φ r hout → grown hin hout ∧ K (tj ⟨t, h, k⟩ dst sel r hout)) : ai P ⟨t, h, k⟩ dst (.fn (.func g) a c) args K x :=
 .inr (.inr (.inr ⟨sel, as', Φ, hn, hle, by rw [hh]; exact hs, by rw [hh]; exact hall, by rw [hh]; exact hk⟩))

def LeG (f : V → V) : List V → List V → Prop
 | [], [] => True
 | a :: l, b :: l' => LeV (f a) b ∧ LeG f l l'
 | _, _ => False
theorem LeG.get {f : V → V} : ∀ {l l' : List V}, LeG f l l' → l.length = l'.length ∧ ∀ i (hi : i < l.length) (hi' : i < l'.length), LeV (f l[i]) l'[i]
 | [], [], _ => ⟨rfl, fun i hi => by simp at hi⟩
 | a :: l, b :: l', h => by
  obtain ⟨h1, h2⟩ := LeG.get h.2
  refine ⟨by simp [h1], fun i hi hi' => ?_⟩
  cases i with
  | zero => exact h.1
  | succ i => exact h2 i (by simpa using hi) (by simpa using hi')
 | [], _ :: _, h => h.elim
 | _ :: _, [], h => h.elim

theorem bo.pick {t t2 : List V} {h h2 : Hp} {k : Nat} (sel : List Nat) (hn : sel.Nodup) (hk : ∀ j, j < k → sel[j]? = some j) (ht : LeG (ren (bb sel h true) 3) t t2) (hh : az sel h true = h2) : bo ⟨t, h, k⟩ ⟨t2, h2, k⟩ := by
 subst hh
 intro w0 m0 h0 av0 a w m I
 have hk0 := I.k
 dsimp only at hk0
 obtain ⟨g1, g2, g3⟩ := agj (sel := sel) I.rh I.ids I.lt hn (by rw [← hk0]; exact hk)
 obtain ⟨hlen, hget⟩ := ht.get
 refine ⟨gn sel m, g1, by rw [I.size]; exact hlen, fun i hi => ?_, I.defers, I.ext, g2, I.lt, I.lent, I.gl, I.k, ?_⟩
 · have hi' : i < t.length := by rw [hlen]; exact hi
   exact (g3 3 _ _ (I.slots i hi')).le (hget i hi' hi)
 · rw [← hk0]
   simp only [az, List.length_map]
   rcases Nat.eq_zero_or_pos k with e | e
   · omega
   · have := (List.getElem?_eq_some_iff.1 (hk (k - 1) (by omega))).1
     omega

theorem aj.pick {k : Nat} {v r : V} {h hout : Hp} (sel : List Nat) (hn : sel.Nodup) (hk : ∀ j, j < k → sel[j]? = some j) (hv : LeV (ren (bb sel h true) 3 v) r) (hh : az sel h true = hout) : aj k v h r hout := by
 subst hh
 intro w0 m0 h0 av0 w m val e _ hlt hle H hx hi
 obtain ⟨g1, g2, g3⟩ := agj (sel := sel) H hi hlt hn (by rw [e]; exact hk)
 exact ⟨gn sel m, g1, (g3 3 _ _ hx).le hv, g2⟩

theorem dn.intro {W : (Exit → St → Prop) → St → Prop} {Q : Exit → St → Prop} {s : St} {x : Tag W} {y : Tag Q} {σ : Type} (I : σ → Prop) (emb : σ → St) (μ : σ → Nat) (x0 : σ) (h0 : I x0) (hW : bo s (emb x0))
 (hr : ∀ x, I x → W (r4 (fun s' => ∃ y, I y ∧ bo s' (emb y) ∧ μ y < μ x) Q) (emb x)) : dn W Q s x y := ⟨σ, I, emb, μ, x0, h0, hW, hr⟩

theorem aj.of_eq {k : Nat} {v r : V} {h : Hp} (e : v = r) : aj k v h r h := by subst e; exact aj.refl k v h
theorem aj.au {v r : V} {h : Hp} (e : v = r) (hn : de 3 v = true) : aj 0 v h r [] := by subst e; exact aj.drop hn
attribute [go_sem] Bool.not_true Bool.not_false if_true if_false true_and and_true Bool.false_eq_true and_self Nat.zero_add
attribute [go_sem] or_true true_or or_false false_or ch Bool.and_self Bool.true_and Bool.and_true
@[go_sem] theorem aw8 {cs : List V} : cellsOf (.agg cs) = if cs.all ch then some cs else none := rfl
@[go_sem] theorem axd {k : IntKind} {n : Int} : cellsOf (.int k n) = some [.int k n] := rfl
@[go_sem] theorem av3 {b : Bool} : cellsOf (.bool b) = some [.bool b] := rfl
@[go_sem] theorem aw5 {b : ByteArray} : cellsOf (.str b) = some [.str b] := rfl
@[go_sem] theorem azp {n w : Nat} {cs : List V} : cellsOf (.sl n w cs) = some [.sl n w cs] := rfl
@[go_sem] theorem axo {a b c d : Nat} : cellsOf (.osl a b c d) = some [.osl a b c d] := rfl
theorem akz {a : V} {l ns : List V} {n : Nat} : dq (a :: l) (n + 1) ns = a :: dq l n ns := by
 simp only [dq, List.take_succ_cons, List.cons_append, show n + 1 + ns.length = (n + ns.length) + 1 from by omega, List.drop_succ_cons]
theorem aci {l ns : List V} : dq l 0 ns = ns ++ l.drop ns.length := by simp [dq]
attribute [go_sem] akz aci
attribute [go_sem] xj kb dj k9 List.map_append
attribute [go_sem] ren fh shf shB shH de LeL qp xo abh
attribute [go_sem] tj iz qf ph grown bb bg az posOf ma Option.isSome_some Option.isSome_none
attribute [go_sem] ah6 y7 afr ve w5
theorem wb.int {k : IntKind} {n : Int} : wb (.int k n) := fun _ _ _ _ _ hx => by cases hx; exact .int _ _
theorem wb.bool {b : Bool} : wb (.bool b) := fun _ _ _ _ _ hx => by cases hx; exact .bool _
theorem wb.str {b : ByteArray} : wb (.str b) := fun _ _ _ _ _ hx => by cases hx; exact .str _
def vy : Nat → V → Bool
 | _, .undef => true
 | _, .skip => true
 | _, .bool _ => true
 | _, .int _ _ => true
 | _, .str _ => true
 | _, .nilsl => true
 | _, .osl _ _ _ _ => true
 | _, .ptr _ _ => true
 | _, .sl _ _ [] => true
 | d + 1, .agg cs => cs.all (vy d)
 | d + 1, .tup cs => cs.all (vy d)
 | _, _ => false
theorem ajg : ∀ (d : Nat) {x : V}, vy d x = true → wb x := by
 intro d
 induction d with
 | zero =>
  intro x hx w m h av v hv
  cases hv <;> first | (simp [vy] at hx; done) | skip
  case undef => exact .undef _
  case skip => exact .skip
  case bool b => exact .bool b
  case int k n => exact .int k n
  case str s => exact .str s
  case nilsl => exact .nilsl
  case slz a c wd => exact .slz a c wd
  case sl b off n cap wd cs vals hl ha hc hv hr =>
   cases cs with
   | nil => exact .sl b off n cap wd [] vals hl (fun h => absurd rfl h) hc hv (fun i hi => by simp at hi)
   | cons _ _ => simp [vy] at hx
  case osl id off n cap wd cs hid hl hc hs => exact .osl id off n cap wd cs hid hl hc hs
  case ptr id off cs hid => exact .ptr id off cs hid
 | succ d ih =>
  intro x hx w m h av v hv
  cases hv <;> first | (simp [vy] at hx; done) | skip
  case undef => exact .undef _
  case skip => exact .skip
  case bool b => exact .bool b
  case int k n => exact .int k n
  case str s => exact .str s
  case nilsl => exact .nilsl
  case slz a c wd => exact .slz a c wd
  case sl b off n cap wd cs vals hl ha hc hv hr =>
   cases cs with
   | nil => exact .sl b off n cap wd [] vals hl (fun h => absurd rfl h) hc hv (fun i hi => by simp at hi)
   | cons _ _ => simp [vy] at hx
  case osl id off n cap wd cs hid hl hc hs => exact .osl id off n cap wd cs hid hl hc hs
  case ptr id off cs hid => exact .ptr id off cs hid
  case agg a a' ha hra =>
   simp only [vy, List.all_eq_true] at hx
   exact .agg a a' ha (fun i hi => ih (hx _ (List.getElem_mem _)) _ _ _ _ _ (hra i hi))
  case tup a a' ha hra =>
   simp only [vy, List.all_eq_true] at hx
   exact .tup a a' ha (fun i hi => ih (hx _ (List.getElem_mem _)) _ _ _ _ _ (hra i hi))
def ahy (h : Hp) : Bool := h.all fun b => match b with
 | some cs => cs.all (vy 0)
 | none => true
theorem my.of {h : Hp} (hh : ahy h = true) : my h := by
 intro id cs hid x hx
 have := List.all_eq_true.1 hh _ (List.mem_of_getElem? hid)
 exact ajg 0 (List.all_eq_true.1 this x hx)
theorem my.nil : my [] := fun id cs h => by simp at h

end Go.Lv
end
