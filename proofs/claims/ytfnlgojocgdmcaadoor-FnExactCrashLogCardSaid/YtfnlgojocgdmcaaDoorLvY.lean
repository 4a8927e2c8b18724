/-
  Chains of appends in a region whose order is drawn: the closed check, the steps over states. Conditions: the region's own edges, by a closed check.
-/
import Derived.Test.YtfnlgojocgdmcaaDoorLvX
set_option linter.unusedSimpArgs false
set_option linter.unusedVariables false
namespace Go.Lv

/-- An operation of a chain: what comes before it, its slot, its type, what has been taken in. -/
structure CE where
  pv : Option Nat
  d : Tmp
  ty : TypeId
  ys : List Tmp

/-- Where a chain ends. -/
structure Tip where
  i : Nat
  d : Tmp
  ty : TypeId
  ys : List Tmp

def ceAt (tab : List (Option CE)) (i : Nat) : Option CE := (tab[i]?).bind id

def selB : List Bool → List Oper → List Oper
  | true :: f, o :: l => o :: selB f l
  | false :: f, _ :: l => selB f l
  | _, _ => []

def undT : List (Option CE) → List V → List V
  | [], t => t
  | none :: l, t => undT l t
  | some e :: l, t => undT l (t.set e.d .undef)

/-- Quiet operations, one after another. -/
def gA (P : Program) (ops : Array Oper) : List Oper → St → (St → Prop) → Prop
  | [], s, K => K s
  | o :: rest, s, K => gdA ops s.t o.guard (gop P s.h (ev s.t) o.op fun v n => gA P ops rest (({ s with h := s.h ++ n } : St).put o.dst v) K) (gA P ops rest (s.put o.dst .skip) K)

def srcsV (h : Hp) (sz : Nat) : List V → Nat → List V → (Nat → List V → Prop) → Prop
  | [], n, cs, K => K n cs
  | y :: l, n, cs, K => srcV h sz none y fun k ys => srcsV h sz l (n + k) (cs ++ ys) K

/-- The chains' ends become slices of our own. -/
def closeA (P : Program) (t : List V) (h : Hp) : List Tip → St → (St → Prop) → Prop
  | [], s, K => K s
  | c :: l, s, K => match elOf P c.ty with
    | some (e, sz, by_) => match zeroOf P e with
      | some zs => zs.length = sz ∧ srcsV h sz (c.ys.map fun y => t.getD y .undef) 0 [] fun n cs => (n * by_ ≤ 140737488355328 ∧ n ≤ 4611686018427387904 ∧ cs.all (noOwn 2) = true) ∧
          closeA P t h l { s with t := s.t.set c.d (.osl s.h.length 0 n sz), h := s.h ++ [some cs] } K
      | none => False
    | none => False

def drawZ (ops : Array Oper) (zl : List Bool) : Bool :=
  let b := Region.before ops
  (List.range ops.size).all fun i => match ops[i]? with
    | none => false
    | some o =>
      ((List.range ops.size).all fun j => !(inB b i j) || o.after.toList.any fun e => Region.binds .any e && (e.on == j || inB b e.on j)) &&
      (o.after.toList.all fun e => !(Region.binds .any e) || decide (e.on < i)) &&
      (match o.op with | .select _ _ => false | _ => true) &&
      (match zl.getD i false with
        | true => (o.after.toList.all fun e => !(Region.binds .any e) || zl.getD e.on false) &&
          (List.range ops.size).all fun j => !(zl.getD j false) || j == i || !(clash ops j i) || (if j < i then inB b i j else inB b j i)
        | false => (List.range ops.size).all fun j => match zl.getD j false with
          | true => inB b i j || tkB ops b j
          | false => !(decide (j < i)) || inB b i j)

theorem drawZ_some {ops : Array Oper} {zl : List Bool} (hd : drawZ ops zl = true) : DrawOk ops (fun i => zl.getD i false) (fun i j => j < ops.size ∧ inB (Region.before ops) i j = true) (tkB ops (Region.before ops)) := by
  have h : ∀ i, i < ops.size → ∃ o, ops[i]? = some o ∧
      ((List.range ops.size).all fun j => !(inB (Region.before ops) i j) || o.after.toList.any fun e => Region.binds .any e && (e.on == j || inB (Region.before ops) e.on j)) = true ∧
      (o.after.toList.all fun e => !(Region.binds .any e) || decide (e.on < i)) = true ∧ (match o.op with | .select _ _ => false | _ => true) = true ∧
      (match zl.getD i false with
        | true => (o.after.toList.all fun e => !(Region.binds .any e) || zl.getD e.on false) &&
          (List.range ops.size).all fun j => !(zl.getD j false) || j == i || !(clash ops j i) || (if j < i then inB (Region.before ops) i j else inB (Region.before ops) j i)
        | false => (List.range ops.size).all fun j => match zl.getD j false with
          | true => inB (Region.before ops) i j || tkB ops (Region.before ops) j
          | false => !(decide (j < i)) || inB (Region.before ops) i j) = true := by
    intro i hi
    have := List.all_eq_true.1 hd i (List.mem_range.2 hi)
    split at this
    · cases this
    · rename_i o ho
      simp only [Bool.and_eq_true] at this
      exact ⟨o, ho, this.1.1.1, this.1.1.2, this.1.2, this.2⟩
  have lt_of : ∀ {i : Nat} {o : Oper}, ops[i]? = some o → i < ops.size := fun h => (Array.getElem?_eq_some_iff.1 h).1
  refine ⟨fun i o j ho hB => ?_, fun i o ho e he hb => ?_, fun i j hi hj zi zj hne hc => ?_, fun i o ho zi e he hb => ?_, fun i j hi hj zi zj => ?_, fun i j hi zi hj zj => ?_, fun k o ho ht => ?_, fun i o cs b ho => ?_⟩
  · obtain ⟨o', ho', h1, _⟩ := h i (lt_of ho)
    rw [ho] at ho'; simp at ho'; subst ho'
    have := List.all_eq_true.1 h1 j (List.mem_range.2 hB.1)
    simp only [hB.2, Bool.not_true, Bool.false_or, List.any_eq_true, Bool.and_eq_true, Bool.or_eq_true, beq_iff_eq] at this
    obtain ⟨e, he, hb, hc⟩ := this
    exact ⟨e, by simpa using he, hb, hc.imp (fun h => h) (fun h => ⟨hB.1, h⟩)⟩
  · obtain ⟨o', ho', _, h2, _⟩ := h i (lt_of ho)
    rw [ho] at ho'; simp at ho'; subst ho'
    have := List.all_eq_true.1 h2 e (by simpa using he)
    simpa [hb] using this
  · obtain ⟨o', ho', _, _, _, h3⟩ := h i hi
    skip
    rw [zi] at h3
    simp only [Bool.and_eq_true] at h3
    have := List.all_eq_true.1 h3.2 j (List.mem_range.2 hj)
    have hne' : (j == i) = false := by simpa using hne
    rw [hne', hc, zj] at this
    simp only [Bool.not_true, Bool.false_or] at this
    refine ⟨fun hlt => ⟨by omega, by rw [if_pos hlt] at this; exact this⟩, fun hlt => ⟨by omega, by rw [if_neg (by omega)] at this; exact this⟩⟩
  · obtain ⟨o', ho', _, _, _, h3⟩ := h i (lt_of ho)
    rw [ho] at ho'; simp at ho'; subst ho'
    skip
    rw [zi] at h3
    simp only [Bool.and_eq_true] at h3
    have := List.all_eq_true.1 h3.1 e (by simpa using he)
    simpa [hb] using this
  · obtain ⟨o', ho', _, _, _, h3⟩ := h i hi
    skip
    rw [zi] at h3
    have := List.all_eq_true.1 h3 j (List.mem_range.2 hj)
    rw [zj] at this
    simp only [Bool.or_eq_true] at this
    exact this.imp (fun h => ⟨hj, h⟩) (fun h => .inl h)
  · obtain ⟨o', ho', _, _, _, h3⟩ := h i hi
    skip
    rw [zi] at h3
    have := List.all_eq_true.1 h3 j (List.mem_range.2 (by omega))
    rw [zj] at this
    simp only [decide_eq_true hj, Bool.not_true, Bool.false_or] at this
    exact ⟨by omega, this⟩
  · unfold tkB at ht
    rw [ho] at ht
    simp only [Bool.and_eq_true] at ht
    refine ⟨ht.1, fun j o' ho' hne hB hall => ?_⟩
    have := List.all_eq_true.1 ht.2 j (List.mem_range.2 (lt_of ho'))
    rw [ho'] at this
    simp only [Bool.or_eq_true, beq_iff_eq, List.any_eq_true, Bool.and_eq_true] at this
    rcases this with ((h1 | h1) | ⟨e, he, hb, h1⟩) | h1
    · exact absurd h1 hne
    · exact absurd ⟨lt_of ho', h1⟩ hB
    · exact absurd h1 (hall e (by simpa using he) hb)
    · exact h1
  · obtain ⟨o', ho', _, _, h5, _⟩ := h i (lt_of ho)
    rw [ho] at ho'; simp at ho'; subst ho'
    intro e
    rw [e] at h5
    cases h5

/-- What an operation of a chain is. -/
def ceOk (ops : Array Oper) (b : Array Nat) (tab : List (Option CE)) (ql zl : List Bool) (i : Nat) (e : CE) (o : Oper) : Bool :=
  o.dst == some e.d && o.guard.isNone && zl.getD i false && !(ql.getD i false) &&
  (match e.pv, o.op with
    | none, .buildSlice t 0 ⟨[]⟩ => t == e.ty && e.ys.isEmpty
    | some j, .call { callee := .builtin .append, args := ⟨[.tmp x, .tmp y]⟩, argTypes := ⟨[t, u]⟩ } => match ceAt tab j with
      | some ej => x == ej.d && t == e.ty && u == e.ty && ej.ty == e.ty && decide (e.ys = ej.ys ++ [y]) && inB b i j && decide (j < ops.size) &&
          (List.range ops.size).all fun k => !(zl.getD k false) || !(dstOf ops k == some y) || (decide (k < i) && ql.getD k false)
      | none => false
    | _, _ => false) &&
  (List.range ops.size).all fun k => !(zl.getD k false) || match ops[k]? with
    | none => true
    | some o' => (k == i || o'.dst != some e.d) && (!((o'.looksAt ops).contains e.d) || match ceAt tab k with | some e' => e'.pv == some i | none => false)

/-- The closed check of a region with chains. -/
def chainOk (ops : Array Oper) (ql zl : List Bool) (tab : List (Option CE)) (tips : List Tip) : Bool :=
  let b := Region.before ops
  drawZ ops zl && decide (ql.length = ops.size) && decide (zl.length = ops.size) &&
  ((List.range ops.size).all fun i => match ceAt tab i with
    | none => ql.getD i false == zl.getD i false
    | some e => match ops[i]? with
      | none => false
      | some o => ceOk ops b tab ql zl i e o &&
        ((List.range ops.size).all fun k => (List.range ops.size).all fun l => match ceAt tab k, ceAt tab l with
          | some ek, some el => !(ek.pv == some i) || !(el.pv == some i) || k == l
          | _, _ => true) &&
        tips.any fun c => c.ty == e.ty && e.ys.isPrefixOf c.ys) &&
  decide (tab.length ≤ ops.size) &&
  (tips.all fun c => match ceAt tab c.i with
    | some e => decide (e.d = c.d) && decide (e.ty = c.ty) && decide (e.ys = c.ys) && (List.range ops.size).all fun k => match ceAt tab k with
      | some ek => !(ek.pv == some c.i)
      | none => true
    | none => false) &&
  decide ((tips.map (·.i)).Nodup)

structure CF (ops : Array Oper) (z q : Nat → Bool) (B : Nat → Nat → Prop) (tab : List (Option CE)) (tips : List Tip) : Prop where
  of : ∀ i, i < ops.size → ceAt tab i = none → q i = z i
  ent : ∀ i e, ceAt tab i = some e → i < ops.size ∧ z i = true ∧ q i = false ∧ ∃ o, ops[i]? = some o ∧ o.dst = some e.d ∧ o.guard = none ∧
      ((e.pv = none ∧ e.ys = [] ∧ o.op = .buildSlice e.ty 0 #[]) ∨
       (∃ j y ej, e.pv = some j ∧ ceAt tab j = some ej ∧ ej.ty = e.ty ∧ e.ys = ej.ys ++ [y] ∧ B i j ∧ o.op = .call { callee := .builtin .append, args := #[.tmp ej.d, .tmp y], argTypes := #[e.ty, e.ty] } ∧
         ∀ k, k < ops.size → z k = true → dstOf ops k = some y → k < i ∧ q k = true))
  sl : ∀ i e, ceAt tab i = some e → ∀ k o, ops[k]? = some o → z k = true → (k ≠ i → o.dst ≠ some e.d) ∧ (e.d ∈ o.looksAt ops → ∃ e', ceAt tab k = some e' ∧ e'.pv = some i)
  nx : ∀ i k l ek el, ceAt tab k = some ek → ek.pv = some i → ceAt tab l = some el → el.pv = some i → k = l
  tip : ∀ i e, ceAt tab i = some e → ∃ c ∈ tips, c.ty = e.ty ∧ ∃ r, c.ys = e.ys ++ r
  tp : ∀ c ∈ tips, ∃ e, ceAt tab c.i = some e ∧ e.d = c.d ∧ e.ty = c.ty ∧ e.ys = c.ys ∧ ∀ k ek, ceAt tab k = some ek → ek.pv ≠ some c.i
  nd : (tips.map (·.i)).Nodup

theorem chainOk_some {ops : Array Oper} {ql zl : List Bool} {tab : List (Option CE)} {tips : List Tip} (h : chainOk ops ql zl tab tips = true) :
    DrawOk ops (fun i => zl.getD i false) (fun i j => j < ops.size ∧ inB (Region.before ops) i j = true) (tkB ops (Region.before ops)) ∧ ql.length = ops.size ∧ zl.length = ops.size ∧
    CF ops (fun i => zl.getD i false) (fun i => ql.getD i false) (fun i j => j < ops.size ∧ inB (Region.before ops) i j = true) tab tips := by
  unfold chainOk at h
  simp only [Bool.and_eq_true, decide_eq_true_eq] at h
  obtain ⟨⟨⟨⟨⟨⟨h1, h2⟩, h3⟩, h4⟩, h5⟩, h6⟩, h7⟩ := h
  have hlt : ∀ i e, ceAt tab i = some e → i < ops.size := fun i e he => by
    unfold ceAt at he
    rcases Nat.lt_or_ge i tab.length with g | g
    · omega
    · rw [List.getElem?_eq_none g] at he; cases he
  have hce : ∀ i e, ceAt tab i = some e → ∃ o, ops[i]? = some o ∧ ceOk ops (Region.before ops) tab ql zl i e o = true ∧
      ((List.range ops.size).all fun k => (List.range ops.size).all fun l => match ceAt tab k, ceAt tab l with
          | some ek, some el => !(ek.pv == some i) || !(el.pv == some i) || k == l
          | _, _ => true) = true ∧ (tips.any fun c => c.ty == e.ty && e.ys.isPrefixOf c.ys) = true := fun i e he => by
    have := List.all_eq_true.1 h4 i (List.mem_range.2 (hlt i e he))
    rw [he] at this
    dsimp only at this
    split at this
    · cases this
    · rename_i o ho
      simp only [Bool.and_eq_true] at this
      exact ⟨o, ho, this.1.1, this.1.2, this.2⟩
  refine ⟨drawZ_some h1, h2, h3, fun i hi hn => ?_, fun i e he => ?_, fun i e he k o' ho' hz => ?_, fun i k l ek el hk hk2 hl hl2 => ?_, fun i e he => ?_, fun c hc => ?_, h7⟩
  · have := List.all_eq_true.1 h4 i (List.mem_range.2 hi)
    rw [hn] at this
    simpa using this
  · obtain ⟨o, ho, h8, _, _⟩ := hce i e he
    unfold ceOk at h8
    simp only [Bool.and_eq_true, Bool.not_eq_true'] at h8
    obtain ⟨⟨⟨⟨⟨g1, g2⟩, g3⟩, g4⟩, g5⟩, _⟩ := h8
    refine ⟨hlt i e he, g3, g4, o, ho, by simpa using g1, by simpa using g2, ?_⟩
    split at g5
    · rename_i t hpv hop
      simp only [Bool.and_eq_true, beq_iff_eq, List.isEmpty_iff] at g5
      exact .inl ⟨hpv, g5.2, by rw [hop, g5.1]⟩
    · rename_i j x y t u hpv hop
      split at g5
      · rename_i ej hej
        simp only [Bool.and_eq_true, beq_iff_eq, decide_eq_true_eq] at g5
        obtain ⟨⟨⟨⟨⟨⟨⟨k1, k2⟩, k3⟩, k4⟩, k5⟩, k6⟩, k7⟩, k8⟩ := g5
        refine .inr ⟨j, y, ej, hpv, hej, k4, k5, ⟨k7, k6⟩, by rw [hop, k1, k2, k3], fun k hk hz hd => ?_⟩
        have := List.all_eq_true.1 k8 k (List.mem_range.2 hk)
        skip
        rw [hz, hd] at this
        simpa using this
      · cases g5
    · cases g5
  · obtain ⟨o, ho, h8, _, _⟩ := hce i e he
    unfold ceOk at h8
    simp only [Bool.and_eq_true] at h8
    have := List.all_eq_true.1 h8.2 k (List.mem_range.2 (Array.getElem?_eq_some_iff.1 ho').1)
    skip
    rw [hz, ho'] at this
    simp only [Bool.not_true, Bool.false_or, Bool.and_eq_true, Bool.or_eq_true, beq_iff_eq, bne_iff_ne] at this
    refine ⟨fun hne => this.1.resolve_left hne, fun hm => ?_⟩
    have h9 := this.2.resolve_left (by simp [hm])
    split at h9
    · rename_i e' he'
      exact ⟨e', he', by simpa using h9⟩
    · cases h9
  · have hi : ∃ e, ceAt tab i = some e := by
      obtain ⟨o, ho, h8, _, _⟩ := hce k ek hk
      unfold ceOk at h8
      simp only [Bool.and_eq_true] at h8
      have g5 := h8.1.2
      rw [hk2] at g5
      split at g5
      · rename_i hh _; cases hh
      · rename_i j x y t u hpv hop
        simp at hpv; subst hpv
        split at g5
        · rename_i ej hej; exact ⟨ej, hej⟩
        · cases g5
      · cases g5
    obtain ⟨e, he⟩ := hi
    obtain ⟨o, ho, _, h8, _⟩ := hce i e he
    have := List.all_eq_true.1 (List.all_eq_true.1 h8 k (List.mem_range.2 (hlt k ek hk))) l (List.mem_range.2 (hlt l el hl))
    rw [hk, hl] at this
    simpa [hk2, hl2] using this
  · obtain ⟨o, ho, _, _, h8⟩ := hce i e he
    obtain ⟨c, hc, h9⟩ := List.any_eq_true.1 h8
    simp only [Bool.and_eq_true, beq_iff_eq] at h9
    obtain ⟨r, hr⟩ := List.isPrefixOf_iff_prefix.1 h9.2
    exact ⟨c, hc, h9.1, r, hr.symm⟩
  · have := List.all_eq_true.1 h6 c hc
    skip
    split at this
    · rename_i e he
      simp only [Bool.and_eq_true, decide_eq_true_eq] at this
      refine ⟨e, he, this.1.1.1, this.1.1.2, this.1.2, fun k ek hk heq => ?_⟩
      have h9 := List.all_eq_true.1 this.2 k (List.mem_range.2 (hlt k ek hk))
      rw [hk] at h9
      simp [heq] at h9
    · cases this
end Go.Lv
