/-
  A part of the proof: texts put together by a program of the prover. Conditions: none.
-/
import Derived.Test.YtfpkiomipjmabaaGreatDoorZC5
set_option linter.unusedSimpArgs false
set_option linter.unusedVariables false
section
namespace Go.Lv

structure CE where
 pv : Option Nat
 d : Tmp
 ty : TypeId
 ys : List Tmp

structure Tip where
 i : Nat
 d : Tmp
 ty : TypeId
 ys : List Tmp

def fe (tab : List (Option CE)) (i : Nat) : Option CE := (tab[i]?).bind id

def nn : List Bool → List Oper → List Oper
 | true :: f, o :: l => o :: nn f l
 | false :: f, _ :: l => nn f l
 | _, _ => []

def oe : List (Option CE) → List V → List V
 | [], t => t
 | none :: l, t => oe l t
 | some e :: l, t => oe l (t.set e.d .undef)

def gA (P : Program) (ops : Array Oper) : List Oper → St → (St → Prop) → Prop
 | [], s, K => K s
 | o :: rest, s, K => gdA ops s.t o.guard (gop P s.h (ev s.t) o.op fun v n => gA P ops rest (({ s with h := s.h ++ n } : St).put o.dst v) K) (gA P ops rest (s.put o.dst .skip) K)

def vb (h : Hp) (sz : Nat) : List V → Nat → List V → (Nat → List V → Prop) → Prop
 | [], n, cs, K => K n cs
 | y :: l, n, cs, K => ma h sz none y fun k ys => vb h sz l (n + k) (cs ++ ys) K

def p7 (P : Program) (t : List V) (h : Hp) : List Tip → St → (St → Prop) → Prop
 | [], s, K => K s
 | c :: l, s, K => match ij P c.ty with
   | some (e, sz, by_) => match zeroOf P e with
     | some zs => zs.length = sz ∧ vb h sz (c.ys.map fun y => t.getD y .undef) 0 [] fun n cs => (n * by_ ≤ 140737488355328 ∧ n ≤ 4611686018427387904 ∧ cs.all (cc 2) = true) ∧
         p7 P t h l { s with t := s.t.set c.d (.osl s.h.length 0 n sz), h := s.h ++ [some cs] } K
     | none => False
   | none => False

def aui (ops : Array Oper) (zl : List Bool) : Bool :=
 let b := Region.before ops
 (List.range ops.size).all fun i => match ops[i]? with
   | none => false
   | some o =>
     ((List.range ops.size).all fun j => !(inB b i j) || o.after.toList.any fun e => Region.binds .any e && (e.on == j || inB b e.on j)) &&
     (o.after.toList.all fun e => !(Region.binds .any e) || decide (e.on < i)) &&
     (match o.op with | .select _ _ => false | _ => true) &&
     (match zl.getD i false with
       | true => (o.after.toList.all fun e => !(Region.binds .any e) || zl.getD e.on false) &&
         (List.range ops.size).all fun j => !(zl.getD j false) || j == i || !(kn ops j i) || (if j < i then inB b i j else inB b j i)
       | false => (List.range ops.size).all fun j => match zl.getD j false with
         | true => inB b i j || tkB ops b j
         | false => !(decide (j < i)) || inB b i j)

theorem aj9 {ops : Array Oper} {zl : List Bool} (hd : aui ops zl = true) : l4 ops (fun i => zl.getD i false) (fun i j => j < ops.size ∧ inB (Region.before ops) i j = true) (tkB ops (Region.before ops)) := by
 have h : ∀ i, i < ops.size → ∃ o, ops[i]? = some o ∧
     ((List.range ops.size).all fun j => !(inB (Region.before ops) i j) || o.after.toList.any fun e => Region.binds .any e && (e.on == j || inB (Region.before ops) e.on j)) = true ∧
     (o.after.toList.all fun e => !(Region.binds .any e) || decide (e.on < i)) = true ∧ (match o.op with | .select _ _ => false | _ => true) = true ∧
     (match zl.getD i false with
       | true => (o.after.toList.all fun e => !(Region.binds .any e) || zl.getD e.on false) &&
         (List.range ops.size).all fun j => !(zl.getD j false) || j == i || !(kn ops j i) || (if j < i then inB (Region.before ops) i j else inB (Region.before ops) j i)
       | false => (List.range ops.size).all fun j => match zl.getD j false with
         | true => inB (Region.before ops) i j || tkB ops (Region.before ops) j
         | false => !(decide (j < i)) || inB (Region.before ops) i j) = true := by
   intro i hi
   have := List.all_eq_true.1 hd i (List.mem_range.2 hi)
   split at this
   · cases this
   · rename_i o ho
     simp only [Bool.and_eq_true] at this
     exact ⟨o, ho, this.1.1.1, this.1.1.2, this.1.2, this.2⟩
 have lt_of : ∀ {i : Nat} {o : Oper}, ops[i]? = some o → i < ops.size := fun h => (Array.getElem?_eq_some_iff.1 h).1
 refine ⟨fun i o j ho hB => ?_, fun i o ho e he hb => ?_, fun i j hi hj zi zj hne hc => ?_, fun i o ho zi e he hb => ?_, fun i j hi hj zi zj => ?_, fun i j hi zi hj zj => ?_, fun k o ho ht => ?_, fun i o cs b ho => ?_⟩
 · obtain ⟨o', ho', h1, _⟩ := h i (lt_of ho)
   rw [ho] at ho'; simp at ho'; subst ho'
   have := List.all_eq_true.1 h1 j (List.mem_range.2 hB.1)
   simp only [hB.2, Bool.not_true, Bool.false_or, List.any_eq_true, Bool.and_eq_true, Bool.or_eq_true, beq_iff_eq] at this
   obtain ⟨e, he, hb, hc⟩ := this
   exact ⟨e, by simpa using he, hb, hc.imp (fun h => h) (fun h => ⟨hB.1, h⟩)⟩
 · obtain ⟨o', ho', _, h2, _⟩ := h i (lt_of ho)
   rw [ho] at ho'; simp at ho'; subst ho'
   have := List.all_eq_true.1 h2 e (by simpa using he)
   simpa [hb] using this
 · obtain ⟨o', ho', _, _, _, h3⟩ := h i hi
   skip
   rw [zi] at h3
   simp only [Bool.and_eq_true] at h3
   have := List.all_eq_true.1 h3.2 j (List.mem_range.2 hj)
   have hne' : (j == i) = false := by simpa using hne
   rw [hne', hc, zj] at this
   simp only [Bool.not_true, Bool.false_or] at this
   refine ⟨fun hlt => ⟨by omega, by rw [if_pos hlt] at this; exact this⟩, fun hlt => ⟨by omega, by rw [if_neg (by omega)] at this; exact this⟩⟩
 · obtain ⟨o', ho', _, _, _, h3⟩ := h i (lt_of ho)
   rw [ho] at ho'; simp at ho'; subst ho'
   skip
   rw [zi] at h3
   simp only [Bool.and_eq_true] at h3
   have := List.all_eq_true.1 h3.1 e (by simpa using he)
   simpa [hb] using this
 · obtain ⟨o', ho', _, _, _, h3⟩ := h i hi
   skip
   rw [zi] at h3
   have := List.all_eq_true.1 h3 j (List.mem_range.2 hj)
   rw [zj] at this
   simp only [Bool.or_eq_true] at this
   exact this.imp (fun h => ⟨hj, h⟩) (fun h => .inl h)
 · obtain ⟨o', ho', _, _, _, h3⟩ := h i hi
   skip
   rw [zi] at h3
   have := List.all_eq_true.1 h3 j (List.mem_range.2 (by omega))
   rw [zj] at this
   simp only [decide_eq_true hj, Bool.not_true, Bool.false_or] at this
   exact ⟨by omega, this⟩
 · unfold tkB at ht
   rw [ho] at ht
   simp only [Bool.and_eq_true] at ht
   refine ⟨ht.1, fun j o' ho' hne hB hall => ?_⟩
   have := List.all_eq_true.1 ht.2 j (List.mem_range.2 (lt_of ho'))
   rw [ho'] at this
   simp only [Bool.or_eq_true, beq_iff_eq, List.any_eq_true, Bool.and_eq_true] at this
   rcases this with ((h1 | h1) | ⟨e, he, hb, h1⟩) | h1
   · exact absurd h1 hne
   · exact absurd ⟨lt_of ho', h1⟩ hB
   · exact absurd h1 (hall e (by simpa using he) hb)
   · exact h1
 · obtain ⟨o', ho', _, _, h5, _⟩ := h i (lt_of ho)
   rw [ho] at ho'; simp at ho'; subst ho'
   intro e
   rw [e] at h5
   cases h5

def ap3 (ops : Array Oper) (b : Array Nat) (tab : List (Option CE)) (ql zl : List Bool) (i : Nat) (e : CE) (o : Oper) : Bool :=
 o.dst == some e.d && o.guard.isNone && zl.getD i false && !(ql.getD i false) &&
 (match e.pv, o.op with
   | none, .buildSlice t 0 ⟨[]⟩ => t == e.ty && e.ys.isEmpty
   | some j, .call { callee := .builtin .append, args := ⟨[.tmp x, .tmp y]⟩, argTypes := ⟨[t, u]⟩ } => match fe tab j with
     | some ej => x == ej.d && t == e.ty && u == e.ty && ej.ty == e.ty && decide (e.ys = ej.ys ++ [y]) && inB b i j && decide (j < ops.size) &&
         (List.range ops.size).all fun k => !(zl.getD k false) || !(dw ops k == some y) || (decide (k < i) && ql.getD k false)
     | none => false
   | _, _ => false) &&
 (List.range ops.size).all fun k => !(zl.getD k false) || match ops[k]? with
   | none => true
   | some o' => (k == i || o'.dst != some e.d) && (!((o'.looksAt ops).contains e.d) || match fe tab k with | some e' => e'.pv == some i | none => false)

def ab0 (ops : Array Oper) (ql zl : List Bool) (tab : List (Option CE)) (tips : List Tip) : Bool :=
 let b := Region.before ops
 aui ops zl && decide (ql.length = ops.size) && decide (zl.length = ops.size) &&
 ((List.range ops.size).all fun i => match fe tab i with
   | none => ql.getD i false == zl.getD i false
   | some e => match ops[i]? with
     | none => false
     | some o => ap3 ops b tab ql zl i e o &&
       ((List.range ops.size).all fun k => (List.range ops.size).all fun l => match fe tab k, fe tab l with
         | some ek, some el => !(ek.pv == some i) || !(el.pv == some i) || k == l
         | _, _ => true) &&
       tips.any fun c => c.ty == e.ty && e.ys.isPrefixOf c.ys) &&
 decide (tab.length ≤ ops.size) &&
 (tips.all fun c => match fe tab c.i with
   | some e => decide (e.d = c.d) && decide (e.ty = c.ty) && decide (e.ys = c.ys) && (List.range ops.size).all fun k => match fe tab k with
     | some ek => !(ek.pv == some c.i)
     | none => true
   | none => false) &&
 decide ((tips.map (·.i)).Nodup)

structure CF (ops : Array Oper) (z q : Nat → Bool) (B : Nat → Nat → Prop) (tab : List (Option CE)) (tips : List Tip) : Prop where
 of : ∀ i, i < ops.size → fe tab i = none → q i = z i
 ent : ∀ i e, fe tab i = some e → i < ops.size ∧ z i = true ∧ q i = false ∧ ∃ o, ops[i]? = some o ∧ o.dst = some e.d ∧ o.guard = none ∧
     ((e.pv = none ∧ e.ys = [] ∧ o.op = .buildSlice e.ty 0 #[]) ∨
      (∃ j y ej, e.pv = some j ∧ fe tab j = some ej ∧ ej.ty = e.ty ∧ e.ys = ej.ys ++ [y] ∧ B i j ∧ o.op = .call { callee := .builtin .append, args := #[.tmp ej.d, .tmp y], argTypes := #[e.ty, e.ty] } ∧
        ∀ k, k < ops.size → z k = true → dw ops k = some y → k < i ∧ q k = true))
 sl : ∀ i e, fe tab i = some e → ∀ k o, ops[k]? = some o → z k = true → (k ≠ i → o.dst ≠ some e.d) ∧ (e.d ∈ o.looksAt ops → ∃ e', fe tab k = some e' ∧ e'.pv = some i)
 nx : ∀ i k l ek el, fe tab k = some ek → ek.pv = some i → fe tab l = some el → el.pv = some i → k = l
 tip : ∀ i e, fe tab i = some e → ∃ c ∈ tips, c.ty = e.ty ∧ ∃ r, c.ys = e.ys ++ r
 tp : ∀ c ∈ tips, ∃ e, fe tab c.i = some e ∧ e.d = c.d ∧ e.ty = c.ty ∧ e.ys = c.ys ∧ ∀ k ek, fe tab k = some ek → ek.pv ≠ some c.i
 nd : (tips.map (·.i)).Nodup

theorem ahd {ops : Array Oper} {ql zl : List Bool} {tab : List (Option CE)} {tips : List Tip} (h : ab0 ops ql zl tab tips = true) :
   l4 ops (fun i => zl.getD i false) (fun i j => j < ops.size ∧ inB (Region.before ops) i j = true) (tkB ops (Region.before ops)) ∧ ql.length = ops.size ∧ zl.length = ops.size ∧
   CF ops (fun i => zl.getD i false) (fun i => ql.getD i false) (fun i j => j < ops.size ∧ inB (Region.before ops) i j = true) tab tips := by
 unfold ab0 at h
 simp only [Bool.and_eq_true, decide_eq_true_eq] at h
 obtain ⟨⟨⟨⟨⟨⟨h1, h2⟩, h3⟩, h4⟩, h5⟩, h6⟩, h7⟩ := h
 have hlt : ∀ i e, fe tab i = some e → i < ops.size := fun i e he => by
   unfold fe at he
   rcases Nat.lt_or_ge i tab.length with g | g
   · omega
   · rw [List.getElem?_eq_none g] at he; cases he
 have hce : ∀ i e, fe tab i = some e → ∃ o, ops[i]? = some o ∧ ap3 ops (Region.before ops) tab ql zl i e o = true ∧
     ((List.range ops.size).all fun k => (List.range ops.size).all fun l => match fe tab k, fe tab l with
         | some ek, some el => !(ek.pv == some i) || !(el.pv == some i) || k == l
         | _, _ => true) = true ∧ (tips.any fun c => c.ty == e.ty && e.ys.isPrefixOf c.ys) = true := fun i e he => by
   have := List.all_eq_true.1 h4 i (List.mem_range.2 (hlt i e he))
   rw [he] at this
   dsimp only at this
   split at this
   · cases this
   · rename_i o ho
     simp only [Bool.and_eq_true] at this
     exact ⟨o, ho, this.1.1, this.1.2, this.2⟩
 refine ⟨aj9 h1, h2, h3, fun i hi hn => ?_, fun i e he => ?_, fun i e he k o' ho' hz => ?_, fun i k l ek el hk hk2 hl hl2 => ?_, fun i e he => ?_, fun c hc => ?_, h7⟩
 · have := List.all_eq_true.1 h4 i (List.mem_range.2 hi)
   rw [hn] at this
   simpa using this
 · obtain ⟨o, ho, h8, _, _⟩ := hce i e he
   unfold ap3 at h8
   simp only [Bool.and_eq_true, Bool.not_eq_true'] at h8
   obtain ⟨⟨⟨⟨⟨g1, g2⟩, g3⟩, g4⟩, g5⟩, _⟩ := h8
   refine ⟨hlt i e he, g3, g4, o, ho, by simpa using g1, by simpa using g2, ?_⟩
   split at g5
   · rename_i t hpv hop
     simp only [Bool.and_eq_true, beq_iff_eq, List.isEmpty_iff] at g5
     exact .inl ⟨hpv, g5.2, by rw [hop, g5.1]⟩
   · rename_i j x y t u hpv hop
     split at g5
     · rename_i ej hej
       simp only [Bool.and_eq_true, beq_iff_eq, decide_eq_true_eq] at g5
       obtain ⟨⟨⟨⟨⟨⟨⟨k1, k2⟩, k3⟩, k4⟩, k5⟩, k6⟩, k7⟩, k8⟩ := g5
       refine .inr ⟨j, y, ej, hpv, hej, k4, k5, ⟨k7, k6⟩, by rw [hop, k1, k2, k3], fun k hk hz hd => ?_⟩
       have := List.all_eq_true.1 k8 k (List.mem_range.2 hk)
       skip
       rw [hz, hd] at this
       simpa using this
     · cases g5
   · cases g5
 · obtain ⟨o, ho, h8, _, _⟩ := hce i e he
   unfold ap3 at h8
   simp only [Bool.and_eq_true] at h8
   have := List.all_eq_true.1 h8.2 k (List.mem_range.2 (Array.getElem?_eq_some_iff.1 ho').1)
   skip
   rw [hz, ho'] at this
   simp only [Bool.not_true, Bool.false_or, Bool.and_eq_true, Bool.or_eq_true, beq_iff_eq, bne_iff_ne] at this
   refine ⟨fun hne => this.1.resolve_left hne, fun hm => ?_⟩
   have h9 := this.2.resolve_left (by simp [hm])
   split at h9
   · rename_i e' he'
     exact ⟨e', he', by simpa using h9⟩
   · cases h9
 · have hi : ∃ e, fe tab i = some e := by
     obtain ⟨o, ho, h8, _, _⟩ := hce k ek hk
     unfold ap3 at h8
     simp only [Bool.and_eq_true] at h8
     have g5 := h8.1.2
     rw [hk2] at g5
     split at g5
     · rename_i hh _; cases hh
     · rename_i j x y t u hpv hop
       simp at hpv; subst hpv
       split at g5
       · rename_i ej hej; exact ⟨ej, hej⟩
       · cases g5
     · cases g5
   obtain ⟨e, he⟩ := hi
   obtain ⟨o, ho, _, h8, _⟩ := hce i e he
   have := List.all_eq_true.1 (List.all_eq_true.1 h8 k (List.mem_range.2 (hlt k ek hk))) l (List.mem_range.2 (hlt l el hl))
   rw [hk, hl] at this
   simpa [hk2, hl2] using this
 · obtain ⟨o, ho, _, _, h8⟩ := hce i e he
   obtain ⟨c, hc, h9⟩ := List.any_eq_true.1 h8
   simp only [Bool.and_eq_true, beq_iff_eq] at h9
   obtain ⟨r, hr⟩ := List.isPrefixOf_iff_prefix.1 h9.2
   exact ⟨c, hc, h9.1, r, hr.symm⟩
 · have := List.all_eq_true.1 h6 c hc
   skip
   split at this
   · rename_i e he
     simp only [Bool.and_eq_true, decide_eq_true_eq] at this
     refine ⟨e, he, this.1.1.1, this.1.1.2, this.1.2, fun k ek hk heq => ?_⟩
     have h9 := List.all_eq_true.1 this.2 k (List.mem_range.2 (hlt k ek hk))
     rw [hk] at h9
     simp [heq] at h9
   · cases this
end Go.Lv
end
section
namespace Go.Lv

section
variable {P : Program} {ops : Array Oper} {w0 : World} {m0 : Nat → Nat} {h0 : Hp} {av0 : Nat → Prop} {s : St} {a : Act} {w : World} {m : Nat → Nat}

theorem ai2 (I : Inv w0 m0 h0 av0 s a w m) {ht : Hp} {o : Oper} {x0 : V} {n0 : Hp} (hto : mg o = true) (hg : Go2 P ops ht o s.t x0 n0) :
   ∃ v, Yields P ops o v a ∧ RV w m s.h (avm av0 m s.h) true v x0 ∧ n0 = [] := by
 unfold Go2 at hg
 rcases mn I hg with ⟨hw, hg⟩ | ⟨hw, hg⟩
 rotate_left
 · exact ⟨Go.undef, .inr ⟨hw, rfl⟩, by rw [hg.1]; exact .skip, hg.2⟩
 unfold mg at hto
 unfold afx at hto
 split at hto
 · rename_i T u f hop
   rw [hop] at hg
   obtain ⟨v, y, ⟨rfl, h2⟩, h3, h4⟩ := abz (P := P) (I.ev (.tmp u)) (K := fun y => y = x0 ∧ [] = n0) hg
   refine ⟨v, .inl ⟨hw, fun w' => ?_⟩, h3, h2.symm⟩
   have := h4 w'
   skip
   obtain ⟨dst, op, ty, pos, after, guard⟩ := o
   subst hop
   simp [execOp, this]
 · rename_i T u1 u2 hop
   rw [hop] at hg
   obtain ⟨kd, n, e1, _, hg⟩ := kx (I.ev (.tmp u2)) (K := fun _ n => dp P T (ev s.t (.tmp u1)) n fun y => y = x0 ∧ [] = n0) hg
   obtain ⟨v, y, ⟨rfl, h2⟩, h3, h4⟩ := yt (P := P) (t := T) (I.ev (.tmp u1)) e1 hg
   refine ⟨v, .inl ⟨hw, fun w' => ?_⟩, h3, h2.symm⟩
   have := h4 w'
   skip
   obtain ⟨dst, op, ty, pos, after, guard⟩ := o
   subst hop
   simp [execOp, this]
 · rename_i u hop
   rw [hop] at hg
   obtain ⟨e1, h2⟩ : ev s.t (.tmp u) = x0 ∧ [] = n0 := hg
   refine ⟨a.eval (.tmp u), .inl ⟨hw, fun w' => ?_⟩, ?_, h2.symm⟩
   · skip
     obtain ⟨dst, op, ty, pos, after, guard⟩ := o
     subst hop
     simp [execOp]
   · have := I.ev (.tmp u)
     rw [e1] at this
     exact this
 · rename_i u x1 x2 hop
   rw [hop] at hg
   obtain ⟨b, e1, _, e2, h2⟩ := lh (I.ev (.tmp u)) (K := fun b => (if b then ev s.t x1 else ev s.t x2) = x0 ∧ [] = n0) hg
   refine ⟨if b then a.eval x1 else a.eval x2, .inl ⟨hw, fun w' => ?_⟩, ?_, h2.symm⟩
   · skip
     obtain ⟨dst, op, ty, pos, after, guard⟩ := o
     subst hop
     cases b <;> simp [execOp, e1, asBool]
   · rw [← e2]
     cases b
     · exact I.ev x2
     · exact I.ev x1
 · rename_i bop T x1 x2 t' hop
   rw [hop] at hg
   obtain ⟨z, ⟨e1, h2⟩, hl, h4⟩ := abw (P := P) (t := T) (K := fun y => y = x0 ∧ [] = n0) (I.ev x1) (I.ev x2) hg
   refine ⟨akx z, .inl ⟨hw, fun w' => ?_⟩, by rw [← e1]; exact aci hl, h2.symm⟩
   have := h4 w' x1 x2
   skip
   obtain ⟨dst, op, ty, pos, after, guard⟩ := o
   subst hop
   simp only [execOp]
   rw [Sem.run_bind, this]
   rfl
 · rename_i u j hop
   rw [hop] at hg
   change nr (ev s.t (.tmp u)) j (fun y => y = x0 ∧ [] = n0) at hg
   have hx := I.ev (.tmp u)
   generalize hue : a.eval (.tmp u) = uv at hx
   generalize ev s.t (.tmp u) = xv at hx hg
   cases hx with
   | tup ar vs ha hra =>
     unfold nr at hg
     dsimp only at hg
     split at hg
     · rename_i v hv
       have hlt : j < vs.length := (List.getElem?_eq_some_iff.1 hv).1
       have hr := hra j hlt
       rw [(List.getElem?_eq_some_iff.1 hv).2] at hr
       have hlt' : j < ar.size := by omega
       refine ⟨ar.getD j Go.undef, .inl ⟨hw, fun w' => ?_⟩, by rw [← hg.1]; exact hr, hg.2.symm⟩
       skip
       obtain ⟨dst, op, ty, pos, after, guard⟩ := o
       subst hop
       simp [execOp, hue, Instr.extract, Array.getD, hlt']
     · exact hg.elim
   | _ => exact hg.elim
 · rename_i T x hop
   rw [hop] at hg
   obtain ⟨b, e1, _, e2, h2⟩ := lh (I.ev x) (K := fun b => V.bool (!b) = x0 ∧ [] = n0) hg
   refine ⟨.bool (!b), .inl ⟨hw, fun w' => ?_⟩, by rw [← e2]; exact .bool _, h2.symm⟩
   skip
   obtain ⟨dst, op, ty, pos, after, guard⟩ := o
   subst hop
   simp [execOp, Op.unary, e1]
 · rename_i u hop
   rw [hop] at hg
   have hnil : wm (ev s.t (.tmp u)) (fun y => y = x0 ∧ [] = n0) := hg
   have hx := I.ev (.tmp u)
   refine ⟨a.eval (.tmp u), .inl ⟨hw, fun w' => ?_⟩, ?_, ?_⟩
   · obtain ⟨dst, op, ty, pos, after, guard⟩ := o
     subst hop
     generalize hue : a.eval (.tmp u) = uv at hx
     generalize ev s.t (.tmp u) = xv at hx hnil
     cases hx with
     | ptr id off cs hid => simp [execOp, hue]
     | pt b off cs vals ha hv hr => simp [execOp, hue]
     | fn f a1 c1 a' c' ha hc hra hrc =>
       cases f with
       | func f => simp [execOp, hue]
       | _ => exact False.elim hnil
     | _ => exact False.elim hnil
   · have he : ev s.t (.tmp u) = x0 := by
       unfold wm at hnil
       split at hnil <;> first | (rename_i hh; rw [hh]; exact hnil.1) | exact hnil.1 | exact hnil.elim
     rw [he] at hx
     exact hx
   · unfold wm at hnil
     split at hnil <;> first | exact hnil.2.symm | exact hnil.elim
 · cases hto

def l8 (h : Hp) (v : V) : Nat × List V :=
 match v with
 | .sl n _ cs => (n, cs)
 | .osl id off n w => match h[id]? with
   | some (some cs) => (n, (cs.drop off).take (n * w))
   | _ => (0, [])
 | _ => (0, [])

theorem aw8 {h : Hp} {sz : Nat} {no : Option Nat} {v : V} {K : Nat → List V → Prop} (hq : ma h sz no v K) : K (l8 h v).1 (l8 h v).2 ∧ ma h sz no v (fun k ys => k = (l8 h v).1 ∧ ys = (l8 h v).2) := by
 cases v with
 | sl n wd cs => exact ⟨hq.2.2, hq.1, hq.2.1, rfl, rfl⟩
 | osl id off n wd =>
   unfold ma at *
   dsimp only at *
   obtain ⟨h1, hq⟩ := hq
   cases hh : h[id]? with
   | none => rw [hh] at hq; exact hq.elim
   | some b =>
     rw [hh] at hq
     cases b with
     | none => exact hq.elim
     | some cs =>
       dsimp only at hq
       obtain ⟨rfl, h2, h3⟩ := hq
       simp only [l8, hh]
       exact ⟨h3, h1, trivial, h2, trivial, trivial⟩
 | nilsl => exact ⟨hq, rfl, rfl⟩
 | _ => exact hq.elim

theorem akg {h : Hp} {sz : Nat} {no : Option Nat} {v : V} {K : Nat → List V → Prop} (hq : ma h sz no v K) : (l8 h v).2.all bq = true := by
 cases v with
 | sl n wd cs => exact hq.2.1
 | osl id off n wd =>
   unfold ma at hq
   dsimp only at hq
   obtain ⟨h1, hq⟩ := hq
   cases hh : h[id]? with
   | none => simp [l8, hh]
   | some b =>
     rw [hh] at hq
     cases b with
     | none => simp [l8, hh]
     | some cs =>
       dsimp only at hq
       obtain ⟨rfl, h2, h3⟩ := hq
       simp only [l8, hh]
       exact h2
 | _ => rfl

def ob (h : Hp) (t : List V) : List Tmp → Nat
 | [] => 0
 | y :: l => (l8 h (t.getD y .undef)).1 + ob h t l
def kb (h : Hp) (t : List V) : List Tmp → List V
 | [] => []
 | y :: l => (l8 h (t.getD y .undef)).2 ++ kb h t l

theorem uu (h : Hp) (t : List V) : ∀ (l r : List Tmp), ob h t (l ++ r) = ob h t l + ob h t r
 | [], r => by simp [ob]
 | y :: l, r => by simp only [List.cons_append, ob, uu h t l r]; omega
theorem vo (h : Hp) (t : List V) : ∀ (l r : List Tmp), kb h t (l ++ r) = kb h t l ++ kb h t r
 | [], r => by simp [kb]
 | y :: l, r => by simp only [List.cons_append, kb, vo h t l r, List.append_assoc]

theorem alr {h : Hp} {t : List V} {sz : Nat} : ∀ (l : List Tmp) (n : Nat) (cs : List V) (K : Nat → List V → Prop), vb h sz (l.map fun y => t.getD y .undef) n cs K → K (n + ob h t l) (cs ++ kb h t l) ∧
   ∀ y ∈ l, ma h sz none (t.getD y .undef) (fun k ys => k = (l8 h (t.getD y .undef)).1 ∧ ys = (l8 h (t.getD y .undef)).2)
 | [], n, cs, K, hq => ⟨by simpa [ob, kb, vb] using hq, fun y hy => by simp at hy⟩
 | y :: l, n, cs, K, hq => by
   simp only [List.map_cons, vb] at hq
   obtain ⟨h1, h2⟩ := aw8 hq
   obtain ⟨h3, h4⟩ := alr l _ _ K h1
   refine ⟨by simpa [ob, kb, Nat.add_assoc] using h3, fun y' hy => ?_⟩
   rcases List.mem_cons.1 hy with rfl | hy
   · exact h2
   · exact h4 y' hy

def y8 (P : Program) (ty : TypeId) : Nat :=
 match ij P ty with
 | some (_, sz, _) => sz
 | none => 0

def ae7 (P : Program) (h : Hp) (t : List V) (ty : TypeId) (ys : List Tmp) : Prop :=
 ∃ e sz by_ zs, ij P ty = some (e, sz, by_) ∧ zeroOf P e = some zs ∧ zs.length = sz ∧
   (∀ y ∈ ys, ma h sz none (t.getD y .undef) (fun k xs => k = (l8 h (t.getD y .undef)).1 ∧ xs = (l8 h (t.getD y .undef)).2)) ∧
   ob h t ys * by_ ≤ 140737488355328 ∧ ob h t ys ≤ 4611686018427387904 ∧ (kb h t ys).all (cc 2) = true

theorem ad4 {h : Hp} {t : List V} {sz : Nat} : ∀ (ys : List Tmp), (∀ y ∈ ys, ma h sz none (t.getD y .undef) (fun k xs => k = (l8 h (t.getD y .undef)).1 ∧ xs = (l8 h (t.getD y .undef)).2)) → (kb h t ys).all bq = true
 | [], _ => rfl
 | y :: l, hh => by
   simp only [kb, List.all_append, Bool.and_eq_true]
   exact ⟨akg (hh y (by simp)), ad4 l fun y' hy => hh y' (by simp [hy])⟩

theorem agw {cs : List V} (hc : cs.all bq = true) : gr cs = false := by
 match cs, hc with
 | [], _ => rfl
 | [x], hc => cases x <;> first | rfl | (simp [bq] at hc; done)
 | _ :: _ :: _, _ => rfl

def x3 (P : Program) (h : Hp) (t : List V) : List Tip → St → St
 | [], s => s
 | c :: l, s => x3 P h t l { s with t := s.t.set c.d (.osl s.h.length 0 (ob h t c.ys) (y8 P c.ty)), h := s.h ++ [some (kb h t c.ys)] }

theorem adr {t : List V} {h : Hp} : ∀ (tips : List Tip) (s : St) (K : St → Prop), p7 P t h tips s K → K (x3 P h t tips s) ∧ ∀ c ∈ tips, ae7 P h t c.ty c.ys
 | [], s, K, hq => ⟨hq, fun c hc => by simp at hc⟩
 | c :: l, s, K, hq => by
   unfold p7 at hq
   split at hq
   · rename_i e sz by_ he
     split at hq
     · rename_i zs hz
       obtain ⟨h1, hq⟩ := hq
       obtain ⟨h2, h3⟩ := alr _ _ _ _ hq
       simp only [Nat.zero_add, List.nil_append] at h2
       obtain ⟨⟨h4, h5, h6⟩, h7⟩ := h2
       obtain ⟨h8, h9⟩ := adr l _ K h7
       refine ⟨?_, fun c' hc => ?_⟩
       · unfold x3
         rw [show y8 P c.ty = sz by simp [y8, he]]
         exact h8
       · rcases List.mem_cons.1 hc with rfl | hc
         · exact ⟨e, sz, by_, zs, he, hz, h1, h3, h4, h5, h6⟩
         · exact h9 c' hc
     · exact hq.elim
   · exact hq.elim

theorem aoo {t : List V} {h : Hp} : ∀ (tips : List Tip) (s : St), (x3 P h t tips s).h = s.h ++ (tips.map fun c => some (kb h t c.ys)) ∧ (x3 P h t tips s).k = s.k ∧ (x3 P h t tips s).t.length = s.t.length
 | [], s => ⟨by simp [x3], rfl, rfl⟩
 | c :: l, s => by
   unfold x3
   obtain ⟨h1, h2, h3⟩ := aoo l { s with t := s.t.set c.d (.osl s.h.length 0 (ob h t c.ys) (y8 P c.ty)), h := s.h ++ [some (kb h t c.ys)] }
   exact ⟨by rw [h1]; simp, h2, by rw [h3]; simp⟩

theorem aqr {t : List V} {h : Hp} : ∀ (tips : List Tip) (s : St), (tips.map (·.d)).Nodup → ∀ u, u < s.t.length →
   (∀ j c, tips[j]? = some c → c.d = u → (x3 P h t tips s).t.getD u .undef = .osl (s.h.length + j) 0 (ob h t c.ys) (y8 P c.ty)) ∧ ((∀ c ∈ tips, c.d ≠ u) → (x3 P h t tips s).t.getD u .undef = s.t.getD u .undef)
 | [], s, _, u, hu => ⟨fun j c hj => by simp at hj, fun _ => rfl⟩
 | c :: l, s, hnd, u, hu => by
   unfold x3
   simp only [List.map_cons, List.nodup_cons] at hnd
   obtain ⟨h1, h2⟩ := aqr (t := t) (h := h) l { s with t := s.t.set c.d (.osl s.h.length 0 (ob h t c.ys) (y8 P c.ty)), h := s.h ++ [some (kb h t c.ys)] } hnd.2 u (by simpa using hu)
   have hset : ∀ (x : V), (s.t.set c.d x).getD u .undef = if c.d = u then x else s.t.getD u .undef := fun x => by
     simp only [List.getD_eq_getElem?_getD, List.getElem?_set]
     by_cases e : c.d = u
     · subst e; simp [hu]
     · simp [e]
   refine ⟨fun j c' hj hc => ?_, fun hn => ?_⟩
   · cases j with
     | zero =>
       simp at hj; subst hj
       rw [h2 (fun c' hc' e => hnd.1 (List.mem_map.2 ⟨c', hc', by rw [e, hc]⟩)), hset, if_pos hc]
       rfl
     | succ j =>
       rw [h1 j c' (by simpa using hj) hc]
       simp only [List.length_append, List.length_singleton]
       congr 1
       omega
   · rw [h2 (fun c' hc' => hn c' (by simp [hc'])), hset, if_neg (hn c (by simp))]

theorem amb {ql : List Bool} (hl : ql.length = ops.size) {s : St} {K : St → Prop} (hq : gA P ops (nn ql ops.toList) s K) : ∀ k, k ≤ ops.size → ∃ (xs : Nat → V) (ns : Nat → Hp),
   (∀ i o, i < k → ql.getD i false = true → ops[i]? = some o → Go2 P ops (hS s.h ns (fun i => ql.getD i false) (fun i => ql.getD i false) i) o (tS ops s.t xs (fun i => ql.getD i false) i) (xs i) (ns i)) ∧
   gA P ops (nn (ql.drop k) (ops.toList.drop k)) { s with t := tS ops s.t xs (fun i => ql.getD i false) k, h := hS s.h ns (fun i => ql.getD i false) (fun i => ql.getD i false) k } K
 | 0, _ => ⟨fun _ => .undef, fun _ => [], fun i o hi => absurd hi (by omega), by simpa [tS, hS] using hq⟩
 | k + 1, hk => by
   obtain ⟨xs, ns, h1, h2⟩ := amb hl hq k (by omega)
   have hlt : k < ops.size := by omega
   have hget : ops[k]? = some ops[k] := Array.getElem?_eq_getElem hlt
   have hdrop : ops.toList.drop k = ops[k] :: ops.toList.drop (k + 1) := by
     rw [List.drop_eq_getElem_cons (by simpa using hlt)]
     simp
   have hdq : ql.drop k = (ql.getD k false) :: ql.drop (k + 1) := by
     rw [List.drop_eq_getElem_cons (by omega)]
     simp [List.getD, List.getElem?_eq_getElem (show k < ql.length by omega)]
   rw [hdrop, hdq] at h2
   cases hz : ql.getD k false with
   | true =>
     rw [hz] at h2
     simp only [nn] at h2
     unfold gA at h2
     have h2' : gdA ops (tS ops s.t xs (fun i => ql.getD i false) k) ops[k].guard (gop P (hS s.h ns (fun i => ql.getD i false) (fun i => ql.getD i false) k) (ev (tS ops s.t xs (fun i => ql.getD i false) k)) ops[k].op fun v n =>
         gA P ops (nn (ql.drop (k + 1)) (ops.toList.drop (k + 1))) (({ s with t := tS ops s.t xs (fun i => ql.getD i false) k, h := hS s.h ns (fun i => ql.getD i false) (fun i => ql.getD i false) k ++ n } : St).put ops[k].dst v) K)
         (gA P ops (nn (ql.drop (k + 1)) (ops.toList.drop (k + 1))) (({ s with t := tS ops s.t xs (fun i => ql.getD i false) k, h := hS s.h ns (fun i => ql.getD i false) (fun i => ql.getD i false) k ++ [] } : St).put ops[k].dst .skip) K) := by
       rw [List.append_nil]; exact h2
     obtain ⟨x, n, h3, h4⟩ := agf (ag9 P (hS s.h ns (fun i => ql.getD i false) (fun i => ql.getD i false) k) (ev (tS ops s.t xs (fun i => ql.getD i false) k)) ops[k].op)
       (K := fun v n => gA P ops (nn (ql.drop (k + 1)) (ops.toList.drop (k + 1))) (({ s with t := tS ops s.t xs (fun i => ql.getD i false) k, h := hS s.h ns (fun i => ql.getD i false) (fun i => ql.getD i false) k ++ n } : St).put ops[k].dst v) K) h2'
     have agree : ∀ i, i ≤ k → tS ops s.t (fun j => if j = k then x else xs j) (fun i => ql.getD i false) i = tS ops s.t xs (fun i => ql.getD i false) i := by
       intro i
       induction i with
       | zero => intro _; rfl
       | succ i ih =>
         intro hi
         simp only [tS]
         rw [ih (by omega)]
         simp only [if_neg (show ¬ i = k by omega)]
     have agreeH : ∀ i, i ≤ k → hS s.h (fun j => if j = k then n else ns j) (fun i => ql.getD i false) (fun i => ql.getD i false) i = hS s.h ns (fun i => ql.getD i false) (fun i => ql.getD i false) i := by
       intro i
       induction i with
       | zero => intro _; rfl
       | succ i ih =>
         intro hi
         simp only [hS]
         rw [ih (by omega)]
         simp only [if_neg (show ¬ i = k by omega)]
     refine ⟨fun j => if j = k then x else xs j, fun j => if j = k then n else ns j, fun i o hi zi ho => ?_, ?_⟩
     · rw [agree i (by omega), agreeH i (by omega)]
       by_cases e : i = k
       · subst e
         rw [hget] at ho; simp at ho; subst ho
         simp only [if_true]
         exact h4
       · simp only [if_neg e]
         exact h1 i o (by omega) zi ho
     · have e1 : tS ops s.t (fun j => if j = k then x else xs j) (fun i => ql.getD i false) (k + 1) = zb (tS ops s.t xs (fun i => ql.getD i false) k) ops[k].dst x := by
         simp only [tS]
         rw [agree k (Nat.le_refl _), hz]
         simp [dw, hget]
       have e2 : hS s.h (fun j => if j = k then n else ns j) (fun i => ql.getD i false) (fun i => ql.getD i false) (k + 1) = hS s.h ns (fun i => ql.getD i false) (fun i => ql.getD i false) k ++ n := by
         simp only [hS]
         rw [agreeH k (Nat.le_refl _), hz]
         simp
       rw [e1, e2]
       rw [put_eq] at h3
       exact h3
   | false =>
     rw [hz] at h2
     simp only [nn] at h2
     refine ⟨xs, ns, fun i o hi zi ho => ?_, ?_⟩
     · by_cases e : i = k
       · subst e; rw [hz] at zi; cases zi
       · exact h1 i o (by omega) zi ho
     · simp only [tS, hS, hz]
       exact h2

theorem tb {zl : List Bool} (hl : zl.length = ops.size) : ∀ (d k : Nat), k + d = ops.size → ez ops (fun i => zl.getD i false) k = nn ((zl.map (!·)).drop k) (ops.toList.drop k)
 | 0, k, hk => by
   have : ez ops (fun i => zl.getD i false) k = [] := by unfold ez; rw [List.drop_of_length_le (by simp; omega)]; rfl
   rw [this, List.drop_of_length_le (by simp; omega)]
   rfl
 | d + 1, k, hk => by
   have hlt : k < ops.size := by omega
   rw [na hlt, tb hl d (k + 1) (by omega)]
   have hdrop : ops.toList.drop k = ops[k] :: ops.toList.drop (k + 1) := by
     rw [List.drop_eq_getElem_cons (by simpa using hlt)]
     simp
   have hdq : (zl.map (!·)).drop k = (!(zl.getD k false)) :: (zl.map (!·)).drop (k + 1) := by
     rw [List.drop_eq_getElem_cons (by simp; omega)]
     simp [List.getD, List.getElem?_eq_getElem (show k < zl.length by omega)]
   rw [hdrop, hdq]
   cases zl.getD k false <;> simp [nn]

end
end Go.Lv
end
section
namespace Go.Lv

section
variable {P : Program} {ops : Array Oper} {z q tk : Nat → Bool} {B : Nat → Nat → Prop} {tab : List (Option CE)} {tips : List Tip} {w0 : World} {m0 : Nat → Nat} {h0 : Hp} {av0 : Nat → Prop}

def qf (tab : List (Option CE)) (S : Nat → Bool) (i : Nat) : Prop := ∀ k ek, fe tab k = some ek → ek.pv = some i → S k = false

structure GI (P : Program) (tab : List (Option CE)) (he : Hp) (te : List V) (S : Nat → Bool) (H : Hp) (γ : Nat → Nat) (X : Nat → V) : Prop where
 hx : ∀ i e, fe tab i = some e → S i = true → X i = .osl (γ i) 0 (ob he te e.ys) (y8 P e.ty) ∧ he.length ≤ γ i
 hb : ∀ i e, fe tab i = some e → S i = true → qf tab S i → H[γ i]? = some (some (kb he te e.ys))
 hd : ∀ i j ei ej, fe tab i = some ei → fe tab j = some ej → S i = true → S j = true → qf tab S i → qf tab S j → i ≠ j → γ i ≠ γ j
 hl : ∀ i e, fe tab i = some e → S i = true → (kb he te e.ys).length = ob he te e.ys * y8 P e.ty

theorem GI.step {he : Hp} {te : List V} {S S' : Nat → Bool} {H H' : Hp} {γ : Nat → Nat} {X : Nat → V} (J : GI P tab he te S H γ X) {i : Nat} {e : CE} (hi : fe tab i = some e) (hS : ∀ j, S' j = if i = j then true else S j) {g : Nat} {x : V}
   (p1 : ∀ j ej, j ≠ i → fe tab j = some ej → S j = true → qf tab S' j → H[γ j]? = some (some (kb he te ej.ys)) → H'[γ j]? = some (some (kb he te ej.ys))) (p2 : H'[g]? = some (some (kb he te e.ys)))
   (p3 : ∀ j ej, j ≠ i → fe tab j = some ej → S j = true → qf tab S' j → γ j ≠ g) (p4 : x = .osl g 0 (ob he te e.ys) (y8 P e.ty)) (p5 : he.length ≤ g) (p6 : (kb he te e.ys).length = ob he te e.ys * y8 P e.ty) :
   GI P tab he te S' H' (fun j => if j = i then g else γ j) (fun j => if j = i then x else X j) := by
 have hsub : ∀ j, qf tab S' j → qf tab S j := fun j hu k ek h1 h2 => by
   have := hu k ek h1 h2
   rw [hS] at this
   split at this
   · cases this
   · exact this
 have hold : ∀ j, j ≠ i → S' j = true → S j = true := fun j hj h => by rw [hS, if_neg (Ne.symm hj)] at h; exact h
 refine ⟨fun j ej h1 h2 => ?_, fun j ej h1 h2 h3 => ?_, fun j l ej el h1 h2 h3 h4 h5 h6 hne => ?_, fun j ej h1 h2 => ?_⟩
 · by_cases e1 : j = i
   · subst e1
     rw [hi] at h1; simp at h1; subst h1
     simp only [if_true]
     exact ⟨p4, p5⟩
   · simp only [if_neg e1]
     exact J.hx j ej h1 (hold j e1 h2)
 · by_cases e1 : j = i
   · subst e1
     rw [hi] at h1; simp at h1; subst h1
     simp only [if_true]
     exact p2
   · simp only [if_neg e1]
     exact p1 j ej e1 h1 (hold j e1 h2) h3 (J.hb j ej h1 (hold j e1 h2) (hsub j h3))
 · by_cases e1 : j = i <;> by_cases e2 : l = i
   · omega
   · simp only [if_pos e1, if_neg e2]
     exact fun he => p3 l el e2 h2 (hold l e2 h4) h6 he.symm
   · simp only [if_neg e1, if_pos e2]
     exact p3 j ej e1 h1 (hold j e1 h3) h5
   · simp only [if_neg e1, if_neg e2]
     exact J.hd j l ej el h1 h2 (hold j e1 h3) (hold l e2 h4) (hsub j h5) (hsub l h6) hne
 · by_cases e1 : j = i
   · subst e1
     rw [hi] at h1; simp at h1; subst h1
     exact p6
   · exact J.hl j ej h1 (hold j e1 h2)

theorem alk (t0 : List V) (S S' : Nat → Bool) (X X' : Nat → V) (i : Nat) (hX : ∀ j, j ≠ i → X' j = X j) (hS : S i = false) (hS' : ∀ j, S' j = if i = j then true else S j)
   (hw : ∀ u, dw ops i = some u → ∀ j, j ≠ i → dw ops j = some u → S j = true → j < i) : ∀ n, i < n → zb (tS ops t0 X S n) (dw ops i) (X' i) = tS ops t0 X' S' n
 | 0, h => by omega
 | n + 1, h => by
   have agree : ∀ k, k ≤ i → tS ops t0 X S k = tS ops t0 X' S' k := by
     intro k
     induction k with
     | zero => intro _; rfl
     | succ k ih =>
       intro hk
       simp only [tS]
       rw [ih (by omega), show S' k = S k by rw [hS', if_neg (by omega)], hX k (by omega)]
   by_cases e : i = n
   · subst e
     simp only [tS, hS, hS', if_true, Bool.false_eq_true, if_false]
     rw [agree i (Nat.le_refl _)]
   · have ih := alk t0 S S' X X' i hX hS hS' hw n (by omega)
     simp only [tS, hS' n, if_neg e]
     rw [hX n (Ne.symm e), ← ih]
     cases hn : S n with
     | false => simp
     | true =>
       simp only [if_true]
       cases hd : dw ops i with
       | none => rfl
       | some u =>
         cases hd2 : dw ops n with
         | none => rfl
         | some v =>
           have hne : u ≠ v := fun huv => by
             subst huv
             have := hw u hd n (Ne.symm e) hd2 hn
             omega
           simp only [zb]
           rw [List.set_comm _ _ (Ne.symm hne)]

theorem afj (t0 : List V) (S : Nat → Bool) (X xs : Nat → V) (u : Nat) : ∀ p, (∀ j, j < p → S j = true → dw ops j = some u → X j = xs j) → (tS ops t0 X S p).getD u .undef = (tS ops t0 xs S p).getD u .undef
 | 0, _ => rfl
 | p + 1, h => by
   have ih := afj t0 S X xs u p (fun j hj => h j (by omega))
   simp only [tS]
   cases hS : S p with
   | false => simpa using ih
   | true =>
     simp only [if_true]
     by_cases hu : u < t0.length
     · rw [gm _ _ _ _ (by rw [bw]; exact hu), gm _ _ _ _ (by rw [bw]; exact hu)]
       by_cases hd : dw ops p = some u
       · rw [if_pos hd, if_pos hd]; exact h p (by omega) hS hd
       · rw [if_neg hd, if_neg hd]; exact ih
     · have e : ∀ (l : List V), l.length = t0.length → l.getD u .undef = .undef := fun l hl => by
         rw [List.getD_eq_getElem?_getD, List.getElem?_eq_none (by omega)]; rfl
       rw [e _ (by rw [jz, bw]), e _ (by rw [jz, bw])]

theorem aeb : ∀ (bs H G : Hp) (off : Nat), (bs = [] ∨ off + bs.length ≤ H.length) → dd (H ++ G) off bs = dd H off bs ++ G
 | [], H, G, off, _ => rfl
 | b :: bs, H, G, off, h => by
   have h' : off + (bs.length + 1) ≤ H.length := by
     rcases h with h | h
     · cases h
     · simpa using h
   show dd ((H ++ G).set off b) (off + 1) bs = dd (H.set off b) (off + 1) bs ++ G
   rw [List.set_append_left _ _ (by omega), aeb bs _ G (off + 1) (.inr (by simp; omega))]

theorem aoz {w : World} {m : Nat → Nat} {hc ht : Hp} {av : Nat → Prop} (hcmp : ∀ (id : Nat) (cs cs' : List V), hc[id]? = some (some cs) → ht[id]? = some (some cs') → cs = cs') {v : Value} {x : V} (hx : RV w m hc av true v x) {sz : Nat} {no : Option Nat} {K : Nat → List V → Prop}
   (hq : ma ht sz no x K) : ma hc sz no x K := by
 cases hx with
 | osl id off n cap wd cs hid hl hc' hs =>
   unfold ma at *
   dsimp only at *
   refine ⟨hq.1, ?_⟩
   replace hq := hq.2
   cases hh : ht[id]? with
   | none => rw [hh] at hq; exact hq.elim
   | some b =>
     rw [hh] at hq
     cases b with
     | none => exact hq.elim
     | some cs' =>
       have := hcmp id cs cs' hid.1 hh
       subst this
       rw [hid.1]
       exact hq
 | _ => exact hq

theorem aq1 {s : St} {a : Act} {w : World} {m : Nat → Nat} (I : Inv w0 m0 h0 av0 s a w m) {o : Oper} {d : Tmp} {ty e sz by_ : Nat} {zs : List V} (hd : o.dst = some d) (hop : o.op = .buildSlice ty 0 #[]) (he : ij P ty = some (e, sz, by_)) (hz : zeroOf P e = some zs)
   {Kc : Act → World → Prop} {Q : Exit → Act → World → Prop} (hk : ∀ v w' m', Inv w0 m0 h0 av0 (({ s with h := s.h ++ [some []] } : St).put (some d) (.osl s.h.length 0 0 sz)) (a.put (some d) v) w' m' → Kc (a.put (some d) v) w') : o.wp P a w Kc Q := by
 obtain ⟨dst, op, ty', pos, after, g⟩ := o
 dsimp only at hd hop
 subst hd hop
 obtain ⟨D, hD, hrun⟩ := rp (P := P) I.ev he hz (n := 0) (parts := #[]) (cs := []) rfl (by omega) (by simp [z7])
 obtain ⟨J, _⟩ := I.alloc D e [] (by simp) (fun i hi => by simp at hi)
 exact eo (v := .slice (some ⟨w.heap.size, 0, none⟩) 0 0) (w' := w.alloc (.cells D e)) (by simpa [execOp] using by simp at hrun; simp [hrun]) (hk _ _ _ (J.put (ahb rfl (by rw [hD.1]; simp) (by simp))))

theorem as0 {s : St} {a : Act} {w : World} {m : Nat → Nat} (I : Inv w0 m0 h0 av0 s a w m) {o : Oper} {d x y : Tmp} {ty e sz by_ : Nat} {zs : List V} (hd : o.dst = some d) (hop : o.op = .call { callee := .builtin .append, args := #[.tmp x, .tmp y], argTypes := #[ty, ty] })
   (he : ij P ty = some (e, sz, by_)) (hz : zeroOf P e = some zs) (hzl : zs.length = sz) {g n n2 : Nat} {cs cs2 : List V} (hx : s.t.getD x .undef = .osl g 0 n sz) (hg : s.h[g]? = some (some cs)) (hn : n * sz = cs.length) (hsrc : ma s.h sz none (s.t.getD y .undef) fun k ys => k = n2 ∧ ys = cs2)
   (hb : (n + n2) * by_ ≤ 140737488355328) (h63 : n + n2 ≤ 4611686018427387904) {Kc : Act → World → Prop} {Q : Exit → Act → World → Prop}
   (hk : ∀ v w' m' g' H', (g' = g ∧ H' = s.h.set g (some (cs ++ cs2)) ∨ g' = s.h.length ∧ H' = s.h ++ [some (cs ++ cs2)]) → Inv w0 m0 h0 av0 (({ s with h := H' } : St).put (some d) (.osl g' 0 (n + n2) sz)) (a.put (some d) v) w' m' → Kc (a.put (some d) v) w') : o.wp P a w Kc Q := by
 obtain ⟨dst, op, ty', pos, after, gd⟩ := o
 dsimp only at hd hop
 subst hd hop
 have hxv := I.ev (.tmp x)
 rw [show ev s.t (.tmp x) = .osl g 0 n sz from hx] at hxv
 obtain ⟨v, w', m', h1, h2⟩ := ann (P := P) (ty := ty') I hxv hg hn he hz hzl (I.ev (.tmp y)) hsrc hb h63
 refine eo (v := v) (w' := w') (by simp [execOp, resolve, invoke, builtin, h1]) ?_
 rcases h2 with ⟨J, hr⟩ | ⟨J, hr⟩
 · exact hk _ _ _ _ _ (.inl ⟨rfl, rfl⟩) (J.put hr)
 · exact hk _ _ _ _ _ (.inr ⟨rfl, rfl⟩) (J.put hr)

theorem ae7.less {h : Hp} {t : List V} {ty : TypeId} {l r : List Tmp} (H : ae7 P h t ty (l ++ r)) : ae7 P h t ty l := by
 obtain ⟨e, sz, by_, zs, h1, h2, h3, h4, h5, h6, h7⟩ := H
 rw [uu] at h5 h6
 rw [vo, List.all_append, Bool.and_eq_true] at h7
 exact ⟨e, sz, by_, zs, h1, h2, h3, fun y hy => h4 y (by simp [hy]), Nat.le_trans (Nat.mul_le_mul_right _ (by omega)) h5, by omega, h7.1⟩

theorem asa {h : Hp} {sz : Nat} {v : V} {K : Nat → List V → Prop} {w : World} {m : Nat → Nat} {hc : Hp} {av : Nat → Prop} {u : Value} (hcmp : ∀ (id : Nat) (cs cs' : List V), hc[id]? = some (some cs) → h[id]? = some (some cs') → cs = cs') (hx : RV w m hc av true u v) (hq : ma h sz none v K) :
   (l8 h v).2.length = (l8 h v).1 * sz := by
 cases hx with
 | sl b off n cap wd cs vals hl ha hc hv hr => obtain ⟨rfl, _⟩ := hq; exact hl
 | slz a c wd => simp [l8]
 | osl id off n cap wd cs hid hl hc' hs =>
   unfold ma at hq
   dsimp only at hq
   replace hq := hq.2
   cases hh : h[id]? with
   | none => rw [hh] at hq; exact hq.elim
   | some b =>
     rw [hh] at hq
     cases b with
     | none => exact hq.elim
     | some cs' =>
       have := hcmp id cs cs' hid.1 hh
       subst this
       obtain ⟨rfl, _⟩ := hq
       simp only [l8, hh]
       simp; omega
 | nilsl => simp [l8]
 | _ => exact hq.elim
end
end Go.Lv
end
section
namespace Go.Lv

section
variable {P : Program} {ops : Array Oper} {z q tk : Nat → Bool} {B : Nat → Nat → Prop} {tab : List (Option CE)} {tips : List Tip} {w0 : World} {m0 : Nat → Nat} {h0 : Hp} {av0 : Nat → Prop}

theorem u4 (t0 : List V) (S : Nat → Bool) (X : Nat → V) (u j : Nat) (hu : u < t0.length) (hj : S j = true) (hd : dw ops j = some u) : ∀ p, j < p → (∀ k, k < p → k ≠ j → S k = true → dw ops k ≠ some u) → (tS ops t0 X S p).getD u .undef = X j
 | 0, h, _ => by omega
 | p + 1, h, hn => by
   simp only [tS]
   by_cases e : j = p
   · subst e
     rw [hj, if_pos rfl, gm _ _ _ _ (by rw [bw]; exact hu), if_pos hd]
   · have ih := u4 t0 S X u j hu hj hd p (by omega) (fun k hk => hn k (by omega))
     cases hS : S p with
     | false => simpa using ih
     | true =>
       simp only [if_true]
       rw [gm _ _ _ _ (by rw [bw]; exact hu), if_neg (hn p (by omega) (Ne.symm e) hS)]
       exact ih

theorem GI.quiet {he : Hp} {te : List V} {S S' : Nat → Bool} {H H' G : Hp} {γ : Nat → Nat} {X : Nat → V} (J : GI P tab he te S (H ++ G) γ X) {i : Nat} (hi : fe tab i = none) (hS : ∀ j, S' j = if i = j then true else S j) (h1 : H.length = he.length) (h2 : H'.length = he.length) :
   GI P tab he te S' (H' ++ G) γ X := by
 have hne : ∀ j e, fe tab j = some e → i ≠ j := fun j e hj e' => by subst e'; rw [hi] at hj; cases hj
 have hold : ∀ j e, fe tab j = some e → S' j = true → S j = true := fun j e hj h => by rw [hS, if_neg (hne j e hj)] at h; exact h
 have hsub : ∀ j, qf tab S' j → qf tab S j := fun j hu k ek g1 g2 => by
   have := hu k ek g1 g2
   rw [hS, if_neg (hne k ek g1)] at this
   exact this
 refine ⟨fun j e hj h => J.hx j e hj (hold j e hj h), fun j e hj h hu => ?_, fun j l ej el hj hl g1 g2 g3 g4 => J.hd j l ej el hj hl (hold j ej hj g1) (hold l el hl g2) (hsub j g3) (hsub l g4), fun j e hj h => J.hl j e hj (hold j e hj h)⟩
 have g1 := J.hb j e hj (hold j e hj h) (hsub j hu)
 have g2 := (J.hx j e hj (hold j e hj h)).2
 rw [List.getElem?_append_right (by omega)] at g1 ⊢
 rw [h2, ← h1]
 exact g1

theorem asp (D : l4 ops z B tk) (F : CF ops z q B tab tips) {Q : Exit → Act → World → Prop} {K : St → Prop} (hQp : ∀ c a a' w, Q (.panic c) a w → Q (.panic c) a' w) (hk : ∀ s' a' w' m', K s' → Inv w0 m0 h0 av0 s' a' w' m' → Q .normal a' w') {s : St} (hlen : h0.length ≤ s.h.length) (hsk : s.k = h0.length) {xs : Nat → V} {ns : Nat → Hp} {te : List V} {he : Hp}
   (hte : te = tS ops s.t xs q ops.size) (hhe : he = hS s.h ns q q ops.size)
   (hgo : ∀ i o, i < ops.size → q i = true → ops[i]? = some o → Go2 P ops (hS s.h ns q q i) o (tS ops s.t xs q i) (xs i) (ns i))
   (hcond : ∀ c ∈ tips, ae7 P he te c.ty c.ys) (hund : ∀ i e, fe tab i = some e → e.d < s.t.length ∧ s.t.getD e.d .undef = .undef)
   (hend : fx P ops (ez ops z 0) (x3 P he te tips ⟨te.map (Lv.ren (bm he.length) 3), cb he.length he, s.k⟩) K) :
   ∀ (fuel : Nat) (listed : Array Bool) (a : Act) (w : World) (m : Nat → Nat) (X : Nat → V) (γ : Nat → Nat) (G : Hp), listed.size = ops.size → vu B listed → (∀ i, listed.getD i false = true → z i = true) → left ops.size listed ≤ fuel →
     (∀ i, q i = true → X i = xs i) → GI P tab he te (fun i => listed.getD i false) (hS s.h ns q (fun i => listed.getD i false) ops.size ++ G) γ X →
     Inv w0 m0 h0 av0 { s with t := tS ops s.t X (fun i => listed.getD i false) ops.size, h := hS s.h ns q (fun i => listed.getD i false) ops.size ++ G } a w m → wpAny P .any ops Q fuel listed a w := by
 have qn : ∀ i, q i = true → fe tab i = none := fun i hq => by
   cases hc : fe tab i with
   | none => rfl
   | some e => have := (F.ent i e hc).2.2.1; rw [hq] at this; cases this
 have qz : ∀ i, i < ops.size → q i = true → z i = true := fun i hi hq => by rw [← F.of i hi (qn i hq)]; exact hq
 have zq : ∀ i, i < ops.size → z i = true → q i = false → ∃ e, fe tab i = some e := fun i hi hz hq => by
   cases hc : fe tab i with
   | none => rw [F.of i hi hc, hz] at hq; cases hq
   | some e => exact ⟨e, rfl⟩
 have dst_at : ∀ i (hi : i < ops.size), dw ops i = ops[i].dst := fun i hi => by simp [dw, Array.getElem?_eq_getElem hi]
 have chd : ∀ i e, fe tab i = some e → dw ops i = some e.d := fun i e hc => by
   obtain ⟨_, _, _, o, ho, hd, _⟩ := F.ent i e hc
   simp [dw, ho, hd]
 have chn : ∀ i e, fe tab i = some e → ∀ k, k < ops.size → z k = true → k ≠ i → dw ops k ≠ some e.d := fun i e hc k hk hz hne hd => by
   have := (F.sl i e hc k ops[k] (Array.getElem?_eq_getElem hk) hz).1 hne
   rw [dst_at k hk] at hd
   exact this hd
 have hlenS : ∀ S, (hS s.h ns q S ops.size).length = he.length := fun S => by rw [hhe]; exact vm s.h ns q S q ops.size
 have hcmpE : ∀ (S : Nat → Bool) (G : Hp) (id : Nat) (cs cs' : List V), (hS s.h ns q S ops.size ++ G)[id]? = some (some cs) → he[id]? = some (some cs') → cs = cs' := fun S G id cs cs' h1 h2 => by
   rw [List.getElem?_append_left (by rw [hlenS]; exact dy h2)] at h1
   rw [hhe] at h2
   exact yu s.h ns q S (Nat.le_refl _) id cs cs' h1 h2
 -- slots that are no chain's
 have hT : ∀ (S : Nat → Bool) (X : Nat → V) (u i : Nat), (∀ i, q i = true → X i = xs i) → (∀ j, S j = true → z j = true) → i ≤ ops.size → (∀ j e, fe tab j = some e → S j = true → e.d ≠ u) → (∀ j, j < ops.size → dw ops j = some u → (S j = true ↔ j < i ∧ q j = true)) →
     (tS ops s.t X S ops.size).getD u .undef = (tS ops s.t xs q i).getD u .undef := by
   intro S X u i hX hz hi hu hw
   rw [afj (ops := ops) s.t S X xs u ops.size (fun j hj hSj hd => hX j ((hw j hj hd).1 hSj).2)]
   exact p8 ops s.t xs S q u i ops.size hi hw
 have done : ∀ (fuel : Nat) (listed : Array Bool) (a : Act) (w : World) (m : Nat → Nat) (X : Nat → V) (γ : Nat → Nat) (G : Hp), listed.size = ops.size → (∀ i, listed.getD i false = true → z i = true) → left ops.size listed ≤ fuel →
     (∀ i, q i = true → X i = xs i) → GI P tab he te (fun i => listed.getD i false) (hS s.h ns q (fun i => listed.getD i false) ops.size ++ G) γ X →
     Inv w0 m0 h0 av0 { s with t := tS ops s.t X (fun i => listed.getD i false) ops.size, h := hS s.h ns q (fun i => listed.getD i false) ops.size ++ G } a w m → (∀ i, i < ops.size → z i = true → listed.getD i false = true) → wpAny P .any ops Q fuel listed a w := by
   intro fuel listed a w m X γ G hl hlz hf hX J I hall
   have hsz : ∀ i, i < ops.size → listed.getD i false = z i := fun i hi => by
     cases hz : z i
     · cases hx : listed.getD i false
       · rfl
       · rw [hlz i hx] at hz; cases hz
     · exact hall i hi hz
   have hS1 : hS s.h ns q (fun i => listed.getD i false) ops.size = he := by
     rw [hhe]; exact ju s.h ns q ops.size (fun i hi hq => by rw [hsz i hi, qz i hi hq, hq])
   rw [hS1] at I J
   have hSc : ∀ i e, fe tab i = some e → listed.getD i false = true := fun i e hc => by
     obtain ⟨hi, hz, _⟩ := F.ent i e hc
     exact hall i hi hz
   have htd : (tips.map (·.d)).Nodup := by
     have key : ∀ l : List Tip, (∀ c ∈ l, c ∈ tips) → (l.map (·.i)).Nodup → (l.map (·.d)).Nodup := by
       intro l
       induction l with
       | nil => intro _ _; simp
       | cons c l ihl =>
         intro hm hn
         simp only [List.map_cons, List.nodup_cons] at hn ⊢
         refine ⟨fun h => ?_, ihl (fun c' hc' => hm c' (by simp [hc'])) hn.2⟩
         obtain ⟨c', hc', hd⟩ := List.mem_map.1 h
         obtain ⟨e, g1, g2, _⟩ := F.tp c (hm c (by simp))
         obtain ⟨e', g1', g2', _⟩ := F.tp c' (hm c' (by simp [hc']))
         have hne : c'.i ≠ c.i := fun h => hn.1 (List.mem_map.2 ⟨c', hc', h⟩)
         obtain ⟨hi', hz', _⟩ := F.ent c'.i e' g1'
         exact chn c.i e g1 c'.i hi' hz' hne (by rw [chd c'.i e' g1', g2', g2, hd])
     exact key tips (fun c hc => hc) F.nd
   have hk1 : s.k ≤ he.length := by rw [hsk, hhe]; exact Nat.le_trans hlen (ajy s.h ns q q ops.size)
   have hfh := aoo (P := P) (t := te) (h := he) tips ⟨te.map (Lv.ren (bm he.length) 3), cb he.length he, s.k⟩
   have hft := aqr (P := P) (t := te) (h := he) tips ⟨te.map (Lv.ren (bm he.length) 3), cb he.length he, s.k⟩ htd
   have htl : te.length = s.t.length := by rw [hte, bw]
   have hcl : (cb he.length he).length = he.length := by simp [cb]
   obtain ⟨m', I'⟩ := Inv.close (t2 := (x3 P he te tips ⟨te.map (Lv.ren (bm he.length) 3), cb he.length he, s.k⟩).t) I he.length hk1 (by simp) (tips.map fun c => (γ c.i, kb he te c.ys))
     (fun p hp => by
       obtain ⟨c, hc, rfl⟩ := List.mem_map.1 hp
       obtain ⟨e, g1, g2, g3, g4, g5⟩ := F.tp c hc
       have hSi := hSc c.i e g1
       have h1 := J.hb c.i e g1 hSi (fun k ek hk1 hk2 => absurd hk2 (g5 k ek hk1))
       obtain ⟨_, _, _, _, _, _, _, k4, _, _, k7⟩ := hcond c hc
       rw [g4] at h1
       exact ⟨(J.hx c.i e g1 hSi).2, h1, k7, agw (ad4 _ k4)⟩)
     (fun i j p p' hi hj hne => by
       rw [List.getElem?_map] at hi hj
       cases h1 : tips[i]? with
       | none => simp [h1] at hi
       | some c =>
         cases h2 : tips[j]? with
         | none => simp [h2] at hj
         | some c' =>
           simp [h1] at hi; simp [h2] at hj
           subst hi hj
           obtain ⟨e, g1, _, _, _, g5⟩ := F.tp c (List.mem_of_getElem? h1)
           obtain ⟨e', g1', _, _, _, g5'⟩ := F.tp c' (List.mem_of_getElem? h2)
           refine J.hd c.i c'.i e e' g1 g1' (hSc _ e g1) (hSc _ e' g1') (fun k ek hk1 hk2 => absurd hk2 (g5 k ek hk1)) (fun k ek hk1 hk2 => absurd hk2 (g5' k ek hk1)) (fun hcc => ?_)
           have hn := F.nd
           have i1 : (tips.map (·.i))[i]? = some c.i := by rw [List.getElem?_map, h1]; rfl
           have i2 : (tips.map (·.i))[j]? = some c.i := by rw [List.getElem?_map, h2, hcc]; rfl
           have hil := (List.getElem?_eq_some_iff.1 i1).1
           exact hne ((List.getElem?_inj hil hn).1 (i1.trans i2.symm)))
     (by rw [hfh.2.2, List.length_map, htl, bw])
     (fun u hu hu' => by
       have hu2 : u < s.t.length := by simpa [bw] using hu
       have hu3 : u < (⟨te.map (Lv.ren (bm he.length) 3), cb he.length he, s.k⟩ : St).t.length := by simp; omega
       obtain ⟨f1, f2⟩ := hft u hu3
       have gl : ∀ (l : List V) (h : u < l.length), l[u] = l.getD u .undef := fun l h => by simp [List.getD, h]
       rw [gl _ hu, gl _ hu']
       by_cases ht : ∃ (j : Nat) (c : Tip), tips[j]? = some c ∧ c.d = u
       · obtain ⟨j, c, hj, hd⟩ := ht
         obtain ⟨e, g1, g2, g3, g4, _⟩ := F.tp c (List.mem_of_getElem? hj)
         obtain ⟨hi, hz, _⟩ := F.ent c.i e g1
         refine .inr ⟨j, (γ c.i, kb he te c.ys), _, _, by rw [List.getElem?_map, hj]; rfl, ?_, (f1 j c hj hd).trans (by dsimp only; rw [hcl])⟩
         have hone := u4 (ops := ops) s.t (fun i => listed.getD i false) X u c.i hu2 (hSc _ e g1) (by rw [chd _ e g1, g2, hd]) ops.size hi (fun k hk hne hSk => by rw [← hd, ← g2]; exact chn c.i e g1 k hk (hlz k hSk) hne)
         dsimp only
         rw [hone, (J.hx c.i e g1 (hSc _ e g1)).1, g3, g4]
       · have hnt : ∀ c ∈ tips, c.d ≠ u := fun c hc hd => by
           obtain ⟨j, hj, rfl⟩ := List.getElem_of_mem hc
           exact ht ⟨j, tips[j], List.getElem?_eq_getElem hj, hd⟩
         refine .inl ?_
         rw [f2 hnt]
         have hmap : (te.map (Lv.ren (bm he.length) 3)).getD u .undef = Lv.ren (bm he.length) 3 (te.getD u .undef) := by
           simp [List.getD, show u < te.length by omega]
         dsimp only
         rw [hmap]
         by_cases hch : ∃ i e, fe tab i = some e ∧ e.d = u
         · obtain ⟨i, e, hc, hd⟩ := hch
           have h1 : te.getD u .undef = s.t.getD u .undef := by
             rw [hte]
             exact s5 ops s.t xs q u hu2 0 ops.size (Nat.zero_le _) (fun k _ hk hdk => by
               cases hqk : q k with
               | false => rfl
               | true =>
                 exfalso
                 by_cases hki : k = i
                 · subst hki; rw [qn k hqk] at hc; cases hc
                 · exact chn i e hc k hk (qz k hk hqk) hki (by rw [hdk, hd]))
           rw [h1, ← hd, (hund i e hc).2]
           exact .inr (.inl rfl)
         · have h1 : (tS ops s.t X (fun i => listed.getD i false) ops.size).getD u .undef = te.getD u .undef := by
             rw [hte]
             refine hT _ X u ops.size hX hlz (Nat.le_refl _) (fun j e hc _ hd => hch ⟨j, e, hc, hd⟩) (fun j hj hdj => ?_)
             skip
             rw [hsz j hj]
             refine ⟨fun hz => ⟨hj, ?_⟩, fun h => qz j hj h.2⟩
             cases hqj : q j with
             | true => rfl
             | false =>
               obtain ⟨e, hc⟩ := zq j hj hz hqj
               exact absurd ⟨j, e, hc, by have := chd j e hc; rw [hdj] at this; simpa using this.symm⟩ hch
           rw [h1]
           exact .inl rfl)
   rw [show cb he.length (he ++ G) = cb he.length he by simp [cb], List.map_map] at I'
   generalize hF : x3 P he te tips ⟨te.map (Lv.ren (bm he.length) 3), cb he.length he, s.k⟩ = Fs at *
   obtain ⟨t2, h2, k2⟩ := Fs
   dsimp only at hfh I'
   obtain ⟨e1, e2, _⟩ := hfh
   have I2 : Inv w0 m0 h0 av0 ⟨t2, h2, k2⟩ a w m' := by
     rw [e1, e2]
     exact I'
   exact akz D hk ops.size 0 (by omega) fuel listed _ a w m' hl (fun i hi => by rw [hsz i hi]; simp) hf I2 hend
 intro fuel
 induction fuel with
 | zero =>
   intro listed a w m X γ G hl hc hlz hf hX J I
   refine done 0 listed a w m X γ G hl hlz hf hX J I (fun i hi _ => ?_)
   cases hx : listed.getD i false
   · have := yx (listed := listed) hi (by rw [fg (by omega)]; exact hx)
     omega
   · rfl
 | succ fuel ih =>
   intro listed a w m X γ G hl hc hlz hf hX J I
   by_cases hall : ∀ i, i < ops.size → (!(z i) || listed.getD i false) = true
   · exact done (fuel + 1) listed a w m X γ G hl hlz hf hX J I (fun i hi hz => by have := hall i hi; simpa [hz] using this)
   · obtain ⟨k, hkn, hku, hkl⟩ := nk ops.size (fun i => !(z i) || listed.getD i false) hall
     simp only [Bool.or_eq_false_iff, Bool.not_eq_false'] at hku
     obtain ⟨hkz, hku⟩ := hku
     have hkr : k ∈ Region.ready .any ops listed := progress D hkn (by rw [fg (by omega)]; exact hku) (fun j hj hz => by
       have := hkl j hj
       simpa [hz hkz] using this)
     have hset : ∀ i, i < ops.size → ∀ j, (listed.setIfInBounds i true).getD j false = if i = j then true else listed.getD j false := fun i hi j => cd (by omega)
     have common : ∀ i, i ∈ Region.ready .any ops listed → z i = true → i < ops.size ∧ listed.getD i false = false ∧ vu B (listed.setIfInBounds i true) ∧ (∀ j, (listed.setIfInBounds i true).getD j false = true → z j = true) ∧ left ops.size (listed.setIfInBounds i true) ≤ fuel := by
       intro i hr hzi
       obtain ⟨hi, hu⟩ := fj hr
       have hu' : listed.getD i false = false := by rw [← fg (by omega)]; exact hu
       refine ⟨hi, hu', fun i' j hl' hB => ?_, fun j hj => ?_, by have := km hi hl hu; omega⟩
       · rw [hset i hi] at hl' ⊢
         by_cases e : i = j
         · rw [if_pos e]
         · rw [if_neg e]
           by_cases e' : i = i'
           · subst e'
             exact iu D hc hr hB
           · rw [if_neg e'] at hl'
             exact hc i' j hl' hB
       · rw [hset i hi] at hj
         by_cases e : i = j
         · subst e; exact hzi
         · rw [if_neg e] at hj
           exact hlz j hj
     -- one quiet operation, ready
     have main : ∀ i, i ∈ Region.ready .any ops listed → q i = true → z i = true → (∃ hi : i < ops.size, Go2 P ops (hS s.h ns q q i) ops[i] (tS ops s.t X (fun i => listed.getD i false) ops.size) (xs i) (ns i) ∧
         ∀ (v : Value) (w' : World) (m' : Nat → Nat), Inv w0 m0 h0 av0 (({ s with t := tS ops s.t X (fun i => listed.getD i false) ops.size, h := dd (hS s.h ns q (fun i => listed.getD i false) ops.size ++ G) (hS s.h ns q q i).length (ns i) } : St).put ops[i].dst (xs i)) (a.put ops[i].dst v) w' m' →
           wpAny P .any ops Q fuel (listed.setIfInBounds i true) (a.put ops[i].dst v) w') := by
       intro i hr hqi hzi
       obtain ⟨hi, hu', c1, c2, c3⟩ := common i hr hzi
       have hget : ops[i]? = some ops[i] := Array.getElem?_eq_getElem hi
       have hni := qn i hqi
       have hch : ∀ u, (u ∈ ops[i].looksAt ops ∨ ops[i].dst = some u) → ∀ j e, fe tab j = some e → e.d ≠ u := fun u hmem j e hcj hd => by
         subst hd
         obtain ⟨s1, s2⟩ := F.sl j e hcj i ops[i] hget hzi
         rcases hmem with h | h
         · obtain ⟨e', h1, _⟩ := s2 h
           rw [hni] at h1; cases h1
         · refine s1 (fun hij => ?_) h
           subst hij
           rw [hni] at hcj; cases hcj
       have hwr : ∀ u, (u ∈ ops[i].looksAt ops ∨ ops[i].dst = some u) → ∀ j, j < ops.size → dw ops j = some u → (listed.getD j false = true ↔ j < i ∧ q j = true) := by
         intro u hmem j hj hd
         have hqj : z j = true → q j = true := fun hz => by
           cases hq : q j with
           | true => rfl
           | false =>
             obtain ⟨e, hcj⟩ := zq j hj hz hq
             exact absurd (by have := chd j e hcj; rw [hd] at this; simpa using this.symm) (hch u hmem j e hcj)
         by_cases e : j = i
         · subst e; simp [hu']
         · by_cases hzj : z j = true
           · have hgj : ops[j]? = some ops[j] := Array.getElem?_eq_getElem hj
             have hcl : kn ops j i = true := by
               have hd' : ops[j].dst = some u := by simpa [dw, hgj] using hd
               unfold kn
               simp only [hgj, hget, hd']
               rcases hmem with h | h
               · simp [h]
               · simp [h]
             obtain ⟨d1, d2⟩ := D.cl i j hi hj hzi hzj e hcl
             rcases Nat.lt_or_ge j i with h | h
             · exact ⟨fun _ => ⟨h, hqj hzj⟩, fun _ => iu D hc hr (d1 h)⟩
             · refine ⟨fun hx => ?_, fun hx => by omega⟩
               have := hc j i hx (d2 (by omega))
               rw [hu'] at this
               cases this
           · exact ⟨fun hx => absurd (hlz j hx) hzj, fun hx => absurd (qz j hj hx.2) hzj⟩
       have hat : ∀ u, (u ∈ ops[i].looksAt ops ∨ ops[i].dst = some u) → (tS ops s.t xs q i).getD u .undef = (tS ops s.t X (fun i => listed.getD i false) ops.size).getD u .undef :=
         fun u hmem => (hT _ X u i hX hlz (by omega) (fun j e hcj _ => hch u hmem j e hcj) (hwr u hmem)).symm
       have hgo1 := hgo i _ hi hqi hget
       refine ⟨hi, ?_, ?_⟩
       · unfold Go2 at hgo1 ⊢
         refine zt (fun g b hg => ?_) (fun h => zn (fun x hx => y0 fun u hxu => hat u (.inl (fy (hxu ▸ hx)))) h) hgo1
         unfold gv
         cases hd : (ops[g]?).bind (·.dst) with
         | none => rfl
         | some d => exact hat d (.inl (ln hg hd))
       · intro v w' m' I'
         have hfit : ns i = [] ∨ (hS s.h ns q q i).length + (ns i).length ≤ (hS s.h ns q (fun i => listed.getD i false) ops.size).length := by
           cases hn : ns i with
           | nil => exact .inl rfl
           | cons b bs =>
             refine .inr ?_
             have := y4 s.h ns q (fun i => listed.getD i false) hi hqi hu' bs.length (by rw [hn]; simp)
             have := (List.getElem?_eq_some_iff.1 this).1
             simp only [List.length_cons]
             omega
         have hst : ({ s with t := tS ops s.t X (fun i => listed.getD i false) ops.size, h := dd (hS s.h ns q (fun i => listed.getD i false) ops.size ++ G) (hS s.h ns q q i).length (ns i) } : St).put ops[i].dst (xs i) =
             { s with t := tS ops s.t X (fun j => (listed.setIfInBounds i true).getD j false) ops.size, h := hS s.h ns q (fun j => (listed.setIfInBounds i true).getD j false) ops.size ++ G } := by
           rw [put_eq, aeb _ _ _ _ hfit]
           congr 1
           · rw [← dst_at i hi, ← hX i hqi]
             refine alk s.t _ _ X X i (fun _ _ => rfl) hu' (fun j => hset i hi j) (fun u hd j hne hdj hSj => ?_) ops.size hi
             have hj : j < ops.size := by
               unfold dw at hdj
               cases hg : ops[j]? with
               | none => simp [hg] at hdj
               | some o => exact (Array.getElem?_eq_some_iff.1 hg).1
             exact ((hwr u (.inr (by rw [← dst_at i hi]; exact hd)) j hj hdj).1 hSj).1
           · rw [adt s.h ns q _ (fun j => (listed.setIfInBounds i true).getD j false) hi hqi hu' (by rw [hset i hi, if_pos rfl]) (fun j hj => by rw [hset i hi, if_neg (Ne.symm hj)])]
         rw [hst] at I'
         exact ih _ _ w' m' X γ G (by simpa using hl) c1 c2 c3 hX (J.quiet hni (fun j => hset i hi j) (hlenS _) (hlenS _)) I'
     -- one operation of a chain, ready
     have chain : ∀ i e, i ∈ Region.ready .any ops listed → fe tab i = some e → wpOp P ops Q i (wpAny P .any ops Q fuel (listed.setIfInBounds i true)) a w := by
       intro i e hr hce
       obtain ⟨hi, hzi, hqi, o, ho, hd, hgd, hkind⟩ := F.ent i e hce
       obtain ⟨_, hu', c1, c2, c3⟩ := common i hr hzi
       have hlt : ∀ j ej, fe tab j = some ej → listed.getD j false = true → qf tab (fun i => listed.getD i false) j → γ j < (hS s.h ns q (fun i => listed.getD i false) ops.size ++ G).length := fun j ej h1 h2 h3 => dy (J.hb j ej h1 h2 h3)
       have hsub : ∀ j, qf tab (fun j => (listed.setIfInBounds i true).getD j false) j → qf tab (fun j => listed.getD j false) j := fun j hu k' ek g1 g2 => by
         have := hu k' ek g1 g2
         dsimp only at this ⊢
         rw [hset i hi] at this
         split at this
         · cases this
         · exact this
       have hSS : hS s.h ns q (fun j => (listed.setIfInBounds i true).getD j false) ops.size = hS s.h ns q (fun j => listed.getD j false) ops.size :=
         ju s.h ns q ops.size (fun j hj hqj => by
           rw [hset i hi, if_neg (fun h => by subst h; rw [hqi] at hqj; cases hqj)])
       obtain ⟨c, hcm, hty, r, hr'⟩ := F.tip i e hce
       have C : ae7 P he te e.ty e.ys := by
         have := hcond c hcm
         rw [hty, hr'] at this
         exact this.less
       obtain ⟨ee, sz, by_, zs, k1, k2, k3, k4, k5, k6, k7⟩ := C
       have hszO : y8 P e.ty = sz := by simp [y8, k1]
       have next : ∀ (v : Value) (w' : World) (m' : Nat → Nat) (g : Nat) (x : V) (G' : Hp), GI P tab he te (fun j => (listed.setIfInBounds i true).getD j false) (hS s.h ns q (fun j => listed.getD j false) ops.size ++ G') (fun j => if j = i then g else γ j) (fun j => if j = i then x else X j) →
           Inv w0 m0 h0 av0 (({ s with t := tS ops s.t X (fun i => listed.getD i false) ops.size, h := hS s.h ns q (fun i => listed.getD i false) ops.size ++ G' } : St).put (some e.d) x) (a.put (some e.d) v) w' m' →
           wpAny P .any ops Q fuel (listed.setIfInBounds i true) (a.put (some e.d) v) w' := by
         intro v w' m' g x G' J' I'
         have hst : ({ s with t := tS ops s.t X (fun i => listed.getD i false) ops.size, h := hS s.h ns q (fun i => listed.getD i false) ops.size ++ G' } : St).put (some e.d) x =
             { s with t := tS ops s.t (fun j => if j = i then x else X j) (fun j => (listed.setIfInBounds i true).getD j false) ops.size, h := hS s.h ns q (fun j => (listed.setIfInBounds i true).getD j false) ops.size ++ G' } := by
           rw [put_eq, hSS]
           congr 1
           have := alk (ops := ops) s.t (fun i => listed.getD i false) (fun j => (listed.setIfInBounds i true).getD j false) X (fun j => if j = i then x else X j) i (fun j hj => if_neg hj) hu' (fun j => hset i hi j) (fun u hdu j hne hdj hSj => by
             exfalso
             have hj : j < ops.size := by
               unfold dw at hdj
               cases hg : ops[j]? with
               | none => simp [hg] at hdj
               | some o => exact (Array.getElem?_eq_some_iff.1 hg).1
             rw [chd i e hce] at hdu
             exact chn i e hce j hj (hlz j hSj) hne (by rw [hdj, hdu])) ops.size hi
           rw [chd i e hce] at this
           simpa using this
         rw [hst] at I'
         rw [← hSS] at J'
         exact ih _ _ w' m' _ _ G' (by simpa using hl) c1 c2 c3 (fun j hqj => by
           rw [if_neg (fun h => by subst h; rw [hqi] at hqj; cases hqj)]
           exact hX j hqj) J' I'
       have hwant := mn I (show gdA ops (tS ops s.t X (fun i => listed.getD i false) ops.size) o.guard True False by rw [hgd]; trivial)
       have hw1 : Region.wanted o (yielded ops a.tmps) = true := by
         rcases hwant with ⟨h1, _⟩ | ⟨_, h1⟩
         · exact h1
         · exact h1.elim
       unfold wpOp
       simp only [ho]
       rw [if_pos hw1]
       refine .inl ?_
       rcases hkind with ⟨hpv, hys, hop⟩ | ⟨j, y, ej, hpv, hcj, hty', hys, hB, hop, hyw⟩
       · refine aq1 I hd hop k1 k2 (fun v w' m' I1 => ?_)
         dsimp only at I1
         rw [List.append_assoc] at I1
         refine next v w' m' (hS s.h ns q (fun j => listed.getD j false) ops.size ++ G).length _ (G ++ [some []]) ?_ I1
         refine J.step hce (fun j => hset i hi j) (fun j ej hne hcj hSj hun hbj => ?_) ?_ (fun j ej hne hcj hSj hun => ?_) ?_ ?_ ?_
         · rw [← List.append_assoc, List.getElem?_append_left (dy hbj)]
           exact hbj
         · rw [← List.append_assoc, List.getElem?_append_right (Nat.le_refl _), Nat.sub_self, hys]
           rfl
         · have := hlt j ej hcj hSj (hsub j hun)
           omega
         · rw [hys, hszO]; rfl
         · rw [List.length_append, hlenS]; omega
         · rw [hys]; simp [kb, ob]
       · have hSj : listed.getD j false = true := iu D hc hr hB
         have hunj : qf tab (fun i => listed.getD i false) j := fun k' ek g1 g2 => by
           have := F.nx j k' i ek e g1 g2 hce hpv
           subst this
           exact hu'
         have hszj : y8 P ej.ty = sz := by rw [hty', hszO]
         obtain ⟨hj, hzj, _⟩ := F.ent j ej hcj
         have hyT : (tS ops s.t X (fun i => listed.getD i false) ops.size).getD y .undef = te.getD y .undef := by
           rw [hte]
           refine hT _ X y ops.size hX hlz (Nat.le_refl _) (fun l el hcl hSl hdl => ?_) (fun l hl' hdl => ?_)
           · obtain ⟨hl2, hz2, hq2, _⟩ := F.ent l el hcl
             have := (hyw l hl2 hz2 (by rw [chd l el hcl, hdl])).2
             rw [hq2] at this; cases this
           · refine ⟨fun h => ⟨hl', (hyw l hl' (hlz l h) hdl).2⟩, fun h => ?_⟩
             have hzl := qz l hl' h.2
             have hli := (hyw l hl' hzl hdl).1
             have hgl : ops[l]? = some ops[l] := Array.getElem?_eq_getElem hl'
             have hcl : kn ops l i = true := by
               unfold kn
               simp only [hgl, ho]
               have hd' : ops[l].dst = some y := by simpa [dw, hgl] using hdl
               have hm : y ∈ o.looksAt ops := fy (by rw [hop]; simp [Op.operands, Call.operands])
               simp [hd', hm]
             exact iu D hc hr ((D.cl i l hi hl' hzi hzl (by omega) hcl).1 hli)
         have hxT : (tS ops s.t X (fun i => listed.getD i false) ops.size).getD ej.d .undef = .osl (γ j) 0 (ob he te ej.ys) sz := by
           rw [u4 (ops := ops) s.t (fun i => listed.getD i false) X ej.d j (hund j ej hcj).1 hSj (chd j ej hcj) ops.size hj (fun k' hk' hne hSk => chn j ej hcj k' hk' (hlz k' hSk) hne), (J.hx j ej hcj hSj).1, hszj]
         have hsr : ma (hS s.h ns q (fun i => listed.getD i false) ops.size ++ G) sz none ((tS ops s.t X (fun i => listed.getD i false) ops.size).getD y .undef) (fun k ys => k = (l8 he (te.getD y .undef)).1 ∧ ys = (l8 he (te.getD y .undef)).2) := by
           have hrv := I.ev (.tmp y)
           have h1 := k4 y (by rw [hys]; simp)
           rw [← hyT] at h1 ⊢
           exact aoz (hcmpE _ G) hrv h1
         have hsl : (l8 he (te.getD y .undef)).2.length = (l8 he (te.getD y .undef)).1 * sz := by
           have hrv := I.ev (.tmp y)
           have h1 := k4 y (by rw [hys]; simp)
           rw [← hyT] at h1 ⊢
           exact asa (hcmpE _ G) hrv h1
         have hsum : ob he te e.ys = ob he te ej.ys + (l8 he (te.getD y .undef)).1 := by rw [hys, uu]; rfl
         have hcat : kb he te e.ys = kb he te ej.ys ++ (l8 he (te.getD y .undef)).2 := by rw [hys, vo]; simp [kb]
         have hbj := J.hb j ej hcj hSj hunj
         have hlj := J.hl j ej hcj hSj
         rw [hszj] at hlj
         have hxj := (J.hx j ej hcj hSj).2
         refine as0 I hd hop k1 k2 k3 (g := γ j) hxT hbj hlj.symm hsr (by rw [← hsum]; exact k5) (by rw [← hsum]; exact k6) (fun v w' m' g' H' hH I1 => ?_)
         rw [← hsum] at I1
         rw [← hcat] at hH
         have hp6 : (kb he te e.ys).length = ob he te e.ys * y8 P e.ty := by rw [hcat, List.length_append, hlj, hsl, hsum, hszO, Nat.add_mul]
         have hnj : ∀ l el, fe tab l = some el → qf tab (fun j => (listed.setIfInBounds i true).getD j false) l → l ≠ j := fun l el hcl hun hlj => by
           subst hlj
           have := hun i e hce hpv
           dsimp only at this
           rw [hset i hi, if_pos rfl] at this
           cases this
         rcases hH with ⟨rfl, rfl⟩ | ⟨rfl, rfl⟩
         · have hset2 : (hS s.h ns q (fun j => listed.getD j false) ops.size ++ G).set (γ j) (some (kb he te e.ys)) = hS s.h ns q (fun j => listed.getD j false) ops.size ++ G.set (γ j - (hS s.h ns q (fun j => listed.getD j false) ops.size).length) (some (kb he te e.ys)) :=
             List.set_append_right _ _ (by rw [hlenS]; exact hxj)
           dsimp only at I1
           rw [hset2] at I1
           refine next v w' m' (γ j) _ (G.set (γ j - (hS s.h ns q (fun j => listed.getD j false) ops.size).length) (some (kb he te e.ys))) ?_ I1
           rw [← hset2]
           refine J.step hce (fun j => hset i hi j) (fun l el hne hcl hSl hun hbl => ?_) ?_ (fun l el hne hcl hSl hun => ?_) (by rw [hszO]) hxj hp6
           · have := J.hd l j el ej hcl hcj hSl hSj (hsub l hun) hunj (hnj l el hcl hun)
             rw [List.getElem?_set_ne (Ne.symm this)]
             exact hbl
           · rw [List.getElem?_set_self (dy hbj)]
           · exact J.hd l j el ej hcl hcj hSl hSj (hsub l hun) hunj (hnj l el hcl hun)
         · dsimp only at I1
           rw [List.append_assoc] at I1
           refine next v w' m' (hS s.h ns q (fun j => listed.getD j false) ops.size ++ G).length _ (G ++ [some (kb he te e.ys)]) ?_ I1
           refine J.step hce (fun j => hset i hi j) (fun l el hne hcl hSl hun hbl => ?_) ?_ (fun l el hne hcl hSl hun => ?_) (by rw [hszO]) ?_ hp6
           · rw [← List.append_assoc, List.getElem?_append_left (dy hbl)]
             exact hbl
           · rw [← List.append_assoc, List.getElem?_append_right (Nat.le_refl _), Nat.sub_self]
             rfl
           · have := hlt l el hcl hSl (hsub l hun)
             omega
           · rw [List.length_append, hlenS]; omega
     by_cases ht : tk k = true
     · -- the operation goes first
       have hget : ops[k]? = some ops[k] := Array.getElem?_eq_getElem hkn
       obtain ⟨hto, hap⟩ := D.take k _ hget ht
       have hnk : fe tab k = none := by
         cases hck : fe tab k with
         | none => rfl
         | some e =>
           obtain ⟨_, _, _, o, ho, _, _, hkind⟩ := F.ent k e hck
           rw [hget] at ho; simp at ho; subst ho
           rcases hkind with ⟨_, _, hop⟩ | ⟨_, _, _, _, _, _, _, _, hop, _⟩ <;> simp [mg, afx, hop] at hto
       have hqk : q k = true := by rw [F.of k hkn hnk]; exact hkz
       obtain ⟨hi, hg, next⟩ := main k hkr hqk hkz
       obtain ⟨v, hy, hrv, hn⟩ := ai2 I hto hg
       refine wpAny_first hget D.sel (fun c a' w' h => hQp c _ _ w' h) fuel listed a w (fun j oj hj hne hun hno => hap j oj hj hne (fun hB => ?_) hno) hkr hy (next v w m ?_)
       · have := iu D hc hkr hB
         rw [fg (by rw [hl]; exact (Array.getElem?_eq_some_iff.1 hj).1), this] at hun
         cases hun
       · rw [hn]
         exact I.put hrv
     · refine ⟨(fun hr => by rw [hr] at hkr; cases hkr), fun i hr => ?_⟩
       obtain ⟨hi, hu⟩ := fj hr
       have hzi : z i = true := by
         cases hx : z i
         · exfalso
           rcases D.mix i k hi hkn hx hkz with h | h | h
           · have := iu D hc hr h
             rw [hku] at this
             cases this
           · exact ht h
           · cases h
         · rfl
       cases hci : fe tab i with
       | some e => exact chain i e hr hci
       | none =>
         have hqi : q i = true := by rw [F.of i hi hci]; exact hzi
         obtain ⟨_, hg, next⟩ := main i hr hqi hzi
         have hu' : listed.getD i false = false := by rw [← fg (by omega)]; exact hu
         unfold wpOp
         simp only [Array.getElem?_eq_getElem hi]
         unfold Go2 at hg
         rcases mn I hg with ⟨h1, h2⟩ | ⟨h1, h2⟩
         · rw [if_pos h1]
           have hltq : (hS s.h ns q q i).length ≤ (hS s.h ns q (fun i => listed.getD i false) ops.size).length := by
             obtain ⟨Bq, hBq⟩ := ze s.h ns q q i ops.size (by omega)
             rw [vm s.h ns q (fun i => listed.getD i false) q ops.size, hBq q (fun _ _ => rfl)]
             simp
           refine .inl (alp I (fun id cs cs' g1 g2 => ?_) (Nat.le_trans hlen (ajy s.h ns q q i)) (fun j hj => ?_) h2 (fun v w' m' I' => next v w' m' I'))
           · rw [List.getElem?_append_left (Nat.lt_of_lt_of_le (dy g2) hltq)] at g1
             exact yu s.h ns q _ (Nat.le_of_lt hi) id cs cs' g1 g2
           · have := y4 s.h ns q (fun i => listed.getD i false) hi hqi hu' j hj
             dsimp only
             rw [List.getElem?_append_left (dy this)]
             exact this
         · rw [if_neg (by simp [h1])]
           refine next _ w m ?_
           rw [h2.1, h2.2]
           exact I.put .skip
end
end Go.Lv
end
section
namespace Go.Lv

def rk : Op → Bool
 | .buildSlice _ n _ => if n = 0 then true else false
 | _ => false
def qx : Op → Bool
 | .call { callee := .builtin .append, .. } => true
 | _ => false
def hasB : List Oper → Bool
 | [] => false
 | o :: l => rk o.op || hasB l
def an2 : List Oper → Bool
 | [] => false
 | o :: l => qx o.op || an2 l
def ao9 (l : List Oper) : Bool := hasB l && an2 l

def avn (tab : List (Option CE)) (t : List V) : Bool := tab.all fun
 | none => true
 | some e => decide (e.d < t.length)

def br (s s2 : St) : Prop := ∀ (w0 : World) (m0 : Nat → Nat) (h0 : Hp) (av0 : Nat → Prop) (a : Act) (w : World) (m : Nat → Nat), Inv w0 m0 h0 av0 s a w m → ∃ m', Inv w0 m0 h0 av0 s2 a w m'

def chT0 (P : Program) (ops : Array Oper) (s : St) (K : St → Prop) : Prop :=
 ∃ (ql zl : List Bool) (tab : List (Option CE)) (tips : List Tip), ab0 ops ql zl tab tips = true ∧ avn tab s.t = true ∧
   gA P ops (nn ql ops.toList) { s with t := oe tab s.t } fun e => p7 P e.t e.h tips ⟨e.t.map (ren (bm e.h.length) 3), cb e.h.length e.h, e.k⟩ fun s' => fx P ops (nn (zl.map (!·)) ops.toList) s' K

def chT (P : Program) (ops : Array Oper) (s : St) (K : St → Prop) : Prop := ∃ s2, br s s2 ∧ chT0 P ops s2 K
theorem chT.rn {P : Program} {ops : Array Oper} {s s2 : St} {K : St → Prop} (hW : br s s2) (h : chT P ops s2 K) : chT P ops s K := by
 obtain ⟨s3, hW3, h3⟩ := h
 exact ⟨s3, fun w0 m0 h0 av0 a w m I => by obtain ⟨m2, I2⟩ := hW w0 m0 h0 av0 a w m I; exact hW3 w0 m0 h0 av0 a w m2 I2, h3⟩

theorem chT.intro {P : Program} {ops : List Oper} {s : St} {K : St → Prop} (ql zl : List Bool) (tab : List (Option CE)) (tips : List Tip) (h1 : ab0 ops.toArray ql zl tab tips = true) (h2 : avn tab s.t = true)
   (h3 : gA P ops.toArray (nn ql ops) ⟨oe tab s.t, s.h, s.k⟩ fun e => p7 P e.t e.h tips ⟨e.t.map (ren (bm e.h.length) 3), cb e.h.length e.h, e.k⟩ fun s' => fx P ops.toArray (nn (zl.map (!·)) ops) s' K) : chT P ops.toArray s K :=
 ⟨s, fun _ _ _ _ _ _ m I => ⟨m, I⟩, ql, zl, tab, tips, h1, h2, h3⟩

theorem yi : ∀ (tab : List (Option CE)) (t : List V), (oe tab t).length = t.length
 | [], t => rfl
 | none :: l, t => yi l t
 | some e :: l, t => by rw [oe, yi l]; simp

theorem aby : ∀ (tab : List (Option CE)) (t : List V) (u : Nat), (oe tab t).getD u .undef = t.getD u .undef ∨ (oe tab t).getD u .undef = .undef
 | [], t, u => .inl rfl
 | none :: l, t, u => aby l t u
 | some e :: l, t, u => by
   have hs : (t.set e.d .undef).getD u .undef = t.getD u .undef ∨ (t.set e.d .undef).getD u .undef = .undef := by
     simp only [List.getD_eq_getElem?_getD, List.getElem?_set]
     by_cases h : e.d = u
     · subst h; by_cases h2 : e.d < t.length <;> simp [h2]
     · simp [h]
   rw [oe]
   rcases aby l (t.set e.d .undef) u with h | h
   · rcases hs with h' | h'
     · exact .inl (h.trans h')
     · exact .inr (h.trans h')
   · exact .inr h

theorem ag3 : ∀ (tab : List (Option CE)) (t : List V) (e : CE), some e ∈ tab → (oe tab t).getD e.d .undef = .undef
 | [], t, e, h => by simp at h
 | none :: l, t, e, h => ag3 l t e (by simpa using h)
 | some e' :: l, t, e, h => by
   rw [oe]
   rcases List.mem_cons.1 h with h | h
   · simp at h; subst h
     rcases aby l (t.set e.d .undef) e.d with h2 | h2
     · rw [h2]
       simp only [List.getD_eq_getElem?_getD, List.getElem?_set]
       by_cases h3 : e.d < t.length <;> simp [h3]
     · exact h2
   · exact ag3 l _ e h

section
variable {P : Program} {ops : Array Oper} {w0 : World} {m0 : Nat → Nat} {h0 : Hp} {av0 : Nat → Prop}

theorem agi (hm : P.follows .mixedOrders = true) {Q : Exit → Act → World → Prop} {K : St → Prop} (hk : ∀ s' a' w' m', K s' → Inv w0 m0 h0 av0 s' a' w' m' → Q .normal a' w')
   {s : St} {a : Act} {w : World} {m : Nat → Nat} (I : Inv w0 m0 h0 av0 s a w m) (hq0 : chT P ops s K) {id : Nat} : (Code.region id ops true).wp P Q a w := by
 obtain ⟨s2, hW, hq⟩ := hq0
 obtain ⟨m2, I2⟩ := hW _ _ _ _ _ _ _ I
 clear I hW
 revert hq I2
 generalize s2 = s
 generalize m2 = m
 intro hq I
 obtain ⟨ql, zl, tab, tips, h1, h2, h3⟩ := hq
 obtain ⟨D, hql, hzl, F⟩ := ahd h1
 have I0 : Inv w0 m0 h0 av0 { s with t := oe tab s.t } a w m := Inv.le I (yi tab s.t) (fun i hi hi' => by
   have := aby tab s.t i
   simpa [List.getD, hi, hi'] using this)
 obtain ⟨xs, ns, g1, g2⟩ := amb hql h3 ops.size (Nat.le_refl _)
 rw [List.drop_of_length_le (by omega), List.drop_of_length_le (by simp)] at g2
 change p7 _ _ _ _ _ _ at g2
 obtain ⟨g3, g4⟩ := adr _ _ _ g2
 refine wp_mono (Q := fun e a w => e = .normal ∧ Q .normal a w) ?_ (fun e a w h => by rw [h.1]; exact h.2)
 refine wp_region_any hm ?_
 have hz : ∀ i, (Array.replicate ops.size false).getD i false = false := fun i => by simp [Array.getD]
 have hun : ∀ i e, fe tab i = some e → e.d < (oe tab s.t).length ∧ (oe tab s.t).getD e.d .undef = .undef := fun i e he => by
   have hm : some e ∈ tab := by
     unfold fe at he
     cases hx : tab[i]? with
     | none => rw [hx] at he; cases he
     | some x =>
       rw [hx] at he
       simp at he; subst he
       exact List.mem_of_getElem? hx
   refine ⟨?_, ag3 tab s.t e hm⟩
   have := List.all_eq_true.1 h2 (some e) hm
   rw [yi]
   simpa using this
 have hrs : ez ops (fun i => zl.getD i false) 0 = nn (zl.map (!·)) ops.toList := by simpa using tb hzl ops.size 0 (by omega)
 rw [← hrs] at g3
 refine asp (s := { s with t := oe tab s.t }) D F (fun c a a' w h => by cases h.1) (fun s' a' w' m' g1 g2 => ⟨rfl, hk s' a' w' m' g1 g2⟩) I.len I.k rfl rfl (fun i o hi hqi ho => g1 i o hi hqi ho) g4 hun g3 ops.size _ a _ m xs (fun _ => 0) [] (by simp) (fun i j hl => by rw [hz] at hl; cases hl) (fun i hl => by rw [hz] at hl; cases hl) ?_ (fun _ _ => rfl) ?_ ?_
 · unfold left
   exact Nat.le_trans (List.length_filter_le _ _) (by simp)
 · refine ⟨fun i e _ hS => ?_, fun i e _ hS => ?_, fun i j ei ej _ _ hS => ?_, fun i e _ hS => ?_⟩ <;> (rw [hz] at hS; cases hS)
 · have e : tS ops (oe tab s.t) xs (fun i => (Array.replicate ops.size false).getD i false) ops.size = oe tab s.t := by
     rw [ux ops _ xs _ (fun _ => false) ops.size (fun i _ => hz i)]
     have : ∀ q, tS ops (oe tab s.t) xs (fun _ => false) q = oe tab s.t := by
       intro q
       induction q with
       | zero => rfl
       | succ q ih => simpa [tS] using ih
     exact this _
   dsimp only
   rw [e, ju s.h ns (fun i => ql.getD i false) (S' := fun _ => false) ops.size (fun i _ _ => hz i), List.append_nil]
   obtain ⟨k, hk'⟩ := x7 s.h ns (fun i => ql.getD i false) ops.size
   rw [hk']
   exact (I0.world (Ext.drew _ w)).pad k
end
end Go.Lv
end
