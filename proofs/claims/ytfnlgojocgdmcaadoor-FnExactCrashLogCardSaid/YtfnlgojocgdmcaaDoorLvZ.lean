/-
  Chains of appends in a region whose order is drawn: the text's path and what the chains have taken in. Conditions: none.
-/
import Derived.Test.YtfnlgojocgdmcaaDoorLvY
set_option linter.unusedSimpArgs false
set_option linter.unusedVariables false
namespace Go.Lv

section
variable {P : Program} {ops : Array Oper} {w0 : World} {m0 : Nat → Nat} {h0 : Hp} {av0 : Nat → Prop} {s : St} {a : Act} {w : World} {m : Nat → Nat}

theorem pure_yields (I : Inv w0 m0 h0 av0 s a w m) {ht : Hp} {o : Oper} {x0 : V} {n0 : Hp} (hto : pureOp o = true) (hg : Go2 P ops ht o s.t x0 n0) :
    ∃ v, Yields P ops o v a ∧ RV w m s.h (avm av0 m s.h) true v x0 ∧ n0 = [] := by
  unfold Go2 at hg
  rcases gdA_ok I hg with ⟨hw, hg⟩ | ⟨hw, hg⟩
  rotate_left
  · exact ⟨Go.undef, .inr ⟨hw, rfl⟩, by rw [hg.1]; exact .skip, hg.2⟩
  unfold pureOp at hto
  unfold pureK at hto
  split at hto
  · rename_i T u f hop
    rw [hop] at hg
    obtain ⟨v, y, ⟨rfl, h2⟩, h3, h4⟩ := take_ok (P := P) (I.ev (.tmp u)) (K := fun y => y = x0 ∧ [] = n0) hg
    refine ⟨v, .inl ⟨hw, fun w' => ?_⟩, h3, h2.symm⟩
    have := h4 w'
    skip
    obtain ⟨dst, op, ty, pos, after, guard⟩ := o
    subst hop
    simp [execOp, this]
  · rename_i T u1 u2 hop
    rw [hop] at hg
    obtain ⟨kd, n, e1, _, hg⟩ := at_int (I.ev (.tmp u2)) (K := fun _ n => indexAddrV P T (ev s.t (.tmp u1)) n fun y => y = x0 ∧ [] = n0) hg
    obtain ⟨v, y, ⟨rfl, h2⟩, h3, h4⟩ := takeI_ok (P := P) (t := T) (I.ev (.tmp u1)) e1 hg
    refine ⟨v, .inl ⟨hw, fun w' => ?_⟩, h3, h2.symm⟩
    have := h4 w'
    skip
    obtain ⟨dst, op, ty, pos, after, guard⟩ := o
    subst hop
    simp [execOp, this]
  · rename_i u hop
    rw [hop] at hg
    obtain ⟨e1, h2⟩ : ev s.t (.tmp u) = x0 ∧ [] = n0 := hg
    refine ⟨a.eval (.tmp u), .inl ⟨hw, fun w' => ?_⟩, ?_, h2.symm⟩
    · skip
      obtain ⟨dst, op, ty, pos, after, guard⟩ := o
      subst hop
      simp [execOp]
    · have := I.ev (.tmp u)
      rw [e1] at this
      exact this
  · rename_i u x1 x2 hop
    rw [hop] at hg
    obtain ⟨b, e1, _, e2, h2⟩ := at_bool (I.ev (.tmp u)) (K := fun b => (if b then ev s.t x1 else ev s.t x2) = x0 ∧ [] = n0) hg
    refine ⟨if b then a.eval x1 else a.eval x2, .inl ⟨hw, fun w' => ?_⟩, ?_, h2.symm⟩
    · skip
      obtain ⟨dst, op, ty, pos, after, guard⟩ := o
      subst hop
      cases b <;> simp [execOp, e1, asBool]
    · rw [← e2]
      cases b
      · exact I.ev x2
      · exact I.ev x1
  · rename_i bop T x1 x2 t' hop
    rw [hop] at hg
    obtain ⟨z, ⟨e1, h2⟩, hl, h4⟩ := bin_all (P := P) (t := T) (K := fun y => y = x0 ∧ [] = n0) (I.ev x1) (I.ev x2) hg
    refine ⟨litV z, .inl ⟨hw, fun w' => ?_⟩, by rw [← e1]; exact lit_rv hl, h2.symm⟩
    have := h4 w' x1 x2
    skip
    obtain ⟨dst, op, ty, pos, after, guard⟩ := o
    subst hop
    simp only [execOp]
    rw [Sem.run_bind, this]
    rfl
  · rename_i u j hop
    rw [hop] at hg
    change atTup (ev s.t (.tmp u)) j (fun y => y = x0 ∧ [] = n0) at hg
    have hx := I.ev (.tmp u)
    generalize hue : a.eval (.tmp u) = uv at hx
    generalize ev s.t (.tmp u) = xv at hx hg
    cases hx with
    | tup ar vs ha hra =>
      unfold atTup at hg
      dsimp only at hg
      split at hg
      · rename_i v hv
        have hlt : j < vs.length := (List.getElem?_eq_some_iff.1 hv).1
        have hr := hra j hlt
        rw [(List.getElem?_eq_some_iff.1 hv).2] at hr
        have hlt' : j < ar.size := by omega
        refine ⟨ar.getD j Go.undef, .inl ⟨hw, fun w' => ?_⟩, by rw [← hg.1]; exact hr, hg.2.symm⟩
        skip
        obtain ⟨dst, op, ty, pos, after, guard⟩ := o
        subst hop
        simp [execOp, hue, Instr.extract, Array.getD, hlt']
      · exact hg.elim
    | _ => exact hg.elim
  · rename_i T x hop
    rw [hop] at hg
    obtain ⟨b, e1, _, e2, h2⟩ := at_bool (I.ev x) (K := fun b => V.bool (!b) = x0 ∧ [] = n0) hg
    refine ⟨.bool (!b), .inl ⟨hw, fun w' => ?_⟩, by rw [← e2]; exact .bool _, h2.symm⟩
    skip
    obtain ⟨dst, op, ty, pos, after, guard⟩ := o
    subst hop
    simp [execOp, Op.unary, e1]
  · rename_i u hop
    rw [hop] at hg
    have hnil : nilV (ev s.t (.tmp u)) (fun y => y = x0 ∧ [] = n0) := hg
    have hx := I.ev (.tmp u)
    refine ⟨a.eval (.tmp u), .inl ⟨hw, fun w' => ?_⟩, ?_, ?_⟩
    · obtain ⟨dst, op, ty, pos, after, guard⟩ := o
      subst hop
      generalize hue : a.eval (.tmp u) = uv at hx
      generalize ev s.t (.tmp u) = xv at hx hnil
      cases hx with
      | ptr id off cs hid => simp [execOp, hue]
      | pt b off cs vals ha hv hr => simp [execOp, hue]
      | fn f a1 c1 a' c' ha hc hra hrc =>
        cases f with
        | func f => simp [execOp, hue]
        | _ => exact False.elim hnil
      | _ => exact False.elim hnil
    · have he : ev s.t (.tmp u) = x0 := by
        unfold nilV at hnil
        split at hnil <;> first | (rename_i hh; rw [hh]; exact hnil.1) | exact hnil.1 | exact hnil.elim
      rw [he] at hx
      exact hx
    · unfold nilV at hnil
      split at hnil <;> first | exact hnil.2.symm | exact hnil.elim
  · cases hto

def srcF (h : Hp) (v : V) : Nat × List V :=
  match v with
  | .sl n _ cs => (n, cs)
  | .osl id off n w => match h[id]? with
    | some (some cs) => (n, (cs.drop off).take (n * w))
    | _ => (0, [])
  | _ => (0, [])

theorem srcV_F {h : Hp} {sz : Nat} {no : Option Nat} {v : V} {K : Nat → List V → Prop} (hq : srcV h sz no v K) : K (srcF h v).1 (srcF h v).2 ∧ srcV h sz no v (fun k ys => k = (srcF h v).1 ∧ ys = (srcF h v).2) := by
  cases v with
  | sl n wd cs => exact ⟨hq.2.2, hq.1, hq.2.1, rfl, rfl⟩
  | osl id off n wd =>
    unfold srcV at *
    dsimp only at *
    obtain ⟨h1, hq⟩ := hq
    cases hh : h[id]? with
    | none => rw [hh] at hq; exact hq.elim
    | some b =>
      rw [hh] at hq
      cases b with
      | none => exact hq.elim
      | some cs =>
        dsimp only at hq
        obtain ⟨rfl, h2, h3⟩ := hq
        simp only [srcF, hh]
        exact ⟨h3, h1, trivial, h2, trivial, trivial⟩
  | nilsl => exact ⟨hq, rfl, rfl⟩
  | _ => exact hq.elim

theorem srcV_cells {h : Hp} {sz : Nat} {no : Option Nat} {v : V} {K : Nat → List V → Prop} (hq : srcV h sz no v K) : (srcF h v).2.all isCell = true := by
  cases v with
  | sl n wd cs => exact hq.2.1
  | osl id off n wd =>
    unfold srcV at hq
    dsimp only at hq
    obtain ⟨h1, hq⟩ := hq
    cases hh : h[id]? with
    | none => simp [srcF, hh]
    | some b =>
      rw [hh] at hq
      cases b with
      | none => simp [srcF, hh]
      | some cs =>
        dsimp only at hq
        obtain ⟨rfl, h2, h3⟩ := hq
        simp only [srcF, hh]
        exact h2
  | _ => rfl

def sumN (h : Hp) (t : List V) : List Tmp → Nat
  | [] => 0
  | y :: l => (srcF h (t.getD y .undef)).1 + sumN h t l
def catC (h : Hp) (t : List V) : List Tmp → List V
  | [] => []
  | y :: l => (srcF h (t.getD y .undef)).2 ++ catC h t l

theorem sumN_append (h : Hp) (t : List V) : ∀ (l r : List Tmp), sumN h t (l ++ r) = sumN h t l + sumN h t r
  | [], r => by simp [sumN]
  | y :: l, r => by simp only [List.cons_append, sumN, sumN_append h t l r]; omega
theorem catC_append (h : Hp) (t : List V) : ∀ (l r : List Tmp), catC h t (l ++ r) = catC h t l ++ catC h t r
  | [], r => by simp [catC]
  | y :: l, r => by simp only [List.cons_append, catC, catC_append h t l r, List.append_assoc]

theorem srcsV_F {h : Hp} {t : List V} {sz : Nat} : ∀ (l : List Tmp) (n : Nat) (cs : List V) (K : Nat → List V → Prop), srcsV h sz (l.map fun y => t.getD y .undef) n cs K → K (n + sumN h t l) (cs ++ catC h t l) ∧
    ∀ y ∈ l, srcV h sz none (t.getD y .undef) (fun k ys => k = (srcF h (t.getD y .undef)).1 ∧ ys = (srcF h (t.getD y .undef)).2)
  | [], n, cs, K, hq => ⟨by simpa [sumN, catC, srcsV] using hq, fun y hy => by simp at hy⟩
  | y :: l, n, cs, K, hq => by
    simp only [List.map_cons, srcsV] at hq
    obtain ⟨h1, h2⟩ := srcV_F hq
    obtain ⟨h3, h4⟩ := srcsV_F l _ _ K h1
    refine ⟨by simpa [sumN, catC, Nat.add_assoc] using h3, fun y' hy => ?_⟩
    rcases List.mem_cons.1 hy with rfl | hy
    · exact h2
    · exact h4 y' hy

def szOf (P : Program) (ty : TypeId) : Nat :=
  match elOf P ty with
  | some (_, sz, _) => sz
  | none => 0

def CondT (P : Program) (h : Hp) (t : List V) (ty : TypeId) (ys : List Tmp) : Prop :=
  ∃ e sz by_ zs, elOf P ty = some (e, sz, by_) ∧ zeroOf P e = some zs ∧ zs.length = sz ∧
    (∀ y ∈ ys, srcV h sz none (t.getD y .undef) (fun k xs => k = (srcF h (t.getD y .undef)).1 ∧ xs = (srcF h (t.getD y .undef)).2)) ∧
    sumN h t ys * by_ ≤ 140737488355328 ∧ sumN h t ys ≤ 4611686018427387904 ∧ (catC h t ys).all (noOwn 2) = true

theorem catC_cells {h : Hp} {t : List V} {sz : Nat} : ∀ (ys : List Tmp), (∀ y ∈ ys, srcV h sz none (t.getD y .undef) (fun k xs => k = (srcF h (t.getD y .undef)).1 ∧ xs = (srcF h (t.getD y .undef)).2)) → (catC h t ys).all isCell = true
  | [], _ => rfl
  | y :: l, hh => by
    simp only [catC, List.all_append, Bool.and_eq_true]
    exact ⟨srcV_cells (hh y (by simp)), catC_cells l fun y' hy => hh y' (by simp [hy])⟩

theorem isMb_ofCells {cs : List V} (hc : cs.all isCell = true) : isMb cs = false := by
  match cs, hc with
  | [], _ => rfl
  | [x], hc => cases x <;> first | rfl | (simp [isCell] at hc; done)
  | _ :: _ :: _, _ => rfl

def finS (P : Program) (h : Hp) (t : List V) : List Tip → St → St
  | [], s => s
  | c :: l, s => finS P h t l { s with t := s.t.set c.d (.osl s.h.length 0 (sumN h t c.ys) (szOf P c.ty)), h := s.h ++ [some (catC h t c.ys)] }

theorem closeA_out {t : List V} {h : Hp} : ∀ (tips : List Tip) (s : St) (K : St → Prop), closeA P t h tips s K → K (finS P h t tips s) ∧ ∀ c ∈ tips, CondT P h t c.ty c.ys
  | [], s, K, hq => ⟨hq, fun c hc => by simp at hc⟩
  | c :: l, s, K, hq => by
    unfold closeA at hq
    split at hq
    · rename_i e sz by_ he
      split at hq
      · rename_i zs hz
        obtain ⟨h1, hq⟩ := hq
        obtain ⟨h2, h3⟩ := srcsV_F _ _ _ _ hq
        simp only [Nat.zero_add, List.nil_append] at h2
        obtain ⟨⟨h4, h5, h6⟩, h7⟩ := h2
        obtain ⟨h8, h9⟩ := closeA_out l _ K h7
        refine ⟨?_, fun c' hc => ?_⟩
        · unfold finS
          rw [show szOf P c.ty = sz by simp [szOf, he]]
          exact h8
        · rcases List.mem_cons.1 hc with rfl | hc
          · exact ⟨e, sz, by_, zs, he, hz, h1, h3, h4, h5, h6⟩
          · exact h9 c' hc
      · exact hq.elim
    · exact hq.elim

theorem finS_h {t : List V} {h : Hp} : ∀ (tips : List Tip) (s : St), (finS P h t tips s).h = s.h ++ (tips.map fun c => some (catC h t c.ys)) ∧ (finS P h t tips s).k = s.k ∧ (finS P h t tips s).t.length = s.t.length
  | [], s => ⟨by simp [finS], rfl, rfl⟩
  | c :: l, s => by
    unfold finS
    obtain ⟨h1, h2, h3⟩ := finS_h l { s with t := s.t.set c.d (.osl s.h.length 0 (sumN h t c.ys) (szOf P c.ty)), h := s.h ++ [some (catC h t c.ys)] }
    exact ⟨by rw [h1]; simp, h2, by rw [h3]; simp⟩

theorem finS_t {t : List V} {h : Hp} : ∀ (tips : List Tip) (s : St), (tips.map (·.d)).Nodup → ∀ u, u < s.t.length →
    (∀ j c, tips[j]? = some c → c.d = u → (finS P h t tips s).t.getD u .undef = .osl (s.h.length + j) 0 (sumN h t c.ys) (szOf P c.ty)) ∧ ((∀ c ∈ tips, c.d ≠ u) → (finS P h t tips s).t.getD u .undef = s.t.getD u .undef)
  | [], s, _, u, hu => ⟨fun j c hj => by simp at hj, fun _ => rfl⟩
  | c :: l, s, hnd, u, hu => by
    unfold finS
    simp only [List.map_cons, List.nodup_cons] at hnd
    obtain ⟨h1, h2⟩ := finS_t (t := t) (h := h) l { s with t := s.t.set c.d (.osl s.h.length 0 (sumN h t c.ys) (szOf P c.ty)), h := s.h ++ [some (catC h t c.ys)] } hnd.2 u (by simpa using hu)
    have hset : ∀ (x : V), (s.t.set c.d x).getD u .undef = if c.d = u then x else s.t.getD u .undef := fun x => by
      simp only [List.getD_eq_getElem?_getD, List.getElem?_set]
      by_cases e : c.d = u
      · subst e; simp [hu]
      · simp [e]
    refine ⟨fun j c' hj hc => ?_, fun hn => ?_⟩
    · cases j with
      | zero =>
        simp at hj; subst hj
        rw [h2 (fun c' hc' e => hnd.1 (List.mem_map.2 ⟨c', hc', by rw [e, hc]⟩)), hset, if_pos hc]
        rfl
      | succ j =>
        rw [h1 j c' (by simpa using hj) hc]
        simp only [List.length_append, List.length_singleton]
        congr 1
        omega
    · rw [h2 (fun c' hc' => hn c' (by simp [hc'])), hset, if_neg (hn c (by simp))]

/-- The text's path. -/
theorem gA_path {ql : List Bool} (hl : ql.length = ops.size) {s : St} {K : St → Prop} (hq : gA P ops (selB ql ops.toList) s K) : ∀ k, k ≤ ops.size → ∃ (xs : Nat → V) (ns : Nat → Hp),
    (∀ i o, i < k → ql.getD i false = true → ops[i]? = some o → Go2 P ops (hS s.h ns (fun i => ql.getD i false) (fun i => ql.getD i false) i) o (tS ops s.t xs (fun i => ql.getD i false) i) (xs i) (ns i)) ∧
    gA P ops (selB (ql.drop k) (ops.toList.drop k)) { s with t := tS ops s.t xs (fun i => ql.getD i false) k, h := hS s.h ns (fun i => ql.getD i false) (fun i => ql.getD i false) k } K
  | 0, _ => ⟨fun _ => .undef, fun _ => [], fun i o hi => absurd hi (by omega), by simpa [tS, hS] using hq⟩
  | k + 1, hk => by
    obtain ⟨xs, ns, h1, h2⟩ := gA_path hl hq k (by omega)
    have hlt : k < ops.size := by omega
    have hget : ops[k]? = some ops[k] := Array.getElem?_eq_getElem hlt
    have hdrop : ops.toList.drop k = ops[k] :: ops.toList.drop (k + 1) := by
      rw [List.drop_eq_getElem_cons (by simpa using hlt)]
      simp
    have hdq : ql.drop k = (ql.getD k false) :: ql.drop (k + 1) := by
      rw [List.drop_eq_getElem_cons (by omega)]
      simp [List.getD, List.getElem?_eq_getElem (show k < ql.length by omega)]
    rw [hdrop, hdq] at h2
    cases hz : ql.getD k false with
    | true =>
      rw [hz] at h2
      simp only [selB] at h2
      unfold gA at h2
      have h2' : gdA ops (tS ops s.t xs (fun i => ql.getD i false) k) ops[k].guard (gop P (hS s.h ns (fun i => ql.getD i false) (fun i => ql.getD i false) k) (ev (tS ops s.t xs (fun i => ql.getD i false) k)) ops[k].op fun v n =>
          gA P ops (selB (ql.drop (k + 1)) (ops.toList.drop (k + 1))) (({ s with t := tS ops s.t xs (fun i => ql.getD i false) k, h := hS s.h ns (fun i => ql.getD i false) (fun i => ql.getD i false) k ++ n } : St).put ops[k].dst v) K)
          (gA P ops (selB (ql.drop (k + 1)) (ops.toList.drop (k + 1))) (({ s with t := tS ops s.t xs (fun i => ql.getD i false) k, h := hS s.h ns (fun i => ql.getD i false) (fun i => ql.getD i false) k ++ [] } : St).put ops[k].dst .skip) K) := by
        rw [List.append_nil]; exact h2
      obtain ⟨x, n, h3, h4⟩ := gdA_det (gop_det P (hS s.h ns (fun i => ql.getD i false) (fun i => ql.getD i false) k) (ev (tS ops s.t xs (fun i => ql.getD i false) k)) ops[k].op)
        (K := fun v n => gA P ops (selB (ql.drop (k + 1)) (ops.toList.drop (k + 1))) (({ s with t := tS ops s.t xs (fun i => ql.getD i false) k, h := hS s.h ns (fun i => ql.getD i false) (fun i => ql.getD i false) k ++ n } : St).put ops[k].dst v) K) h2'
      have agree : ∀ i, i ≤ k → tS ops s.t (fun j => if j = k then x else xs j) (fun i => ql.getD i false) i = tS ops s.t xs (fun i => ql.getD i false) i := by
        intro i
        induction i with
        | zero => intro _; rfl
        | succ i ih =>
          intro hi
          simp only [tS]
          rw [ih (by omega)]
          simp only [if_neg (show ¬ i = k by omega)]
      have agreeH : ∀ i, i ≤ k → hS s.h (fun j => if j = k then n else ns j) (fun i => ql.getD i false) (fun i => ql.getD i false) i = hS s.h ns (fun i => ql.getD i false) (fun i => ql.getD i false) i := by
        intro i
        induction i with
        | zero => intro _; rfl
        | succ i ih =>
          intro hi
          simp only [hS]
          rw [ih (by omega)]
          simp only [if_neg (show ¬ i = k by omega)]
      refine ⟨fun j => if j = k then x else xs j, fun j => if j = k then n else ns j, fun i o hi zi ho => ?_, ?_⟩
      · rw [agree i (by omega), agreeH i (by omega)]
        by_cases e : i = k
        · subst e
          rw [hget] at ho; simp at ho; subst ho
          simp only [if_true]
          exact h4
        · simp only [if_neg e]
          exact h1 i o (by omega) zi ho
      · have e1 : tS ops s.t (fun j => if j = k then x else xs j) (fun i => ql.getD i false) (k + 1) = setd (tS ops s.t xs (fun i => ql.getD i false) k) ops[k].dst x := by
          simp only [tS]
          rw [agree k (Nat.le_refl _), hz]
          simp [dstOf, hget]
        have e2 : hS s.h (fun j => if j = k then n else ns j) (fun i => ql.getD i false) (fun i => ql.getD i false) (k + 1) = hS s.h ns (fun i => ql.getD i false) (fun i => ql.getD i false) k ++ n := by
          simp only [hS]
          rw [agreeH k (Nat.le_refl _), hz]
          simp
        rw [e1, e2]
        rw [put_eq] at h3
        exact h3
    | false =>
      rw [hz] at h2
      simp only [selB] at h2
      refine ⟨xs, ns, fun i o hi zi ho => ?_, ?_⟩
      · by_cases e : i = k
        · subst e; rw [hz] at zi; cases zi
        · exact h1 i o (by omega) zi ho
      · simp only [tS, hS, hz]
        exact h2

theorem restFrom_sel {zl : List Bool} (hl : zl.length = ops.size) : ∀ (d k : Nat), k + d = ops.size → restFrom ops (fun i => zl.getD i false) k = selB ((zl.map (!·)).drop k) (ops.toList.drop k)
  | 0, k, hk => by
    have : restFrom ops (fun i => zl.getD i false) k = [] := by unfold restFrom; rw [List.drop_of_length_le (by simp; omega)]; rfl
    rw [this, List.drop_of_length_le (by simp; omega)]
    rfl
  | d + 1, k, hk => by
    have hlt : k < ops.size := by omega
    rw [restFrom_cons hlt, restFrom_sel hl d (k + 1) (by omega)]
    have hdrop : ops.toList.drop k = ops[k] :: ops.toList.drop (k + 1) := by
      rw [List.drop_eq_getElem_cons (by simpa using hlt)]
      simp
    have hdq : (zl.map (!·)).drop k = (!(zl.getD k false)) :: (zl.map (!·)).drop (k + 1) := by
      rw [List.drop_eq_getElem_cons (by simp; omega)]
      simp [List.getD, List.getElem?_eq_getElem (show k < zl.length by omega)]
    rw [hdrop, hdq]
    cases zl.getD k false <;> simp [selB]

end
end Go.Lv
