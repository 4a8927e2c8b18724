/-
  The rules by which code is taken apart, and the ways to say less of a state. Conditions: none.
-/
import Derived.Test.YtfnlgojocgdmcaaDoorLvO
set_option linter.unusedSimpArgs false
set_option linter.unusedVariables false
namespace Go.Lv

/-- A mark that keeps the simplifier from looking into what it names. -/
structure Tag {α : Type} (a : α) : Type where
  mk ::

/-- A test's two ways. -/
def condT (t : Bool) (A B : Prop) (_ : Tag A) (_ : Tag B) : Prop := (t = true → A) ∧ (t = false → B)
@[go_sem] theorem condT_true {A B : Prop} {x : Tag A} {y : Tag B} : condT true A B x y = A := by simp [condT]
@[go_sem] theorem condT_false {A B : Prop} {x : Tag A} {y : Tag B} : condT false A B x y = B := by simp [condT]
theorem condT.split {t : Bool} {A B : Prop} {x : Tag A} {y : Tag B} (h1 : t = true → A) (h2 : t = false → B) : condT t A B x y := ⟨h1, h2⟩

def guardT (want : Bool) (g : V) (A B : Prop) (_ : Tag A) (_ : Tag B) : Prop := guardA want g A B
@[go_sem] theorem guardT_tt {A B : Prop} {x : Tag A} {y : Tag B} : guardT true (.bool true) A B x y = A := by simp [guardT, guardA]
@[go_sem] theorem guardT_tf {A B : Prop} {x : Tag A} {y : Tag B} : guardT true (.bool false) A B x y = B := by simp [guardT, guardA]
@[go_sem] theorem guardT_ft {A B : Prop} {x : Tag A} {y : Tag B} : guardT false (.bool true) A B x y = B := by simp [guardT, guardA]
@[go_sem] theorem guardT_ff {A B : Prop} {x : Tag A} {y : Tag B} : guardT false (.bool false) A B x y = A := by simp [guardT, guardA]
@[go_sem] theorem guardT_skip {want : Bool} {A B : Prop} {x : Tag A} {y : Tag B} : guardT want .skip A B x y = B := rfl
theorem guardT.splitT {b : Bool} {A B : Prop} {x : Tag A} {y : Tag B} (h1 : b = true → A) (h2 : b = false → B) : guardT true (.bool b) A B x y := ⟨h1, h2⟩
theorem guardT.splitF {b : Bool} {A B : Prop} {x : Tag A} {y : Tag B} (h1 : b = false → A) (h2 : b = true → B) : guardT false (.bool b) A B x y := ⟨h1, h2⟩
theorem guardT.split {want b : Bool} {A B : Prop} {x : Tag A} {y : Tag B} (h1 : b = want → A) (h2 : b = !want → B) : guardT want (.bool b) A B x y := ⟨h1, h2⟩

def callT (P : Program) (h : Hp) (fv : V) (args : List V) (K : V → Hp → Prop) (_ : Tag K) : Prop := (refOk h 4 fv = true ∧ args.all (refOk h 3) = true) ∧ callA P h fv args K
def callS (P : Program) (s : St) (dst : Option Tmp) (fv : V) (args : List V) (K : St → Prop) (_ : Tag K) : Prop := callA P s.h fv args (fun r hout => K (afterCall s dst r hout)) ∨ callM P s dst fv args K ∨ callK P s dst fv args K ∨ callR P s dst fv args K
def LoopT (W : (Exit → St → Prop) → St → Prop) (Q : Exit → St → Prop) (s : St) (_ : Tag W) (_ : Tag Q) : Prop := LoopA W Q s

@[congr] theorem wpA_congr {P : Program} {c : Code} {Q : Exit → St → Prop} {s s' : St} (h : s = s') : wpA P c Q s = wpA P c Q s' := by rw [h]
@[congr] theorem fopsA_congr {P : Program} {ops : Array Oper} {l : List Oper} {s s' : St} {K : St → Prop} (h : s = s') : fopsA P ops l s K = fopsA P ops l s' K := by rw [h]
/-- A drawn region's operations; R: what has been put off, the last one first. -/
def dG (P : Program) (ops : Array Oper) (l : List Oper) (b : Nat) (R : List Oper) (s : St) (K : St → Prop) : Prop := dopsG P ops l b R.reverse s K
def fR (P : Program) (ops : Array Oper) (R acc : List Oper) (s : St) (K : St → Prop) : Prop := fopsA P ops (R.reverse ++ acc) s K
@[congr] theorem dG_congr {P : Program} {ops : Array Oper} {l R : List Oper} {b b' : Nat} {s s' : St} {K : St → Prop} (hb : b = b') (h : s = s') : dG P ops l b R s K = dG P ops l b' R s' K := by rw [hb, h]
@[congr] theorem fR_congr {P : Program} {ops : Array Oper} {l R : List Oper} {s s' : St} {K : St → Prop} (h : s = s') : fR P ops l R s K = fR P ops l R s' K := by rw [h]
@[congr] theorem gA_congr {P : Program} {ops : Array Oper} {l l' : List Oper} {s s' : St} {K : St → Prop} (hl : l = l') (h : s = s') : gA P ops l s K = gA P ops l' s' K := by rw [hl, h]
/-- An operation by its place in the text. -/
def stepL (P : Program) (ops : Array Oper) : List Oper → Nat → St → (St → Prop) → Prop
  | [], _, _, _ => False
  | o :: _, 0, s, K => gdA ops s.t o.guard (fop P s o K) (K (s.put o.dst .skip))
  | _ :: l, i + 1, s, K => stepL P ops l i s K
theorem stepL_eq {P : Program} {ops : Array Oper} : ∀ (l : List Oper) (i : Nat) (s : St) (K : St → Prop), stepL P ops l i s K = (match l[i]? with | some o => gdA ops s.t o.guard (fop P s o K) (K (s.put o.dst .skip)) | none => False)
  | [], _, _, _ => rfl
  | _ :: _, 0, _, _ => rfl
  | _ :: l, i + 1, s, K => stepL_eq l i s K
theorem stepA_eq {P : Program} {l : List Oper} {i : Nat} {s : St} {K : St → Prop} : stepA P l.toArray i s K = stepL P l.toArray l i s K := by
  rw [stepL_eq]
  unfold stepA
  simp only [List.getElem?_toArray]
  cases l[i]? <;> rfl
/-- A drawn region with late stores, by their path or by the tree of orders. -/
def lateT (P : Program) (ops : Array Oper) (s : St) (K : St → Prop) : Prop := ltT P ops s K ∨ trT P ops s K
theorem lateT.path {P : Program} {ops : List Oper} {s : St} {K : St → Prop} (zl fl : List Bool) (p : Nat) (ids : List Nat) (h1 : lateOk ops.toArray zl fl p = true)
    (h2 : gF P ops.toArray ids (selF zl fl ops) s fun e => lateA P ops.toArray ids p (selB (zl.map (!·)) ops) e K) : lateT P ops.toArray s K := .inl (ltT.intro zl fl p ids h1 h2)
theorem lateT.tree {P : Program} {ops : List Oper} {s : St} {K : St → Prop} (tr : Tr) (h1 : (Region.noSelect ops.toArray && trOk ops.toArray tr (Array.replicate ops.toArray.size false) true) = true) (h2 : trA P ops.toArray tr s K) : lateT P ops.toArray s K := .inr (trT.intro tr h1 h2)
@[congr] theorem lateT_congr {P : Program} {ops : Array Oper} {s s' : St} {K : St → Prop} (h : s = s') : lateT P ops s K = lateT P ops s' K := by rw [h]
@[congr] theorem gF_congr {P : Program} {ops : Array Oper} {ids : List Nat} {l l' : List (Bool × Oper)} {s s' : St} {K : St → Prop} (hl : l = l') (h : s = s') : gF P ops ids l s K = gF P ops ids l' s' K := by rw [hl, h]
@[congr] theorem lateA_congr {P : Program} {ops : Array Oper} {ids : List Nat} {p p' : Nat} {l l' : List Oper} {s s' : St} {K : St → Prop} (hp : p = p') (hl : l = l') (h : s = s') : lateA P ops ids p l s K = lateA P ops ids p' l' s' K := by rw [hp, hl, h]
@[congr] theorem trA_congr {P : Program} {ops : Array Oper} {t : Tr} {s s' : St} {K : St → Prop} (h : s = s') : trA P ops t s K = trA P ops t s' K := by rw [h]
@[congr] theorem chT_congr {P : Program} {ops : Array Oper} {s s' : St} {K : St → Prop} (h : s = s') : chT P ops s K = chT P ops s' K := by rw [h]
@[congr] theorem closeA_congr {P : Program} {t t' : List V} {h h' : Hp} {l : List Tip} {s s' : St} {K : St → Prop} (h1 : t = t') (h2 : h = h') (h3 : s = s') : closeA P t h l s K = closeA P t' h' l s' K := by rw [h1, h2, h3]
@[congr] theorem srcsV_congr {h h' : Hp} {sz n n' : Nat} {l l' : List V} {cs cs' : List V} {K : Nat → List V → Prop} (h1 : h = h') (h2 : l = l') (h3 : n = n') (h4 : cs = cs') : srcsV h sz l n cs K = srcsV h' sz l' n' cs' K := by rw [h1, h2, h3, h4]
@[congr] theorem exThen_congr {n : St → Prop} {Q : Exit → St → Prop} {e : Exit} {s s' : St} (h : s = s') : exThen n Q e s = exThen n Q e s' := by rw [h]
@[congr] theorem exBlock_congr {i : Nat} {Q : Exit → St → Prop} {e : Exit} {s s' : St} (h : s = s') : exBlock i Q e s = exBlock i Q e s' := by rw [h]


@[congr] theorem fop_congr {P : Program} {o : Oper} {s s' : St} {K : St → Prop} (h : s = s') : fop P s o K = fop P s' o K := by rw [h]
@[congr] theorem loadV_congr {P : Program} {t : Nat} {h h' : Hp} {x x' : V} {K : V → Prop} (h1 : h = h') (h2 : x = x') : loadV P h t x K = loadV P h' t x' K := by rw [h1, h2]
@[congr] theorem fieldAddrV_congr {P : Program} {t f : Nat} {x x' : V} {K : V → Prop} (h2 : x = x') : fieldAddrV P t f x K = fieldAddrV P t f x' K := by rw [h2]
@[congr] theorem fieldV_congr {P : Program} {t f : Nat} {x x' : V} {K : V → Prop} (h2 : x = x') : fieldV P t f x K = fieldV P t f x' K := by rw [h2]
@[congr] theorem indexAddrV_congr {P : Program} {t : Nat} {z z' : Int} {x x' : V} {K : V → Prop} (h1 : x = x') (h2 : z = z') : indexAddrV P t x z K = indexAddrV P t x' z' K := by rw [h1, h2]
@[congr] theorem indexV_congr {P : Program} {t : Nat} {z z' : Int} {x x' : V} {K : V → Prop} (h1 : x = x') (h2 : z = z') : indexV P t x z K = indexV P t x' z' K := by rw [h1, h2]
@[congr] theorem sliceV_congr {P : Program} {ρ : Operand → V} {t : Nat} {z z' : Int} {hi : Option Operand} {x x' : V} {K : V → Prop} (h1 : x = x') (h2 : z = z') : sliceV P ρ t x z hi K = sliceV P ρ t x' z' hi K := by rw [h1, h2]
@[congr] theorem lenV_congr {P : Program} {t : Nat} {x x' : V} {K : V → Prop} (h2 : x = x') : lenV P t x K = lenV P t x' K := by rw [h2]
@[congr] theorem convV_congr {P : Program} {t u : Nat} {x x' : V} {K : V → Prop} (h2 : x = x') : convV P t u x K = convV P t u x' K := by rw [h2]
@[congr] theorem convH_congr {P : Program} {t u : Nat} {h h' : Hp} {x x' : V} {K : V → Prop} (h1 : h = h') (h2 : x = x') : convH P h t u x K = convH P h' t u x' K := by rw [h1, h2]
@[congr] theorem nilV_congr {x x' : V} {K : V → Prop} (h2 : x = x') : nilV x K = nilV x' K := by rw [h2]
@[congr] theorem lookupV_congr {P : Program} {t : Nat} {h h' : Hp} {x x' y y' : V} {ok : Bool} {K : V → Prop} (h1 : h = h') (h2 : x = x') (h3 : y = y') : lookupV P h t x y ok K = lookupV P h' t x' y' ok K := by rw [h1, h2, h3]
@[congr] theorem updV_congr {P : Program} {t : Nat} {h h' : Hp} {x x' y y' v v' : V} {K : Hp → Prop} (h1 : h = h') (h2 : x = x') (h3 : y = y') (h4 : v = v') : updV P h t x y v K = updV P h' t x' y' v' K := by rw [h1, h2, h3, h4]
@[congr] theorem atInt_congr {x x' : V} {K : IntKind → Int → Prop} (h2 : x = x') : atInt x K = atInt x' K := by rw [h2]
@[congr] theorem atBool_congr {x x' : V} {K : Bool → Prop} (h2 : x = x') : atBool x K = atBool x' K := by rw [h2]
@[congr] theorem atTup_congr {i : Nat} {x x' : V} {K : V → Prop} (h2 : x = x') : atTup x i K = atTup x' i K := by rw [h2]
@[congr] theorem bin_congr {P : Program} {op : BinOp} {t : Nat} {x x' y y' : V} {K : V → Prop} (h1 : x = x') (h2 : y = y') : bin P op t x y K = bin P op t x' y' K := by rw [h1, h2]
@[congr] theorem intBin_congr {op : BinOp} {k : IntKind} {x x' y y' : Int} {K : V → Prop} (h1 : x = x') (h2 : y = y') : intBin op k x y K = intBin op k x' y' K := by rw [h1, h2]
@[congr] theorem strBin_congr {op : BinOp} {x x' y y' : ByteArray} {K : V → Prop} (h1 : x = x') (h2 : y = y') : strBin op x y K = strBin op x' y' K := by rw [h1, h2]
@[congr] theorem buildV_congr {P : Program} {t : Nat} {x x' : List (Nat × V)} {K : V → Prop} (h2 : x = x') : buildV P t x K = buildV P t x' K := by rw [h2]
@[congr] theorem storeV_congr {P : Program} {t : Nat} {h h' : Hp} {x x' y y' : V} {K : Hp → Prop} (h1 : h = h') (h2 : x = x') (h3 : y = y') : storeV P h t x y K = storeV P h' t x' y' K := by rw [h1, h2, h3]
@[congr] theorem srcV_congr {z : Nat} {n : Option Nat} {h h' : Hp} {y y' : V} {K : Nat → List V → Prop} (h1 : h = h') (h3 : y = y') : srcV h z n y K = srcV h' z n y' K := by rw [h1, h3]
@[congr] theorem appendV_congr {P : Program} {t u : Nat} {s s' : St} {x x' y y' : V} {K : St → V → Prop} (h1 : s = s') (h2 : x = x') (h3 : y = y') : appendV P s t u x y K = appendV P s' t u x' y' K := by rw [h1, h2, h3]

/-- A drawn region in which a call that may write stands beside a load: by the tree of orders, or as the others. -/
def clT (P : Program) (ops : Array Oper) (l : List Oper) (s : St) (K : St → Prop) : Prop := trW P ops s K ∨ dgT P ops s K ∨ (drawOk ops = true ∧ dG P ops l 0 [] s K)
theorem clT.tree {P : Program} {ops : List Oper} {l : List Oper} {s : St} {K : St → Prop} (Ψ : St → Prop) (tr : Tr) (h1 : (Region.noSelect ops.toArray && trOk ops.toArray tr (Array.replicate ops.toArray.size false) true) = true)
    (hK : ∀ s2, Ψ s2 → K s2) (h2 : trA P ops.toArray tr s (fun s' => ∃ s2, Ψ s2 ∧ Weak s' s2)) : clT P ops.toArray l s K := .inl ⟨Ψ, ⟨tr, h1, h2⟩, hK⟩
theorem clT.text {P : Program} {ops : Array Oper} {l : List Oper} {s : St} {K : St → Prop} (h1 : drawOk ops = true) (h2 : dG P ops l 0 [] s K) : clT P ops l s K := .inr (.inr ⟨h1, h2⟩)
theorem clT.graph {P : Program} {ops : List Oper} {l : List Oper} {s : St} {K : St → Prop} (N : List Nd) (A : Nat → St → Prop) (h1 : dgOk ops.toArray N = true) (h2 : A 0 s) (h3 : nodesA P ops.toArray A K N) : clT P ops.toArray l s K := .inr (.inl ⟨N, A, h1, h2, h3⟩)
theorem nextA_cons {P : Program} {l : List Oper} {A : Nat → St → Prop} {m m' i : Nat} {s : St} {is : List Nat} (e : m ||| 2 ^ i = m') (h : stepL P l.toArray l i s (fun s' => ∃ s2, A m' s2 ∧ Weak s' s2)) (h2 : nextA P l.toArray A m s is) : nextA P l.toArray A m s (i :: is) := by
  subst e
  exact ⟨by rw [stepA_eq]; exact h, h2⟩
@[congr] theorem clT_congr {P : Program} {ops : Array Oper} {l : List Oper} {s s' : St} {K : St → Prop} (h : s = s') : clT P ops l s K = clT P ops l s' K := by rw [h]
section
variable {P : Program} {Q : Exit → St → Prop} {s : St}
@[go_sem] theorem wpA_skip : wpA P .skip Q s = Q .normal s := rfl
@[go_sem] theorem wpA_region_f {id : Nat} {ops : List Oper} : wpA P (.region id ops.toArray false) Q s = fopsA P ops.toArray ops s (Q .normal) := rfl
@[go_sem] theorem wpA_region_t {id : Nat} {ops : List Oper} : wpA P (.region id ops.toArray true) Q s = if hasCh ops = true then chT P ops.toArray s (Q .normal) else if hasLt ops = true then lateT P ops.toArray s (Q .normal) else if hasCl P ops = true then clT P ops.toArray ops s (Q .normal) else (drawOk ops.toArray = true ∧ dG P ops.toArray ops 0 [] s (Q .normal)) := rfl
@[go_sem] theorem wpA_seq {a b : Code} : wpA P (.seq a b) Q s = wpA P a (exThen (wpA P b Q) Q) s := rfl
@[go_sem] theorem wpA_cond {c : Operand} {x y : Code} : wpA P (.cond c x y) Q s = atBool (ev s.t c) fun t => condT t (wpA P x Q s) (wpA P y Q s) ⟨⟩ ⟨⟩ := rfl
@[go_sem] theorem wpA_block {id : Nat} {c : Code} : wpA P (.block id c) Q s = wpA P c (exBlock id Q) s := rfl
@[go_sem] theorem wpA_loop {c : Code} : wpA P (.loop c) Q s = LoopT (wpA P c) Q s ⟨⟩ ⟨⟩ := rfl
@[go_sem] theorem wpA_exit {id : Nat} : wpA P (.exit id) Q s = Q (.exit id) s := rfl
@[go_sem] theorem wpA_ret : wpA P .ret Q s = Q .ret s := rfl
@[go_sem] theorem exThen_normal {n : St → Prop} : exThen n Q .normal s = n s := rfl
@[go_sem] theorem exThen_exit {n : St → Prop} {i : Nat} : exThen n Q (.exit i) s = Q (.exit i) s := rfl
@[go_sem] theorem exThen_ret {n : St → Prop} : exThen n Q .ret s = Q .ret s := rfl
@[go_sem] theorem exBlock_normal {i : Nat} : exBlock i Q .normal s = Q .normal s := rfl
@[go_sem] theorem exBlock_ret {i : Nat} : exBlock i Q .ret s = Q .ret s := rfl
@[go_sem] theorem exBlock_exit {i j : Nat} : exBlock i Q (.exit j) s = if j = i then Q .normal s else Q (.exit j) s := rfl
end

section
variable {P : Program} {ops : Array Oper} {t : List V} {h : Hp} {k : Nat} {K : St → Prop} {rest : List Oper} {dst : Option Tmp} {ty : TypeId} {pos : String} {after : Array Edge} {g : Option (Nat × Bool)}

@[go_sem] theorem fopsA_nil {s : St} : fopsA P ops [] s K = K s := rfl
@[go_sem] theorem fopsA_cons {op : Op} {v0 : V} : fopsA P ops (⟨dst, op, ty, pos, after, none⟩ :: rest) ⟨v0 :: t, h, k⟩ K = fop P ⟨v0 :: t, h, k⟩ ⟨dst, op, ty, pos, after, none⟩ (fun s' => fopsA P ops rest s' K) := rfl
@[go_sem] theorem fopsA_guard {op : Op} {j : Nat} {want : Bool} {v0 : V} : fopsA P ops (⟨dst, op, ty, pos, after, some (j, want)⟩ :: rest) ⟨v0 :: t, h, k⟩ K =
    guardT want (gv ops (v0 :: t) j) (fop P ⟨v0 :: t, h, k⟩ ⟨dst, op, ty, pos, after, some (j, want)⟩ (fun s' => fopsA P ops rest s' K)) (fopsA P ops rest (St.put ⟨v0 :: t, h, k⟩ dst .skip) K) ⟨⟩ ⟨⟩ := rfl
@[go_sem] theorem gA_nil {s : St} : gA P ops [] s K = K s := rfl
@[go_sem] theorem gA_cons {op : Op} {v0 : V} : gA P ops (⟨dst, op, ty, pos, after, none⟩ :: rest) ⟨v0 :: t, h, k⟩ K = gop P h (ev (v0 :: t)) op (fun v n => gA P ops rest (St.put ⟨v0 :: t, h ++ n, k⟩ dst v) K) := rfl
@[go_sem] theorem gA_guard {op : Op} {j : Nat} {want : Bool} {v0 : V} : gA P ops (⟨dst, op, ty, pos, after, some (j, want)⟩ :: rest) ⟨v0 :: t, h, k⟩ K =
    guardT want (gv ops (v0 :: t) j) (gop P h (ev (v0 :: t)) op (fun v n => gA P ops rest (St.put ⟨v0 :: t, h ++ n, k⟩ dst v) K)) (gA P ops rest (St.put ⟨v0 :: t, h, k⟩ dst .skip) K) ⟨⟩ ⟨⟩ := rfl
@[go_sem] theorem closeA_nil {t : List V} {h : Hp} {s : St} {K : St → Prop} : closeA P t h [] s K = K s := rfl
@[go_sem] theorem closeA_cons {u : List V} {hh : Hp} {i d ty' : Nat} {ys : List Tmp} {l : List Tip} {sh : Hp} : closeA P u hh (⟨i, d, ty', ys⟩ :: l) ⟨t, sh, k⟩ K = match elOf P ty' with
    | some (e, sz, by_) => match zeroOf P e with
      | some zs => zs.length = sz ∧ srcsV hh sz (ys.map fun y => u.getD y .undef) 0 [] fun n cs => (n * by_ ≤ 140737488355328 ∧ n ≤ 4611686018427387904 ∧ cs.all (noOwn 2) = true) ∧
          closeA P u hh l ⟨t.set d (.osl sh.length 0 n sz), sh ++ [some cs], k⟩ K
      | none => False
    | none => False := rfl
@[go_sem] theorem srcsV_nil {hh : Hp} {sz n : Nat} {cs : List V} {K : Nat → List V → Prop} : srcsV hh sz [] n cs K = K n cs := rfl
@[go_sem] theorem srcsV_cons {hh : Hp} {sz n : Nat} {y : V} {l cs : List V} {K : Nat → List V → Prop} : srcsV hh sz (y :: l) n cs K = srcV hh sz none y fun k ys => srcsV hh sz l (n + k) (cs ++ ys) K := rfl
@[go_sem] theorem selB_nil {f : List Bool} : selB f [] = [] := by cases f with | nil => rfl | cons b f => cases b <;> rfl
@[go_sem] theorem selB_t {f : List Bool} {o : Oper} {l : List Oper} : selB (true :: f) (o :: l) = o :: selB f l := rfl
@[go_sem] theorem selB_f {f : List Bool} {o : Oper} {l : List Oper} : selB (false :: f) (o :: l) = selB f l := rfl
@[go_sem] theorem undT_nil {t : List V} : undT [] t = t := rfl
@[go_sem] theorem undT_none {l : List (Option CE)} {t : List V} : undT (none :: l) t = undT l t := rfl
@[go_sem] theorem undT_some {l : List (Option CE)} {pv : Option Nat} {d ty' : Nat} {ys : List Tmp} {t : List V} : undT (some ⟨pv, d, ty', ys⟩ :: l) t = undT l (t.set d .undef) := rfl
@[go_sem] theorem hasCh_eq {l : List Oper} : hasCh l = (hasB l && hasA l) := rfl
@[go_sem] theorem hasCl_eq {l : List Oper} : hasCl P l = (hasLd l && hasVc P l) := rfl
@[go_sem] theorem hasLd_nil : hasLd [] = false := rfl
@[go_sem] theorem hasLd_cons {op : Op} {l : List Oper} : hasLd (⟨dst, op, ty, pos, after, g⟩ :: l) = (isLd op || hasLd l) := rfl
@[go_sem] theorem hasVc_nil : hasVc P [] = false := rfl
@[go_sem] theorem hasVc_cons {op : Op} {l : List Oper} : hasVc P (⟨dst, op, ty, pos, after, g⟩ :: l) = (isVc P op || hasVc P l) := rfl
@[go_sem] theorem hasLt_eq {l : List Oper} : hasLt l = (hasG l && hasS l) := rfl
@[go_sem] theorem hasG_nil : hasG [] = false := rfl
@[go_sem] theorem hasG_cons {op : Op} {l : List Oper} : hasG (⟨dst, op, ty, pos, after, g⟩ :: l) = (isLg op after || hasG l) := rfl
@[go_sem] theorem hasS_nil : hasS [] = false := rfl
@[go_sem] theorem hasS_cons {op : Op} {l : List Oper} : hasS (⟨dst, op, ty, pos, after, g⟩ :: l) = (isSto op || hasS l) := rfl
@[go_sem] theorem gcL_nil : gcL [] = false := rfl
@[go_sem] theorem gcL_cons {n : Nat} {g : Ground} {l : List Edge} : gcL (⟨n, g⟩ :: l) = (isGc g || gcL l) := rfl
@[go_sem] theorem gc_data : isGc .data = false := rfl
@[go_sem] theorem gc_chain : isGc .chain = false := rfl
@[go_sem] theorem gc_guard : isGc .guard = false := rfl
@[go_sem] theorem gc_phase : isGc .phase = false := rfl
@[go_sem] theorem gc_text {r : Departure} : isGc (.textOnly r) = false := rfl
@[go_sem] theorem gc_gc {r : Departure} : isGc (.gcOnly r) = true := rfl
@[go_sem] theorem cont_nil {b : Nat} : ([] : List Nat).contains b = false := rfl
@[go_sem] theorem cont_cons {a b : Nat} {l : List Nat} : (a :: l).contains b = (b == a || l.contains b) := List.contains_cons
@[go_sem] theorem gF_nil {ids : List Nat} {s : St} : gF P ops ids [] s K = K s := rfl
@[go_sem] theorem gF_cons {ids : List Nat} {f : Bool} {op : Op} {l : List (Bool × Oper)} {v0 : V} : gF P ops ids ((f, ⟨dst, op, ty, pos, after, none⟩) :: l) ⟨v0 :: t, h, k⟩ K = gop P (holB ids f h) (ev (v0 :: t)) op (fun v n => gF P ops ids l (St.put ⟨v0 :: t, h ++ n, k⟩ dst v) K) := rfl
@[go_sem] theorem gF_guard {ids : List Nat} {f : Bool} {op : Op} {j : Nat} {want : Bool} {l : List (Bool × Oper)} {v0 : V} : gF P ops ids ((f, ⟨dst, op, ty, pos, after, some (j, want)⟩) :: l) ⟨v0 :: t, h, k⟩ K =
    guardT want (gv ops (v0 :: t) j) (gop P (holB ids f h) (ev (v0 :: t)) op (fun v n => gF P ops ids l (St.put ⟨v0 :: t, h ++ n, k⟩ dst v) K)) (gF P ops ids l (St.put ⟨v0 :: t, h, k⟩ dst .skip) K) ⟨⟩ ⟨⟩ := rfl
@[go_sem] theorem holB_t {ids : List Nat} {h : Hp} : holB ids true h = hol ids h := rfl
@[go_sem] theorem holB_f {ids : List Nat} {h : Hp} : holB ids false h = h := rfl
@[go_sem] theorem hol_nil {h : Hp} : hol [] h = h := rfl
@[go_sem] theorem hol_cons {i : Nat} {l : List Nat} {h : Hp} : hol (i :: l) h = hol l (h.set i none) := rfl
@[go_sem] theorem selF_nil {a b : List Bool} : selF a b [] = [] := by cases a with | nil => rfl | cons x a => cases b <;> rfl
@[go_sem] theorem selF_t {f : Bool} {a b : List Bool} {o : Oper} {l : List Oper} : selF (true :: a) (f :: b) (o :: l) = (f, o) :: selF a b l := rfl
@[go_sem] theorem selF_f {f : Bool} {a b : List Bool} {o : Oper} {l : List Oper} : selF (false :: a) (f :: b) (o :: l) = selF a b l := rfl
@[go_sem] theorem lateA_zero {ids : List Nat} {D : List Oper} {s : St} : lateA P ops ids 0 D s K = fopsA P ops D s K := rfl
@[go_sem] theorem lateA_succ {ids : List Nat} {p : Nat} {o : Oper} {D : List Oper} {s : St} : lateA P ops ids (p + 1) (o :: D) s K = lateS P ids s o fun s' => lateA P ops ids p D s' K := rfl
@[go_sem] theorem lateS_store {ids : List Nat} {u : TypeId} {a x : Operand} {s : St} : lateS P ids s ⟨none, .store u a x, ty, pos, after, none⟩ K = ((match ev s.t a with | .ptr id _ => ids.contains id = true | _ => False) ∧ storeV P s.h u (ev s.t a) (ev s.t x) fun h' => K { s with h := h' }) := rfl
@[go_sem] theorem trA_done {s : St} : trA P ops .done s K = K s := rfl
@[go_sem] theorem trA_stop {s : St} : trA P ops .stop s K = True := rfl
@[go_sem] theorem trA_take {i : Nat} {u : Tr} {s : St} {l : List Oper} : trA P l.toArray (.take i u) s K = stepL P l.toArray l i s (fun s' => trA P l.toArray u s' K) := stepA_eq
@[go_sem] theorem trA_alt {i : Nat} {u v : Tr} {s : St} {l : List Oper} : trA P l.toArray (.alt i u v) s K = (stepL P l.toArray l i s (fun s' => trA P l.toArray u s' K) ∧ trA P l.toArray v s K) := by
  show (stepA P l.toArray i s _ ∧ _) = _
  rw [stepA_eq]
@[go_sem] theorem stepL_zero {op : Op} {l : List Oper} {v0 : V} : stepL P ops (⟨dst, op, ty, pos, after, none⟩ :: l) 0 ⟨v0 :: t, h, k⟩ K = fop P ⟨v0 :: t, h, k⟩ ⟨dst, op, ty, pos, after, none⟩ K := rfl
@[go_sem] theorem stepL_guard {op : Op} {j : Nat} {want : Bool} {l : List Oper} {v0 : V} : stepL P ops (⟨dst, op, ty, pos, after, some (j, want)⟩ :: l) 0 ⟨v0 :: t, h, k⟩ K =
    guardT want (gv ops (v0 :: t) j) (fop P ⟨v0 :: t, h, k⟩ ⟨dst, op, ty, pos, after, some (j, want)⟩ K) (K (St.put ⟨v0 :: t, h, k⟩ dst .skip)) ⟨⟩ ⟨⟩ := rfl
@[go_sem] theorem stepL_succ {o : Oper} {l : List Oper} {i : Nat} {s : St} : stepL P ops (o :: l) (i + 1) s K = stepL P ops l i s K := rfl
@[go_sem] theorem hasB_nil : hasB [] = false := rfl
@[go_sem] theorem hasB_cons {op : Op} {l : List Oper} : hasB (⟨dst, op, ty, pos, after, g⟩ :: l) = (isB0 op || hasB l) := rfl
@[go_sem] theorem hasA_nil : hasA [] = false := rfl
@[go_sem] theorem hasA_cons {op : Op} {l : List Oper} : hasA (⟨dst, op, ty, pos, after, g⟩ :: l) = (isAp op || hasA l) := rfl
@[go_sem] theorem dG_nil {b : Nat} {R : List Oper} {s : St} : dG P ops [] b R s K = fR P ops R [] s K := by
  show fopsA P ops R.reverse s K = fopsA P ops (R.reverse ++ []) s K
  rw [List.append_nil]
@[go_sem] theorem fR_nil {acc : List Oper} {s : St} : fR P ops [] acc s K = fopsA P ops acc s K := rfl
@[go_sem] theorem fR_cons {o : Oper} {R acc : List Oper} {s : St} : fR P ops (o :: R) acc s K = fR P ops R (o :: acc) s K := by
  show fopsA P ops ((o :: R).reverse ++ acc) s K = fopsA P ops (R.reverse ++ (o :: acc)) s K
  simp
theorem dG_quiet {op : Op} {v0 : V} {b : Nat} (hq : quietOp op = true) : dG P ops (⟨dst, op, ty, pos, after, none⟩ :: rest) b [] ⟨v0 :: t, h, k⟩ K = gop P h (ev (v0 :: t)) op (fun v n => dG P ops rest (b + 1) [] (St.put ⟨v0 :: t, h ++ n, k⟩ dst v) K) := by
  conv => lhs; unfold dG dopsG
  rw [if_pos (show quietAt b [].reverse ⟨dst, op, ty, pos, after, none⟩ = true from hq)]; rfl
theorem dG_guard {op : Op} {j : Nat} {want : Bool} {v0 : V} {b : Nat} (hq : quietOp op = true) : dG P ops (⟨dst, op, ty, pos, after, some (j, want)⟩ :: rest) b [] ⟨v0 :: t, h, k⟩ K =
    guardT want (gv ops (v0 :: t) j) (gop P h (ev (v0 :: t)) op (fun v n => dG P ops rest (b + 1) [] (St.put ⟨v0 :: t, h ++ n, k⟩ dst v) K)) (dG P ops rest (b + 1) [] (St.put ⟨v0 :: t, h, k⟩ dst .skip) K) ⟨⟩ ⟨⟩ := by
  conv => lhs; unfold dG dopsG
  rw [if_pos (show quietAt b [].reverse ⟨dst, op, ty, pos, after, some (j, want)⟩ = true from hq)]; rfl
theorem dG_off {o : Oper} {s : St} {b : Nat} (hq : quietOp o.op = false) : dG P ops (o :: rest) b [] s K = dG P ops rest b [o] s K := by
  conv => lhs; unfold dG dopsG
  rw [if_neg (by show ¬ quietOp o.op = true; simp [hq])]; rfl
theorem quietAt_ne {b : Nat} {D : List Oper} (hD : D ≠ []) (o : Oper) : quietAt b D o = (takeOp o && (takeAt D o && edB b o.after)) := by
  cases D with
  | nil => exact absurd rfl hD
  | cons e D => rfl
theorem nextB_ne {b : Nat} {D : List Oper} (hD : D ≠ []) : nextB b D = b := by
  cases D with
  | nil => exact absurd rfl hD
  | cons e D => rfl
def clrB (u v : Tmp) (o : Oper) : Bool := match o.dst with | some x => x != u && x != v | none => true
theorem clr_all (u v : Tmp) : ∀ D : List Oper, clr u v D = D.all (clrB u v)
  | [] => rfl
  | o :: D => by
    rw [List.all_cons, ← clr_all u v D]; rfl
theorem clr_reverse (u v : Tmp) (D : List Oper) : clr u v D.reverse = clr u v D := by rw [clr_all, clr_all, List.all_reverse]
@[go_sem] theorem clr_nil {u v : Tmp} : clr u v [] = true := rfl
@[go_sem] theorem clr_none {u v : Tmp} {op : Op} {D : List Oper} : clr u v (⟨none, op, ty, pos, after, g⟩ :: D) = clr u v D := by simp [clr]
@[go_sem] theorem clr_some {u v x : Tmp} {op : Op} {D : List Oper} : clr u v (⟨some x, op, ty, pos, after, g⟩ :: D) = if x = u then false else if x = v then false else clr u v D := by
  simp only [clr]
  by_cases h1 : x = u
  · simp [h1]
  · by_cases h2 : x = v
    · simp [h2]
    · simp [h1, h2]
@[go_sem] theorem edB_eq {b : Nat} {l : List Edge} : edB b l.toArray = edL b l := rfl
@[go_sem] theorem edL_nil {b : Nat} : edL b [] = true := rfl
@[go_sem] theorem edL_cons {b n : Nat} {g : Ground} {l : List Edge} : edL b (⟨n, g⟩ :: l) = if n < b then edL b l else false := rfl
theorem dG_some {o : Oper} {e : Oper} {R : List Oper} {s : St} {b : Nat} : dG P ops (o :: rest) b (e :: R) s K =
    if (takeOp o && (takeAt (e :: R).reverse o && edB b o.after)) = true then gdA ops s.t o.guard (gop P s.h (ev s.t) o.op fun v n => dG P ops rest b (e :: R) (({ s with h := s.h ++ n } : St).put o.dst v) K) (dG P ops rest b (e :: R) (s.put o.dst .skip) K)
    else dG P ops rest b (o :: e :: R) s K := by
  conv => lhs; unfold dG dopsG
  rw [quietAt_ne (by simp), nextB_ne (by simp)]
  by_cases hc : (takeOp o && (takeAt (e :: R).reverse o && edB b o.after)) = true
  · rw [if_pos hc, if_pos hc]; rfl
  · rw [if_neg hc, if_neg hc]
    show dopsG P ops rest b ((e :: R).reverse ++ [_]) _ K = dopsG P ops rest b (_ :: e :: R).reverse _ K
    rw [List.reverse_cons (as := e :: R)]
@[go_sem] theorem dG_take {b : Nat} {e : Oper} {R : List Oper} {T f a d : Nat} {v0 : V} : dG P ops (⟨some d, .fieldAddr T (.tmp a) f, ty, pos, after, none⟩ :: rest) b (e :: R) ⟨v0 :: t, h, k⟩ K =
    if edB b after = true ∧ clr a d (e :: R) = true then gop P h (ev (v0 :: t)) (.fieldAddr T (.tmp a) f) (fun v n => dG P ops rest b (e :: R) (St.put ⟨v0 :: t, h ++ n, k⟩ (some d) v) K)
    else dG P ops rest b (⟨some d, .fieldAddr T (.tmp a) f, ty, pos, after, none⟩ :: e :: R) ⟨v0 :: t, h, k⟩ K := by
  rw [dG_some]
  show (if (true && (clr a d (e :: R).reverse && edB b after)) = true then _ else _) = _
  rw [clr_reverse, Bool.true_and]
  by_cases hc : edB b after = true ∧ clr a d (e :: R) = true
  · rw [if_pos (by rw [hc.2, hc.1]; rfl), if_pos hc]; rfl
  · rw [if_neg (by intro h; rw [Bool.and_eq_true] at h; exact hc ⟨h.2, h.1⟩), if_neg hc]
@[go_sem] theorem dG_takeI {m : Nat} {e : Oper} {R : List Oper} {T a b d : Nat} {v0 : V} : dG P ops (⟨some d, .indexAddr T (.tmp a) (.tmp b), ty, pos, after, none⟩ :: rest) m (e :: R) ⟨v0 :: t, h, k⟩ K =
    if edB m after = true ∧ clr a d (e :: R) = true ∧ clr b d (e :: R) = true then gop P h (ev (v0 :: t)) (.indexAddr T (.tmp a) (.tmp b)) (fun v n => dG P ops rest m (e :: R) (St.put ⟨v0 :: t, h ++ n, k⟩ (some d) v) K)
    else dG P ops rest m (⟨some d, .indexAddr T (.tmp a) (.tmp b), ty, pos, after, none⟩ :: e :: R) ⟨v0 :: t, h, k⟩ K := by
  rw [dG_some]
  show (if (true && ((clr a d (e :: R).reverse && clr b d (e :: R).reverse) && edB m after)) = true then _ else _) = _
  rw [clr_reverse, clr_reverse, Bool.true_and]
  by_cases hc : edB m after = true ∧ clr a d (e :: R) = true ∧ clr b d (e :: R) = true
  · rw [if_pos (by rw [hc.2.1, hc.2.2, hc.1]; rfl), if_pos hc]; rfl
  · rw [if_neg (by intro h; rw [Bool.and_eq_true, Bool.and_eq_true] at h; exact hc ⟨h.2, h.1⟩), if_neg hc]
@[go_sem] theorem dG_lateI {b : Nat} {e : Oper} {R : List Oper} {T : Nat} {x : Operand} {c : Value} {s : St} : dG P ops (⟨dst, .indexAddr T x (.const c), ty, pos, after, none⟩ :: rest) b (e :: R) s K = dG P ops rest b (⟨dst, .indexAddr T x (.const c), ty, pos, after, none⟩ :: e :: R) s K := by
  rw [dG_some, if_neg (by
    have : takeOp ⟨dst, .indexAddr T x (.const c), ty, pos, after, none⟩ = false := by cases x <;> rfl
    rw [this]; simp)]
@[go_sem] theorem dG_takeM {b : Nat} {e : Oper} {R : List Oper} {a d : Nat} {v0 : V} : dG P ops (⟨some d, .move (.tmp a), ty, pos, after, none⟩ :: rest) b (e :: R) ⟨v0 :: t, h, k⟩ K =
    if edB b after = true ∧ clr a d (e :: R) = true then gop P h (ev (v0 :: t)) (.move (.tmp a)) (fun v n => dG P ops rest b (e :: R) (St.put ⟨v0 :: t, h ++ n, k⟩ (some d) v) K)
    else dG P ops rest b (⟨some d, .move (.tmp a), ty, pos, after, none⟩ :: e :: R) ⟨v0 :: t, h, k⟩ K := by
  rw [dG_some]
  show (if (true && (clr a d (e :: R).reverse && edB b after)) = true then _ else _) = _
  rw [clr_reverse, Bool.true_and]
  by_cases hc : edB b after = true ∧ clr a d (e :: R) = true
  · rw [if_pos (by rw [hc.2, hc.1]; rfl), if_pos hc]; rfl
  · rw [if_neg (by intro h; rw [Bool.and_eq_true] at h; exact hc ⟨h.2, h.1⟩), if_neg hc]
@[go_sem] theorem dG_takeN {b : Nat} {e : Oper} {R : List Oper} {a d : Nat} {v0 : V} : dG P ops (⟨some d, .nilCheck (.tmp a), ty, pos, after, none⟩ :: rest) b (e :: R) ⟨v0 :: t, h, k⟩ K =
    if edB b after = true ∧ clr a d (e :: R) = true then gop P h (ev (v0 :: t)) (.nilCheck (.tmp a)) (fun v n => dG P ops rest b (e :: R) (St.put ⟨v0 :: t, h ++ n, k⟩ (some d) v) K)
    else dG P ops rest b (⟨some d, .nilCheck (.tmp a), ty, pos, after, none⟩ :: e :: R) ⟨v0 :: t, h, k⟩ K := by
  rw [dG_some]
  show (if (true && (clr a d (e :: R).reverse && edB b after)) = true then _ else _) = _
  rw [clr_reverse, Bool.true_and]
  by_cases hc : edB b after = true ∧ clr a d (e :: R) = true
  · rw [if_pos (by rw [hc.2, hc.1]; rfl), if_pos hc]; rfl
  · rw [if_neg (by intro h; rw [Bool.and_eq_true] at h; exact hc ⟨h.2, h.1⟩), if_neg hc]
@[go_sem] theorem dG_lateN {b : Nat} {e : Oper} {R : List Oper} {c : Value} {s : St} : dG P ops (⟨dst, .nilCheck (.const c), ty, pos, after, none⟩ :: rest) b (e :: R) s K = dG P ops rest b (⟨dst, .nilCheck (.const c), ty, pos, after, none⟩ :: e :: R) s K := by
  rw [dG_some, if_neg (by
    have : takeOp ⟨dst, .nilCheck (.const c), ty, pos, after, none⟩ = false := rfl
    rw [this]; simp)]
@[go_sem] theorem dG_lateM {b : Nat} {e : Oper} {R : List Oper} {c : Value} {s : St} : dG P ops (⟨dst, .move (.const c), ty, pos, after, none⟩ :: rest) b (e :: R) s K = dG P ops rest b (⟨dst, .move (.const c), ty, pos, after, none⟩ :: e :: R) s K := by
  rw [dG_some, if_neg (by
    have : takeOp ⟨dst, .move (.const c), ty, pos, after, none⟩ = false := rfl
    rw [this]; simp)]
@[go_sem] theorem dG_late_g {b : Nat} {op : Op} {j : Nat × Bool} {e : Oper} {R : List Oper} {s : St} : dG P ops (⟨dst, op, ty, pos, after, some j⟩ :: rest) b (e :: R) s K = dG P ops rest b (⟨dst, op, ty, pos, after, some j⟩ :: e :: R) s K := by
  rw [dG_some, if_neg (by show ¬ (false && _) = true; simp)]
def lateB : Op → Bool
  | .fieldAddr _ _ _ => false
  | .indexAddr _ _ _ => false
  | .move _ => false
  | .nilCheck _ => false
  | _ => true
theorem dG_late {b : Nat} {op : Op} {e : Oper} {R : List Oper} {s : St} (hq : lateB op = true) : dG P ops (⟨dst, op, ty, pos, after, none⟩ :: rest) b (e :: R) s K = dG P ops rest b (⟨dst, op, ty, pos, after, none⟩ :: e :: R) s K := by
  rw [dG_some, if_neg (by
    have : takeOp ⟨dst, op, ty, pos, after, none⟩ = false := by cases op <;> first | rfl | cases hq
    rw [this]; simp)]
@[go_sem] theorem put_some {d : Tmp} {v : V} : St.put ⟨t, h, k⟩ (some d) v = ⟨t.set d v, h, k⟩ := rfl
@[go_sem] theorem put_none {v : V} : St.put ⟨t, h, k⟩ none v = ⟨t, h, k⟩ := rfl
@[go_sem] theorem ev_tmp {i : Nat} : ev t (.tmp i) = t.getD i .undef := rfl
@[go_sem] theorem ev_const {v : Value} : ev t (.const v) = cv v := rfl
@[go_sem] theorem ev_func {f : FuncId} : ev t (.func f) = .fn (.func f) [] [] := rfl
@[go_sem] theorem cv_bool {b : Bool} : cv (.bool b) = .bool b := rfl
@[go_sem] theorem cv_int {kd : IntKind} {n : Int} : cv (.int kd n) = .int kd n := rfl
@[go_sem] theorem cv_str {s : ByteArray} : cv (.string s) = .str s := rfl
@[go_sem] theorem cv_nil : cv (.slice none 0 0) = .nilsl := rfl

section
variable {s : St}
@[go_sem] theorem fop_move {x : Operand} : fop P s ⟨dst, .move x, ty, pos, after, g⟩ K = K (s.put dst (ev s.t x)) := rfl
@[go_sem] theorem fop_assign {x : Operand} : fop P s ⟨dst, .assign x, ty, pos, after, g⟩ K = K (s.put dst (ev s.t x)) := rfl
@[go_sem] theorem fop_pick {c a b : Operand} : fop P s ⟨dst, .pick c a b, ty, pos, after, g⟩ K = atBool (ev s.t c) fun t => K (s.put dst (if t then ev s.t a else ev s.t b)) := rfl
@[go_sem] theorem fop_alloc {t : TypeId} : fop P s ⟨dst, .alloc t, ty, pos, after, g⟩ K = match zeroOf P t with
    | some zs => K (({ s with h := s.h ++ [some zs] } : St).put dst (.ptr s.h.length 0))
    | none => False := rfl
@[go_sem] theorem fop_box {t : TypeId} {x : Operand} : fop P s ⟨dst, .box t x, ty, pos, after, g⟩ K = match cellsOf (ev s.t x) with
    | some cs => K (({ s with h := s.h ++ [some cs] } : St).put dst (.ptr s.h.length 0))
    | none => False := rfl
@[go_sem] theorem fop_build {t : TypeId} {parts : List (Nat × Operand)} : fop P s ⟨dst, .build t parts.toArray, ty, pos, after, g⟩ K = buildV P t (parts.map fun p => (p.1, ev s.t p.2)) fun v => K (s.put dst v) := rfl
@[go_sem] theorem fop_buildSlice {t : TypeId} {n : Nat} {parts : List (Nat × Operand)} : fop P s ⟨dst, .buildSlice t n parts.toArray, ty, pos, after, g⟩ K = match elOf P t with
    | some (e, sz, _) => match zeroOf P e with
      | some _ => match seqV sz 0 (parts.map fun p => (p.1, ev s.t p.2)) with
        | some cs => parts.length = n ∧ n * sz ≤ 16777216 ∧ cs.length = n * sz ∧ K (({ s with h := s.h ++ [some cs] } : St).put dst (.osl s.h.length 0 n sz))
        | none => False
      | none => False
    | none => False := rfl
@[go_sem] theorem fop_makeSlice {t : TypeId} {l c : Operand} : fop P s ⟨dst, .makeSlice t l c, ty, pos, after, g⟩ K = atInt (ev s.t l) fun _ n => atInt (ev s.t c) fun _ n' => n' = n ∧ match elOf P t with
    | some (e, sz, by_) => match zeroOf P e with
      | some zs => 0 ≤ n ∧ (by_ : Int) * n ≤ 281474976710656 ∧ n ≤ 9223372036854775807 ∧ K (({ s with h := s.h ++ [some (zrow (n.toNat * sz) zs)] } : St).put dst (.osl s.h.length 0 n.toNat sz))
      | none => False
    | none => False := rfl
@[go_sem] theorem fop_store {t : TypeId} {a x : Operand} : fop P s ⟨dst, .store t a x, ty, pos, after, g⟩ K = storeV P s.h t (ev s.t a) (ev s.t x) fun h' => K (({ s with h := h' } : St).put dst .skip) := rfl
@[go_sem] theorem fop_makeMap {t : TypeId} : fop P s ⟨dst, .makeMap t none, ty, pos, after, g⟩ K = K (({ s with h := s.h ++ [some [.mb []]] } : St).put dst (.mp s.h.length)) := rfl
@[go_sem] theorem fop_mapUpdate {t : TypeId} {x k v : Operand} : fop P s ⟨dst, .mapUpdate t x k v, ty, pos, after, g⟩ K = updV P s.h t (ev s.t x) (ev s.t k) (ev s.t v) fun h' => K (({ s with h := h' } : St).put dst .skip) := rfl
@[go_sem] theorem fop_lookup {t : TypeId} {x k : Operand} {ok : Bool} : fop P s ⟨dst, .lookup t x k ok, ty, pos, after, g⟩ K = lookupV P s.h t (ev s.t x) (ev s.t k) ok fun v => K (s.put dst v) := rfl
@[go_sem] theorem fop_append {x y : Operand} {t u : TypeId} : fop P s ⟨dst, .call { callee := .builtin .append, args := #[x, y], argTypes := #[t, u] }, ty, pos, after, g⟩ K = appendV P s t u (ev s.t x) (ev s.t y) fun s' r => K (s'.put dst r) := rfl
@[go_sem] theorem fop_call {f : Operand} {args : List Operand} {ts : Array TypeId} : fop P s ⟨dst, .call { callee := .value f, args := args.toArray, argTypes := ts }, ty, pos, after, g⟩ K = callS P s dst (ev s.t f) (args.map (ev s.t)) K ⟨⟩ := rfl
@[go_sem] theorem fop_load {t : TypeId} {a : Operand} : fop P s ⟨dst, .load t a, ty, pos, after, g⟩ K = loadV P s.h t (ev s.t a) fun v => K (s.put dst v) := rfl
@[go_sem] theorem fop_fieldAddr {t : TypeId} {a : Operand} {f : Nat} : fop P s ⟨dst, .fieldAddr t a f, ty, pos, after, g⟩ K = fieldAddrV P t f (ev s.t a) fun v => K (s.put dst v) := rfl
@[go_sem] theorem fop_field {t : TypeId} {a : Operand} {f : Nat} : fop P s ⟨dst, .field t a f, ty, pos, after, g⟩ K = fieldV P t f (ev s.t a) fun v => K (s.put dst v) := rfl
@[go_sem] theorem fop_indexAddr {t : TypeId} {x i : Operand} : fop P s ⟨dst, .indexAddr t x i, ty, pos, after, g⟩ K = atInt (ev s.t i) fun _ z => indexAddrV P t (ev s.t x) z fun v => K (s.put dst v) := rfl
@[go_sem] theorem fop_index {t : TypeId} {x i : Operand} : fop P s ⟨dst, .index t x i, ty, pos, after, g⟩ K = atInt (ev s.t i) fun _ z => indexV P t (ev s.t x) z fun v => K (s.put dst v) := rfl
@[go_sem] theorem fop_slice {t : TypeId} {x : Operand} {lo hi : Option Operand} : fop P s ⟨dst, .slice t x lo hi none, ty, pos, after, g⟩ K = match lowOf (ev s.t) lo with
    | none => False
    | some l => sliceV P (ev s.t) t (ev s.t x) l hi fun v => K (s.put dst v) := rfl
@[go_sem] theorem fop_binOp {op : BinOp} {t u : TypeId} {x y : Operand} : fop P s ⟨dst, .binOp op t x y u, ty, pos, after, g⟩ K = bin P op t (ev s.t x) (ev s.t y) fun v => K (s.put dst v) := rfl
@[go_sem] theorem fop_not {t : TypeId} {x : Operand} : fop P s ⟨dst, .unOp .not t x, ty, pos, after, g⟩ K = atBool (ev s.t x) fun b => K (s.put dst (.bool (!b))) := rfl
@[go_sem] theorem fop_neg {t : TypeId} {x : Operand} : fop P s ⟨dst, .unOp .neg t x, ty, pos, after, g⟩ K = atInt (ev s.t x) fun kd n => K (s.put dst (.int kd (kd.wrap (0 - n)))) := rfl
@[go_sem] theorem fop_convert {t u : TypeId} {x : Operand} : fop P s ⟨dst, .convert t u x, ty, pos, after, g⟩ K = convS P s dst t u (ev s.t x) K := rfl
@[go_sem] theorem convS_str {t u : TypeId} {b : ByteArray} : convS P s dst t u (.str b) K = convB (isU8S P u) (isStr P t = true ∧ K (({ s with h := s.h ++ [some (strCells b)] } : St).put dst (.osl s.h.length 0 b.size 1))) (convH P s.h t u (.str b) fun v => K (s.put dst v)) := rfl
@[go_sem] theorem convS_int {t u : TypeId} {kd : IntKind} {n : Int} : convS P s dst t u (.int kd n) K = convH P s.h t u (.int kd n) fun v => K (s.put dst v) := rfl
@[go_sem] theorem convS_osl {t u : TypeId} {id off n wd : Nat} : convS P s dst t u (.osl id off n wd) K = convH P s.h t u (.osl id off n wd) fun v => K (s.put dst v) := rfl
@[go_sem] theorem convB_true {A B : Prop} : convB true A B = A := rfl
@[go_sem] theorem convB_false {A B : Prop} : convB false A B = B := rfl
@[go_sem] theorem fop_extract {x : Operand} {i : Nat} : fop P s ⟨dst, .extract x i, ty, pos, after, g⟩ K = atTup (ev s.t x) i fun v => K (s.put dst v) := rfl
@[go_sem] theorem fop_nilCheck {x : Operand} : fop P s ⟨dst, .nilCheck x, ty, pos, after, g⟩ K = nilV (ev s.t x) fun v => K (s.put dst v) := rfl
@[go_sem] theorem fop_makeFunc {f : Fn} {a c : List Operand} : fop P s ⟨dst, .makeFunc f a.toArray c.toArray, ty, pos, after, g⟩ K = K (s.put dst (.fn f (a.map (ev s.t)) (c.map (ev s.t)))) := rfl
@[go_sem] theorem fop_len {x : Operand} {t : TypeId} : fop P s ⟨dst, .call { callee := .builtin .len, args := #[x], argTypes := #[t] }, ty, pos, after, g⟩ K = lenV P t (ev s.t x) fun v => K (s.put dst v) := rfl
@[go_sem] theorem fop_max {x y : Operand} {ts : Array TypeId} : fop P s ⟨dst, .call { callee := .builtin .max, args := #[x, y], argTypes := ts }, ty, pos, after, g⟩ K = atInt (ev s.t x) fun kd a => atInt (ev s.t y) fun _ b => K (s.put dst (.int kd (if b > a then b else a))) := rfl
@[go_sem] theorem fop_min {x y : Operand} {ts : Array TypeId} : fop P s ⟨dst, .call { callee := .builtin .min, args := #[x, y], argTypes := ts }, ty, pos, after, g⟩ K = atInt (ev s.t x) fun kd a => atInt (ev s.t y) fun _ b => K (s.put dst (.int kd (if b < a then b else a))) := rfl
end

section
variable {ρ : Operand → V} {K : V → Hp → Prop}
@[go_sem] theorem gop_move {x : Operand} : gop P h ρ (.move x) K = K (ρ x) [] := rfl
@[go_sem] theorem gop_assign {x : Operand} : gop P h ρ (.assign x) K = K (ρ x) [] := rfl
@[go_sem] theorem gop_pick {c a b : Operand} : gop P h ρ (.pick c a b) K = atBool (ρ c) fun t => K (if t then ρ a else ρ b) [] := rfl
@[go_sem] theorem gop_alloc {t : TypeId} : gop P h ρ (.alloc t) K = match zeroOf P t with
    | some zs => K (.ptr h.length 0) [some zs]
    | none => False := rfl
@[go_sem] theorem gop_box {t : TypeId} {x : Operand} : gop P h ρ (.box t x) K = match cellsOf (ρ x) with
    | some cs => K (.ptr h.length 0) [some cs]
    | none => False := rfl
@[go_sem] theorem gop_build {t : TypeId} {parts : List (Nat × Operand)} : gop P h ρ (.build t parts.toArray) K = buildV P t (parts.map fun p => (p.1, ρ p.2)) fun v => K v [] := rfl
@[go_sem] theorem gop_buildSlice {t : TypeId} {n : Nat} {parts : List (Nat × Operand)} : gop P h ρ (.buildSlice t n parts.toArray) K = match elOf P t with
    | some (e, sz, _) => match zeroOf P e with
      | some _ => match seqV sz 0 (parts.map fun p => (p.1, ρ p.2)) with
        | some cs => parts.length = n ∧ n * sz ≤ 16777216 ∧ cs.length = n * sz ∧ K (.osl h.length 0 n sz) [some cs]
        | none => False
      | none => False
    | none => False := rfl
@[go_sem] theorem gop_makeSlice {t : TypeId} {l c : Operand} : gop P h ρ (.makeSlice t l c) K = atInt (ρ l) fun _ n => atInt (ρ c) fun _ n' => n' = n ∧ match elOf P t with
    | some (e, sz, by_) => match zeroOf P e with
      | some zs => 0 ≤ n ∧ (by_ : Int) * n ≤ 281474976710656 ∧ n ≤ 9223372036854775807 ∧ K (.osl h.length 0 n.toNat sz) [some (zrow (n.toNat * sz) zs)]
      | none => False
    | none => False := rfl
@[go_sem] theorem gop_call {f : Operand} {args : List Operand} {ts : Array TypeId} : gop P h ρ (.call { callee := .value f, args := args.toArray, argTypes := ts }) K = callT P h (ρ f) (args.map ρ) (fun r hout => K (ren (shf h.length) 3 r) (shH h.length hout)) ⟨⟩ := rfl
@[go_sem] theorem gop_load {t : TypeId} {a : Operand} : gop P h ρ (.load t a) K = loadV P h t (ρ a) fun v => K v [] := rfl
@[go_sem] theorem gop_fieldAddr {t : TypeId} {a : Operand} {f : Nat} : gop P h ρ (.fieldAddr t a f) K = fieldAddrV P t f (ρ a) fun v => K v [] := rfl
@[go_sem] theorem gop_field {t : TypeId} {a : Operand} {f : Nat} : gop P h ρ (.field t a f) K = fieldV P t f (ρ a) fun v => K v [] := rfl
@[go_sem] theorem gop_indexAddr {t : TypeId} {x i : Operand} : gop P h ρ (.indexAddr t x i) K = atInt (ρ i) fun _ z => indexAddrV P t (ρ x) z fun v => K v [] := rfl
@[go_sem] theorem gop_index {t : TypeId} {x i : Operand} : gop P h ρ (.index t x i) K = atInt (ρ i) fun _ z => indexV P t (ρ x) z fun v => K v [] := rfl
@[go_sem] theorem gop_slice {t : TypeId} {x : Operand} {lo hi : Option Operand} : gop P h ρ (.slice t x lo hi none) K = match lowOf ρ lo with
    | none => False
    | some l => sliceV P ρ t (ρ x) l hi fun v => K v [] := rfl
@[go_sem] theorem gop_binOp {op : BinOp} {t u : TypeId} {x y : Operand} : gop P h ρ (.binOp op t x y u) K = bin P op t (ρ x) (ρ y) fun v => K v [] := rfl
@[go_sem] theorem gop_not {t : TypeId} {x : Operand} : gop P h ρ (.unOp .not t x) K = atBool (ρ x) fun b => K (.bool (!b)) [] := rfl
@[go_sem] theorem gop_neg {t : TypeId} {x : Operand} : gop P h ρ (.unOp .neg t x) K = atInt (ρ x) fun kd n => K (.int kd (kd.wrap (0 - n))) [] := rfl
@[go_sem] theorem gop_convert {t u : TypeId} {x : Operand} : gop P h ρ (.convert t u x) K = convG P h t u (ρ x) K := rfl
@[go_sem] theorem convG_str {t u : TypeId} {b : ByteArray} : convG P h t u (.str b) K = convB (isU8S P u) (isStr P t = true ∧ K (.osl h.length 0 b.size 1) [some (strCells b)]) (convH P h t u (.str b) fun v => K v []) := rfl
@[go_sem] theorem convG_int {t u : TypeId} {kd : IntKind} {n : Int} : convG P h t u (.int kd n) K = convH P h t u (.int kd n) fun v => K v [] := rfl
@[go_sem] theorem convG_osl {t u : TypeId} {id off n wd : Nat} : convG P h t u (.osl id off n wd) K = convH P h t u (.osl id off n wd) fun v => K v [] := rfl
@[go_sem] theorem gop_extract {x : Operand} {i : Nat} : gop P h ρ (.extract x i) K = atTup (ρ x) i fun v => K v [] := rfl
@[go_sem] theorem gop_lookup {t : TypeId} {x k : Operand} {ok : Bool} : gop P h ρ (.lookup t x k ok) K = lookupV P h t (ρ x) (ρ k) ok fun v => K v [] := rfl
@[go_sem] theorem gop_nilCheck {x : Operand} : gop P h ρ (.nilCheck x) K = nilV (ρ x) fun v => K v [] := rfl
@[go_sem] theorem gop_makeFunc {f : Fn} {a c : List Operand} : gop P h ρ (.makeFunc f a.toArray c.toArray) K = K (.fn f (a.map ρ) (c.map ρ)) [] := rfl
@[go_sem] theorem gop_len {x : Operand} {t : TypeId} : gop P h ρ (.call { callee := .builtin .len, args := #[x], argTypes := #[t] }) K = lenV P t (ρ x) fun v => K v [] := rfl
@[go_sem] theorem gop_max {x y : Operand} {ts : Array TypeId} : gop P h ρ (.call { callee := .builtin .max, args := #[x, y], argTypes := ts }) K = atInt (ρ x) fun kd a => atInt (ρ y) fun _ b => K (.int kd (if b > a then b else a)) [] := rfl
@[go_sem] theorem gop_min {x y : Operand} {ts : Array TypeId} : gop P h ρ (.call { callee := .builtin .min, args := #[x, y], argTypes := ts }) K = atInt (ρ x) fun kd a => atInt (ρ y) fun _ b => K (.int kd (if b < a then b else a)) [] := rfl
end
end

@[go_sem] theorem atInt_int {k : IntKind} {n : Int} {K : IntKind → Int → Prop} : atInt (.int k n) K = K k n := rfl
@[go_sem] theorem atBool_bool {b : Bool} {K : Bool → Prop} : atBool (.bool b) K = K b := rfl
@[go_sem] theorem lenV_sl {P : Program} {t n w : Nat} {cs : List V} {K : V → Prop} : lenV P t (.sl n w cs) K = (isSl P t = true ∧ K (.int .i64 n)) := rfl
@[go_sem] theorem lenV_osl {P : Program} {t id off n w : Nat} {K : V → Prop} : lenV P t (.osl id off n w) K = (isSl P t = true ∧ K (.int .i64 n)) := rfl
@[go_sem] theorem lenV_nil {P : Program} {t : Nat} {K : V → Prop} : lenV P t .nilsl K = (isSl P t = true ∧ K (.int .i64 0)) := rfl
@[go_sem] theorem lenV_str {P : Program} {t : Nat} {s : ByteArray} {K : V → Prop} : lenV P t (.str s) K = (isStr P t = true ∧ K (.int .i64 s.size)) := rfl
@[go_sem] theorem bin_int {P : Program} {op : BinOp} {t : Nat} {k k' : IntKind} {a b : Int} {K : V → Prop} : bin P op t (.int k a) (.int k' b) K = (k = k' ∧ intBin op k a b K) := rfl
@[go_sem] theorem bin_str {P : Program} {op : BinOp} {t : Nat} {a b : ByteArray} {K : V → Prop} : bin P op t (.str a) (.str b) K = strBin op a b K := rfl
@[go_sem] theorem bin_bool_eql {P : Program} {t : Nat} {a b : Bool} {K : V → Prop} : bin P .eql t (.bool a) (.bool b) K = (isBoolT P t = true ∧ K (.bool (a == b))) := rfl
@[go_sem] theorem bin_agg_eql {P : Program} {t : Nat} {a b : List V} {K : V → Prop} : bin P .eql t (.agg a) (.agg b) K = match flatEq P t with
    | some ds => match eqL ds a b with
      | some r => K (.bool r)
      | none => False
    | none => False := rfl
@[go_sem] theorem bin_agg_neq {P : Program} {t : Nat} {a b : List V} {K : V → Prop} : bin P .neq t (.agg a) (.agg b) K = match flatEq P t with
    | some ds => match eqL ds a b with
      | some r => K (.bool (!r))
      | none => False
    | none => False := rfl
@[go_sem] theorem eqL_nil : eqL [] [] [] = some true := rfl
@[go_sem] theorem eqL_int {k0 k : IntKind} {ds : List TypeDesc} {a b : Int} {l l' : List V} : eqL (.int k0 :: ds) (.int k a :: l) (.int k b :: l') = match eqL ds l l' with
    | some y => some ((a == b) && y)
    | none => none := by
  simp only [eqL, eqV, if_true]; cases eqL ds l l' <;> rfl
@[go_sem] theorem eqL_bool {ds : List TypeDesc} {a b : Bool} {l l' : List V} : eqL (.bool :: ds) (.bool a :: l) (.bool b :: l') = match eqL ds l l' with
    | some y => some ((a == b) && y)
    | none => none := by
  simp only [eqL, eqV]; cases eqL ds l l' <;> rfl
@[go_sem] theorem eqL_str {ds : List TypeDesc} {a b : ByteArray} {l l' : List V} : eqL (.string :: ds) (.str a :: l) (.str b :: l') = match eqL ds l l' with
    | some y => some ((a.toList == b.toList) && y)
    | none => none := by
  simp only [eqL, eqV]; cases eqL ds l l' <;> rfl
@[go_sem] theorem bin_bool_neq {P : Program} {t : Nat} {a b : Bool} {K : V → Prop} : bin P .neq t (.bool a) (.bool b) K = (isBoolT P t = true ∧ K (.bool (!(a == b)))) := rfl

section
variable {P : Program} {h : Hp} {t f : Nat} {K : V → Prop}
@[go_sem] theorem loadV_pt {cs : List V} : loadV P h t (.pt cs) K = match tszOf P t with
  | some (sz, ag) => sz ≤ cs.length ∧ (ag = true ∨ sz = 1) ∧ K (mk ag (cs.take sz))
  | none => False := rfl
@[go_sem] theorem loadV_ptr {id off : Nat} : loadV P h t (.ptr id off) K = match tszOf P t with
  | some (sz, ag) => match h[id]? with
    | some (some cs) => off + sz ≤ cs.length ∧ (ag = true ∨ sz = 1) ∧ K (mk ag ((cs.drop off).take sz))
    | _ => False
  | none => False := rfl
@[go_sem] theorem fieldAddrV_pt {cs : List V} : fieldAddrV P t f (.pt cs) K = match fdOf P t f with
  | some (off, sz, _) => 0 < sz ∧ K (.pt (cs.drop off))
  | none => False := rfl
@[go_sem] theorem fieldAddrV_ptr {id o : Nat} : fieldAddrV P t f (.ptr id o) K = match fdOf P t f with
  | some (off, sz, _) => 0 < sz ∧ K (.ptr id (o + off))
  | none => False := rfl
@[go_sem] theorem fieldV_agg {cs : List V} : fieldV P t f (.agg cs) K = match fdOf P t f with
  | some (off, sz, ag) => off + sz ≤ cs.length ∧ (ag = true ∨ sz = 1) ∧ K (mk ag ((cs.drop off).take sz))
  | none => False := rfl
@[go_sem] theorem indexAddrV_sl {n w : Nat} {cs : List V} {z : Int} : indexAddrV P t (.sl n w cs) z K = match elOf P t with
  | some (_, sz, _) => (0 ≤ z ∧ z < n) ∧ w = sz ∧ K (.pt ((cs.drop (z.toNat * w)).take w))
  | none => False := rfl
@[go_sem] theorem indexAddrV_osl {id off n w : Nat} {z : Int} : indexAddrV P t (.osl id off n w) z K = match elOf P t with
  | some (_, sz, _) => (0 ≤ z ∧ z < n) ∧ w = sz ∧ K (.ptr id (off + z.toNat * w))
  | none => False := rfl
@[go_sem] theorem indexAddrV_ptr {id off : Nat} {z : Int} : indexAddrV P t (.ptr id off) z K = match arOf P t with
  | some (n, sz, _) => (0 ≤ z ∧ z < n) ∧ K (.ptr id (off + z.toNat * sz))
  | none => False := rfl
@[go_sem] theorem indexAddrV_pt {cs : List V} {z : Int} : indexAddrV P t (.pt cs) z K = match arOf P t with
  | some (n, sz, _) => (0 ≤ z ∧ z < n) ∧ K (.pt (cs.drop (z.toNat * sz)))
  | none => False := rfl
@[go_sem] theorem indexV_str {s : ByteArray} {z : Int} : indexV P t (.str s) z K = (isStr P t = true ∧ ∃ hi : 0 ≤ z ∧ z.toNat < s.size, K (.int .u8 ((s[z.toNat]'hi.2).toNat : Int))) := rfl
@[go_sem] theorem indexV_agg {cs : List V} {z : Int} : indexV P t (.agg cs) z K = match arOf P t with
  | some (n, sz, ag) => (0 ≤ z ∧ z < n) ∧ z.toNat * sz + sz ≤ cs.length ∧ (ag = true ∨ sz = 1) ∧ K (mk ag ((cs.drop (z.toNat * sz)).take sz))
  | none => False := rfl
@[go_sem] theorem sliceV_sl {ρ : Operand → V} {n w : Nat} {cs : List V} {l : Int} {hi : Option Operand} : sliceV P ρ t (.sl n w cs) l hi K = match elOf P t with
    | some (_, sz, _) => match hi with
      | none => (0 ≤ l ∧ l ≤ n) ∧ w = sz ∧ K (.sl (n - l.toNat) w (cs.drop (l.toNat * w)))
      | some hh => atInt (ρ hh) fun _ u => (0 ≤ l ∧ l ≤ u ∧ u ≤ n) ∧ w = sz ∧ K (.sl (u.toNat - l.toNat) w ((cs.drop (l.toNat * w)).take ((u.toNat - l.toNat) * w)))
    | none => False := rfl
@[go_sem] theorem sliceV_osl {ρ : Operand → V} {id off n w : Nat} {l : Int} {hi : Option Operand} : sliceV P ρ t (.osl id off n w) l hi K = match elOf P t with
    | some (_, sz, _) => match hi with
      | none => (0 ≤ l ∧ l ≤ n) ∧ w = sz ∧ K (if l = 0 ∨ l < n then .osl id (off + l.toNat * w) (n - l.toNat) w else .sl 0 w [])
      | some hh => atInt (ρ hh) fun _ u => (0 ≤ l ∧ l ≤ u ∧ u ≤ n) ∧ w = sz ∧ K (if l = 0 ∨ l < u then .osl id (off + l.toNat * w) (u.toNat - l.toNat) w else .sl 0 w [])
    | none => False := rfl
@[go_sem] theorem sliceV_str {ρ : Operand → V} {s : ByteArray} {l : Int} {hi : Option Operand} : sliceV P ρ t (.str s) l hi K = (isStr P t = true ∧ match hi with
    | none => (0 ≤ l ∧ l ≤ s.size) ∧ K (.str (s.extract l.toNat s.size))
    | some hh => atInt (ρ hh) fun _ u => (0 ≤ l ∧ l ≤ u ∧ u ≤ s.size) ∧ K (.str (s.extract l.toNat u.toNat))) := rfl
@[go_sem] theorem convV_int {u : Nat} {kd : IntKind} {n : Int} : convV P t u (.int kd n) K = ((P.underlying t).isSome = true ∧ match isIntT P u with
  | some k => K (.int k (k.wrap n))
  | none => isStr P u = true ∧ K (.str (Utf8.encode n))) := rfl
@[go_sem] theorem convV_str {u : Nat} {b : ByteArray} : convV P t u (.str b) K = ((P.underlying t).isSome = true ∧ isStr P u = true ∧ K (.str b)) := rfl
@[go_sem] theorem convH_int {h : Hp} {u : Nat} {kd : IntKind} {n : Int} : convH P h t u (.int kd n) K = ((P.underlying t).isSome = true ∧ match isIntT P u with
  | some k => K (.int k (k.wrap n))
  | none => isStr P u = true ∧ K (.str (Utf8.encode n))) := rfl
@[go_sem] theorem convH_str {h : Hp} {u : Nat} {b : ByteArray} : convH P h t u (.str b) K = ((P.underlying t).isSome = true ∧ isStr P u = true ∧ K (.str b)) := rfl
@[go_sem] theorem convH_osl {h : Hp} {u id off n wd : Nat} : convH P h t u (.osl id off n wd) K = ((isU8S P t = true ∧ isStr P u = true ∧ wd = 1) ∧ match h[id]? with
    | some (some cs) => match bytesL ((cs.drop off).take n) with
      | some xs => K (.str (strOfNums xs))
      | none => False
    | _ => False) := rfl
@[go_sem] theorem bytesL_nil : bytesL [] = some [] := rfl
@[go_sem] theorem bytesL_cons {n : Int} {cs : List V} : bytesL (.int .u8 n :: cs) = (bytesL cs).map (n :: ·) := rfl
@[go_sem] theorem nilV_ptr {id off : Nat} : nilV (.ptr id off) K = K (.ptr id off) := rfl
@[go_sem] theorem nilV_pt {cs : List V} : nilV (.pt cs) K = K (.pt cs) := rfl
@[go_sem] theorem nilV_fn {g : Nat} {a c : List V} : nilV (.fn (.func g) a c) K = K (.fn (.func g) a c) := rfl
@[go_sem] theorem atTup_tup {vs : List V} {i : Nat} : atTup (.tup vs) i K = match vs[i]? with
  | some v => K v
  | none => False := rfl
@[go_sem] theorem lookupV_mp {id : Nat} {y : V} {ok : Bool} : lookupV P h t (.mp id) y ok K = match h[id]? with
    | some (some [.mb es]) => match keyV y, mapOf P t with
      | some k, some (d, z) => keyOk d k = true ∧ match mpFind d k es 0 with
        | some (some (_, v)) => K (if ok then .tup [lf v, .bool true] else lf v)
        | some none => K (if ok then .tup [z, .bool false] else z)
        | none => False
      | _, _ => False
    | _ => False := rfl
@[go_sem] theorem updV_mp {id : Nat} {y v : V} {K : Hp → Prop} : updV P h t (.mp id) y v K = match h[id]? with
    | some (some [.mb es]) => match keyV y, keyV v, mapOf P t with
      | some k, some vl, some (d, _) => keyOk d k = true ∧ match mpFind d k es 0 with
        | some r => K (h.set id (some [.mb (mpPut k vl r es)]))
        | none => False
      | _, _, _ => False
    | _ => False := rfl
@[go_sem] theorem keyV_int {k : IntKind} {n : Int} : keyV (.int k n) = some (.int k n) := rfl
@[go_sem] theorem keyV_str {s : ByteArray} : keyV (.str s) = some (.string s) := rfl
@[go_sem] theorem keyV_bool {b : Bool} : keyV (.bool b) = some (.bool b) := rfl
@[go_sem] theorem keyOk_int {k : IntKind} {n : Int} : keyOk (.int k) (.int k n) = true := by simp [keyOk]
@[go_sem] theorem keyOk_str {s : ByteArray} : keyOk .string (.string s) = true := rfl
@[go_sem] theorem lf_int {k : IntKind} {n : Int} : lf (.int k n) = .int k n := rfl
@[go_sem] theorem lf_bool {b : Bool} : lf (.bool b) = .bool b := rfl
@[go_sem] theorem lf_str {s : ByteArray} : lf (.string s) = .str s := rfl
@[go_sem] theorem buildV_eq {parts : List (Nat × V)} : buildV P t parts K = match zeroOf P t, plOf P t with
  | some zs, some pl => match fillV pl parts zs with
    | some cs => K (.agg cs)
    | none => False
  | _, _ => False := rfl
@[go_sem] theorem storeV_ptr {id off : Nat} {v : V} {K : Hp → Prop} : storeV P h t (.ptr id off) v K = match h[id]? with
  | some (some cs) => match cellsOf v with
    | some ns => match tszOf P t with
      | some (sz, _) => ns.length = sz ∧ off + sz ≤ cs.length ∧ K (h.set id (some (splice cs off ns)))
      | none => False
    | none => False
  | _ => False := rfl
@[go_sem] theorem srcV_sl {sz n w : Nat} {cs : List V} {no : Option Nat} {K : Nat → List V → Prop} : srcV h sz no (.sl n w cs) K = (w = sz ∧ cs.all isCell = true ∧ K n cs) := rfl
@[go_sem] theorem srcV_nil {sz : Nat} {no : Option Nat} {K : Nat → List V → Prop} : srcV h sz no .nilsl K = K 0 [] := rfl
@[go_sem] theorem srcV_osl {sz id off n w : Nat} {no : Option Nat} {K : Nat → List V → Prop} : srcV h sz no (.osl id off n w) K = (some id ≠ no ∧ match h[id]? with
  | some (some cs) => w = sz ∧ ((cs.drop off).take (n * sz)).all isCell = true ∧ K n ((cs.drop off).take (n * sz))
  | _ => False) := rfl
@[go_sem] theorem appendV_nil {s : St} {u : Nat} {y : V} {K : St → V → Prop} : appendV P s t u .nilsl y K = (isSl P u = true ∧ match elOf P t with
  | some (e, sz, by_) => match zeroOf P e with
    | some zs => zs.length = sz ∧ srcV s.h sz none y fun n2 cs2 => 0 < n2 ∧ n2 * by_ ≤ 140737488355328 ∧ n2 ≤ 4611686018427387904 ∧ K { s with h := s.h ++ [some cs2] } (.osl s.h.length 0 n2 sz)
    | none => False
  | none => False) := rfl
@[go_sem] theorem appendV_osl {s : St} {u id off n wd : Nat} {y : V} {K : St → V → Prop} : appendV P s t u (.osl id off n wd) y K = (isSl P u = true ∧ match elOf P t with
  | some (e, sz, by_) => match zeroOf P e with
    | some zs => zs.length = sz ∧ match s.h[id]? with
      | some (some cs) => off = 0 ∧ wd = sz ∧ n * sz = cs.length ∧ srcV s.h sz (some id) y fun n2 cs2 =>
          (s.k ≤ id ∨ cs2 ≠ []) ∧ (n + n2) * by_ ≤ 140737488355328 ∧ n + n2 ≤ 4611686018427387904 ∧
          K { s with t := killL id s.t, h := (s.h.map (killB id)).set id (some (killC id (cs ++ cs2))) } (.osl id 0 (n + n2) sz)
      | _ => False
    | none => False
  | none => False) := rfl
end
attribute [go_sem] intBin strBin mk lowOf
@[go_sem] theorem mk_false {l : List V} : mk false l = l.getD 0 .undef := rfl

/-- Slots of which less is said; local blocks from n on are forgotten. -/
def LeC (n : Nat) : List V → List V → Prop
  | [], [] => True
  | a :: l, b :: l' => LeV (ren (cutF n) 3 a) b ∧ LeC n l l'
  | _, _ => False

theorem LeC_undef {n : Nat} {a : V} {l l' : List V} : LeC n (a :: l) (.undef :: l') = LeC n l l' := by
  simp [LeC, LeV]
theorem LeC_cons {n : Nat} {a b : V} {l l' : List V} : LeC n (a :: l) (b :: l') = (LeV (ren (cutF n) 3 a) b ∧ LeC n l l') := rfl
theorem LeC_nil {n : Nat} : LeC n [] [] = True := rfl
theorem LeV_refl (v : V) : LeV v v := .inl rfl

theorem LeC.get {n : Nat} : ∀ {l l' : List V}, LeC n l l' → l.length = l'.length ∧ ∀ i (hi : i < l.length) (hi' : i < l'.length), LeV (ren (cutF n) 3 l[i]) l'[i]
  | [], [], _ => ⟨rfl, fun i hi => by simp at hi⟩
  | a :: l, b :: l', h => by
    obtain ⟨h1, h2⟩ := LeC.get h.2
    refine ⟨by simp [h1], fun i hi hi' => ?_⟩
    cases i with
    | zero => exact h.1
    | succ i => exact h2 i (by simpa using hi) (by simpa using hi')
  | [], _ :: _, h => h.elim
  | _ :: _, [], h => h.elim


theorem Weak.cut {t t2 : List V} {h h2 : Hp} {k : Nat} (n : Nat) (hk : k ≤ n) (hn : n ≤ h.length) (ht : LeC n t t2) (hh : cutH n h = h2) : Weak ⟨t, h, k⟩ ⟨t2, h2, k⟩ := by
  subst hh
  intro w0 m0 h0 av0 a w m I
  have hcase : ∀ (j : Nat) (c : List V), (cutH n h)[j]? = some (some c) → j < n ∧ ∃ c0, h[j]? = some (some c0) ∧ c = c0.map (ren (cutF n) 2) := by
    intro j c hj
    have hlt : j < n := by
      have := id_lt hj
      simp [cutH] at this; omega
    simp only [cutH, List.getElem?_map, List.getElem?_take_of_lt hlt] at hj
    cases h2 : h[j]? with
    | none => simp [h2] at hj
    | some b =>
      cases b with
      | none => simp [h2, cutB] at hj
      | some c0 => simp [h2, cutB] at hj; exact ⟨hlt, c0, rfl, hj.symm⟩
  have hnew : ∀ (j : Nat) (c : List V), j < n → h[j]? = some (some c) → (cutH n h)[j]? = some (some (c.map (ren (cutF n) 2))) := by
    intro j c hlt hj
    simp [cutH, List.getElem?_take_of_lt hlt, hj, cutB]
  have hown : ∀ b, own m (cutH n h) b → own m h b := by
    rintro b ⟨j, c, h1, rfl⟩
    obtain ⟨_, c0, h2, _⟩ := hcase j c h1
    exact ⟨j, c0, h2, rfl⟩
  have hR : Ren w w m m h (cutH n h) (avm av0 m h) (avm av0 m (cutH n h)) (cutF n) := by
    refine ⟨fun b off v hb hc => ⟨fun h => hb (h.imp (fun x => x) (hown b)), hc⟩, fun j c j' hj hf => ?_, fun j c c' hj hf => ?_⟩
    · unfold cutF at hf
      split at hf
      · rename_i hlt; simp at hf; subst hf
        exact ⟨_, hnew j c hlt hj, by simp, rfl, Nat.le_refl _, isMb_ren _ _ _⟩
      · cases hf
    · unfold cutF at hf
      split at hf <;> cases hf
  obtain ⟨hlen, hget⟩ := ht.get
  refine ⟨m, ⟨fun i j ci cj h1 h2 he => ?_, fun j c h1 => .inr ⟨j, c, h1, rfl⟩, fun j c h1 => ?_⟩, by rw [I.size]; exact hlen, fun i hi => ?_, I.defers, I.ext, fun j c h1 => ?_, I.lt, I.lent, I.gl, I.k, ?_⟩
  · obtain ⟨_, c0, h3, _⟩ := hcase i ci h1
    obtain ⟨_, c1, h4, _⟩ := hcase j cj h2
    exact I.rh.inj i j c0 c1 h3 h4 he
  · obtain ⟨_, c0, h2, rfl⟩ := hcase j c h1
    exact (I.rh.blk j c0 h2).map rfl (ren_mb _ 2) (fun v x hx => hx.ren hR 2)
  · have hi' : i < t.length := by rw [hlen]; exact hi
    exact ((I.slots i hi').ren hR 3).le (hget i hi' hi)
  · obtain ⟨_, c0, h2, rfl⟩ := hcase j c h1
    rw [List.length_map]
    exact I.ids j c0 h2
  · have := I.k
    dsimp only at this
    simp [cutH]; omega


@[go_sem] theorem q_move (x : Operand) : quietOp (.move x) = true := rfl
@[go_sem] theorem q_assign (x : Operand) : quietOp (.assign x) = true := rfl
@[go_sem] theorem q_pick (x y z : Operand) : quietOp (.pick x y z) = true := rfl
@[go_sem] theorem q_build (t : Nat) (x : Array (Nat × Operand)) : quietOp (.build t x) = true := rfl
@[go_sem] theorem q_buildSlice (t n : Nat) (x : Array (Nat × Operand)) : quietOp (.buildSlice t n x) = true := rfl
@[go_sem] theorem q_load (t : Nat) (x : Operand) : quietOp (.load t x) = true := rfl
@[go_sem] theorem q_nilCheck (x : Operand) : quietOp (.nilCheck x) = true := rfl
@[go_sem] theorem q_binOp (o : BinOp) (t u : Nat) (x y : Operand) : quietOp (.binOp o t x y u) = true := rfl
@[go_sem] theorem q_unOp (o : UnOp) (t : Nat) (x : Operand) : quietOp (.unOp o t x) = true := rfl
@[go_sem] theorem q_convert (t u : Nat) (x : Operand) : quietOp (.convert t u x) = true := rfl
@[go_sem] theorem q_makeFunc (f : Fn) (x y : Array Operand) : quietOp (.makeFunc f x y) = true := rfl
@[go_sem] theorem q_slice (t : Nat) (x : Operand) (a b c : Option Operand) : quietOp (.slice t x a b c) = true := rfl
@[go_sem] theorem q_fieldAddr (t : Nat) (x : Operand) (f : Nat) : quietOp (.fieldAddr t x f) = true := rfl
@[go_sem] theorem q_field (t : Nat) (x : Operand) (f : Nat) : quietOp (.field t x f) = true := rfl
@[go_sem] theorem q_indexAddr (t : Nat) (x y : Operand) : quietOp (.indexAddr t x y) = true := rfl
@[go_sem] theorem q_index (t : Nat) (x y : Operand) : quietOp (.index t x y) = true := rfl
@[go_sem] theorem q_extract (x : Operand) (i : Nat) : quietOp (.extract x i) = true := rfl
@[go_sem] theorem q_callv (f : Operand) (a : Array Operand) (t : Array TypeId) : quietOp (.call { callee := .value f, args := a, argTypes := t }) = !(ptrT t || lentF f) := rfl
@[go_sem] theorem lentF_func (f : FuncId) : lentF (.func f) = elemT lendFs f := rfl
@[go_sem] theorem lentF_tmp (t : Tmp) : lentF (.tmp t) = false := rfl
@[go_sem] theorem ptrT_cons (t : TypeId) (l : List TypeId) : ptrT (t :: l).toArray = elemT lendTs t := rfl
@[go_sem] theorem ptrT_nil : ptrT #[] = false := rfl
attribute [go_sem] lendTs lendFs elemT Bool.not_true Bool.not_false
@[go_sem] theorem q_len (a : Array Operand) (t : Array TypeId) : quietOp (.call { callee := .builtin .len, args := a, argTypes := t }) = true := rfl
@[go_sem] theorem nq_store (t : Nat) (x y : Operand) : quietOp (.store t x y) = false := rfl
@[go_sem] theorem q_lookup (t : Nat) (x y : Operand) (ok : Bool) : quietOp (.lookup t x y ok) = true := rfl
@[go_sem] theorem nq_makeMap (t : Nat) (x : Option Operand) : quietOp (.makeMap t x) = false := rfl
@[go_sem] theorem nq_mapUpdate (t : Nat) (x y z : Operand) : quietOp (.mapUpdate t x y z) = false := rfl
@[go_sem] theorem nq_append (a : Array Operand) (t : Array TypeId) : quietOp (.call { callee := .builtin .append, args := a, argTypes := t }) = false := rfl
@[go_sem] theorem q_alloc (t : Nat) : quietOp (.alloc t) = true := rfl
@[go_sem] theorem q_box (t : Nat) (x : Operand) : quietOp (.box t x) = true := rfl
@[go_sem] theorem q_makeSlice (t : Nat) (x y : Operand) : quietOp (.makeSlice t x y) = true := rfl
@[go_sem] theorem q_max (a : Array Operand) (t : Array TypeId) : quietOp (.call { callee := .builtin .max, args := a, argTypes := t }) = true := rfl
@[go_sem] theorem q_min (a : Array Operand) (t : Array TypeId) : quietOp (.call { callee := .builtin .min, args := a, argTypes := t }) = true := rfl
@[go_sem] theorem b0_move (x : Operand) : isB0 (.move x) = false := rfl
@[go_sem] theorem lg_move (x : Operand) (l : Array Edge) : isLg (.move x) l = false := rfl
@[go_sem] theorem st_move (x : Operand) : isSto (.move x) = false := rfl
@[go_sem] theorem ld_move (x : Operand)  : isLd (.move x) = false := rfl
@[go_sem] theorem vc_move {P : Program} (x : Operand)  : isVc P (.move x) = false := rfl
@[go_sem] theorem ap_move (x : Operand) : isAp (.move x) = false := rfl
@[go_sem] theorem b0_assign (x : Operand) : isB0 (.assign x) = false := rfl
@[go_sem] theorem lg_assign (x : Operand) (l : Array Edge) : isLg (.assign x) l = false := rfl
@[go_sem] theorem st_assign (x : Operand) : isSto (.assign x) = false := rfl
@[go_sem] theorem ld_assign (x : Operand)  : isLd (.assign x) = false := rfl
@[go_sem] theorem vc_assign {P : Program} (x : Operand)  : isVc P (.assign x) = false := rfl
@[go_sem] theorem ap_assign (x : Operand) : isAp (.assign x) = false := rfl
@[go_sem] theorem b0_pick (x y z : Operand) : isB0 (.pick x y z) = false := rfl
@[go_sem] theorem lg_pick (x y z : Operand) (l : Array Edge) : isLg (.pick x y z) l = false := rfl
@[go_sem] theorem st_pick (x y z : Operand) : isSto (.pick x y z) = false := rfl
@[go_sem] theorem ld_pick (x y z : Operand)  : isLd (.pick x y z) = false := rfl
@[go_sem] theorem vc_pick {P : Program} (x y z : Operand)  : isVc P (.pick x y z) = false := rfl
@[go_sem] theorem ap_pick (x y z : Operand) : isAp (.pick x y z) = false := rfl
@[go_sem] theorem b0_build (t : Nat) (x : Array (Nat × Operand)) : isB0 (.build t x) = false := rfl
@[go_sem] theorem lg_build (t : Nat) (x : Array (Nat × Operand)) (l : Array Edge) : isLg (.build t x) l = false := rfl
@[go_sem] theorem st_build (t : Nat) (x : Array (Nat × Operand)) : isSto (.build t x) = false := rfl
@[go_sem] theorem ld_build (t : Nat) (x : Array (Nat × Operand))  : isLd (.build t x) = false := rfl
@[go_sem] theorem vc_build {P : Program} (t : Nat) (x : Array (Nat × Operand))  : isVc P (.build t x) = false := rfl
@[go_sem] theorem ap_build (t : Nat) (x : Array (Nat × Operand)) : isAp (.build t x) = false := rfl
@[go_sem] theorem b0_buildSlice (t n : Nat) (x : Array (Nat × Operand)) : isB0 (.buildSlice t n x) = (if n = 0 then true else false) := rfl
@[go_sem] theorem lg_buildSlice (t n : Nat) (x : Array (Nat × Operand)) (l : Array Edge) : isLg (.buildSlice t n x) l = false := rfl
@[go_sem] theorem st_buildSlice (t n : Nat) (x : Array (Nat × Operand)) : isSto (.buildSlice t n x) = false := rfl
@[go_sem] theorem ld_buildSlice (t n : Nat) (x : Array (Nat × Operand))  : isLd (.buildSlice t n x) = false := rfl
@[go_sem] theorem vc_buildSlice {P : Program} (t n : Nat) (x : Array (Nat × Operand))  : isVc P (.buildSlice t n x) = false := rfl
@[go_sem] theorem ap_buildSlice (t n : Nat) (x : Array (Nat × Operand)) : isAp (.buildSlice t n x) = false := rfl
@[go_sem] theorem b0_load (t : Nat) (x : Operand) : isB0 (.load t x) = false := rfl
@[go_sem] theorem lg_load (t : Nat) (x : Operand) (l : List Edge) : isLg (.load t x) l.toArray = gcL l := rfl
@[go_sem] theorem st_load (t : Nat) (x : Operand) : isSto (.load t x) = false := rfl
@[go_sem] theorem ld_load (t : Nat) (x : Operand)  : isLd (.load t x) = true := rfl
@[go_sem] theorem vc_load {P : Program} (t : Nat) (x : Operand)  : isVc P (.load t x) = false := rfl
@[go_sem] theorem ap_load (t : Nat) (x : Operand) : isAp (.load t x) = false := rfl
@[go_sem] theorem b0_nilCheck (x : Operand) : isB0 (.nilCheck x) = false := rfl
@[go_sem] theorem lg_nilCheck (x : Operand) (l : Array Edge) : isLg (.nilCheck x) l = false := rfl
@[go_sem] theorem st_nilCheck (x : Operand) : isSto (.nilCheck x) = false := rfl
@[go_sem] theorem ld_nilCheck (x : Operand)  : isLd (.nilCheck x) = false := rfl
@[go_sem] theorem vc_nilCheck {P : Program} (x : Operand)  : isVc P (.nilCheck x) = false := rfl
@[go_sem] theorem ap_nilCheck (x : Operand) : isAp (.nilCheck x) = false := rfl
@[go_sem] theorem b0_binOp (o : BinOp) (t u : Nat) (x y : Operand) : isB0 (.binOp o t x y u) = false := rfl
@[go_sem] theorem lg_binOp (o : BinOp) (t u : Nat) (x y : Operand) (l : Array Edge) : isLg (.binOp o t x y u) l = false := rfl
@[go_sem] theorem st_binOp (o : BinOp) (t u : Nat) (x y : Operand) : isSto (.binOp o t x y u) = false := rfl
@[go_sem] theorem ld_binOp (o : BinOp) (t u : Nat) (x y : Operand)  : isLd (.binOp o t x y u) = false := rfl
@[go_sem] theorem vc_binOp {P : Program} (o : BinOp) (t u : Nat) (x y : Operand)  : isVc P (.binOp o t x y u) = false := rfl
@[go_sem] theorem ap_binOp (o : BinOp) (t u : Nat) (x y : Operand) : isAp (.binOp o t x y u) = false := rfl
@[go_sem] theorem b0_unOp (o : UnOp) (t : Nat) (x : Operand) : isB0 (.unOp o t x) = false := rfl
@[go_sem] theorem lg_unOp (o : UnOp) (t : Nat) (x : Operand) (l : Array Edge) : isLg (.unOp o t x) l = false := rfl
@[go_sem] theorem st_unOp (o : UnOp) (t : Nat) (x : Operand) : isSto (.unOp o t x) = false := rfl
@[go_sem] theorem ld_unOp (o : UnOp) (t : Nat) (x : Operand)  : isLd (.unOp o t x) = false := rfl
@[go_sem] theorem vc_unOp {P : Program} (o : UnOp) (t : Nat) (x : Operand)  : isVc P (.unOp o t x) = false := rfl
@[go_sem] theorem ap_unOp (o : UnOp) (t : Nat) (x : Operand) : isAp (.unOp o t x) = false := rfl
@[go_sem] theorem b0_convert (t u : Nat) (x : Operand) : isB0 (.convert t u x) = false := rfl
@[go_sem] theorem lg_convert (t u : Nat) (x : Operand) (l : Array Edge) : isLg (.convert t u x) l = false := rfl
@[go_sem] theorem st_convert (t u : Nat) (x : Operand) : isSto (.convert t u x) = false := rfl
@[go_sem] theorem ld_convert (t u : Nat) (x : Operand)  : isLd (.convert t u x) = false := rfl
@[go_sem] theorem vc_convert {P : Program} (t u : Nat) (x : Operand)  : isVc P (.convert t u x) = false := rfl
@[go_sem] theorem ap_convert (t u : Nat) (x : Operand) : isAp (.convert t u x) = false := rfl
@[go_sem] theorem b0_makeFunc (f : Fn) (x y : Array Operand) : isB0 (.makeFunc f x y) = false := rfl
@[go_sem] theorem lg_makeFunc (f : Fn) (x y : Array Operand) (l : Array Edge) : isLg (.makeFunc f x y) l = false := rfl
@[go_sem] theorem st_makeFunc (f : Fn) (x y : Array Operand) : isSto (.makeFunc f x y) = false := rfl
@[go_sem] theorem ld_makeFunc (f : Fn) (x y : Array Operand)  : isLd (.makeFunc f x y) = false := rfl
@[go_sem] theorem vc_makeFunc {P : Program} (f : Fn) (x y : Array Operand)  : isVc P (.makeFunc f x y) = false := rfl
@[go_sem] theorem ap_makeFunc (f : Fn) (x y : Array Operand) : isAp (.makeFunc f x y) = false := rfl
@[go_sem] theorem b0_slice (t : Nat) (x : Operand) (a b c : Option Operand) : isB0 (.slice t x a b c) = false := rfl
@[go_sem] theorem lg_slice (t : Nat) (x : Operand) (a b c : Option Operand) (l : Array Edge) : isLg (.slice t x a b c) l = false := rfl
@[go_sem] theorem st_slice (t : Nat) (x : Operand) (a b c : Option Operand) : isSto (.slice t x a b c) = false := rfl
@[go_sem] theorem ld_slice (t : Nat) (x : Operand) (a b c : Option Operand)  : isLd (.slice t x a b c) = false := rfl
@[go_sem] theorem vc_slice {P : Program} (t : Nat) (x : Operand) (a b c : Option Operand)  : isVc P (.slice t x a b c) = false := rfl
@[go_sem] theorem ap_slice (t : Nat) (x : Operand) (a b c : Option Operand) : isAp (.slice t x a b c) = false := rfl
@[go_sem] theorem b0_fieldAddr (t : Nat) (x : Operand) (f : Nat) : isB0 (.fieldAddr t x f) = false := rfl
@[go_sem] theorem lg_fieldAddr (t : Nat) (x : Operand) (f : Nat) (l : Array Edge) : isLg (.fieldAddr t x f) l = false := rfl
@[go_sem] theorem st_fieldAddr (t : Nat) (x : Operand) (f : Nat) : isSto (.fieldAddr t x f) = false := rfl
@[go_sem] theorem ld_fieldAddr (t : Nat) (x : Operand) (f : Nat)  : isLd (.fieldAddr t x f) = false := rfl
@[go_sem] theorem vc_fieldAddr {P : Program} (t : Nat) (x : Operand) (f : Nat)  : isVc P (.fieldAddr t x f) = false := rfl
@[go_sem] theorem ap_fieldAddr (t : Nat) (x : Operand) (f : Nat) : isAp (.fieldAddr t x f) = false := rfl
@[go_sem] theorem b0_field (t : Nat) (x : Operand) (f : Nat) : isB0 (.field t x f) = false := rfl
@[go_sem] theorem lg_field (t : Nat) (x : Operand) (f : Nat) (l : Array Edge) : isLg (.field t x f) l = false := rfl
@[go_sem] theorem st_field (t : Nat) (x : Operand) (f : Nat) : isSto (.field t x f) = false := rfl
@[go_sem] theorem ld_field (t : Nat) (x : Operand) (f : Nat)  : isLd (.field t x f) = false := rfl
@[go_sem] theorem vc_field {P : Program} (t : Nat) (x : Operand) (f : Nat)  : isVc P (.field t x f) = false := rfl
@[go_sem] theorem ap_field (t : Nat) (x : Operand) (f : Nat) : isAp (.field t x f) = false := rfl
@[go_sem] theorem b0_indexAddr (t : Nat) (x y : Operand) : isB0 (.indexAddr t x y) = false := rfl
@[go_sem] theorem lg_indexAddr (t : Nat) (x y : Operand) (l : Array Edge) : isLg (.indexAddr t x y) l = false := rfl
@[go_sem] theorem st_indexAddr (t : Nat) (x y : Operand) : isSto (.indexAddr t x y) = false := rfl
@[go_sem] theorem ld_indexAddr (t : Nat) (x y : Operand)  : isLd (.indexAddr t x y) = false := rfl
@[go_sem] theorem vc_indexAddr {P : Program} (t : Nat) (x y : Operand)  : isVc P (.indexAddr t x y) = false := rfl
@[go_sem] theorem ap_indexAddr (t : Nat) (x y : Operand) : isAp (.indexAddr t x y) = false := rfl
@[go_sem] theorem b0_index (t : Nat) (x y : Operand) : isB0 (.index t x y) = false := rfl
@[go_sem] theorem lg_index (t : Nat) (x y : Operand) (l : Array Edge) : isLg (.index t x y) l = false := rfl
@[go_sem] theorem st_index (t : Nat) (x y : Operand) : isSto (.index t x y) = false := rfl
@[go_sem] theorem ld_index (t : Nat) (x y : Operand)  : isLd (.index t x y) = false := rfl
@[go_sem] theorem vc_index {P : Program} (t : Nat) (x y : Operand)  : isVc P (.index t x y) = false := rfl
@[go_sem] theorem ap_index (t : Nat) (x y : Operand) : isAp (.index t x y) = false := rfl
@[go_sem] theorem b0_extract (x : Operand) (i : Nat) : isB0 (.extract x i) = false := rfl
@[go_sem] theorem lg_extract (x : Operand) (i : Nat) (l : Array Edge) : isLg (.extract x i) l = false := rfl
@[go_sem] theorem st_extract (x : Operand) (i : Nat) : isSto (.extract x i) = false := rfl
@[go_sem] theorem ld_extract (x : Operand) (i : Nat)  : isLd (.extract x i) = false := rfl
@[go_sem] theorem vc_extract {P : Program} (x : Operand) (i : Nat)  : isVc P (.extract x i) = false := rfl
@[go_sem] theorem ap_extract (x : Operand) (i : Nat) : isAp (.extract x i) = false := rfl
@[go_sem] theorem b0_callv (f : Operand) (a : Array Operand) (t : Array TypeId) : isB0 (.call { callee := .value f, args := a, argTypes := t }) = false := rfl
@[go_sem] theorem lg_callv (f : Operand) (a : Array Operand) (t : Array TypeId) (l : Array Edge) : isLg (.call { callee := .value f, args := a, argTypes := t }) l = false := rfl
@[go_sem] theorem st_callv (f : Operand) (a : Array Operand) (t : Array TypeId) : isSto (.call { callee := .value f, args := a, argTypes := t }) = false := rfl
@[go_sem] theorem ld_callv (f : Operand) (a : Array Operand) (t : Array TypeId)  : isLd (.call { callee := .value f, args := a, argTypes := t }) = false := rfl
@[go_sem] theorem vc_callv {P : Program} (f : Operand) (a : Array Operand) (t : TypeId) (ts : List TypeId) : isVc P (.call { callee := .value f, args := a, argTypes := (t :: ts).toArray }) = isPt P t := rfl
@[go_sem] theorem vc_callv0 {P : Program} (f : Operand) (a : Array Operand) : isVc P (.call { callee := .value f, args := a, argTypes := #[] }) = false := rfl
@[go_sem] theorem ap_callv (f : Operand) (a : Array Operand) (t : Array TypeId) : isAp (.call { callee := .value f, args := a, argTypes := t }) = false := rfl
@[go_sem] theorem b0_len (a : Array Operand) (t : Array TypeId) : isB0 (.call { callee := .builtin .len, args := a, argTypes := t }) = false := rfl
@[go_sem] theorem lg_len (a : Array Operand) (t : Array TypeId) (l : Array Edge) : isLg (.call { callee := .builtin .len, args := a, argTypes := t }) l = false := rfl
@[go_sem] theorem st_len (a : Array Operand) (t : Array TypeId) : isSto (.call { callee := .builtin .len, args := a, argTypes := t }) = false := rfl
@[go_sem] theorem ld_len (a : Array Operand) (t : Array TypeId)  : isLd (.call { callee := .builtin .len, args := a, argTypes := t }) = false := rfl
@[go_sem] theorem vc_len {P : Program} (a : Array Operand) (t : Array TypeId)  : isVc P (.call { callee := .builtin .len, args := a, argTypes := t }) = false := rfl
@[go_sem] theorem ap_len (a : Array Operand) (t : Array TypeId) : isAp (.call { callee := .builtin .len, args := a, argTypes := t }) = false := rfl
@[go_sem] theorem b0_store (t : Nat) (x y : Operand) : isB0 (.store t x y) = false := rfl
@[go_sem] theorem lg_store (t : Nat) (x y : Operand) (l : Array Edge) : isLg (.store t x y) l = false := rfl
@[go_sem] theorem st_store (t : Nat) (x y : Operand) : isSto (.store t x y) = true := rfl
@[go_sem] theorem ld_store (t : Nat) (x y : Operand)  : isLd (.store t x y) = false := rfl
@[go_sem] theorem vc_store {P : Program} (t : Nat) (x y : Operand)  : isVc P (.store t x y) = false := rfl
@[go_sem] theorem ap_store (t : Nat) (x y : Operand) : isAp (.store t x y) = false := rfl
@[go_sem] theorem b0_lookup (t : Nat) (x y : Operand) (ok : Bool) : isB0 (.lookup t x y ok) = false := rfl
@[go_sem] theorem lg_lookup (t : Nat) (x y : Operand) (ok : Bool) (l : Array Edge) : isLg (.lookup t x y ok) l = false := rfl
@[go_sem] theorem st_lookup (t : Nat) (x y : Operand) (ok : Bool) : isSto (.lookup t x y ok) = false := rfl
@[go_sem] theorem ld_lookup (t : Nat) (x y : Operand) (ok : Bool)  : isLd (.lookup t x y ok) = false := rfl
@[go_sem] theorem vc_lookup {P : Program} (t : Nat) (x y : Operand) (ok : Bool)  : isVc P (.lookup t x y ok) = false := rfl
@[go_sem] theorem ap_lookup (t : Nat) (x y : Operand) (ok : Bool) : isAp (.lookup t x y ok) = false := rfl
@[go_sem] theorem b0_makeMap (t : Nat) (x : Option Operand) : isB0 (.makeMap t x) = false := rfl
@[go_sem] theorem lg_makeMap (t : Nat) (x : Option Operand) (l : Array Edge) : isLg (.makeMap t x) l = false := rfl
@[go_sem] theorem st_makeMap (t : Nat) (x : Option Operand) : isSto (.makeMap t x) = false := rfl
@[go_sem] theorem ld_makeMap (t : Nat) (x : Option Operand)  : isLd (.makeMap t x) = false := rfl
@[go_sem] theorem vc_makeMap {P : Program} (t : Nat) (x : Option Operand)  : isVc P (.makeMap t x) = false := rfl
@[go_sem] theorem ap_makeMap (t : Nat) (x : Option Operand) : isAp (.makeMap t x) = false := rfl
@[go_sem] theorem b0_mapUpdate (t : Nat) (x y z : Operand) : isB0 (.mapUpdate t x y z) = false := rfl
@[go_sem] theorem lg_mapUpdate (t : Nat) (x y z : Operand) (l : Array Edge) : isLg (.mapUpdate t x y z) l = false := rfl
@[go_sem] theorem st_mapUpdate (t : Nat) (x y z : Operand) : isSto (.mapUpdate t x y z) = false := rfl
@[go_sem] theorem ld_mapUpdate (t : Nat) (x y z : Operand)  : isLd (.mapUpdate t x y z) = false := rfl
@[go_sem] theorem vc_mapUpdate {P : Program} (t : Nat) (x y z : Operand)  : isVc P (.mapUpdate t x y z) = false := rfl
@[go_sem] theorem ap_mapUpdate (t : Nat) (x y z : Operand) : isAp (.mapUpdate t x y z) = false := rfl
@[go_sem] theorem b0_append (a : Array Operand) (t : Array TypeId) : isB0 (.call { callee := .builtin .append, args := a, argTypes := t }) = false := rfl
@[go_sem] theorem lg_append (a : Array Operand) (t : Array TypeId) (l : Array Edge) : isLg (.call { callee := .builtin .append, args := a, argTypes := t }) l = false := rfl
@[go_sem] theorem st_append (a : Array Operand) (t : Array TypeId) : isSto (.call { callee := .builtin .append, args := a, argTypes := t }) = false := rfl
@[go_sem] theorem ld_append (a : Array Operand) (t : Array TypeId)  : isLd (.call { callee := .builtin .append, args := a, argTypes := t }) = false := rfl
@[go_sem] theorem vc_append {P : Program} (a : Array Operand) (t : Array TypeId)  : isVc P (.call { callee := .builtin .append, args := a, argTypes := t }) = false := rfl
@[go_sem] theorem ap_append (a : Array Operand) (t : Array TypeId) : isAp (.call { callee := .builtin .append, args := a, argTypes := t }) = true := rfl
@[go_sem] theorem b0_alloc (t : Nat) : isB0 (.alloc t) = false := rfl
@[go_sem] theorem lg_alloc (t : Nat) (l : Array Edge) : isLg (.alloc t) l = false := rfl
@[go_sem] theorem st_alloc (t : Nat) : isSto (.alloc t) = false := rfl
@[go_sem] theorem ld_alloc (t : Nat)  : isLd (.alloc t) = false := rfl
@[go_sem] theorem vc_alloc {P : Program} (t : Nat)  : isVc P (.alloc t) = false := rfl
@[go_sem] theorem ap_alloc (t : Nat) : isAp (.alloc t) = false := rfl
@[go_sem] theorem b0_box (t : Nat) (x : Operand) : isB0 (.box t x) = false := rfl
@[go_sem] theorem lg_box (t : Nat) (x : Operand) (l : Array Edge) : isLg (.box t x) l = false := rfl
@[go_sem] theorem st_box (t : Nat) (x : Operand) : isSto (.box t x) = false := rfl
@[go_sem] theorem ld_box (t : Nat) (x : Operand)  : isLd (.box t x) = false := rfl
@[go_sem] theorem vc_box {P : Program} (t : Nat) (x : Operand)  : isVc P (.box t x) = false := rfl
@[go_sem] theorem ap_box (t : Nat) (x : Operand) : isAp (.box t x) = false := rfl
@[go_sem] theorem b0_makeSlice (t : Nat) (x y : Operand) : isB0 (.makeSlice t x y) = false := rfl
@[go_sem] theorem lg_makeSlice (t : Nat) (x y : Operand) (l : Array Edge) : isLg (.makeSlice t x y) l = false := rfl
@[go_sem] theorem st_makeSlice (t : Nat) (x y : Operand) : isSto (.makeSlice t x y) = false := rfl
@[go_sem] theorem ld_makeSlice (t : Nat) (x y : Operand)  : isLd (.makeSlice t x y) = false := rfl
@[go_sem] theorem vc_makeSlice {P : Program} (t : Nat) (x y : Operand)  : isVc P (.makeSlice t x y) = false := rfl
@[go_sem] theorem ap_makeSlice (t : Nat) (x y : Operand) : isAp (.makeSlice t x y) = false := rfl
@[go_sem] theorem b0_max (a : Array Operand) (t : Array TypeId) : isB0 (.call { callee := .builtin .max, args := a, argTypes := t }) = false := rfl
@[go_sem] theorem lg_max (a : Array Operand) (t : Array TypeId) (l : Array Edge) : isLg (.call { callee := .builtin .max, args := a, argTypes := t }) l = false := rfl
@[go_sem] theorem st_max (a : Array Operand) (t : Array TypeId) : isSto (.call { callee := .builtin .max, args := a, argTypes := t }) = false := rfl
@[go_sem] theorem ld_max (a : Array Operand) (t : Array TypeId)  : isLd (.call { callee := .builtin .max, args := a, argTypes := t }) = false := rfl
@[go_sem] theorem vc_max {P : Program} (a : Array Operand) (t : Array TypeId)  : isVc P (.call { callee := .builtin .max, args := a, argTypes := t }) = false := rfl
@[go_sem] theorem ap_max (a : Array Operand) (t : Array TypeId) : isAp (.call { callee := .builtin .max, args := a, argTypes := t }) = false := rfl
@[go_sem] theorem b0_min (a : Array Operand) (t : Array TypeId) : isB0 (.call { callee := .builtin .min, args := a, argTypes := t }) = false := rfl
@[go_sem] theorem lg_min (a : Array Operand) (t : Array TypeId) (l : Array Edge) : isLg (.call { callee := .builtin .min, args := a, argTypes := t }) l = false := rfl
@[go_sem] theorem st_min (a : Array Operand) (t : Array TypeId) : isSto (.call { callee := .builtin .min, args := a, argTypes := t }) = false := rfl
@[go_sem] theorem ld_min (a : Array Operand) (t : Array TypeId)  : isLd (.call { callee := .builtin .min, args := a, argTypes := t }) = false := rfl
@[go_sem] theorem vc_min {P : Program} (a : Array Operand) (t : Array TypeId)  : isVc P (.call { callee := .builtin .min, args := a, argTypes := t }) = false := rfl
@[go_sem] theorem ap_min (a : Array Operand) (t : Array TypeId) : isAp (.call { callee := .builtin .min, args := a, argTypes := t }) = false := rfl
@[go_sem] theorem lt_assign (x : Operand) : lateB (.assign x) = true := rfl
@[go_sem] theorem lt_pick (x y z : Operand) : lateB (.pick x y z) = true := rfl
@[go_sem] theorem lt_alloc (t : Nat) : lateB (.alloc t) = true := rfl
@[go_sem] theorem lt_box (t : Nat) (x : Operand) : lateB (.box t x) = true := rfl
@[go_sem] theorem lt_build (t : Nat) (x : Array (Nat × Operand)) : lateB (.build t x) = true := rfl
@[go_sem] theorem lt_buildSlice (t n : Nat) (x : Array (Nat × Operand)) : lateB (.buildSlice t n x) = true := rfl
@[go_sem] theorem lt_makeSlice (t : Nat) (x y : Operand) : lateB (.makeSlice t x y) = true := rfl
@[go_sem] theorem lt_load (t : Nat) (x : Operand) : lateB (.load t x) = true := rfl
@[go_sem] theorem lt_binOp (o : BinOp) (t u : Nat) (x y : Operand) : lateB (.binOp o t x y u) = true := rfl
@[go_sem] theorem lt_unOp (o : UnOp) (t : Nat) (x : Operand) : lateB (.unOp o t x) = true := rfl
@[go_sem] theorem lt_convert (t u : Nat) (x : Operand) : lateB (.convert t u x) = true := rfl
@[go_sem] theorem lt_makeFunc (f : Fn) (x y : Array Operand) : lateB (.makeFunc f x y) = true := rfl
@[go_sem] theorem lt_slice (t : Nat) (x : Operand) (a b c : Option Operand) : lateB (.slice t x a b c) = true := rfl
@[go_sem] theorem lt_field (t : Nat) (x : Operand) (f : Nat) : lateB (.field t x f) = true := rfl
@[go_sem] theorem lt_index (t : Nat) (x y : Operand) : lateB (.index t x y) = true := rfl
@[go_sem] theorem lt_extract (x : Operand) (i : Nat) : lateB (.extract x i) = true := rfl
@[go_sem] theorem lt_call (c : Call) : lateB (.call c) = true := rfl
@[go_sem] theorem lt_store (t : Nat) (x y : Operand) : lateB (.store t x y) = true := rfl
@[go_sem] theorem lt_lookup (t : Nat) (x y : Operand) (ok : Bool) : lateB (.lookup t x y ok) = true := rfl
@[go_sem] theorem lt_makeMap (t : Nat) (x : Option Operand) : lateB (.makeMap t x) = true := rfl
@[go_sem] theorem lt_mapUpdate (t : Nat) (x y z : Operand) : lateB (.mapUpdate t x y z) = true := rfl
attribute [go_sem] cutF cutH cutB Bool.true_or Bool.or_true Bool.or_false Bool.false_or Bool.false_and Bool.and_false
attribute [go_sem] dG_quiet dG_guard dG_off dG_late
attribute [go_sem] LeC_nil LeC_cons
attribute [go_sem high] LeC_undef

attribute [go_sem] List.cons_append List.nil_append List.append_nil List.getD_cons_zero List.getD_cons_succ List.set_cons_zero List.set_cons_succ List.length_cons List.length_nil List.map_cons List.map_nil List.take_succ_cons List.take_zero List.drop_succ_cons List.drop_zero
  gv Option.bind_some List.getElem?_toArray List.getElem?_cons_zero List.getElem?_cons_succ List.replicate_succ List.replicate_zero List.all_cons List.all_nil
@[go_sem] theorem resA_nil {P : Program} {s : St} {K : List V → Prop} : resA P s [] K = K [] := rfl
@[go_sem] theorem resA_tmp {P : Program} {s : St} {t : Tmp} {l : List ResultVar} {K : List V → Prop} : resA P s (.tmp t :: l) K = resA P s l fun vs => K (s.t.getD t .undef :: vs) := rfl
@[go_sem] theorem resA_cell {P : Program} {s : St} {a : Tmp} {t : TypeId} {l : List ResultVar} {K : List V → Prop} : resA P s (.cell a t :: l) K = loadV P s.h t (s.t.getD a .undef) fun v => resA P s l fun vs => K (v :: vs) := rfl
@[go_sem] theorem retP_normal {P : Program} {res : List ResultVar} {Φ : V → Hp → Prop} {s : St} : retP P res Φ .normal s = resA P s res fun vs => RelR s.k (tupOf vs) s.h Φ := rfl
@[go_sem] theorem retP_ret {P : Program} {res : List ResultVar} {Φ : V → Hp → Prop} {s : St} : retP P res Φ .ret s = resA P s res fun vs => RelR s.k (tupOf vs) s.h Φ := rfl
@[go_sem] theorem retA_normal {P : Program} {res : List ResultVar} {r : V} {hout : Hp} {s : St} : retA P res r hout .normal s = resA P s res fun vs => WeakR s.k (tupOf vs) s.h r hout := rfl
@[go_sem] theorem retA_ret {P : Program} {res : List ResultVar} {r : V} {hout : Hp} {s : St} : retA P res r hout .ret s = resA P s res fun vs => WeakR s.k (tupOf vs) s.h r hout := rfl
@[go_sem] theorem tupOf_one {v : V} : tupOf [v] = v := rfl
@[go_sem] theorem tupOf_two {v u : V} : tupOf [v, u] = .tup [v, u] := rfl
@[go_sem] theorem tupOf_three {v u x : V} : tupOf [v, u, x] = .tup [v, u, x] := rfl

/-- What is handed back holds nothing of our blocks: they are garbage. -/
theorem WeakR.drop {v : V} {h : Hp} (hn : noOwn 3 v = true) : WeakR 0 v h v [] := by
  intro w0 m0 h0 av0 w m val hk _ hlt hle H hx hi
  refine ⟨m, ⟨fun i j ci cj h => by simp at h, fun id cs h => by simp at h, fun id cs h => by simp at h⟩, ?_, fun id cs h => by simp at h⟩
  have h1 := (RV.noOwn 3 v hn hx)
  have h2 : RV w m [] (avm av0 m []) false val v := h1.ro_step (fun b off u hb hc => ⟨fun h => hb (by
    rcases h with h | ⟨id, cs, h, _⟩
    · exact .inl h
    · simp at h), hc⟩) rfl
  exact h2.weak

theorem refV_noOwn (p : Nat → Bool) : ∀ (d : Nat) (v : V), noOwn d v = true → refV p d v = true
  | 0, v, hv => by cases v <;> first | rfl | (simp [noOwn] at hv; done)
  | d + 1, v, hv => by
    have key : ∀ l : List V, l.all (noOwn d) = true → l.all (refV p d) = true := fun l hl =>
      List.all_eq_true.2 fun x hx => refV_noOwn p d x (List.all_eq_true.1 hl x hx)
    cases v with
    | agg cs => exact key cs hv
    | tup cs => exact key cs hv
    | fn f a c =>
      simp only [noOwn, Bool.and_eq_true] at hv
      simp only [refV, Bool.and_eq_true]
      exact ⟨key a hv.1, key c hv.2⟩
    | _ => first | rfl | (simp [noOwn] at hv; done)
theorem refOk_noOwn (h : Hp) (d : Nat) (v : V) (hv : noOwn d v = true) : refOk h d v = true := refV_noOwn _ d v hv
theorem refOk_fn {h : Hp} {f : Fn} {vc : List V} (hv : vc.all (noOwn 3) = true) : refOk h 4 (.fn f [] vc) = true :=
  refOk_noOwn h 4 _ (by simp only [noOwn, List.all_nil, Bool.true_and]; exact hv)

/-- At a call: the contract, the arguments read so, what they hold. -/
theorem callT.intro {P : Program} {h : Hp} {g : FuncId} {a c args : List V} {K : V → Hp → Prop} {x : Tag K} {as' : List V} {r : V} {hout : Hp} (hs : Ctr P g as' [] r hout)
    (hle : LeL ((a ++ args ++ c).map (ren (snapR h 3) 3)) as') (hro : (a ++ args ++ c).all (noOwn 3) = true ∨ NoRo r ∧ NoRoH hout) (hrf : refOk h 4 (.fn (.func g) a c) = true ∧ args.all (refOk h 3) = true) (hk : K r hout) : callT P h (.fn (.func g) a c) args K x :=
  ⟨hrf, as', r, hout, hle, hs, hro, hk⟩

/-- At a call that keeps what it makes. -/
theorem callS.intro {P : Program} {t : List V} {h : Hp} {k : Nat} {dst : Option Tmp} {g : FuncId} {a c args : List V} {K : St → Prop} {x : Tag K} {as' : List V} {r : V} {hout : Hp} (hs : Ctr P g as' [] r hout)
    (hle : LeL ((a ++ args ++ c).map (ren (snapR h 3) 3)) as') (hro : (a ++ args ++ c).all (noOwn 3) = true ∨ NoRo r ∧ NoRoH hout) (hk : K (afterCall ⟨t, h, k⟩ dst r hout)) : callS P ⟨t, h, k⟩ dst (.fn (.func g) a c) args K x :=
  .inl ⟨as', r, hout, hle, hs, hro, hk⟩

/-- At a call that blocks are lent to. -/
theorem callS.lend {P : Program} {t : List V} {h : Hp} {k : Nat} {dst : Option Tmp} {g : FuncId} {a c args : List V} {K : St → Prop} {x : Tag K} (sel : List Nat) (fz : Bool) {as' : List V} {hin : Hp} {r : V} {hout : Hp} (hs : Ctr P g as' hin r hout) (hn : sel.Nodup)
    (hle : LeL ((a ++ args ++ c).map (ren (pickF sel h fz) 3)) as') (hh : pickH sel h fz = hin) (hg : grown hin hout) (hro : fz = false ∨ NoRo r ∧ NoRoH hout) (hk : K (afterM ⟨t, h, k⟩ dst sel r hout)) : callS P ⟨t, h, k⟩ dst (.fn (.func g) a c) args K x :=
  .inr (.inl ⟨sel, fz, as', r, hout, hn, hle, by rw [hh]; exact hs, by rw [hh]; exact hg, hro, hk⟩)

/-- At a call that blocks are lent to; some of them may move: what refers to these is forgotten. -/
theorem callS.lendK {P : Program} {t : List V} {h : Hp} {k : Nat} {dst : Option Tmp} {g : FuncId} {a c args : List V} {K : St → Prop} {x : Tag K} (mv sel : List Nat) (fz : Bool) {as' : List V} {hin : Hp} {r : V} {hout : Hp} (hs : Ctr P g as' hin r hout) (hn : sel.Nodup)
    (hle : LeL ((a ++ args ++ c).map (ren (pickF sel h fz) 3)) as') (hh : pickH sel h fz = hin) (hg : grownK mv sel hin hout) (hro : fz = false ∨ NoRo r ∧ NoRoH hout) (hk : K (afterK ⟨t, h, k⟩ dst mv sel r hout)) : callS P ⟨t, h, k⟩ dst (.fn (.func g) a c) args K x :=
  .inr (.inr (.inl ⟨mv, sel, fz, as', r, hout, hn, hle, by rw [hh]; exact hs, by rw [hh]; exact hg, hro, hk⟩))

/-- At a call of which it is known only that the result is one of some; blocks are lent to it. -/
theorem callS.rel {P : Program} {t : List V} {h : Hp} {k : Nat} {dst : Option Tmp} {g : FuncId} {a c args : List V} {K : St → Prop} {x : Tag K} (sel : List Nat) {as' : List V} {hin : Hp} {Φ : V → Hp → Prop} (hs : CtrP P g as' hin Φ) (hn : sel.Nodup)
    (hle : LeL ((a ++ args ++ c).map (ren (pickF sel h false) 3)) as') (hh : pickH sel h false = hin) (hall : hin.all Option.isSome = true) (hk : ∀ r hout, Φ r hout → grown hin hout ∧ K (afterM ⟨t, h, k⟩ dst sel r hout)) : callS P ⟨t, h, k⟩ dst (.fn (.func g) a c) args K x :=
  .inr (.inr (.inr ⟨sel, as', Φ, hn, hle, by rw [hh]; exact hs, by rw [hh]; exact hall, by rw [hh]; exact hk⟩))

/-- Element by element. -/
def LeG (f : V → V) : List V → List V → Prop
  | [], [] => True
  | a :: l, b :: l' => LeV (f a) b ∧ LeG f l l'
  | _, _ => False
@[go_sem high] theorem LeG_undef {f : V → V} {a : V} {l l' : List V} : LeG f (a :: l) (.undef :: l') = LeG f l l' := by
  simp [LeG, LeV]
@[go_sem] theorem LeG_cons {f : V → V} {a b : V} {l l' : List V} : LeG f (a :: l) (b :: l') = (LeV (f a) b ∧ LeG f l l') := rfl
@[go_sem] theorem LeG_nil {f : V → V} : LeG f [] [] = True := rfl
theorem LeG.get {f : V → V} : ∀ {l l' : List V}, LeG f l l' → l.length = l'.length ∧ ∀ i (hi : i < l.length) (hi' : i < l'.length), LeV (f l[i]) l'[i]
  | [], [], _ => ⟨rfl, fun i hi => by simp at hi⟩
  | a :: l, b :: l', h => by
    obtain ⟨h1, h2⟩ := LeG.get h.2
    refine ⟨by simp [h1], fun i hi hi' => ?_⟩
    cases i with
    | zero => exact h.1
    | succ i => exact h2 i (by simpa using hi) (by simpa using hi')
  | [], _ :: _, h => h.elim
  | _ :: _, [], h => h.elim

/-- Some blocks are kept under new numbers, the others frozen: read only from now on. -/
theorem Weak.pick {t t2 : List V} {h h2 : Hp} {k : Nat} (sel : List Nat) (hn : sel.Nodup) (hk : ∀ j, j < k → sel[j]? = some j) (ht : LeG (ren (pickF sel h true) 3) t t2) (hh : pickH sel h true = h2) : Weak ⟨t, h, k⟩ ⟨t2, h2, k⟩ := by
  subst hh
  intro w0 m0 h0 av0 a w m I
  have hk0 := I.k
  dsimp only at hk0
  obtain ⟨g1, g2, g3⟩ := pick_core (sel := sel) I.rh I.ids I.lt hn (by rw [← hk0]; exact hk)
  obtain ⟨hlen, hget⟩ := ht.get
  refine ⟨pickM sel m, g1, by rw [I.size]; exact hlen, fun i hi => ?_, I.defers, I.ext, g2, I.lt, I.lent, I.gl, I.k, ?_⟩
  · have hi' : i < t.length := by rw [hlen]; exact hi
    exact (g3 3 _ _ (I.slots i hi')).le (hget i hi' hi)
  · rw [← hk0]
    simp only [pickH, List.length_map]
    rcases Nat.eq_zero_or_pos k with e | e
    · omega
    · have := (List.getElem?_eq_some_iff.1 (hk (k - 1) (by omega))).1
      omega

theorem WeakR.pick {k : Nat} {v r : V} {h hout : Hp} (sel : List Nat) (hn : sel.Nodup) (hk : ∀ j, j < k → sel[j]? = some j) (hv : LeV (ren (pickF sel h true) 3 v) r) (hh : pickH sel h true = hout) : WeakR k v h r hout := by
  subst hh
  intro w0 m0 h0 av0 w m val e _ hlt hle H hx hi
  obtain ⟨g1, g2, g3⟩ := pick_core (sel := sel) H hi hlt hn (by rw [e]; exact hk)
  exact ⟨pickM sel m, g1, (g3 3 _ _ hx).le hv, g2⟩

theorem LoopT.intro {W : (Exit → St → Prop) → St → Prop} {Q : Exit → St → Prop} {s : St} {x : Tag W} {y : Tag Q} {σ : Type} (I : σ → Prop) (emb : σ → St) (μ : σ → Nat) (x0 : σ) (h0 : I x0) (hW : Weak s (emb x0))
    (hr : ∀ x, I x → W (exThen (fun s' => ∃ y, I y ∧ Weak s' (emb y) ∧ μ y < μ x) Q) (emb x)) : LoopT W Q s x y := ⟨σ, I, emb, μ, x0, h0, hW, hr⟩

theorem WeakR.of_eq {k : Nat} {v r : V} {h : Hp} (e : v = r) : WeakR k v h r h := by subst e; exact WeakR.refl k v h
theorem WeakR.drop' {v r : V} {h : Hp} (e : v = r) (hn : noOwn 3 v = true) : WeakR 0 v h r [] := by subst e; exact WeakR.drop hn
attribute [go_sem] Bool.not_true Bool.not_false if_true if_false true_and and_true Bool.false_eq_true and_self Nat.zero_add
@[go_sem] theorem ite_tt {α : Type} (a b : α) : (if true = true then a else b) = a := rfl
@[go_sem] theorem ite_ft {α : Type} (a b : α) : (if false = true then a else b) = b := rfl

attribute [go_sem] or_true true_or or_false false_or isCell Bool.and_self Bool.true_and Bool.and_true
@[go_sem] theorem cellsOf_agg {cs : List V} : cellsOf (.agg cs) = if cs.all isCell then some cs else none := rfl
@[go_sem] theorem cellsOf_int {k : IntKind} {n : Int} : cellsOf (.int k n) = some [.int k n] := rfl
@[go_sem] theorem cellsOf_bool {b : Bool} : cellsOf (.bool b) = some [.bool b] := rfl
@[go_sem] theorem cellsOf_str {b : ByteArray} : cellsOf (.str b) = some [.str b] := rfl
@[go_sem] theorem cellsOf_nil : cellsOf .nilsl = some [.nilsl] := rfl
@[go_sem] theorem cellsOf_sl {n w : Nat} {cs : List V} : cellsOf (.sl n w cs) = some [.sl n w cs] := rfl
@[go_sem] theorem cellsOf_pt {cs : List V} : cellsOf (.pt cs) = some [.pt cs] := rfl
@[go_sem] theorem cellsOf_osl {a b c d : Nat} : cellsOf (.osl a b c d) = some [.osl a b c d] := rfl
@[go_sem] theorem cellsOf_ptr {a b : Nat} : cellsOf (.ptr a b) = some [.ptr a b] := rfl
@[go_sem] theorem cellsOf_fn {f : Fn} {a b : List V} : cellsOf (.fn f a b) = some [.fn f a b] := rfl
theorem splice_cons {a : V} {l ns : List V} {n : Nat} : splice (a :: l) (n + 1) ns = a :: splice l n ns := by
  simp only [splice, List.take_succ_cons, List.cons_append, show n + 1 + ns.length = (n + ns.length) + 1 from by omega, List.drop_succ_cons]
theorem splice_zero {l ns : List V} : splice l 0 ns = ns ++ l.drop ns.length := by simp [splice]
attribute [go_sem] splice_cons splice_zero
attribute [go_sem] killL killB killC killF List.map_append
attribute [go_sem] ren snapR shf shB shH noOwn LeL afterCall fillV seqV
attribute [go_sem] afterM backF renB putB grown pickF pickB pickH posOf frzR Option.isSome_some Option.isSome_none
attribute [go_sem] afterK killsL killsB killsF grownK
theorem NoRo.int {k : IntKind} {n : Int} : NoRo (.int k n) := fun _ _ _ _ _ hx => by cases hx; exact .int _ _
theorem NoRo.bool {b : Bool} : NoRo (.bool b) := fun _ _ _ _ _ hx => by cases hx; exact .bool _
theorem NoRo.str {b : ByteArray} : NoRo (.str b) := fun _ _ _ _ _ hx => by cases hx; exact .str _
/-- Nothing that is only read is in sight. -/
def noRoB : Nat → V → Bool
  | _, .undef => true
  | _, .skip => true
  | _, .bool _ => true
  | _, .int _ _ => true
  | _, .str _ => true
  | _, .nilsl => true
  | _, .osl _ _ _ _ => true
  | _, .ptr _ _ => true
  | _, .sl _ _ [] => true
  | d + 1, .agg cs => cs.all (noRoB d)
  | d + 1, .tup cs => cs.all (noRoB d)
  | _, _ => false
theorem noRo_ok : ∀ (d : Nat) {x : V}, noRoB d x = true → NoRo x := by
  intro d
  induction d with
  | zero =>
    intro x hx w m h av v hv
    cases hv <;> first | (simp [noRoB] at hx; done) | skip
    case undef => exact .undef _
    case skip => exact .skip
    case bool b => exact .bool b
    case int k n => exact .int k n
    case str s => exact .str s
    case nilsl => exact .nilsl
    case slz a c wd => exact .slz a c wd
    case sl b off n cap wd cs vals hl ha hc hv hr =>
      cases cs with
      | nil => exact .sl b off n cap wd [] vals hl (fun h => absurd rfl h) hc hv (fun i hi => by simp at hi)
      | cons _ _ => simp [noRoB] at hx
    case osl id off n cap wd cs hid hl hc hs => exact .osl id off n cap wd cs hid hl hc hs
    case ptr id off cs hid => exact .ptr id off cs hid
  | succ d ih =>
    intro x hx w m h av v hv
    cases hv <;> first | (simp [noRoB] at hx; done) | skip
    case undef => exact .undef _
    case skip => exact .skip
    case bool b => exact .bool b
    case int k n => exact .int k n
    case str s => exact .str s
    case nilsl => exact .nilsl
    case slz a c wd => exact .slz a c wd
    case sl b off n cap wd cs vals hl ha hc hv hr =>
      cases cs with
      | nil => exact .sl b off n cap wd [] vals hl (fun h => absurd rfl h) hc hv (fun i hi => by simp at hi)
      | cons _ _ => simp [noRoB] at hx
    case osl id off n cap wd cs hid hl hc hs => exact .osl id off n cap wd cs hid hl hc hs
    case ptr id off cs hid => exact .ptr id off cs hid
    case agg a a' ha hra =>
      simp only [noRoB, List.all_eq_true] at hx
      exact .agg a a' ha (fun i hi => ih (hx _ (List.getElem_mem _)) _ _ _ _ _ (hra i hi))
    case tup a a' ha hra =>
      simp only [noRoB, List.all_eq_true] at hx
      exact .tup a a' ha (fun i hi => ih (hx _ (List.getElem_mem _)) _ _ _ _ _ (hra i hi))
/-- All blocks are free of what is only read. -/
def hpNoRo (h : Hp) : Bool := h.all fun b => match b with
  | some cs => cs.all (noRoB 0)
  | none => true
theorem NoRoH.of {h : Hp} (hh : hpNoRo h = true) : NoRoH h := by
  intro id cs hid x hx
  have := List.all_eq_true.1 hh _ (List.mem_of_getElem? hid)
  exact noRo_ok 0 (List.all_eq_true.1 this x hx)
theorem NoRoH.nil : NoRoH [] := fun id cs h => by simp at h

end Go.Lv
