/-
  A region whose order is drawn, with chains of appends: the rule. Conditions: the program follows every order (every checked program does).
-/
import Derived.Test.YtfnlgojocgdmcaaDoorLvCi
set_option linter.unusedSimpArgs false
set_option linter.unusedVariables false
namespace Go.Lv

def isB0 : Op → Bool
  | .buildSlice _ n _ => if n = 0 then true else false
  | _ => false
def isAp : Op → Bool
  | .call { callee := .builtin .append, .. } => true
  | _ => false
def hasB : List Oper → Bool
  | [] => false
  | o :: l => isB0 o.op || hasB l
def hasA : List Oper → Bool
  | [] => false
  | o :: l => isAp o.op || hasA l
/-- Whether a chain may begin here. -/
def hasCh (l : List Oper) : Bool := hasB l && hasA l

def undOk (tab : List (Option CE)) (t : List V) : Bool := tab.all fun
  | none => true
  | some e => decide (e.d < t.length)

/-- A region with chains: which operations are quiet, which run early, what the chains are. -/
def chT (P : Program) (ops : Array Oper) (s : St) (K : St → Prop) : Prop :=
  ∃ (ql zl : List Bool) (tab : List (Option CE)) (tips : List Tip), chainOk ops ql zl tab tips = true ∧ undOk tab s.t = true ∧
    gA P ops (selB ql ops.toList) { s with t := undT tab s.t } fun e => closeA P e.t e.h tips ⟨e.t.map (ren (cutF e.h.length) 3), cutH e.h.length e.h, e.k⟩ fun s' => fopsA P ops (selB (zl.map (!·)) ops.toList) s' K

theorem chT.intro {P : Program} {ops : List Oper} {s : St} {K : St → Prop} (ql zl : List Bool) (tab : List (Option CE)) (tips : List Tip) (h1 : chainOk ops.toArray ql zl tab tips = true) (h2 : undOk tab s.t = true)
    (h3 : gA P ops.toArray (selB ql ops) ⟨undT tab s.t, s.h, s.k⟩ fun e => closeA P e.t e.h tips ⟨e.t.map (ren (cutF e.h.length) 3), cutH e.h.length e.h, e.k⟩ fun s' => fopsA P ops.toArray (selB (zl.map (!·)) ops) s' K) : chT P ops.toArray s K :=
  ⟨ql, zl, tab, tips, h1, h2, h3⟩

theorem undT_len : ∀ (tab : List (Option CE)) (t : List V), (undT tab t).length = t.length
  | [], t => rfl
  | none :: l, t => undT_len l t
  | some e :: l, t => by rw [undT, undT_len l]; simp

theorem undT_or : ∀ (tab : List (Option CE)) (t : List V) (u : Nat), (undT tab t).getD u .undef = t.getD u .undef ∨ (undT tab t).getD u .undef = .undef
  | [], t, u => .inl rfl
  | none :: l, t, u => undT_or l t u
  | some e :: l, t, u => by
    have hs : (t.set e.d .undef).getD u .undef = t.getD u .undef ∨ (t.set e.d .undef).getD u .undef = .undef := by
      simp only [List.getD_eq_getElem?_getD, List.getElem?_set]
      by_cases h : e.d = u
      · subst h; by_cases h2 : e.d < t.length <;> simp [h2]
      · simp [h]
    rw [undT]
    rcases undT_or l (t.set e.d .undef) u with h | h
    · rcases hs with h' | h'
      · exact .inl (h.trans h')
      · exact .inr (h.trans h')
    · exact .inr h

theorem undT_at : ∀ (tab : List (Option CE)) (t : List V) (e : CE), some e ∈ tab → (undT tab t).getD e.d .undef = .undef
  | [], t, e, h => by simp at h
  | none :: l, t, e, h => undT_at l t e (by simpa using h)
  | some e' :: l, t, e, h => by
    rw [undT]
    rcases List.mem_cons.1 h with h | h
    · simp at h; subst h
      rcases undT_or l (t.set e.d .undef) e.d with h2 | h2
      · rw [h2]
        simp only [List.getD_eq_getElem?_getD, List.getElem?_set]
        by_cases h3 : e.d < t.length <;> simp [h3]
      · exact h2
    · exact undT_at l _ e h

section
variable {P : Program} {ops : Array Oper} {w0 : World} {m0 : Nat → Nat} {h0 : Hp} {av0 : Nat → Prop}

/-- A region whose order is drawn, with chains. -/
theorem drawC_region (hm : P.follows .mixedOrders = true) {Q : Exit → Act → World → Prop} {K : St → Prop} (hk : ∀ s' a' w' m', K s' → Inv w0 m0 h0 av0 s' a' w' m' → Q .normal a' w')
    {s : St} {a : Act} {w : World} {m : Nat → Nat} (I : Inv w0 m0 h0 av0 s a w m) (hq : chT P ops s K) {id : Nat} : (Code.region id ops true).wp P Q a w := by
  obtain ⟨ql, zl, tab, tips, h1, h2, h3⟩ := hq
  obtain ⟨D, hql, hzl, F⟩ := chainOk_some h1
  have I0 : Inv w0 m0 h0 av0 { s with t := undT tab s.t } a w m := Inv.le I (undT_len tab s.t) (fun i hi hi' => by
    have := undT_or tab s.t i
    simpa [List.getD, hi, hi'] using this)
  obtain ⟨xs, ns, g1, g2⟩ := gA_path hql h3 ops.size (Nat.le_refl _)
  rw [List.drop_of_length_le (by omega), List.drop_of_length_le (by simp)] at g2
  change closeA _ _ _ _ _ _ at g2
  obtain ⟨g3, g4⟩ := closeA_out _ _ _ g2
  refine wp_mono (Q := fun e a w => e = .normal ∧ Q .normal a w) ?_ (fun e a w h => by rw [h.1]; exact h.2)
  refine wp_region_any hm ?_
  have hz : ∀ i, (Array.replicate ops.size false).getD i false = false := fun i => by simp [Array.getD]
  have hun : ∀ i e, ceAt tab i = some e → e.d < (undT tab s.t).length ∧ (undT tab s.t).getD e.d .undef = .undef := fun i e he => by
    have hm : some e ∈ tab := by
      unfold ceAt at he
      cases hx : tab[i]? with
      | none => rw [hx] at he; cases he
      | some x =>
        rw [hx] at he
        simp at he; subst he
        exact List.mem_of_getElem? hx
    refine ⟨?_, undT_at tab s.t e hm⟩
    have := List.all_eq_true.1 h2 (some e) hm
    rw [undT_len]
    simpa using this
  have hrs : restFrom ops (fun i => zl.getD i false) 0 = selB (zl.map (!·)) ops.toList := by simpa using restFrom_sel hzl ops.size 0 (by omega)
  rw [← hrs] at g3
  refine phase1C (s := { s with t := undT tab s.t }) D F (fun c a a' w h => by cases h.1) (fun s' a' w' m' g1 g2 => ⟨rfl, hk s' a' w' m' g1 g2⟩) I.len I.k rfl rfl (fun i o hi hqi ho => g1 i o hi hqi ho) g4 hun g3 ops.size _ a _ m xs (fun _ => 0) [] (by simp) (fun i j hl => by rw [hz] at hl; cases hl) (fun i hl => by rw [hz] at hl; cases hl) ?_ (fun _ _ => rfl) ?_ ?_
  · unfold left
    exact Nat.le_trans (List.length_filter_le _ _) (by simp)
  · refine ⟨fun i e _ hS => ?_, fun i e _ hS => ?_, fun i j ei ej _ _ hS => ?_, fun i e _ hS => ?_⟩ <;> (rw [hz] at hS; cases hS)
  · have e : tS ops (undT tab s.t) xs (fun i => (Array.replicate ops.size false).getD i false) ops.size = undT tab s.t := by
      rw [tS_congr ops _ xs _ (fun _ => false) ops.size (fun i _ => hz i)]
      have : ∀ q, tS ops (undT tab s.t) xs (fun _ => false) q = undT tab s.t := by
        intro q
        induction q with
        | zero => rfl
        | succ q ih => simpa [tS] using ih
      exact this _
    dsimp only
    rw [e, hS_congr s.h ns (fun i => ql.getD i false) (S' := fun _ => false) ops.size (fun i _ _ => hz i), List.append_nil]
    obtain ⟨k, hk'⟩ := hS_start s.h ns (fun i => ql.getD i false) ops.size
    rw [hk']
    exact (I0.world (Ext.drew _ w)).pad k
end
end Go.Lv
