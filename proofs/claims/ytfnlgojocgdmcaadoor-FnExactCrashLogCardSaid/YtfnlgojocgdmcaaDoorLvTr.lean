/-
  A region whose order is drawn: the tree of all orders, followed over states. Conditions: the program follows every order (every checked program does).
-/
import Derived.Test.YtfnlgojocgdmcaaDoorLvCj
set_option linter.unusedSimpArgs false
set_option linter.unusedVariables false
namespace Go.Lv

/-- A tree of orders: which operation goes first whatever is drawn; which ones may go next. -/
inductive Tr where
  | done
  | stop
  | take (i : Nat) (t : Tr)
  | alt (i : Nat) (t u : Tr)

def Tr.heads : Tr → List Nat
  | .alt i _ u => i :: u.heads
  | _ => []

def stepA (P : Program) (ops : Array Oper) (i : Nat) (s : St) (K : St → Prop) : Prop :=
  match ops[i]? with
  | some o => gdA ops s.t o.guard (fop P s o K) (K (s.put o.dst .skip))
  | none => False

def trA (P : Program) (ops : Array Oper) : Tr → St → (St → Prop) → Prop
  | .done, s, K => K s
  | .stop, _, _ => True
  | .take i t, s, K => stepA P ops i s fun s' => trA P ops t s' K
  | .alt i t u, s, K => stepA P ops i s (fun s' => trA P ops t s' K) ∧ trA P ops u s K

def pureAt (ops : Array Oper) (i : Nat) : Bool :=
  match ops[i]? with
  | some o => pureOp o
  | none => false

/-- The closed check of a tree; f: at a node that stands for all that may come next. -/
def trOk (ops : Array Oper) : Tr → Array Bool → Bool → Bool
  | .done, l, f => f && (Region.ready .any ops l).isEmpty
  | .stop, _, f => !f
  | .take i t, l, f => f && ((Region.ready .any ops l).contains i && (pureAt ops i && (Region.free .any ops l i && trOk ops t (l.setIfInBounds i true) true)))
  | .alt i t u, l, f => (!f || (!(Region.ready .any ops l).isEmpty && (Region.ready .any ops l).all fun j => (Tr.alt i t u).heads.contains j)) && (trOk ops t (l.setIfInBounds i true) true && trOk ops u l false)

def trT (P : Program) (ops : Array Oper) (s : St) (K : St → Prop) : Prop :=
  ∃ tr : Tr, (Region.noSelect ops && trOk ops tr (Array.replicate ops.size false) true) = true ∧ trA P ops tr s K

theorem trT.intro {P : Program} {ops : List Oper} {s : St} {K : St → Prop} (tr : Tr) (h1 : (Region.noSelect ops.toArray && trOk ops.toArray tr (Array.replicate ops.toArray.size false) true) = true) (h2 : trA P ops.toArray tr s K) : trT P ops.toArray s K := ⟨tr, h1, h2⟩

section
variable {P : Program} {ops : Array Oper} {w0 : World} {m0 : Nat → Nat} {h0 : Hp} {av0 : Nat → Prop} {s : St} {a : Act} {w : World} {m : Nat → Nat}

/-- An operation whose result hangs on its slots alone. -/
theorem pure_ok (I : Inv w0 m0 h0 av0 s a w m) {o : Oper} (hp : pureOp o = true) {K : St → Prop} (hq : fop P s o K) :
    ∃ v x, K (s.put o.dst x) ∧ RV w m s.h (avm av0 m s.h) true v x ∧ ∀ w', (execOp a.eval o).run P w' = .ok (.value v) w' := by
  obtain ⟨dst, op, ty, pos, after, guard⟩ := o
  unfold pureOp at hp
  unfold pureK at hp
  dsimp only at hp hq ⊢
  split at hp
  · rename_i T u f
    have hq' : fieldAddrV P T f (ev s.t (.tmp u)) (fun v => K (s.put dst v)) := hq
    obtain ⟨v, y, h1, h3, h4⟩ := take_ok (P := P) (I.ev (.tmp u)) hq'
    exact ⟨v, y, h1, h3, fun w' => by simp [execOp, h4 w']⟩
  · rename_i T u1 u2
    have hq' : atInt (ev s.t (.tmp u2)) (fun _ n => indexAddrV P T (ev s.t (.tmp u1)) n fun v => K (s.put dst v)) := hq
    obtain ⟨kd, n, e1, _, hq'⟩ := at_int (I.ev (.tmp u2)) hq'
    obtain ⟨v, y, h1, h3, h4⟩ := takeI_ok (P := P) (t := T) (I.ev (.tmp u1)) e1 hq'
    exact ⟨v, y, h1, h3, fun w' => by simp [execOp, h4 w']⟩
  · rename_i u
    have hq' : K (s.put dst (ev s.t (.tmp u))) := hq
    exact ⟨_, _, hq', I.ev (.tmp u), fun w' => by simp [execOp]⟩
  · rename_i u x1 x2
    have hq' : atBool (ev s.t (.tmp u)) (fun b => K (s.put dst (if b then ev s.t x1 else ev s.t x2))) := hq
    obtain ⟨b, e1, _, hq'⟩ := at_bool (I.ev (.tmp u)) hq'
    refine ⟨if b then a.eval x1 else a.eval x2, _, hq', ?_, fun w' => ?_⟩
    · cases b
      · exact I.ev x2
      · exact I.ev x1
    · cases b <;> simp [execOp, e1, asBool]
  · rename_i bop T x1 x2 t'
    have hq' : bin P bop T (ev s.t x1) (ev s.t x2) (fun v => K (s.put dst v)) := hq
    obtain ⟨z, e1, hl, h4⟩ := bin_all (P := P) (t := T) (I.ev x1) (I.ev x2) hq'
    refine ⟨litV z, z, e1, lit_rv hl, fun w' => ?_⟩
    have := h4 w' x1 x2
    simp only [execOp]
    rw [Sem.run_bind, this]
    rfl
  · rename_i u j
    have hq' : atTup (ev s.t (.tmp u)) j (fun v => K (s.put dst v)) := hq
    have hx := I.ev (.tmp u)
    generalize hue : a.eval (.tmp u) = uv at hx
    generalize ev s.t (.tmp u) = xv at hx hq'
    cases hx with
    | tup ar vs ha hra =>
      unfold atTup at hq'
      dsimp only at hq'
      split at hq'
      · rename_i v hv
        have hlt : j < vs.length := (List.getElem?_eq_some_iff.1 hv).1
        have hr := hra j hlt
        rw [(List.getElem?_eq_some_iff.1 hv).2] at hr
        have hlt' : j < ar.size := by omega
        exact ⟨ar.getD j Go.undef, v, hq', hr, fun w' => by simp [execOp, hue, Instr.extract, Array.getD, hlt']⟩
      · exact hq'.elim
    | _ => exact hq'.elim
  · rename_i T x
    have hq' : atBool (ev s.t x) (fun b => K (s.put dst (.bool (!b)))) := hq
    obtain ⟨b, e1, _, hq'⟩ := at_bool (I.ev x) hq'
    exact ⟨.bool (!b), _, hq', .bool _, fun w' => by simp [execOp, Op.unary, e1]⟩
  · rename_i u
    have hq' : nilV (ev s.t (.tmp u)) (fun v => K (s.put dst v)) := hq
    have hx := I.ev (.tmp u)
    generalize hue : a.eval (.tmp u) = uv at hx
    generalize ev s.t (.tmp u) = xv at hx hq'
    cases hx with
    | ptr id off cs hid => exact ⟨_, _, hq', .ptr id off cs hid, fun w' => by simp [execOp, hue]⟩
    | pt b off cs vals ha hv hr => exact ⟨_, _, hq', .pt b off cs vals ha hv hr, fun w' => by simp [execOp, hue]⟩
    | fn f a1 c1 a' c' ha hc hra hrc =>
      cases f with
      | func f => exact ⟨_, _, hq', .fn _ a1 c1 a' c' ha hc hra hrc, fun w' => by simp [execOp, hue]⟩
      | _ => exact False.elim hq'
    | _ => exact False.elim hq'
  · cases hp

/-- All orders of a tree. -/
theorem tr_ok (hs : Region.noSelect ops = true) {Q : Exit → Act → World → Prop} {K : St → Prop} (hQp : ∀ c a a' w, Q (.panic c) a w → Q (.panic c) a' w)
    (hk : ∀ s' a' w' m', K s' → Inv w0 m0 h0 av0 s' a' w' m' → Q .normal a' w') :
    ∀ (tr : Tr) (listed : Array Bool) (f : Bool) (s : St) (a : Act) (w : World) (m : Nat → Nat), listed.size = ops.size → trOk ops tr listed f = true → trA P ops tr s K → Inv w0 m0 h0 av0 s a w m →
      (f = true → ∀ fuel, left ops.size listed ≤ fuel → wpAny P .any ops Q fuel listed a w) ∧
      (∀ j ∈ tr.heads, j ∈ Region.ready .any ops listed → ∀ fuel, left ops.size listed ≤ fuel + 1 → wpOp P ops Q j (wpAny P .any ops Q fuel (listed.setIfInBounds j true)) a w) := by
  intro tr
  induction tr with
  | done =>
    intro listed f s a w m hl hok hq I
    simp only [trOk, Bool.and_eq_true, List.isEmpty_iff] at hok
    exact ⟨fun _ fuel _ => wpAny_done hok.2 (hk s a w m hq I) fuel, fun j hj => by simp [Tr.heads] at hj⟩
  | stop =>
    intro listed f s a w m hl hok hq I
    simp only [trOk, Bool.not_eq_true'] at hok
    exact ⟨fun h => by (rw [hok] at h; cases h), fun j hj => by simp [Tr.heads] at hj⟩
  | take i t ih =>
    intro listed f s a w m hl hok hq I
    simp only [trOk, Bool.and_eq_true] at hok
    obtain ⟨_, hr, hp, hfr, hok⟩ := hok
    refine ⟨fun _ fuel hf => ?_, fun j hj => by simp [Tr.heads] at hj⟩
    have hr' : i ∈ Region.ready .any ops listed := by simpa using hr
    obtain ⟨hi, hu⟩ := ready_lt hr'
    have hlt := left_set hi hl hu
    cases fuel with
    | zero => omega
    | succ fuel =>
      have hget : ops[i]? = some ops[i] := Array.getElem?_eq_getElem hi
      have hpo : pureOp ops[i] = true := by simpa [pureAt, hget] using hp
      have hq' : gdA ops s.t ops[i].guard (fop P s ops[i] fun s' => trA P ops t s' K) (trA P ops t (s.put ops[i].dst .skip) K) := by
        have : stepA P ops i s (fun s' => trA P ops t s' K) := hq
        unfold stepA at this
        rwa [hget] at this
      have fin : ∃ v, Yields P ops ops[i] v a ∧ wpAny P .any ops Q fuel (listed.setIfInBounds i true) (a.put ops[i].dst v) w := by
        rcases gdA_ok I hq' with ⟨hw, hq'⟩ | ⟨hw, hq'⟩
        · obtain ⟨v, x, h1, h2, h3⟩ := pure_ok I hpo hq'
          exact ⟨v, .inl ⟨hw, h3⟩, (ih _ true _ _ w m (by simpa using hl) hok h1 (I.put h2)).1 rfl fuel (by omega)⟩
        · exact ⟨Go.undef, .inr ⟨hw, rfl⟩, (ih _ true _ _ w m (by simpa using hl) hok hq' (I.put .skip)).1 rfl fuel (by omega)⟩
      obtain ⟨v, hy, hv⟩ := fin
      exact wpAny_take hget hs hfr hr (fun c a' w' h => hQp c _ _ w' h) hy hv
  | alt i t u iht ihu =>
    intro listed f s a w m hl hok hq I
    simp only [trOk, Bool.and_eq_true, Bool.or_eq_true, Bool.not_eq_true'] at hok
    obtain ⟨hall, hok1, hok2⟩ := hok
    have second : ∀ j ∈ (Tr.alt i t u).heads, j ∈ Region.ready .any ops listed → ∀ fuel, left ops.size listed ≤ fuel + 1 → wpOp P ops Q j (wpAny P .any ops Q fuel (listed.setIfInBounds j true)) a w := by
      intro j hj hr fuel hf
      obtain ⟨hi, hun⟩ := ready_lt hr
      have hlt := left_set hi hl hun
      rcases List.mem_cons.1 (show j ∈ i :: u.heads from hj) with rfl | hj
      · have hget : ops[j]? = some ops[j] := Array.getElem?_eq_getElem hi
        have hq' : gdA ops s.t ops[j].guard (fop P s ops[j] fun s' => trA P ops t s' K) (trA P ops t (s.put ops[j].dst .skip) K) := by
          have : stepA P ops j s (fun s' => trA P ops t s' K) := hq.1
          unfold stepA at this
          rwa [hget] at this
        unfold wpOp
        simp only [hget]
        rcases gdA_ok I hq' with ⟨h1, h2⟩ | ⟨h1, h2⟩
        · rw [if_pos h1]
          exact .inl (fop_ok I h2 (fun s' a' w' m' h3 h4 => (iht _ true _ _ w' m' (by simpa using hl) hok1 h3 h4).1 rfl fuel (by omega)))
        · rw [if_neg (by simp [h1])]
          exact (iht _ true _ _ w m (by simpa using hl) hok1 h2 (I.put .skip)).1 rfl fuel (by omega)
      · exact (ihu listed false s a w m hl hok2 hq.2 I).2 j hj hr fuel hf
    refine ⟨fun hf fuel hfu => ?_, second⟩
    have hall' : Region.ready .any ops listed ≠ [] ∧ ∀ j ∈ Region.ready .any ops listed, j ∈ (Tr.alt i t u).heads := by
      rcases hall with h | h
      · rw [hf] at h; cases h
      · exact ⟨fun e => by rw [e] at h; simp at h, fun j hj => by simpa using List.all_eq_true.1 h.2 j hj⟩
    obtain ⟨hne, hsub⟩ := hall'
    cases fuel with
    | zero =>
      exfalso
      cases hr : Region.ready .any ops listed with
      | nil => exact hne hr
      | cons j l =>
        have hj : j ∈ Region.ready .any ops listed := by rw [hr]; simp
        obtain ⟨hi, hun⟩ := ready_lt hj
        have := left_set hi hl hun
        omega
    | succ fuel => exact wpAny_all rfl hne (fun j hj => second j (hsub j hj) hj fuel hfu)

/-- A region whose order is drawn, by the tree of its orders. -/
theorem drawT_region (hm : P.follows .mixedOrders = true) {Q : Exit → Act → World → Prop} {K : St → Prop} (hk : ∀ s' a' w' m', K s' → Inv w0 m0 h0 av0 s' a' w' m' → Q .normal a' w')
    (I : Inv w0 m0 h0 av0 s a w m) (hq : trT P ops s K) {id : Nat} : (Code.region id ops true).wp P Q a w := by
  obtain ⟨tr, h1, h2⟩ := hq
  simp only [Bool.and_eq_true] at h1
  refine wp_mono (Q := fun e a w => e = .normal ∧ Q .normal a w) ?_ (fun e a w h => by rw [h.1]; exact h.2)
  refine wp_region_any hm ?_
  refine (tr_ok h1.1 (fun c a a' w h => by cases h.1) (fun s' a' w' m' g1 g2 => ⟨rfl, hk s' a' w' m' g1 g2⟩) tr _ true s a _ m (by simp) h1.2 h2 (I.world (Ext.drew _ w))).1 rfl ops.size ?_
  unfold left
  exact Nat.le_trans (List.length_filter_le _ _) (by simp)

end
end Go.Lv
