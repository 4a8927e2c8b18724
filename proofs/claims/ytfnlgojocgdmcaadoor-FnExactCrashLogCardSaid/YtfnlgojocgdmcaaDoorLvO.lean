/-
  Code over states, and a function's contract out of its code. Conditions: the program follows every order (every checked program does).
-/
import Derived.Test.YtfnlgojocgdmcaaDoorLvLt
import Derived.Test.YtfnlgojocgdmcaaDoorLvDg
set_option linter.unusedSimpArgs false
set_option linter.unusedVariables false
namespace Go.Lv

def exThen (next : St → Prop) (Q : Exit → St → Prop) : Exit → St → Prop
  | .normal, s => next s
  | e, s => Q e s

def exBlock (id : Nat) (Q : Exit → St → Prop) : Exit → St → Prop
  | .exit j, s => if j = id then Q .normal s else Q (.exit j) s
  | e, s => Q e s

/-- A loop: a family of states, a measure, the first member, a round. -/
def LoopA (W : (Exit → St → Prop) → St → Prop) (Q : Exit → St → Prop) (s : St) : Prop :=
  ∃ (σ : Type) (I : σ → Prop) (emb : σ → St) (μ : σ → Nat) (x0 : σ), I x0 ∧ Weak s (emb x0) ∧ ∀ x, I x → W (exThen (fun s' => ∃ y, I y ∧ Weak s' (emb y) ∧ μ y < μ x) Q) (emb x)

theorem LoopA.intro {W : (Exit → St → Prop) → St → Prop} {Q : Exit → St → Prop} {s : St} {σ : Type} (I : σ → Prop) (emb : σ → St) (μ : σ → Nat) (x0 : σ) (h0 : I x0) (hW : Weak s (emb x0))
    (hr : ∀ x, I x → W (exThen (fun s' => ∃ y, I y ∧ Weak s' (emb y) ∧ μ y < μ x) Q) (emb x)) : LoopA W Q s := ⟨σ, I, emb, μ, x0, h0, hW, hr⟩

/-- Whether the call is of a value whose first argument is a pointer. -/
def isVc (P : Program) (op : Op) : Bool :=
  match op with
  | .call ⟨.value _, _, ts⟩ => (match ts.toList with | t :: _ => isPt P t | [] => false)
  | _ => false
def isLd (op : Op) : Bool :=
  match op with
  | .load _ _ => true
  | _ => false
def hasVc (P : Program) : List Oper → Bool
  | [] => false
  | o :: l => isVc P o.op || hasVc P l
def hasLd : List Oper → Bool
  | [] => false
  | o :: l => isLd o.op || hasLd l
/-- Whether a call that may write to a block of ours stands beside a load. -/
def hasCl (P : Program) (l : List Oper) : Bool := hasLd l && hasVc P l

/-- A region by the tree of its orders; what its orders end in is less than what is known at each end. -/
def trW (P : Program) (ops : Array Oper) (s : St) (K : St → Prop) : Prop :=
  ∃ Ψ : St → Prop, trT P ops s (fun s' => ∃ s2, Ψ s2 ∧ Weak s' s2) ∧ ∀ s2, Ψ s2 → K s2

def wpA (P : Program) : Code → (Exit → St → Prop) → St → Prop
  | .skip => fun Q s => Q .normal s
  | .region _ ops false => fun Q s => fopsA P ops ops.toList s (Q .normal)
  | .region _ ops true => fun Q s => if hasCh ops.toList = true then chT P ops s (Q .normal) else if hasLt ops.toList = true then (ltT P ops s (Q .normal) ∨ trT P ops s (Q .normal)) else if hasCl P ops.toList = true then (trW P ops s (Q .normal) ∨ dgT P ops s (Q .normal) ∨ (drawOk ops = true ∧ dopsG P ops ops.toList 0 [] s (Q .normal))) else (drawOk ops = true ∧ dopsG P ops ops.toList 0 [] s (Q .normal))
  | .seq a b => fun Q s => wpA P a (exThen (wpA P b Q) Q) s
  | .cond c x y => fun Q s => atBool (ev s.t c) fun t => (t = true → wpA P x Q s) ∧ (t = false → wpA P y Q s)
  | .block id c => fun Q s => wpA P c (exBlock id Q) s
  | .loop body => fun Q s => LoopA (wpA P body) Q s
  | .exit id => fun Q s => Q (.exit id) s
  | .ret => fun Q s => Q .ret s
  | _ => fun _ _ => False

theorem exists_min {p : Nat → Prop} (h : ∃ n, p n) : ∃ n, p n ∧ ∀ k, p k → n ≤ k := by
  obtain ⟨n, hn⟩ := h
  induction n using Nat.strongRecOn with
  | _ n ih =>
    by_cases hk : ∃ k, k < n ∧ p k
    · obtain ⟨k, h1, h2⟩ := hk
      exact ih k h1 h2
    · refine ⟨n, hn, fun k hp => ?_⟩
      rcases Nat.lt_or_ge k n with h | h
      · exact absurd ⟨k, h, hp⟩ hk
      · exact h

section
variable {P : Program} {w0 : World} {m0 : Nat → Nat} {h0 : Hp} {av0 : Nat → Prop}

theorem wpA_ok (hm : P.follows .mixedOrders = true) : ∀ (c : Code) (Q : Exit → St → Prop) (Q' : Exit → Act → World → Prop), (∀ e s a w m, Q e s → Inv w0 m0 h0 av0 s a w m → Q' e a w) →
    ∀ (s : St) (a : Act) (w : World) (m : Nat → Nat), Inv w0 m0 h0 av0 s a w m → wpA P c Q s → c.wp P Q' a w := by
  intro c
  induction c with
  | skip => exact fun Q Q' hQ s a w m I h => wp_skip (hQ _ _ _ _ m h I)
  | region id ops draw =>
    intro Q Q' hQ s a w m I h
    cases draw with
    | false => exact wp_region_list (fopsA_ok (fun s' a' w' m' h1 h2 => hQ _ _ _ _ m' h1 h2) _ s a w m I h)
    | true =>
      unfold wpA at h
      split at h
      · exact drawC_region hm (fun s' a' w' m' h1 h2 => hQ _ _ _ _ m' h1 h2) I h
      split at h
      · rcases h with h | h
        · exact drawL_region hm (fun s' a' w' m' h1 h2 => hQ _ _ _ _ m' h1 h2) I h
        · exact drawT_region hm (fun s' a' w' m' h1 h2 => hQ _ _ _ _ m' h1 h2) I h
      split at h
      · rcases h with ⟨Ψ, h, hΨ⟩ | h | h
        · refine drawT_region hm (fun s' a' w' m' h1 h2 => ?_) I h
          obtain ⟨s2, h3, h4⟩ := h1
          obtain ⟨m2, I2⟩ := h4 _ _ _ _ _ _ _ h2
          exact hQ _ _ _ _ m2 (hΨ s2 h3) I2
        · exact drawG_region hm (fun s' a' w' m' h1 h2 => hQ _ _ _ _ m' h1 h2) I h
        · exact draw_region hm h.1 (fun s' a' w' m' h1 h2 => hQ _ _ _ _ m' h1 h2) I h.2
      · exact draw_region hm h.1 (fun s' a' w' m' h1 h2 => hQ _ _ _ _ m' h1 h2) I h.2
  | seq x y ihx ihy =>
    intro Q Q' hQ s a w m I h
    refine wp_seq (ihx (exThen (wpA P y Q) Q) _ (fun e s' a' w' m' h1 h2 => ?_) s a w m I h)
    cases e with
    | normal => exact ihy Q Q' hQ s' a' w' m' h2 h1
    | _ => exact hQ _ _ _ _ m' h1 h2
  | cond c x y ihx ihy =>
    intro Q Q' hQ s a w m I h
    obtain ⟨t, h1, _, h2⟩ := at_bool (I.ev c) h
    refine wp_cond h1 ?_
    cases t with
    | true => exact ihx Q Q' hQ s a w m I (h2.1 rfl)
    | false => exact ihy Q Q' hQ s a w m I (h2.2 rfl)
  | block id c ih =>
    intro Q Q' hQ s a w m I h
    refine wp_block (ih (exBlock id Q) _ (fun e s' a' w' m' h1 h2 => ?_) s a w m I h)
    cases e with
    | exit j =>
      simp only [exBlock] at h1
      simp only [Exit.inBlock]
      split at h1
      · rename_i e; rw [if_pos e]; exact hQ _ _ _ _ m' h1 h2
      · rename_i e; rw [if_neg e]; exact hQ _ _ _ _ m' h1 h2
    | _ => exact hQ _ _ _ _ m' h1 h2
  | loop body ih =>
    intro Q Q' hQ s a w m I h
    obtain ⟨σ, J, emb, μ, x0, hJ0, hW, hround⟩ := h
    obtain ⟨m1, I1⟩ := hW _ _ _ _ _ _ _ I
    let M : Act → World → Nat → Prop := fun a w n => ∃ x m, J x ∧ Inv w0 m0 h0 av0 (emb x) a w m ∧ μ x = n
    let meas : Act → World → Nat := fun a w => @dite Nat (∃ n, M a w n) (Classical.propDecidable _) (fun h => Classical.choose (exists_min h)) (fun _ => 0)
    refine wp_loop (fun a w => ∃ n, M a w n) meas ⟨_, x0, m1, hJ0, I1, rfl⟩ (fun a w hI => ?_)
    have hme : meas a w = Classical.choose (exists_min hI) := dif_pos hI
    obtain ⟨⟨x, m, hJx, hx, hmu⟩, _⟩ := Classical.choose_spec (exists_min hI)
    refine ih _ _ (fun e s' a' w' m' h1 h2 => ?_) (emb x) a w m hx (hround x hJx)
    cases e with
    | normal =>
      obtain ⟨y, hJy, hy, hlt⟩ := h1
      obtain ⟨m2, I2⟩ := hy _ _ _ _ _ _ _ h2
      have hI' : ∃ n, M a' w' n := ⟨_, y, m2, hJy, I2, rfl⟩
      refine ⟨hI', ?_⟩
      have hme' : meas a' w' = Classical.choose (exists_min hI') := dif_pos hI'
      have := (Classical.choose_spec (exists_min hI')).2 (μ y) ⟨y, m2, hJy, I2, rfl⟩
      rw [hme, hme', ← hmu]
      omega
    | _ => exact hQ _ _ _ _ m' h1 h2
  | exit id => exact fun Q Q' hQ s a w m I h => wp_exit (hQ _ _ _ _ m h I)
  | ret => exact fun Q Q' hQ s a w m I h => wp_ret (hQ _ _ _ _ m h I)
  | rangeFunc => exact fun Q Q' hQ s a w m I h => h.elim
  | scope => exact fun Q Q' hQ s a w m I h => h.elim
  | label => exact fun Q Q' hQ s a w m I h => h.elim
  | goto => exact fun Q Q' hQ s a w m I h => h.elim
  | refuse => exact fun Q Q' hQ s a w m I h => h.elim

end

/-- The results, read out of the state. -/
def resA (P : Program) (s : St) : List ResultVar → (List V → Prop) → Prop
  | [], K => K []
  | .tmp t :: l, K => resA P s l fun vs => K (s.t.getD t .undef :: vs)
  | .cell a t :: l, K => loadV P s.h t (s.t.getD a .undef) fun v => resA P s l fun vs => K (v :: vs)

def tupOf : List V → V
  | [v] => v
  | vs => .tup vs

/-- What is handed back says no more than what there is. -/
def WeakR (k : Nat) (v : V) (h : Hp) (r : V) (hout : Hp) : Prop :=
  ∀ (w0 : World) (m0 : Nat → Nat) (h0 : Hp) (av0 : Nat → Prop) (w : World) (m : Nat → Nat) (val : Value), h0.length = k → k ≤ h.length → (∀ b, av0 b → b < w0.heap.size) → w0.heap.size ≤ w.heap.size →
    RH w m h (avm av0 m h) → RV w m h (avm av0 m h) true val v → Ids w0.heap.size m0 m h0 h →
    ∃ m', RH w m' hout (avm av0 m' hout) ∧ RV w m' hout (avm av0 m' hout) true val r ∧ Ids w0.heap.size m0 m' h0 hout

theorem WeakR.refl (k : Nat) (v : V) (h : Hp) : WeakR k v h v h := fun _ _ _ _ _ m _ _ _ _ _ h1 h2 h3 => ⟨m, h1, h2, h3⟩

/-- What is handed back is one of some. -/
def RelR (k : Nat) (v : V) (h : Hp) (Φ : V → Hp → Prop) : Prop := ∃ r hout, Φ r hout ∧ WeakR k v h r hout
theorem RelR.intro {k : Nat} {v : V} {h : Hp} {Φ : V → Hp → Prop} (r : V) (hout : Hp) (hφ : Φ r hout) (hw : WeakR k v h r hout) : RelR k v h Φ := ⟨r, hout, hφ, hw⟩

def retP (P : Program) (res : List ResultVar) (Φ : V → Hp → Prop) (e : Exit) (s : St) : Prop :=
  match e with
  | .normal => resA P s res fun vs => RelR s.k (tupOf vs) s.h Φ
  | .ret => resA P s res fun vs => RelR s.k (tupOf vs) s.h Φ
  | _ => False

def retA (P : Program) (res : List ResultVar) (r : V) (hout : Hp) (e : Exit) (s : St) : Prop :=
  match e with
  | .normal => resA P s res fun vs => WeakR s.k (tupOf vs) s.h r hout
  | .ret => resA P s res fun vs => WeakR s.k (tupOf vs) s.h r hout
  | _ => False

section
variable {P : Program} {w0 : World} {m0 : Nat → Nat} {h0 : Hp} {av0 : Nat → Prop} {s : St} {a : Act} {w : World} {m : Nat → Nat}

def resF (tmps : Array Value) : ResultVar → Sem Value
  | .tmp t => pure (tmps.getD t Go.undef)
  | .cell ad t => do loadVar t (← asAddr (tmps.getD ad Go.undef))

theorem resA_ok (I : Inv w0 m0 h0 av0 s a w m) : ∀ (l : List ResultVar) (K : List V → Prop), resA P s l K → ∃ (vs : List Value) (xs : List V), K xs ∧ vs.length = xs.length ∧
    (∀ i (hi : i < xs.length), RV w m s.h (avm av0 m s.h) true (vs.getD i Go.undef) xs[i]) ∧
    (l.mapM (resF a.tmps)).run P w = .ok vs w
  | [], K, hq => ⟨[], [], hq, rfl, fun i hi => by simp at hi, rfl⟩
  | .tmp t :: l, K, hq => by
    obtain ⟨vs, xs, h1, h2, h3, h4⟩ := resA_ok I l _ hq
    refine ⟨a.tmps.getD t Go.undef :: vs, s.t.getD t .undef :: xs, h1, by simp [h2], fun i hi => ?_, by simp only [List.mapM_cons, resF, Sem.run_bind, Sem.run_pure, Result.andThen_ok, h4]⟩
    cases i with
    | zero => exact I.ev (.tmp t)
    | succ i => exact h3 i (by simpa using hi)
  | .cell ad t :: l, K, hq => by
    have hx : RV w m s.h (avm av0 m s.h) true (a.tmps.getD ad Go.undef) (s.t.getD ad .undef) := I.ev (.tmp ad)
    obtain ⟨v, x, h5, h6, h7⟩ := load_ok (P := P) I.rh hx hq
    obtain ⟨vs, xs, h1, h2, h3, h4⟩ := resA_ok I l _ h5
    have haddr : (resF a.tmps (.cell ad t)).run P w = .ok v w := by
      simp only [resF, Sem.run_bind]
      revert h7
      generalize a.tmps.getD ad Go.undef = u
      intro h7
      unfold Instr.loadAt at h7
      cases u <;> simp [Instr.sureAddr] at h7
      rename_i ao
      cases ao with
      | none => simp at h7
      | some ad => simpa [asAddr] using h7
    refine ⟨v :: vs, x :: xs, h1, by simp [h2], fun i hi => ?_, by simp only [List.mapM_cons, Sem.run_bind, haddr, Sem.run_pure, Result.andThen_ok, h4]⟩
    cases i with
    | zero => exact h6
    | succ i => exact h3 i (by simpa using hi)

theorem results_ok (I : Inv w0 m0 h0 av0 s a w m) (fn : Func) (K : List V → Prop) (hq : resA P s fn.results.toList K) :
    ∃ v xs, K xs ∧ RV w m s.h (avm av0 m s.h) true v (tupOf xs) ∧ (results fn a.tmps).run P w = .ok v w := by
  obtain ⟨vs, xs, h1, h2, h3, h4⟩ := resA_ok I _ _ hq
  refine ⟨if h : vs.toArray.size = 1 then vs.toArray[0] else .tuple vs.toArray, xs, h1, ?_, ?_⟩
  · match xs, vs, h2, h3 with
    | [x], [v], _, h3 => exact h3 0 (by simp)
    | [], [], _, _ => exact .tup _ _ rfl (fun i hi => by simp at hi)
    | x :: y :: xs, u :: v :: vs, h2, h3 =>
      have : ¬ (u :: v :: vs).toArray.size = 1 := by simp
      rw [dif_neg this]
      exact .tup _ _ (by simpa using h2) (fun i hi => by
        have := h3 i hi
        simpa [Array.getD_eq_getD_getElem?, List.getD_eq_getElem?_getD] using this)
  · unfold results
    rw [Array.mapM_eq_mapM_toList]
    simp only [Sem.run_bind, Sem.run_map]
    have e : ∀ (g : ResultVar → Sem Value), (∀ x, g x = resF a.tmps x) → (fn.results.toList.mapM g).run P w = .ok vs w := fun g hg => by rw [funext hg]; exact h4
    rw [e _ (fun x => by cases x <;> rfl)]
    simp

/-- A function's contract out of its code. -/
theorem Ctr.intro {f : FuncId} {fn : Func} {c : Code} {args : List V} {hin : Hp} {r : V} {hout : Hp} (hm : P.follows .mixedOrders = true) (hf : P.funcs[f]? = some fn) (hb : fn.body = some c) (hok : okF P f = true)
    (hw : wpA P c (retA P fn.results.toList r hout) ⟨args ++ List.replicate (fn.ntmps - args.length) .undef, hin, hin.length⟩) : Ctr P f args hin r hout := by
  refine ⟨hok, fun w vs m av hH hav hgl hs ha => ?_⟩
  have hav' : ∀ b, avm av m hin b → av b := fun b hb => by
    rcases hb with hb | ⟨id, cs, h1, rfl⟩
    · exact hb
    · exact hH.avd id cs h1
  have hstep : ∀ {o : Bool} {v : Value} {x : V}, RV w m hin av o v x → RV w m hin (avm av m hin) o v x :=
    fun {o v x} hx => RV.step (w := w) (w' := w) (m := m) (m' := m) (h := hin) (h' := hin) (av := av) (av' := avm av m hin) (fun b off v hb hc => ⟨fun h => hb (hav' b h), hc⟩) (fun id c hid => ⟨c, hid, Nat.le_refl _, rfl, Nat.le_refl _, rfl⟩) hx
  have I : Inv w m hin av ⟨args ++ List.replicate (fn.ntmps - args.length) .undef, hin, hin.length⟩ { tmps := vs ++ Array.replicate (fn.ntmps - vs.size) Go.undef, defers := [] } w m := by
    refine ⟨⟨hH.inj, fun id cs h => .inr ⟨id, cs, h, rfl⟩, fun id cs h => ?_⟩, by simp [hs], fun i hi => ?_, rfl, Ext.refl _ _, fun id cs h => .inl ⟨id_lt h, cs, h, Nat.le_refl _, .inl rfl⟩, hav, fun b ⟨id, cs, h1, h2⟩ => h2 ▸ hH.avd id cs h1, hgl, rfl, Nat.le_refl _⟩
    · exact (hH.blk id cs h).step rfl (fun v x => hstep)
    · by_cases h : i < args.length
      · simp only [List.getElem_append_left h]
        rw [getD_append_left _ _ (by omega)]
        exact hstep (ha i h)
      · simp only [List.getElem_append_right (Nat.le_of_not_lt h), List.getElem_replicate]
        exact .undef _
  refine calls_of_wp hf hb (wpA_ok hm c _ _ (fun e s' a' w' m' hq I' => ?_) _ _ w m I hw)
  have fin : (resA P s' fn.results.toList fun vs => WeakR s'.k (tupOf vs) s'.h r hout) → a'.defers = [] ∧ ∃ v, (results fn a'.tmps).run P w' = .ok v w' ∧ ∃ v1 m'1, Ending.returned v = Ending.returned v1 ∧ Ext (own m hin) w w' ∧ RH w' m'1 hout (avm av m'1 hout) ∧ RV w' m'1 hout (avm av m'1 hout) true v1 r ∧ Ids w.heap.size m m'1 hin hout := by
    intro hq
    obtain ⟨v, xs, h1, h2, h3⟩ := results_ok (P := P) I' fn _ hq
    obtain ⟨m'', g1, g2, g3⟩ := h1 w m hin av w' m' v I'.k.symm (by rw [I'.k]; exact I'.len) I'.lt I'.ext.size I'.rh h2 I'.ids
    exact ⟨I'.defers, v, h3, v, m'', rfl, I'.ext, g1, g2, g3⟩
  cases e with
  | normal => exact fin hq
  | ret => exact fin hq
  | _ => exact hq.elim

/-- Such a contract out of a function's code. -/
theorem CtrP.intro {f : FuncId} {fn : Func} {c : Code} {args : List V} {hin : Hp} {Φ : V → Hp → Prop} (hm : P.follows .mixedOrders = true) (hf : P.funcs[f]? = some fn) (hb : fn.body = some c) (hok : okF P f = true)
    (hw : wpA P c (retP P fn.results.toList Φ) ⟨args ++ List.replicate (fn.ntmps - args.length) .undef, hin, hin.length⟩) : CtrP P f args hin Φ := by
  refine ⟨hok, fun w vs m av hH hav hgl hs ha => ?_⟩
  have hav' : ∀ b, avm av m hin b → av b := fun b hb => by
    rcases hb with hb | ⟨id, cs, h1, rfl⟩
    · exact hb
    · exact hH.avd id cs h1
  have hstep : ∀ {o : Bool} {v : Value} {x : V}, RV w m hin av o v x → RV w m hin (avm av m hin) o v x :=
    fun {o v x} hx => RV.step (w := w) (w' := w) (m := m) (m' := m) (h := hin) (h' := hin) (av := av) (av' := avm av m hin) (fun b off v hb hc => ⟨fun h => hb (hav' b h), hc⟩) (fun id c hid => ⟨c, hid, Nat.le_refl _, rfl, Nat.le_refl _, rfl⟩) hx
  have I : Inv w m hin av ⟨args ++ List.replicate (fn.ntmps - args.length) .undef, hin, hin.length⟩ { tmps := vs ++ Array.replicate (fn.ntmps - vs.size) Go.undef, defers := [] } w m := by
    refine ⟨⟨hH.inj, fun id cs h => .inr ⟨id, cs, h, rfl⟩, fun id cs h => ?_⟩, by simp [hs], fun i hi => ?_, rfl, Ext.refl _ _, fun id cs h => .inl ⟨id_lt h, cs, h, Nat.le_refl _, .inl rfl⟩, hav, fun b ⟨id, cs, h1, h2⟩ => h2 ▸ hH.avd id cs h1, hgl, rfl, Nat.le_refl _⟩
    · exact (hH.blk id cs h).step rfl (fun v x => hstep)
    · by_cases h : i < args.length
      · simp only [List.getElem_append_left h]
        rw [getD_append_left _ _ (by omega)]
        exact hstep (ha i h)
      · simp only [List.getElem_append_right (Nat.le_of_not_lt h), List.getElem_replicate]
        exact .undef _
  refine calls_of_wp hf hb (wpA_ok hm c _ _ (fun e s' a' w' m' hq I' => ?_) _ _ w m I hw)
  have fin : (resA P s' fn.results.toList fun vs => RelR s'.k (tupOf vs) s'.h Φ) → a'.defers = [] ∧ ∃ v, (results fn a'.tmps).run P w' = .ok v w' ∧ ∃ v1 m'1 r hout, Φ r hout ∧ Ending.returned v = Ending.returned v1 ∧ Ext (own m hin) w w' ∧ RH w' m'1 hout (avm av m'1 hout) ∧ RV w' m'1 hout (avm av m'1 hout) true v1 r ∧ Ids w.heap.size m m'1 hin hout := by
    intro hq
    obtain ⟨v, xs, h1, h2, h3⟩ := results_ok (P := P) I' fn _ hq
    obtain ⟨r, hout, hφ, h1⟩ := h1
    obtain ⟨m'', g1, g2, g3⟩ := h1 w m hin av w' m' v I'.k.symm (by rw [I'.k]; exact I'.len) I'.lt I'.ext.size I'.rh h2 I'.ids
    exact ⟨I'.defers, v, h3, v, m'', r, hout, hφ, rfl, I'.ext, g1, g2, g3⟩
  cases e with
  | normal => exact fin hq
  | ret => exact fin hq
  | _ => exact hq.elim

end
end Go.Lv
