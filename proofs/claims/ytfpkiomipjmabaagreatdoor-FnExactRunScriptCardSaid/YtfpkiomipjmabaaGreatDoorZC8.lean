/-
  A part of the proof: texts put together by a program of the prover. Conditions: none.
-/
import Derived.Test.YtfpkiomipjmabaaGreatDoorZC7
set_option linter.unusedSimpArgs false
set_option linter.unusedVariables false
section
namespace Go.Lv

def pn (next : St → Prop) (Q : Exit → St → Prop) : Exit → St → Prop
 | .normal, s => next s
 | e, s => Q e s

def oq (id : Nat) (Q : Exit → St → Prop) : Exit → St → Prop
 | .exit j, s => if j = id then Q .normal s else Q (.exit j) s
 | e, s => Q e s

def alx (W : (Exit → St → Prop) → St → Prop) (Q : Exit → St → Prop) (s : St) : Prop :=
 ∃ (σ : Type) (I : σ → Prop) (emb : σ → St) (μ : σ → Nat) (x0 : σ), I x0 ∧ br s (emb x0) ∧ ∀ x, I x → W (pn (fun s' => ∃ y, I y ∧ br s' (emb y) ∧ μ y < μ x) Q) (emb x)

theorem alx.intro {W : (Exit → St → Prop) → St → Prop} {Q : Exit → St → Prop} {s : St} {σ : Type} (I : σ → Prop) (emb : σ → St) (μ : σ → Nat) (x0 : σ) (h0 : I x0) (hW : br s (emb x0))
   (hr : ∀ x, I x → W (pn (fun s' => ∃ y, I y ∧ br s' (emb y) ∧ μ y < μ x) Q) (emb x)) : alx W Q s := ⟨σ, I, emb, μ, x0, h0, hW, hr⟩

def qw (P : Program) (op : Op) : Bool :=
 match op with
 | .call ⟨.value _, _, ts⟩ => (match ts.toList with | t :: _ => yo P t | [] => false)
 | _ => false
def rb (op : Op) : Bool :=
 match op with
 | .load _ _ => true
 | _ => false
def afn (P : Program) : List Oper → Bool
 | [] => false
 | o :: l => qw P o.op || afn P l
def aff : List Oper → Bool
 | [] => false
 | o :: l => rb o.op || aff l
def aqp (P : Program) (l : List Oper) : Bool := aff l && afn P l

def trW (P : Program) (ops : Array Oper) (s : St) (K : St → Prop) : Prop :=
 ∃ Ψ : St → Prop, trT P ops s (fun s' => ∃ s2, Ψ s2 ∧ br s' s2) ∧ ∀ s2, Ψ s2 → K s2

def wpA (P : Program) : Code → (Exit → St → Prop) → St → Prop
 | .skip => fun Q s => Q .normal s
 | .region _ ops false => fun Q s => fx P ops ops.toList s (Q .normal)
 | .region _ ops true => fun Q s => if ao9 ops.toList = true then chT P ops s (Q .normal) else if hasLt ops.toList = true then (ltT P ops s (Q .normal) ∨ trT P ops s (Q .normal)) else if aqp P ops.toList = true then (trW P ops s (Q .normal) ∨ dgT P ops s (Q .normal) ∨ (bp ops = true ∧ lv P ops ops.toList 0 [] s (Q .normal))) else (bp ops = true ∧ lv P ops ops.toList 0 [] s (Q .normal))
 | .seq a b => fun Q s => wpA P a (pn (wpA P b Q) Q) s
 | .cond c x y => fun Q s => jv (ev s.t c) fun t => (t = true → wpA P x Q s) ∧ (t = false → wpA P y Q s)
 | .block id c => fun Q s => wpA P c (oq id Q) s
 | .loop body => fun Q s => alx (wpA P body) Q s
 | .exit id => fun Q s => Q (.exit id) s
 | .ret => fun Q s => Q .ret s
 | _ => fun _ _ => False

theorem pb {p : Nat → Prop} (h : ∃ n, p n) : ∃ n, p n ∧ ∀ k, p k → n ≤ k := by
 obtain ⟨n, hn⟩ := h
 induction n using Nat.strongRecOn with
 | _ n ih =>
   by_cases hk : ∃ k, k < n ∧ p k
   · obtain ⟨k, h1, h2⟩ := hk
     exact ih k h1 h2
   · refine ⟨n, hn, fun k hp => ?_⟩
     rcases Nat.lt_or_ge k n with h | h
     · exact absurd ⟨k, h, hp⟩ hk
     · exact h

section
variable {P : Program} {w0 : World} {m0 : Nat → Nat} {h0 : Hp} {av0 : Nat → Prop}

theorem arc (hm : P.follows .mixedOrders = true) : ∀ (c : Code) (Q : Exit → St → Prop) (Q' : Exit → Act → World → Prop), (∀ e s a w m, Q e s → Inv w0 m0 h0 av0 s a w m → Q' e a w) →
   ∀ (s : St) (a : Act) (w : World) (m : Nat → Nat), Inv w0 m0 h0 av0 s a w m → wpA P c Q s → c.wp P Q' a w := by
 intro c
 induction c with
 | skip => exact fun Q Q' hQ s a w m I h => wp_skip (hQ _ _ _ _ m h I)
 | region id ops draw =>
   intro Q Q' hQ s a w m I h
   cases draw with
   | false => exact wp_region_list (ajr (fun s' a' w' m' h1 h2 => hQ _ _ _ _ m' h1 h2) _ s a w m I h)
   | true =>
     unfold wpA at h
     split at h
     · exact agi hm (fun s' a' w' m' h1 h2 => hQ _ _ _ _ m' h1 h2) I h
     split at h
     · rcases h with h | h
       · exact ahi hm (fun s' a' w' m' h1 h2 => hQ _ _ _ _ m' h1 h2) I h
       · exact ya hm (fun s' a' w' m' h1 h2 => hQ _ _ _ _ m' h1 h2) I h
     split at h
     · rcases h with ⟨Ψ, h, hΨ⟩ | h | h
       · refine ya hm (fun s' a' w' m' h1 h2 => ?_) I h
         obtain ⟨s2, h3, h4⟩ := h1
         obtain ⟨m2, I2⟩ := h4 _ _ _ _ _ _ _ h2
         exact hQ _ _ _ _ m2 (hΨ s2 h3) I2
       · exact ag6 hm (fun s' a' w' m' h1 h2 => hQ _ _ _ _ m' h1 h2) I h
       · exact abc hm h.1 (fun s' a' w' m' h1 h2 => hQ _ _ _ _ m' h1 h2) I h.2
     · exact abc hm h.1 (fun s' a' w' m' h1 h2 => hQ _ _ _ _ m' h1 h2) I h.2
 | seq x y ihx ihy =>
   intro Q Q' hQ s a w m I h
   refine wp_seq (ihx (pn (wpA P y Q) Q) _ (fun e s' a' w' m' h1 h2 => ?_) s a w m I h)
   cases e with
   | normal => exact ihy Q Q' hQ s' a' w' m' h2 h1
   | _ => exact hQ _ _ _ _ m' h1 h2
 | cond c x y ihx ihy =>
   intro Q Q' hQ s a w m I h
   obtain ⟨t, h1, _, h2⟩ := lh (I.ev c) h
   refine wp_cond h1 ?_
   cases t with
   | true => exact ihx Q Q' hQ s a w m I (h2.1 rfl)
   | false => exact ihy Q Q' hQ s a w m I (h2.2 rfl)
 | block id c ih =>
   intro Q Q' hQ s a w m I h
   refine wp_block (ih (oq id Q) _ (fun e s' a' w' m' h1 h2 => ?_) s a w m I h)
   cases e with
   | exit j =>
     simp only [oq] at h1
     simp only [Exit.inBlock]
     split at h1
     · rename_i e; rw [if_pos e]; exact hQ _ _ _ _ m' h1 h2
     · rename_i e; rw [if_neg e]; exact hQ _ _ _ _ m' h1 h2
   | _ => exact hQ _ _ _ _ m' h1 h2
 | loop body ih =>
   intro Q Q' hQ s a w m I h
   obtain ⟨σ, J, emb, μ, x0, hJ0, hW, hround⟩ := h
   obtain ⟨m1, I1⟩ := hW _ _ _ _ _ _ _ I
   let M : Act → World → Nat → Prop := fun a w n => ∃ x m, J x ∧ Inv w0 m0 h0 av0 (emb x) a w m ∧ μ x = n
   let meas : Act → World → Nat := fun a w => @dite Nat (∃ n, M a w n) (Classical.propDecidable _) (fun h => Classical.choose (pb h)) (fun _ => 0)
   refine wp_loop (fun a w => ∃ n, M a w n) meas ⟨_, x0, m1, hJ0, I1, rfl⟩ (fun a w hI => ?_)
   have hme : meas a w = Classical.choose (pb hI) := dif_pos hI
   obtain ⟨⟨x, m, hJx, hx, hmu⟩, _⟩ := Classical.choose_spec (pb hI)
   refine ih _ _ (fun e s' a' w' m' h1 h2 => ?_) (emb x) a w m hx (hround x hJx)
   cases e with
   | normal =>
     obtain ⟨y, hJy, hy, hlt⟩ := h1
     obtain ⟨m2, I2⟩ := hy _ _ _ _ _ _ _ h2
     have hI' : ∃ n, M a' w' n := ⟨_, y, m2, hJy, I2, rfl⟩
     refine ⟨hI', ?_⟩
     have hme' : meas a' w' = Classical.choose (pb hI') := dif_pos hI'
     have := (Classical.choose_spec (pb hI')).2 (μ y) ⟨y, m2, hJy, I2, rfl⟩
     rw [hme, hme', ← hmu]
     omega
   | _ => exact hQ _ _ _ _ m' h1 h2
 | exit id => exact fun Q Q' hQ s a w m I h => wp_exit (hQ _ _ _ _ m h I)
 | ret => exact fun Q Q' hQ s a w m I h => wp_ret (hQ _ _ _ _ m h I)
 | rangeFunc => exact fun Q Q' hQ s a w m I h => h.elim
 | scope => exact fun Q Q' hQ s a w m I h => h.elim
 | label => exact fun Q Q' hQ s a w m I h => h.elim
 | goto => exact fun Q Q' hQ s a w m I h => h.elim
 | refuse => exact fun Q Q' hQ s a w m I h => h.elim

end

def vw (P : Program) (s : St) : List ResultVar → (List V → Prop) → Prop
 | [], K => K []
 | .tmp t :: l, K => vw P s l fun vs => K (s.t.getD t .undef :: vs)
 | .cell a t :: l, K => n7 P s.h t (s.t.getD a .undef) fun v => vw P s l fun vs => K (v :: vs)

def ud : List V → V
 | [v] => v
 | vs => .tup vs

def al (k : Nat) (v : V) (h : Hp) (r : V) (hout : Hp) : Prop :=
 ∀ (w0 : World) (m0 : Nat → Nat) (h0 : Hp) (av0 : Nat → Prop) (w : World) (m : Nat → Nat) (val : Value), h0.length = k → k ≤ h.length → (∀ b, av0 b → b < w0.heap.size) → w0.heap.size ≤ w.heap.size →
   RH w m h (avm av0 m h) → RV w m h (avm av0 m h) true val v → Ids w0.heap.size m0 m h0 h →
   ∃ m', RH w m' hout (avm av0 m' hout) ∧ RV w m' hout (avm av0 m' hout) true val r ∧ Ids w0.heap.size m0 m' h0 hout

theorem al.refl (k : Nat) (v : V) (h : Hp) : al k v h v h := fun _ _ _ _ _ m _ _ _ _ _ h1 h2 h3 => ⟨m, h1, h2, h3⟩

def apn (k : Nat) (v : V) (h : Hp) (Φ : V → Hp → Prop) : Prop := ∃ r hout, Φ r hout ∧ al k v h r hout
theorem apn.intro {k : Nat} {v : V} {h : Hp} {Φ : V → Hp → Prop} (r : V) (hout : Hp) (hφ : Φ r hout) (hw : al k v h r hout) : apn k v h Φ := ⟨r, hout, hφ, hw⟩

def retP (P : Program) (res : List ResultVar) (Φ : V → Hp → Prop) (e : Exit) (s : St) : Prop :=
 match e with
 | .normal => vw P s res fun vs => apn s.k (ud vs) s.h Φ
 | .ret => vw P s res fun vs => apn s.k (ud vs) s.h Φ
 | _ => False

def ayz (P : Program) (res : List ResultVar) (r : V) (hout : Hp) (e : Exit) (s : St) : Prop :=
 match e with
 | .normal => vw P s res fun vs => al s.k (ud vs) s.h r hout
 | .ret => vw P s res fun vs => al s.k (ud vs) s.h r hout
 | _ => False

section
variable {P : Program} {w0 : World} {m0 : Nat → Nat} {h0 : Hp} {av0 : Nat → Prop} {s : St} {a : Act} {w : World} {m : Nat → Nat}

def aqn (tmps : Array Value) : ResultVar → Sem Value
 | .tmp t => pure (tmps.getD t Go.undef)
 | .cell ad t => do loadVar t (← asAddr (tmps.getD ad Go.undef))

theorem ag0 (I : Inv w0 m0 h0 av0 s a w m) : ∀ (l : List ResultVar) (K : List V → Prop), vw P s l K → ∃ (vs : List Value) (xs : List V), K xs ∧ vs.length = xs.length ∧
   (∀ i (hi : i < xs.length), RV w m s.h (avm av0 m s.h) true (vs.getD i Go.undef) xs[i]) ∧
   (l.mapM (aqn a.tmps)).run P w = .ok vs w
 | [], K, hq => ⟨[], [], hq, rfl, fun i hi => by simp at hi, rfl⟩
 | .tmp t :: l, K, hq => by
   obtain ⟨vs, xs, h1, h2, h3, h4⟩ := ag0 I l _ hq
   refine ⟨a.tmps.getD t Go.undef :: vs, s.t.getD t .undef :: xs, h1, by simp [h2], fun i hi => ?_, by simp only [List.mapM_cons, aqn, Sem.run_bind, Sem.run_pure, Result.andThen_ok, h4]⟩
   cases i with
   | zero => exact I.ev (.tmp t)
   | succ i => exact h3 i (by simpa using hi)
 | .cell ad t :: l, K, hq => by
   have hx : RV w m s.h (avm av0 m s.h) true (a.tmps.getD ad Go.undef) (s.t.getD ad .undef) := I.ev (.tmp ad)
   obtain ⟨v, x, h5, h6, h7⟩ := alq (P := P) I.rh hx hq
   obtain ⟨vs, xs, h1, h2, h3, h4⟩ := ag0 I l _ h5
   have haddr : (aqn a.tmps (.cell ad t)).run P w = .ok v w := by
     simp only [aqn, Sem.run_bind]
     revert h7
     generalize a.tmps.getD ad Go.undef = u
     intro h7
     unfold Instr.loadAt at h7
     cases u <;> simp [Instr.sureAddr] at h7
     rename_i ao
     cases ao with
     | none => simp at h7
     | some ad => simpa [asAddr] using h7
   refine ⟨v :: vs, x :: xs, h1, by simp [h2], fun i hi => ?_, by simp only [List.mapM_cons, Sem.run_bind, haddr, Sem.run_pure, Result.andThen_ok, h4]⟩
   cases i with
   | zero => exact h6
   | succ i => exact h3 i (by simpa using hi)

theorem ad6 (I : Inv w0 m0 h0 av0 s a w m) (fn : Func) (K : List V → Prop) (hq : vw P s fn.results.toList K) :
   ∃ v xs, K xs ∧ RV w m s.h (avm av0 m s.h) true v (ud xs) ∧ (results fn a.tmps).run P w = .ok v w := by
 obtain ⟨vs, xs, h1, h2, h3, h4⟩ := ag0 I _ _ hq
 refine ⟨if h : vs.toArray.size = 1 then vs.toArray[0] else .tuple vs.toArray, xs, h1, ?_, ?_⟩
 · match xs, vs, h2, h3 with
   | [x], [v], _, h3 => exact h3 0 (by simp)
   | [], [], _, _ => exact .tup _ _ rfl (fun i hi => by simp at hi)
   | x :: y :: xs, u :: v :: vs, h2, h3 =>
     have : ¬ (u :: v :: vs).toArray.size = 1 := by simp
     rw [dif_neg this]
     exact .tup _ _ (by simpa using h2) (fun i hi => by
       have := h3 i hi
       simpa [Array.getD_eq_getD_getElem?, List.getD_eq_getElem?_getD] using this)
 · unfold results
   rw [Array.mapM_eq_mapM_toList]
   simp only [Sem.run_bind, Sem.run_map]
   have e : ∀ (g : ResultVar → Sem Value), (∀ x, g x = aqn a.tmps x) → (fn.results.toList.mapM g).run P w = .ok vs w := fun g hg => by rw [funext hg]; exact h4
   rw [e _ (fun x => by cases x <;> rfl)]
   simp

theorem Ctr.intro {f : FuncId} {fn : Func} {c : Code} {args : List V} {hin : Hp} {r : V} {hout : Hp} (hm : P.follows .mixedOrders = true) (hf : P.funcs[f]? = some fn) (hb : fn.body = some c) (hok : okF P f = true)
   (hw : wpA P c (ayz P fn.results.toList r hout) ⟨args ++ List.replicate (fn.ntmps - args.length) .undef, hin, hin.length⟩) : Ctr P f args hin r hout := by
 refine ⟨hok, fun w vs m av hH hav hgl hs ha => ?_⟩
 have hav' : ∀ b, avm av m hin b → av b := fun b hb => by
   rcases hb with hb | ⟨id, cs, h1, rfl⟩
   · exact hb
   · exact hH.avd id cs h1
 have hstep : ∀ {o : Bool} {v : Value} {x : V}, RV w m hin av o v x → RV w m hin (avm av m hin) o v x :=
   fun {o v x} hx => RV.step (w := w) (w' := w) (m := m) (m' := m) (h := hin) (h' := hin) (av := av) (av' := avm av m hin) (fun b off v hb hc => ⟨fun h => hb (hav' b h), hc⟩) (fun id c hid => ⟨c, hid, Nat.le_refl _, rfl, Nat.le_refl _, rfl⟩) hx
 have I : Inv w m hin av ⟨args ++ List.replicate (fn.ntmps - args.length) .undef, hin, hin.length⟩ { tmps := vs ++ Array.replicate (fn.ntmps - vs.size) Go.undef, defers := [] } w m := by
   refine ⟨⟨hH.inj, fun id cs h => .inr ⟨id, cs, h, rfl⟩, fun id cs h => ?_⟩, by simp [hs], fun i hi => ?_, rfl, Ext.refl _ _, fun id cs h => .inl ⟨dy h, cs, h, Nat.le_refl _, .inl rfl⟩, hav, fun b ⟨id, cs, h1, h2⟩ => h2 ▸ hH.avd id cs h1, hgl, rfl, Nat.le_refl _⟩
   · exact (hH.blk id cs h).step rfl (fun v x => hstep)
   · by_cases h : i < args.length
     · simp only [List.getElem_append_left h]
       rw [gj _ _ (by omega)]
       exact hstep (ha i h)
     · simp only [List.getElem_append_right (Nat.le_of_not_lt h), List.getElem_replicate]
       exact .undef _
 refine calls_of_wp hf hb (arc hm c _ _ (fun e s' a' w' m' hq I' => ?_) _ _ w m I hw)
 have fin : (vw P s' fn.results.toList fun vs => al s'.k (ud vs) s'.h r hout) → a'.defers = [] ∧ ∃ v, (results fn a'.tmps).run P w' = .ok v w' ∧ ∃ v1 m'1, Ending.returned v = Ending.returned v1 ∧ Ext (own m hin) w w' ∧ RH w' m'1 hout (avm av m'1 hout) ∧ RV w' m'1 hout (avm av m'1 hout) true v1 r ∧ Ids w.heap.size m m'1 hin hout := by
   intro hq
   obtain ⟨v, xs, h1, h2, h3⟩ := ad6 (P := P) I' fn _ hq
   obtain ⟨m'', g1, g2, g3⟩ := h1 w m hin av w' m' v I'.k.symm (by rw [I'.k]; exact I'.len) I'.lt I'.ext.size I'.rh h2 I'.ids
   exact ⟨I'.defers, v, h3, v, m'', rfl, I'.ext, g1, g2, g3⟩
 cases e with
 | normal => exact fin hq
 | ret => exact fin hq
 | _ => exact hq.elim

theorem an7.intro {f : FuncId} {fn : Func} {c : Code} {args : List V} {hin : Hp} {Φ : V → Hp → Prop} (hm : P.follows .mixedOrders = true) (hf : P.funcs[f]? = some fn) (hb : fn.body = some c) (hok : okF P f = true)
   (hw : wpA P c (retP P fn.results.toList Φ) ⟨args ++ List.replicate (fn.ntmps - args.length) .undef, hin, hin.length⟩) : an7 P f args hin Φ := by
 refine ⟨hok, fun w vs m av hH hav hgl hs ha => ?_⟩
 have hav' : ∀ b, avm av m hin b → av b := fun b hb => by
   rcases hb with hb | ⟨id, cs, h1, rfl⟩
   · exact hb
   · exact hH.avd id cs h1
 have hstep : ∀ {o : Bool} {v : Value} {x : V}, RV w m hin av o v x → RV w m hin (avm av m hin) o v x :=
   fun {o v x} hx => RV.step (w := w) (w' := w) (m := m) (m' := m) (h := hin) (h' := hin) (av := av) (av' := avm av m hin) (fun b off v hb hc => ⟨fun h => hb (hav' b h), hc⟩) (fun id c hid => ⟨c, hid, Nat.le_refl _, rfl, Nat.le_refl _, rfl⟩) hx
 have I : Inv w m hin av ⟨args ++ List.replicate (fn.ntmps - args.length) .undef, hin, hin.length⟩ { tmps := vs ++ Array.replicate (fn.ntmps - vs.size) Go.undef, defers := [] } w m := by
   refine ⟨⟨hH.inj, fun id cs h => .inr ⟨id, cs, h, rfl⟩, fun id cs h => ?_⟩, by simp [hs], fun i hi => ?_, rfl, Ext.refl _ _, fun id cs h => .inl ⟨dy h, cs, h, Nat.le_refl _, .inl rfl⟩, hav, fun b ⟨id, cs, h1, h2⟩ => h2 ▸ hH.avd id cs h1, hgl, rfl, Nat.le_refl _⟩
   · exact (hH.blk id cs h).step rfl (fun v x => hstep)
   · by_cases h : i < args.length
     · simp only [List.getElem_append_left h]
       rw [gj _ _ (by omega)]
       exact hstep (ha i h)
     · simp only [List.getElem_append_right (Nat.le_of_not_lt h), List.getElem_replicate]
       exact .undef _
 refine calls_of_wp hf hb (arc hm c _ _ (fun e s' a' w' m' hq I' => ?_) _ _ w m I hw)
 have fin : (vw P s' fn.results.toList fun vs => apn s'.k (ud vs) s'.h Φ) → a'.defers = [] ∧ ∃ v, (results fn a'.tmps).run P w' = .ok v w' ∧ ∃ v1 m'1 r hout, Φ r hout ∧ Ending.returned v = Ending.returned v1 ∧ Ext (own m hin) w w' ∧ RH w' m'1 hout (avm av m'1 hout) ∧ RV w' m'1 hout (avm av m'1 hout) true v1 r ∧ Ids w.heap.size m m'1 hin hout := by
   intro hq
   obtain ⟨v, xs, h1, h2, h3⟩ := ad6 (P := P) I' fn _ hq
   obtain ⟨r, hout, hφ, h1⟩ := h1
   obtain ⟨m'', g1, g2, g3⟩ := h1 w m hin av w' m' v I'.k.symm (by rw [I'.k]; exact I'.len) I'.lt I'.ext.size I'.rh h2 I'.ids
   exact ⟨I'.defers, v, h3, v, m'', r, hout, hφ, rfl, I'.ext, g1, g2, g3⟩
 cases e with
 | normal => exact fin hq
 | ret => exact fin hq
 | _ => exact hq.elim

end
end Go.Lv
end
section
namespace Go.Lv

structure Tag {α : Type} (a : α) : Type where
 mk ::

def bd (t : Bool) (A B : Prop) (_ : Tag A) (_ : Tag B) : Prop := (t = true → A) ∧ (t = false → B)
@[go_sem] theorem avr {A B : Prop} {x : Tag A} {y : Tag B} : bd true A B x y = A := by simp [bd]
@[go_sem] theorem aun {A B : Prop} {x : Tag A} {y : Tag B} : bd false A B x y = B := by simp [bd]
theorem bd.split {t : Bool} {A B : Prop} {x : Tag A} {y : Tag B} (h1 : t = true → A) (h2 : t = false → B) : bd t A B x y := ⟨h1, h2⟩

def a8 (want : Bool) (g : V) (A B : Prop) (_ : Tag A) (_ : Tag B) : Prop := tl want g A B
@[go_sem] theorem a0v {A B : Prop} {x : Tag A} {y : Tag B} : a8 true (.bool true) A B x y = A := by simp [a8, tl]
@[go_sem] theorem a0b {A B : Prop} {x : Tag A} {y : Tag B} : a8 true (.bool false) A B x y = B := by simp [a8, tl]
@[go_sem] theorem a0o {A B : Prop} {x : Tag A} {y : Tag B} : a8 false (.bool true) A B x y = B := by simp [a8, tl]
@[go_sem] theorem azx {A B : Prop} {x : Tag A} {y : Tag B} : a8 false (.bool false) A B x y = A := by simp [a8, tl]
@[go_sem] theorem auz {want : Bool} {A B : Prop} {x : Tag A} {y : Tag B} : a8 want .skip A B x y = B := rfl
theorem a8.bu {b : Bool} {A B : Prop} {x : Tag A} {y : Tag B} (h1 : b = true → A) (h2 : b = false → B) : a8 true (.bool b) A B x y := ⟨h1, h2⟩
theorem a8.ch {b : Bool} {A B : Prop} {x : Tag A} {y : Tag B} (h1 : b = false → A) (h2 : b = true → B) : a8 false (.bool b) A B x y := ⟨h1, h2⟩
theorem a8.split {want b : Bool} {A B : Prop} {x : Tag A} {y : Tag B} (h1 : b = want → A) (h2 : b = !want → B) : a8 want (.bool b) A B x y := ⟨h1, h2⟩

def ak (P : Program) (h : Hp) (fv : V) (args : List V) (K : V → Hp → Prop) (_ : Tag K) : Prop := (n6 h 4 fv = true ∧ args.all (n6 h 3) = true) ∧ u0 P h fv args K
def aj (P : Program) (s : St) (dst : Option Tmp) (fv : V) (args : List V) (K : St → Prop) (_ : Tag K) : Prop := u0 P s.h fv args (fun r hout => K (oz s dst r hout)) ∨ aqt P s dst fv args K ∨ ao6 P s dst fv args K ∨ aol P s dst fv args K
def cw (W : (Exit → St → Prop) → St → Prop) (Q : Exit → St → Prop) (s : St) (_ : Tag W) (_ : Tag Q) : Prop := alx W Q s

@[congr] theorem a09 {P : Program} {c : Code} {Q : Exit → St → Prop} {s s' : St} (h : s = s') : wpA P c Q s = wpA P c Q s' := by rw [h]
@[congr] theorem au7 {P : Program} {ops : Array Oper} {l : List Oper} {s s' : St} {K : St → Prop} (h : s = s') : fx P ops l s K = fx P ops l s' K := by rw [h]
def dG (P : Program) (ops : Array Oper) (l : List Oper) (b : Nat) (R : List Oper) (s : St) (K : St → Prop) : Prop := lv P ops l b R.reverse s K
def fR (P : Program) (ops : Array Oper) (R acc : List Oper) (s : St) (K : St → Prop) : Prop := fx P ops (R.reverse ++ acc) s K
@[congr] theorem a4b {P : Program} {ops : Array Oper} {l R : List Oper} {b b' : Nat} {s s' : St} {K : St → Prop} (hb : b = b') (h : s = s') : dG P ops l b R s K = dG P ops l b' R s' K := by rw [hb, h]
@[congr] theorem a1w {P : Program} {ops : Array Oper} {l R : List Oper} {s s' : St} {K : St → Prop} (h : s = s') : fR P ops l R s K = fR P ops l R s' K := by rw [h]
@[congr] theorem a44 {P : Program} {ops : Array Oper} {l l' : List Oper} {s s' : St} {K : St → Prop} (hl : l = l') (h : s = s') : gA P ops l s K = gA P ops l' s' K := by rw [hl, h]
def n8 (P : Program) (ops : Array Oper) (s : St) (K : St → Prop) : Prop := ltT P ops s K ∨ trT P ops s K
theorem n8.path {P : Program} {ops : List Oper} {s : St} {K : St → Prop} (zl fl : List Bool) (p : Nat) (ids : List Nat) (h1 : ac5 ops.toArray zl fl p = true)
   (h2 : gF P ops.toArray ids (ug zl fl ops) s fun e => py P ops.toArray ids p (nn (zl.map (!·)) ops) e K) : n8 P ops.toArray s K := .inl (ltT.intro zl fl p ids h1 h2)
theorem n8.tree {P : Program} {ops : List Oper} {s : St} {K : St → Prop} (tr : Tr) (h1 : (Region.noSelect ops.toArray && abj ops.toArray tr (Array.replicate ops.toArray.size false) true) = true) (h2 : trA P ops.toArray tr s K) : n8 P ops.toArray s K := .inr (trT.intro tr h1 h2)
@[congr] theorem avh {P : Program} {ops : Array Oper} {s s' : St} {K : St → Prop} (h : s = s') : n8 P ops s K = n8 P ops s' K := by rw [h]
@[congr] theorem a4q {P : Program} {ops : Array Oper} {ids : List Nat} {l l' : List (Bool × Oper)} {s s' : St} {K : St → Prop} (hl : l = l') (h : s = s') : gF P ops ids l s K = gF P ops ids l' s' K := by rw [hl, h]
@[congr] theorem aue {P : Program} {ops : Array Oper} {ids : List Nat} {p p' : Nat} {l l' : List Oper} {s s' : St} {K : St → Prop} (hp : p = p') (hl : l = l') (h : s = s') : py P ops ids p l s K = py P ops ids p' l' s' K := by rw [hp, hl, h]
@[congr] theorem az3 {P : Program} {ops : Array Oper} {t : Tr} {s s' : St} {K : St → Prop} (h : s = s') : trA P ops t s K = trA P ops t s' K := by rw [h]
@[congr] theorem a0j {P : Program} {ops : Array Oper} {s s' : St} {K : St → Prop} (h : s = s') : chT P ops s K = chT P ops s' K := by rw [h]
@[congr] theorem ar5 {P : Program} {t t' : List V} {h h' : Hp} {l : List Tip} {s s' : St} {K : St → Prop} (h1 : t = t') (h2 : h = h') (h3 : s = s') : p7 P t h l s K = p7 P t' h' l s' K := by rw [h1, h2, h3]
@[congr] theorem avf {h h' : Hp} {sz n n' : Nat} {l l' : List V} {cs cs' : List V} {K : Nat → List V → Prop} (h1 : h = h') (h2 : l = l') (h3 : n = n') (h4 : cs = cs') : vb h sz l n cs K = vb h' sz l' n' cs' K := by rw [h1, h2, h3, h4]
@[congr] theorem ata {n : St → Prop} {Q : Exit → St → Prop} {e : Exit} {s s' : St} (h : s = s') : pn n Q e s = pn n Q e s' := by rw [h]
@[congr] theorem arj {i : Nat} {Q : Exit → St → Prop} {e : Exit} {s s' : St} (h : s = s') : oq i Q e s = oq i Q e s' := by rw [h]


@[congr] theorem a03 {P : Program} {o : Oper} {s s' : St} {K : St → Prop} (h : s = s') : fop P s o K = fop P s' o K := by rw [h]
@[congr] theorem au3 {P : Program} {t : Nat} {h h' : Hp} {x x' : V} {K : V → Prop} (h1 : h = h') (h2 : x = x') : n7 P h t x K = n7 P h' t x' K := by rw [h1, h2]
@[congr] theorem anf {P : Program} {t f : Nat} {x x' : V} {K : V → Prop} (h2 : x = x') : ea P t f x K = ea P t f x' K := by rw [h2]
@[congr] theorem atx {P : Program} {t f : Nat} {x x' : V} {K : V → Prop} (h2 : x = x') : xu P t f x K = xu P t f x' K := by rw [h2]
@[congr] theorem an4 {P : Program} {t : Nat} {z z' : Int} {x x' : V} {K : V → Prop} (h1 : x = x') (h2 : z = z') : dp P t x z K = dp P t x' z' K := by rw [h1, h2]
@[congr] theorem as2 {P : Program} {t : Nat} {z z' : Int} {x x' : V} {K : V → Prop} (h1 : x = x') (h2 : z = z') : s6 P t x z K = s6 P t x' z' K := by rw [h1, h2]
@[congr] theorem ase {P : Program} {ρ : Operand → V} {t : Nat} {z z' : Int} {hi : Option Operand} {x x' : V} {K : V → Prop} (h1 : x = x') (h2 : z = z') : ll P ρ t x z hi K = ll P ρ t x' z' hi K := by rw [h1, h2]
@[congr] theorem aw6 {P : Program} {t : Nat} {x x' : V} {K : V → Prop} (h2 : x = x') : abm P t x K = abm P t x' K := by rw [h2]
@[congr] theorem aur {P : Program} {t u : Nat} {x x' : V} {K : V → Prop} (h2 : x = x') : aa2 P t u x K = aa2 P t u x' K := by rw [h2]
@[congr] theorem at2 {P : Program} {t u : Nat} {h h' : Hp} {x x' : V} {K : V → Prop} (h1 : h = h') (h2 : x = x') : kl P h t u x K = kl P h' t u x' K := by rw [h1, h2]
@[congr] theorem ayn {x x' : V} {K : V → Prop} (h2 : x = x') : wm x K = wm x' K := by rw [h2]
@[congr] theorem arv {P : Program} {t : Nat} {h h' : Hp} {x x' y y' : V} {ok : Bool} {K : V → Prop} (h1 : h = h') (h2 : x = x') (h3 : y = y') : j5 P h t x y ok K = j5 P h' t x' y' ok K := by rw [h1, h2, h3]
@[congr] theorem awo {P : Program} {t : Nat} {h h' : Hp} {x x' y y' v v' : V} {K : Hp → Prop} (h1 : h = h') (h2 : x = x') (h3 : y = y') (h4 : v = v') : aiw P h t x y v K = aiw P h' t x' y' v' K := by rw [h1, h2, h3, h4]
@[congr] theorem at3 {x x' : V} {K : IntKind → Int → Prop} (h2 : x = x') : ib x K = ib x' K := by rw [h2]
@[congr] theorem atd {x x' : V} {K : Bool → Prop} (h2 : x = x') : jv x K = jv x' K := by rw [h2]
@[congr] theorem auo {i : Nat} {x x' : V} {K : V → Prop} (h2 : x = x') : nr x i K = nr x' i K := by rw [h2]
@[congr] theorem a04 {P : Program} {op : BinOp} {t : Nat} {x x' y y' : V} {K : V → Prop} (h1 : x = x') (h2 : y = y') : bin P op t x y K = bin P op t x' y' K := by rw [h1, h2]
@[congr] theorem asi {op : BinOp} {k : IntKind} {x x' y y' : Int} {K : V → Prop} (h1 : x = x') (h2 : y = y') : vh op k x y K = vh op k x' y' K := by rw [h1, h2]
@[congr] theorem asd {op : BinOp} {x x' y y' : ByteArray} {K : V → Prop} (h1 : x = x') (h2 : y = y') : va op x y K = va op x' y' K := by rw [h1, h2]
@[congr] theorem atq {P : Program} {t : Nat} {x x' : List (Nat × V)} {K : V → Prop} (h2 : x = x') : pg P t x K = pg P t x' K := by rw [h2]
@[congr] theorem atv {P : Program} {t : Nat} {h h' : Hp} {x x' y y' : V} {K : Hp → Prop} (h1 : h = h') (h2 : x = x') (h3 : y = y') : ks P h t x y K = ks P h' t x' y' K := by rw [h1, h2, h3]
@[congr] theorem axz {z : Nat} {n : Option Nat} {h h' : Hp} {y y' : V} {K : Nat → List V → Prop} (h1 : h = h') (h3 : y = y') : ma h z n y K = ma h' z n y' K := by rw [h1, h3]
@[congr] theorem arw {P : Program} {t u : Nat} {s s' : St} {x x' y y' : V} {K : St → V → Prop} (h1 : s = s') (h2 : x = x') (h3 : y = y') : su P s t u x y K = su P s' t u x' y' K := by rw [h1, h2, h3]

def clT (P : Program) (ops : Array Oper) (l : List Oper) (s : St) (K : St → Prop) : Prop := trW P ops s K ∨ dgT P ops s K ∨ (bp ops = true ∧ dG P ops l 0 [] s K)
theorem clT.tree {P : Program} {ops : List Oper} {l : List Oper} {s : St} {K : St → Prop} (Ψ : St → Prop) (tr : Tr) (h1 : (Region.noSelect ops.toArray && abj ops.toArray tr (Array.replicate ops.toArray.size false) true) = true)
   (hK : ∀ s2, Ψ s2 → K s2) (h2 : trA P ops.toArray tr s (fun s' => ∃ s2, Ψ s2 ∧ br s' s2)) : clT P ops.toArray l s K := .inl ⟨Ψ, ⟨tr, h1, h2⟩, hK⟩
theorem clT.text {P : Program} {ops : Array Oper} {l : List Oper} {s : St} {K : St → Prop} (h1 : bp ops = true) (h2 : dG P ops l 0 [] s K) : clT P ops l s K := .inr (.inr ⟨h1, h2⟩)
@[congr] theorem a1e {P : Program} {ops : Array Oper} {l : List Oper} {s s' : St} {K : St → Prop} (h : s = s') : clT P ops l s K = clT P ops l s' K := by rw [h]
section
variable {P : Program} {Q : Exit → St → Prop} {s : St}
@[go_sem] theorem a3k : wpA P .skip Q s = Q .normal s := rfl
@[go_sem] theorem as6 {id : Nat} {ops : List Oper} : wpA P (.region id ops.toArray false) Q s = fx P ops.toArray ops s (Q .normal) := rfl
@[go_sem] theorem atg {id : Nat} {ops : List Oper} : wpA P (.region id ops.toArray true) Q s = if ao9 ops = true then chT P ops.toArray s (Q .normal) else if hasLt ops = true then n8 P ops.toArray s (Q .normal) else if aqp P ops = true then clT P ops.toArray ops s (Q .normal) else (bp ops.toArray = true ∧ dG P ops.toArray ops 0 [] s (Q .normal)) := rfl
@[go_sem] theorem a60 {a b : Code} : wpA P (.seq a b) Q s = wpA P a (pn (wpA P b Q) Q) s := rfl
@[go_sem] theorem a30 {c : Operand} {x y : Code} : wpA P (.cond c x y) Q s = jv (ev s.t c) fun t => bd t (wpA P x Q s) (wpA P y Q s) ⟨⟩ ⟨⟩ := rfl
@[go_sem] theorem azz {id : Nat} {c : Code} : wpA P (.block id c) Q s = wpA P c (oq id Q) s := rfl
@[go_sem] theorem a4v {c : Code} : wpA P (.loop c) Q s = cw (wpA P c) Q s ⟨⟩ ⟨⟩ := rfl
@[go_sem] theorem a16 {id : Nat} : wpA P (.exit id) Q s = Q (.exit id) s := rfl
@[go_sem] theorem a7q : wpA P .ret Q s = Q .ret s := rfl
@[go_sem] theorem arn {n : St → Prop} : pn n Q .normal s = n s := rfl
@[go_sem] theorem aud {n : St → Prop} {i : Nat} : pn n Q (.exit i) s = Q (.exit i) s := rfl
@[go_sem] theorem ax3 {n : St → Prop} : pn n Q .ret s = Q .ret s := rfl
@[go_sem] theorem apz {i : Nat} : oq i Q .normal s = Q .normal s := rfl
@[go_sem] theorem avp {i : Nat} : oq i Q .ret s = Q .ret s := rfl
@[go_sem] theorem asx {i j : Nat} : oq i Q (.exit j) s = if j = i then Q .normal s else Q (.exit j) s := rfl
end

section
variable {P : Program} {ops : Array Oper} {t : List V} {h : Hp} {k : Nat} {K : St → Prop} {rest : List Oper} {dst : Option Tmp} {ty : TypeId} {pos : String} {after : Array Edge} {g : Option (Nat × Bool)}

@[go_sem] theorem a1l {s : St} : fx P ops [] s K = K s := rfl
@[go_sem] theorem axn {op : Op} {v0 : V} : fx P ops (⟨dst, op, ty, pos, after, none⟩ :: rest) ⟨v0 :: t, h, k⟩ K = fop P ⟨v0 :: t, h, k⟩ ⟨dst, op, ty, pos, after, none⟩ (fun s' => fx P ops rest s' K) := rfl
@[go_sem] theorem auk {op : Op} {j : Nat} {want : Bool} {v0 : V} : fx P ops (⟨dst, op, ty, pos, after, some (j, want)⟩ :: rest) ⟨v0 :: t, h, k⟩ K =
   a8 want (gv ops (v0 :: t) j) (fop P ⟨v0 :: t, h, k⟩ ⟨dst, op, ty, pos, after, some (j, want)⟩ (fun s' => fx P ops rest s' K)) (fx P ops rest (St.put ⟨v0 :: t, h, k⟩ dst .skip) K) ⟨⟩ ⟨⟩ := rfl
@[go_sem] theorem gA_nil {s : St} : gA P ops [] s K = K s := rfl
@[go_sem] theorem a6p {op : Op} {v0 : V} : gA P ops (⟨dst, op, ty, pos, after, none⟩ :: rest) ⟨v0 :: t, h, k⟩ K = gop P h (ev (v0 :: t)) op (fun v n => gA P ops rest (St.put ⟨v0 :: t, h ++ n, k⟩ dst v) K) := rfl
@[go_sem] theorem azf {t : List V} {h : Hp} {s : St} {K : St → Prop} : p7 P t h [] s K = K s := rfl
@[go_sem] theorem at7 {u : List V} {hh : Hp} {i d ty' : Nat} {ys : List Tmp} {l : List Tip} {sh : Hp} : p7 P u hh (⟨i, d, ty', ys⟩ :: l) ⟨t, sh, k⟩ K = match ij P ty' with
   | some (e, sz, by_) => match zeroOf P e with
     | some zs => zs.length = sz ∧ vb hh sz (ys.map fun y => u.getD y .undef) 0 [] fun n cs => (n * by_ ≤ 140737488355328 ∧ n ≤ 4611686018427387904 ∧ cs.all (cc 2) = true) ∧
         p7 P u hh l ⟨t.set d (.osl sh.length 0 n sz), sh ++ [some cs], k⟩ K
     | none => False
   | none => False := rfl
@[go_sem] theorem azy {hh : Hp} {sz n : Nat} {cs : List V} {K : Nat → List V → Prop} : vb hh sz [] n cs K = K n cs := rfl
@[go_sem] theorem aw3 {hh : Hp} {sz n : Nat} {y : V} {l cs : List V} {K : Nat → List V → Prop} : vb hh sz (y :: l) n cs K = ma hh sz none y fun k ys => vb hh sz l (n + k) (cs ++ ys) K := rfl
@[go_sem] theorem a2r {f : List Bool} : nn f [] = [] := by cases f with | nil => rfl | cons b f => cases b <;> rfl
@[go_sem] theorem selB_t {f : List Bool} {o : Oper} {l : List Oper} : nn (true :: f) (o :: l) = o :: nn f l := rfl
@[go_sem] theorem selB_f {f : List Bool} {o : Oper} {l : List Oper} : nn (false :: f) (o :: l) = nn f l := rfl
@[go_sem] theorem a1r {t : List V} : oe [] t = t := rfl
@[go_sem] theorem a0z {l : List (Option CE)} {t : List V} : oe (none :: l) t = oe l t := rfl
@[go_sem] theorem az7 {l : List (Option CE)} {pv : Option Nat} {d ty' : Nat} {ys : List Tmp} {t : List V} : oe (some ⟨pv, d, ty', ys⟩ :: l) t = oe l (t.set d .undef) := rfl
@[go_sem] theorem a1z {l : List Oper} : ao9 l = (hasB l && an2 l) := rfl
@[go_sem] theorem a3c {l : List Oper} : aqp P l = (aff l && afn P l) := rfl
@[go_sem] theorem az6 : aff [] = false := rfl
@[go_sem] theorem awk {op : Op} {l : List Oper} : aff (⟨dst, op, ty, pos, after, g⟩ :: l) = (rb op || aff l) := rfl
@[go_sem] theorem a0q : afn P [] = false := rfl
@[go_sem] theorem awj {op : Op} {l : List Oper} : afn P (⟨dst, op, ty, pos, after, g⟩ :: l) = (qw P op || afn P l) := rfl
@[go_sem] theorem a5d {l : List Oper} : hasLt l = (an8 l && am6 l) := rfl
@[go_sem] theorem a29 : an8 [] = false := rfl
@[go_sem] theorem a1k {op : Op} {l : List Oper} : an8 (⟨dst, op, ty, pos, after, g⟩ :: l) = (q9 op after || an8 l) := rfl
@[go_sem] theorem a34 : am6 [] = false := rfl
@[go_sem] theorem a1a {op : Op} {l : List Oper} : am6 (⟨dst, op, ty, pos, after, g⟩ :: l) = (kg op || am6 l) := rfl
@[go_sem] theorem a62 : gcL [] = false := rfl
@[go_sem] theorem a2w {n : Nat} {g : Ground} {l : List Edge} : gcL (⟨n, g⟩ :: l) = (ao8 g || gcL l) := rfl
@[go_sem] theorem a5n : ao8 .data = false := rfl
@[go_sem] theorem a3i : ao8 .guard = false := rfl
@[go_sem] theorem gc_gc {r : Departure} : ao8 (.gcOnly r) = true := rfl
@[go_sem] theorem a5c {b : Nat} : ([] : List Nat).contains b = false := rfl
@[go_sem] theorem a0f {a b : Nat} {l : List Nat} : (a :: l).contains b = (b == a || l.contains b) := List.contains_cons
@[go_sem] theorem gF_nil {ids : List Nat} {s : St} : gF P ops ids [] s K = K s := rfl
@[go_sem] theorem a7b {ids : List Nat} {f : Bool} {op : Op} {l : List (Bool × Oper)} {v0 : V} : gF P ops ids ((f, ⟨dst, op, ty, pos, after, none⟩) :: l) ⟨v0 :: t, h, k⟩ K = gop P (abp ids f h) (ev (v0 :: t)) op (fun v n => gF P ops ids l (St.put ⟨v0 :: t, h ++ n, k⟩ dst v) K) := rfl
@[go_sem] theorem a3q {ids : List Nat} {f : Bool} {op : Op} {j : Nat} {want : Bool} {l : List (Bool × Oper)} {v0 : V} : gF P ops ids ((f, ⟨dst, op, ty, pos, after, some (j, want)⟩) :: l) ⟨v0 :: t, h, k⟩ K =
   a8 want (gv ops (v0 :: t) j) (gop P (abp ids f h) (ev (v0 :: t)) op (fun v n => gF P ops ids l (St.put ⟨v0 :: t, h ++ n, k⟩ dst v) K)) (gF P ops ids l (St.put ⟨v0 :: t, h, k⟩ dst .skip) K) ⟨⟩ ⟨⟩ := rfl
@[go_sem] theorem holB_t {ids : List Nat} {h : Hp} : abp ids true h = hol ids h := rfl
@[go_sem] theorem holB_f {ids : List Nat} {h : Hp} : abp ids false h = h := rfl
@[go_sem] theorem a6i {h : Hp} : hol [] h = h := rfl
@[go_sem] theorem a11 {i : Nat} {l : List Nat} {h : Hp} : hol (i :: l) h = hol l (h.set i none) := rfl
@[go_sem] theorem a3e {a b : List Bool} : ug a b [] = [] := by cases a with | nil => rfl | cons x a => cases b <;> rfl
@[go_sem] theorem selF_t {f : Bool} {a b : List Bool} {o : Oper} {l : List Oper} : ug (true :: a) (f :: b) (o :: l) = (f, o) :: ug a b l := rfl
@[go_sem] theorem selF_f {f : Bool} {a b : List Bool} {o : Oper} {l : List Oper} : ug (false :: a) (f :: b) (o :: l) = ug a b l := rfl
@[go_sem] theorem ax9 {ids : List Nat} {D : List Oper} {s : St} : py P ops ids 0 D s K = fx P ops D s K := rfl
@[go_sem] theorem ax1 {ids : List Nat} {p : Nat} {o : Oper} {D : List Oper} {s : St} : py P ops ids (p + 1) (o :: D) s K = ajz P ids s o fun s' => py P ops ids p D s' K := rfl
@[go_sem] theorem aug {ids : List Nat} {u : TypeId} {a x : Operand} {s : St} : ajz P ids s ⟨none, .store u a x, ty, pos, after, none⟩ K = ((match ev s.t a with | .ptr id _ => ids.contains id = true | _ => False) ∧ ks P s.h u (ev s.t a) (ev s.t x) fun h' => K { s with h := h' }) := rfl
@[go_sem] theorem a3g : hasB [] = false := rfl
@[go_sem] theorem a0a {op : Op} {l : List Oper} : hasB (⟨dst, op, ty, pos, after, g⟩ :: l) = (rk op || hasB l) := rfl
@[go_sem] theorem a5a : an2 [] = false := rfl
@[go_sem] theorem a08 {op : Op} {l : List Oper} : an2 (⟨dst, op, ty, pos, after, g⟩ :: l) = (qx op || an2 l) := rfl
@[go_sem] theorem dG_nil {b : Nat} {R : List Oper} {s : St} : dG P ops [] b R s K = fR P ops R [] s K := by
 show fx P ops R.reverse s K = fx P ops (R.reverse ++ []) s K
 rw [List.append_nil]
@[go_sem] theorem fR_nil {acc : List Oper} {s : St} : fR P ops [] acc s K = fx P ops acc s K := rfl
@[go_sem] theorem a65 {o : Oper} {R acc : List Oper} {s : St} : fR P ops (o :: R) acc s K = fR P ops R (o :: acc) s K := by
 show fx P ops ((o :: R).reverse ++ acc) s K = fx P ops (R.reverse ++ (o :: acc)) s K
 simp
theorem arb {op : Op} {v0 : V} {b : Nat} (hq : ef op = true) : dG P ops (⟨dst, op, ty, pos, after, none⟩ :: rest) b [] ⟨v0 :: t, h, k⟩ K = gop P h (ev (v0 :: t)) op (fun v n => dG P ops rest (b + 1) [] (St.put ⟨v0 :: t, h ++ n, k⟩ dst v) K) := by
 conv => lhs; unfold dG lv
 rw [if_pos (show quietAt b [].reverse ⟨dst, op, ty, pos, after, none⟩ = true from hq)]; rfl
theorem ara {op : Op} {j : Nat} {want : Bool} {v0 : V} {b : Nat} (hq : ef op = true) : dG P ops (⟨dst, op, ty, pos, after, some (j, want)⟩ :: rest) b [] ⟨v0 :: t, h, k⟩ K =
   a8 want (gv ops (v0 :: t) j) (gop P h (ev (v0 :: t)) op (fun v n => dG P ops rest (b + 1) [] (St.put ⟨v0 :: t, h ++ n, k⟩ dst v) K)) (dG P ops rest (b + 1) [] (St.put ⟨v0 :: t, h, k⟩ dst .skip) K) ⟨⟩ ⟨⟩ := by
 conv => lhs; unfold dG lv
 rw [if_pos (show quietAt b [].reverse ⟨dst, op, ty, pos, after, some (j, want)⟩ = true from hq)]; rfl
theorem azr {o : Oper} {s : St} {b : Nat} (hq : ef o.op = false) : dG P ops (o :: rest) b [] s K = dG P ops rest b [o] s K := by
 conv => lhs; unfold dG lv
 rw [if_neg (by show ¬ ef o.op = true; simp [hq])]; rfl
theorem ak9 {b : Nat} {D : List Oper} (hD : D ≠ []) (o : Oper) : quietAt b D o = (acb o && (ahw D o && edB b o.after)) := by
 cases D with
 | nil => exact absurd rfl hD
 | cons e D => rfl
theorem arf {b : Nat} {D : List Oper} (hD : D ≠ []) : yc b D = b := by
 cases D with
 | nil => exact absurd rfl hD
 | cons e D => rfl
def clrB (u v : Tmp) (o : Oper) : Bool := match o.dst with | some x => x != u && x != v | none => true
theorem ag1 (u v : Tmp) : ∀ D : List Oper, clr u v D = D.all (clrB u v)
 | [] => rfl
 | o :: D => by
   rw [List.all_cons, ← ag1 u v D]; rfl
theorem qj (u v : Tmp) (D : List Oper) : clr u v D.reverse = clr u v D := by rw [ag1, ag1, List.all_reverse]
@[go_sem] theorem a5l {u v : Tmp} : clr u v [] = true := rfl
@[go_sem] theorem a4d {u v : Tmp} {op : Op} {D : List Oper} : clr u v (⟨none, op, ty, pos, after, g⟩ :: D) = clr u v D := by simp [clr]
@[go_sem] theorem a4o {u v x : Tmp} {op : Op} {D : List Oper} : clr u v (⟨some x, op, ty, pos, after, g⟩ :: D) = if x = u then false else if x = v then false else clr u v D := by
 simp only [clr]
 by_cases h1 : x = u
 · simp [h1]
 · by_cases h2 : x = v
   · simp [h2]
   · simp [h1, h2]
@[go_sem] theorem edB_eq {b : Nat} {l : List Edge} : edB b l.toArray = edL b l := rfl
@[go_sem] theorem a7d {b : Nat} : edL b [] = true := rfl
@[go_sem] theorem a10 {b n : Nat} {g : Ground} {l : List Edge} : edL b (⟨n, g⟩ :: l) = if n < b then edL b l else false := rfl
theorem ab1 {o : Oper} {e : Oper} {R : List Oper} {s : St} {b : Nat} : dG P ops (o :: rest) b (e :: R) s K =
   if (acb o && (ahw (e :: R).reverse o && edB b o.after)) = true then gdA ops s.t o.guard (gop P s.h (ev s.t) o.op fun v n => dG P ops rest b (e :: R) (({ s with h := s.h ++ n } : St).put o.dst v) K) (dG P ops rest b (e :: R) (s.put o.dst .skip) K)
   else dG P ops rest b (o :: e :: R) s K := by
 conv => lhs; unfold dG lv
 rw [ak9 (by simp), arf (by simp)]
 by_cases hc : (acb o && (ahw (e :: R).reverse o && edB b o.after)) = true
 · rw [if_pos hc, if_pos hc]; rfl
 · rw [if_neg hc, if_neg hc]
   show lv P ops rest b ((e :: R).reverse ++ [_]) _ K = lv P ops rest b (_ :: e :: R).reverse _ K
   rw [List.reverse_cons (as := e :: R)]
@[go_sem] theorem a6f {b : Nat} {e : Oper} {R : List Oper} {T f a d : Nat} {v0 : V} : dG P ops (⟨some d, .fieldAddr T (.tmp a) f, ty, pos, after, none⟩ :: rest) b (e :: R) ⟨v0 :: t, h, k⟩ K =
   if edB b after = true ∧ clr a d (e :: R) = true then gop P h (ev (v0 :: t)) (.fieldAddr T (.tmp a) f) (fun v n => dG P ops rest b (e :: R) (St.put ⟨v0 :: t, h ++ n, k⟩ (some d) v) K)
   else dG P ops rest b (⟨some d, .fieldAddr T (.tmp a) f, ty, pos, after, none⟩ :: e :: R) ⟨v0 :: t, h, k⟩ K := by
 rw [ab1]
 show (if (true && (clr a d (e :: R).reverse && edB b after)) = true then _ else _) = _
 rw [qj, Bool.true_and]
 by_cases hc : edB b after = true ∧ clr a d (e :: R) = true
 · rw [if_pos (by rw [hc.2, hc.1]; rfl), if_pos hc]; rfl
 · rw [if_neg (by intro h; rw [Bool.and_eq_true] at h; exact hc ⟨h.2, h.1⟩), if_neg hc]
@[go_sem] theorem a38 {m : Nat} {e : Oper} {R : List Oper} {T a b d : Nat} {v0 : V} : dG P ops (⟨some d, .indexAddr T (.tmp a) (.tmp b), ty, pos, after, none⟩ :: rest) m (e :: R) ⟨v0 :: t, h, k⟩ K =
   if edB m after = true ∧ clr a d (e :: R) = true ∧ clr b d (e :: R) = true then gop P h (ev (v0 :: t)) (.indexAddr T (.tmp a) (.tmp b)) (fun v n => dG P ops rest m (e :: R) (St.put ⟨v0 :: t, h ++ n, k⟩ (some d) v) K)
   else dG P ops rest m (⟨some d, .indexAddr T (.tmp a) (.tmp b), ty, pos, after, none⟩ :: e :: R) ⟨v0 :: t, h, k⟩ K := by
 rw [ab1]
 show (if (true && ((clr a d (e :: R).reverse && clr b d (e :: R).reverse) && edB m after)) = true then _ else _) = _
 rw [qj, qj, Bool.true_and]
 by_cases hc : edB m after = true ∧ clr a d (e :: R) = true ∧ clr b d (e :: R) = true
 · rw [if_pos (by rw [hc.2.1, hc.2.2, hc.1]; rfl), if_pos hc]; rfl
 · rw [if_neg (by intro h; rw [Bool.and_eq_true, Bool.and_eq_true] at h; exact hc ⟨h.2, h.1⟩), if_neg hc]
@[go_sem] theorem a4m {b : Nat} {e : Oper} {R : List Oper} {a d : Nat} {v0 : V} : dG P ops (⟨some d, .nilCheck (.tmp a), ty, pos, after, none⟩ :: rest) b (e :: R) ⟨v0 :: t, h, k⟩ K =
   if edB b after = true ∧ clr a d (e :: R) = true then gop P h (ev (v0 :: t)) (.nilCheck (.tmp a)) (fun v n => dG P ops rest b (e :: R) (St.put ⟨v0 :: t, h ++ n, k⟩ (some d) v) K)
   else dG P ops rest b (⟨some d, .nilCheck (.tmp a), ty, pos, after, none⟩ :: e :: R) ⟨v0 :: t, h, k⟩ K := by
 rw [ab1]
 show (if (true && (clr a d (e :: R).reverse && edB b after)) = true then _ else _) = _
 rw [qj, Bool.true_and]
 by_cases hc : edB b after = true ∧ clr a d (e :: R) = true
 · rw [if_pos (by rw [hc.2, hc.1]; rfl), if_pos hc]; rfl
 · rw [if_neg (by intro h; rw [Bool.and_eq_true] at h; exact hc ⟨h.2, h.1⟩), if_neg hc]
def aox : Op → Bool
 | .fieldAddr _ _ _ => false
 | .indexAddr _ _ _ => false
 | .move _ => false
 | .nilCheck _ => false
 | _ => true
theorem atr {b : Nat} {op : Op} {e : Oper} {R : List Oper} {s : St} (hq : aox op = true) : dG P ops (⟨dst, op, ty, pos, after, none⟩ :: rest) b (e :: R) s K = dG P ops rest b (⟨dst, op, ty, pos, after, none⟩ :: e :: R) s K := by
 rw [ab1, if_neg (by
   have : acb ⟨dst, op, ty, pos, after, none⟩ = false := by cases op <;> first | rfl | cases hq
   rw [this]; simp)]
@[go_sem] theorem a4p {d : Tmp} {v : V} : St.put ⟨t, h, k⟩ (some d) v = ⟨t.set d v, h, k⟩ := rfl
@[go_sem] theorem a3o {v : V} : St.put ⟨t, h, k⟩ none v = ⟨t, h, k⟩ := rfl
@[go_sem] theorem ev_tmp {i : Nat} : ev t (.tmp i) = t.getD i .undef := rfl
@[go_sem] theorem a3a {v : Value} : ev t (.const v) = cv v := rfl
@[go_sem] theorem a7c {f : FuncId} : ev t (.func f) = .fn (.func f) [] [] := rfl
@[go_sem] theorem a5j {b : Bool} : cv (.bool b) = .bool b := rfl
@[go_sem] theorem cv_int {kd : IntKind} {n : Int} : cv (.int kd n) = .int kd n := rfl
@[go_sem] theorem cv_str {s : ByteArray} : cv (.string s) = .str s := rfl
@[go_sem] theorem cv_nil : cv (.slice none 0 0) = .nilsl := rfl

section
variable {s : St}
@[go_sem] theorem a19 {x : Operand} : fop P s ⟨dst, .move x, ty, pos, after, g⟩ K = K (s.put dst (ev s.t x)) := rfl
@[go_sem] theorem azd {x : Operand} : fop P s ⟨dst, .assign x, ty, pos, after, g⟩ K = K (s.put dst (ev s.t x)) := rfl
@[go_sem] theorem a2q {c a b : Operand} : fop P s ⟨dst, .pick c a b, ty, pos, after, g⟩ K = jv (ev s.t c) fun t => K (s.put dst (if t then ev s.t a else ev s.t b)) := rfl
@[go_sem] theorem a1b {t : TypeId} : fop P s ⟨dst, .alloc t, ty, pos, after, g⟩ K = match zeroOf P t with
   | some zs => K (({ s with h := s.h ++ [some zs] } : St).put dst (.ptr s.h.length 0))
   | none => False := rfl
@[go_sem] theorem a5o {t : TypeId} {x : Operand} : fop P s ⟨dst, .box t x, ty, pos, after, g⟩ K = match cellsOf (ev s.t x) with
   | some cs => K (({ s with h := s.h ++ [some cs] } : St).put dst (.ptr s.h.length 0))
   | none => False := rfl
@[go_sem] theorem az4 {t : TypeId} {parts : List (Nat × Operand)} : fop P s ⟨dst, .build t parts.toArray, ty, pos, after, g⟩ K = pg P t (parts.map fun p => (p.1, ev s.t p.2)) fun v => K (s.put dst v) := rfl
@[go_sem] theorem apo {t : TypeId} {n : Nat} {parts : List (Nat × Operand)} : fop P s ⟨dst, .buildSlice t n parts.toArray, ty, pos, after, g⟩ K = match ij P t with
   | some (e, sz, _) => match zeroOf P e with
     | some _ => match z7 sz 0 (parts.map fun p => (p.1, ev s.t p.2)) with
       | some cs => parts.length = n ∧ n * sz ≤ 16777216 ∧ cs.length = n * sz ∧ K (({ s with h := s.h ++ [some cs] } : St).put dst (.osl s.h.length 0 n sz))
       | none => False
     | none => False
   | none => False := rfl
@[go_sem] theorem arz {t : TypeId} {l c : Operand} : fop P s ⟨dst, .makeSlice t l c, ty, pos, after, g⟩ K = ib (ev s.t l) fun _ n => ib (ev s.t c) fun _ n' => n' = n ∧ match ij P t with
   | some (e, sz, by_) => match zeroOf P e with
     | some zs => 0 ≤ n ∧ (by_ : Int) * n ≤ 281474976710656 ∧ n ≤ 9223372036854775807 ∧ K (({ s with h := s.h ++ [some (mo (n.toNat * sz) zs)] } : St).put dst (.osl s.h.length 0 n.toNat sz))
     | none => False
   | none => False := rfl
@[go_sem] theorem az2 {t : TypeId} {a x : Operand} : fop P s ⟨dst, .store t a x, ty, pos, after, g⟩ K = ks P s.h t (ev s.t a) (ev s.t x) fun h' => K (({ s with h := h' } : St).put dst .skip) := rfl
@[go_sem] theorem avg {t : TypeId} : fop P s ⟨dst, .makeMap t none, ty, pos, after, g⟩ K = K (({ s with h := s.h ++ [some [.mb []]] } : St).put dst (.mp s.h.length)) := rfl
@[go_sem] theorem aws {t : TypeId} {x k v : Operand} : fop P s ⟨dst, .insert t x k v, ty, pos, after, g⟩ K = aiw P s.h t (ev s.t x) (ev s.t k) (ev s.t v) fun h' => K (({ s with h := h' } : St).put dst .skip) := rfl
@[go_sem] theorem awy {t : TypeId} {x k : Operand} {ok : Bool} : fop P s ⟨dst, .lookup t x k ok, ty, pos, after, g⟩ K = j5 P s.h t (ev s.t x) (ev s.t k) ok fun v => K (s.put dst v) := rfl
@[go_sem] theorem awn {x y : Operand} {t u : TypeId} : fop P s ⟨dst, .call { callee := .builtin .append, args := #[x, y], argTypes := #[t, u] }, ty, pos, after, g⟩ K = su P s t u (ev s.t x) (ev s.t y) fun s' r => K (s'.put dst r) := rfl
@[go_sem] theorem a2t {f : Operand} {args : List Operand} {ts : Array TypeId} : fop P s ⟨dst, .call { callee := .value f, args := args.toArray, argTypes := ts }, ty, pos, after, g⟩ K = aj P s dst (ev s.t f) (args.map (ev s.t)) K ⟨⟩ := rfl
@[go_sem] theorem a4k {t : TypeId} {a : Operand} : fop P s ⟨dst, .load t a, ty, pos, after, g⟩ K = n7 P s.h t (ev s.t a) fun v => K (s.put dst v) := rfl
@[go_sem] theorem ark {t : TypeId} {a : Operand} {f : Nat} : fop P s ⟨dst, .fieldAddr t a f, ty, pos, after, g⟩ K = ea P t f (ev s.t a) fun v => K (s.put dst v) := rfl
@[go_sem] theorem arp {t : TypeId} {x i : Operand} : fop P s ⟨dst, .indexAddr t x i, ty, pos, after, g⟩ K = ib (ev s.t i) fun _ z => dp P t (ev s.t x) z fun v => K (s.put dst v) := rfl
@[go_sem] theorem a1n {t : TypeId} {x i : Operand} : fop P s ⟨dst, .index t x i, ty, pos, after, g⟩ K = ib (ev s.t i) fun _ z => s6 P t (ev s.t x) z fun v => K (s.put dst v) := rfl
@[go_sem] theorem a00 {t : TypeId} {x : Operand} {lo hi : Option Operand} : fop P s ⟨dst, .slice t x lo hi none, ty, pos, after, g⟩ K = match ub (ev s.t) lo with
   | none => False
   | some l => ll P (ev s.t) t (ev s.t x) l hi fun v => K (s.put dst v) := rfl
@[go_sem] theorem a0w {op : BinOp} {t u : TypeId} {x y : Operand} : fop P s ⟨dst, .binOp op t x y u, ty, pos, after, g⟩ K = bin P op t (ev s.t x) (ev s.t y) fun v => K (s.put dst v) := rfl
@[go_sem] theorem a6k {t : TypeId} {x : Operand} : fop P s ⟨dst, .unOp .not t x, ty, pos, after, g⟩ K = jv (ev s.t x) fun b => K (s.put dst (.bool (!b))) := rfl
@[go_sem] theorem a55 {t : TypeId} {x : Operand} : fop P s ⟨dst, .unOp .neg t x, ty, pos, after, g⟩ K = ib (ev s.t x) fun kd n => K (s.put dst (.int kd (kd.wrap (0 - n)))) := rfl
@[go_sem] theorem auy {t u : TypeId} {x : Operand} : fop P s ⟨dst, .convert t u x, ty, pos, after, g⟩ K = aia P s dst t u (ev s.t x) K := rfl
@[go_sem] theorem az8 {t u : TypeId} {kd : IntKind} {n : Int} : aia P s dst t u (.int kd n) K = kl P s.h t u (.int kd n) fun v => K (s.put dst v) := rfl
@[go_sem] theorem az9 {t u : TypeId} {id off n wd : Nat} : aia P s dst t u (.osl id off n wd) K = kl P s.h t u (.osl id off n wd) fun v => K (s.put dst v) := rfl
@[go_sem] theorem auf {x : Operand} {i : Nat} : fop P s ⟨dst, .extract x i, ty, pos, after, g⟩ K = nr (ev s.t x) i fun v => K (s.put dst v) := rfl
@[go_sem] theorem asq {x : Operand} : fop P s ⟨dst, .nilCheck x, ty, pos, after, g⟩ K = wm (ev s.t x) fun v => K (s.put dst v) := rfl
@[go_sem] theorem ar6 {f : Fn} {a c : List Operand} : fop P s ⟨dst, .makeFunc f a.toArray c.toArray, ty, pos, after, g⟩ K = K (s.put dst (.fn f (a.map (ev s.t)) (c.map (ev s.t)))) := rfl
@[go_sem] theorem a6x {x : Operand} {t : TypeId} : fop P s ⟨dst, .call { callee := .builtin .len, args := #[x], argTypes := #[t] }, ty, pos, after, g⟩ K = abm P t (ev s.t x) fun v => K (s.put dst v) := rfl
@[go_sem] theorem a6j {x y : Operand} {ts : Array TypeId} : fop P s ⟨dst, .call { callee := .builtin .min, args := #[x, y], argTypes := ts }, ty, pos, after, g⟩ K = ib (ev s.t x) fun kd a => ib (ev s.t y) fun _ b => K (s.put dst (.int kd (if b < a then b else a))) := rfl
end

section
variable {ρ : Operand → V} {K : V → Hp → Prop}
@[go_sem] theorem a3r {x : Operand} : gop P h ρ (.move x) K = K (ρ x) [] := rfl
@[go_sem] theorem axh {x : Operand} : gop P h ρ (.assign x) K = K (ρ x) [] := rfl
@[go_sem] theorem a1s {c a b : Operand} : gop P h ρ (.pick c a b) K = jv (ρ c) fun t => K (if t then ρ a else ρ b) [] := rfl
@[go_sem] theorem a1h {t : TypeId} : gop P h ρ (.alloc t) K = match zeroOf P t with
   | some zs => K (.ptr h.length 0) [some zs]
   | none => False := rfl
@[go_sem] theorem a0i {t : TypeId} {parts : List (Nat × Operand)} : gop P h ρ (.build t parts.toArray) K = pg P t (parts.map fun p => (p.1, ρ p.2)) fun v => K v [] := rfl
@[go_sem] theorem ao7 {t : TypeId} {n : Nat} {parts : List (Nat × Operand)} : gop P h ρ (.buildSlice t n parts.toArray) K = match ij P t with
   | some (e, sz, _) => match zeroOf P e with
     | some _ => match z7 sz 0 (parts.map fun p => (p.1, ρ p.2)) with
       | some cs => parts.length = n ∧ n * sz ≤ 16777216 ∧ cs.length = n * sz ∧ K (.osl h.length 0 n sz) [some cs]
       | none => False
     | none => False
   | none => False := rfl
@[go_sem] theorem a4z {f : Operand} {args : List Operand} {ts : Array TypeId} : gop P h ρ (.call { callee := .value f, args := args.toArray, argTypes := ts }) K = ak P h (ρ f) (args.map ρ) (fun r hout => K (ren (shf h.length) 3 r) (shH h.length hout)) ⟨⟩ := rfl
@[go_sem] theorem a3p {t : TypeId} {a : Operand} : gop P h ρ (.load t a) K = n7 P h t (ρ a) fun v => K v [] := rfl
@[go_sem] theorem art {t : TypeId} {a : Operand} {f : Nat} : gop P h ρ (.fieldAddr t a f) K = ea P t f (ρ a) fun v => K v [] := rfl
@[go_sem] theorem aru {t : TypeId} {x i : Operand} : gop P h ρ (.indexAddr t x i) K = ib (ρ i) fun _ z => dp P t (ρ x) z fun v => K v [] := rfl
@[go_sem] theorem a0r {t : TypeId} {x : Operand} {lo hi : Option Operand} : gop P h ρ (.slice t x lo hi none) K = match ub ρ lo with
   | none => False
   | some l => ll P ρ t (ρ x) l hi fun v => K v [] := rfl
@[go_sem] theorem a1o {op : BinOp} {t u : TypeId} {x y : Operand} : gop P h ρ (.binOp op t x y u) K = bin P op t (ρ x) (ρ y) fun v => K v [] := rfl
@[go_sem] theorem a6d {t : TypeId} {x : Operand} : gop P h ρ (.unOp .not t x) K = jv (ρ x) fun b => K (.bool (!b)) [] := rfl
@[go_sem] theorem ave {x : Operand} {i : Nat} : gop P h ρ (.extract x i) K = nr (ρ x) i fun v => K v [] := rfl
@[go_sem] theorem axu {t : TypeId} {x k : Operand} {ok : Bool} : gop P h ρ (.lookup t x k ok) K = j5 P h t (ρ x) (ρ k) ok fun v => K v [] := rfl
@[go_sem] theorem atj {x : Operand} : gop P h ρ (.nilCheck x) K = wm (ρ x) fun v => K v [] := rfl
@[go_sem] theorem a5i {x : Operand} {t : TypeId} : gop P h ρ (.call { callee := .builtin .len, args := #[x], argTypes := #[t] }) K = abm P t (ρ x) fun v => K v [] := rfl
end
end

@[go_sem] theorem a0c {k : IntKind} {n : Int} {K : IntKind → Int → Prop} : ib (.int k n) K = K k n := rfl
@[go_sem] theorem aua {b : Bool} {K : Bool → Prop} : jv (.bool b) K = K b := rfl
@[go_sem] theorem a6r {P : Program} {t n w : Nat} {cs : List V} {K : V → Prop} : abm P t (.sl n w cs) K = (uk P t = true ∧ K (.int .i64 n)) := rfl
@[go_sem] theorem a45 {P : Program} {t id off n w : Nat} {K : V → Prop} : abm P t (.osl id off n w) K = (uk P t = true ∧ K (.int .i64 n)) := rfl
@[go_sem] theorem a3j {P : Program} {t : Nat} {s : ByteArray} {K : V → Prop} : abm P t (.str s) K = (isStr P t = true ∧ K (.int .i64 s.size)) := rfl
@[go_sem] theorem a6t {P : Program} {op : BinOp} {t : Nat} {k k' : IntKind} {a b : Int} {K : V → Prop} : bin P op t (.int k a) (.int k' b) K = (k = k' ∧ vh op k a b K) := rfl
@[go_sem] theorem a7h {P : Program} {op : BinOp} {t : Nat} {a b : ByteArray} {K : V → Prop} : bin P op t (.str a) (.str b) K = va op a b K := rfl
@[go_sem] theorem ar4 {P : Program} {t : Nat} {a b : Bool} {K : V → Prop} : bin P .eql t (.bool a) (.bool b) K = (ye P t = true ∧ K (.bool (a == b))) := rfl
@[go_sem] theorem atp {P : Program} {t : Nat} {a b : Bool} {K : V → Prop} : bin P .neq t (.bool a) (.bool b) K = (ye P t = true ∧ K (.bool (!(a == b)))) := rfl

section
variable {P : Program} {h : Hp} {t f : Nat} {K : V → Prop}
@[go_sem] theorem a4x {cs : List V} : n7 P h t (.pt cs) K = match gi P t with
 | some (sz, ag) => sz ≤ cs.length ∧ (ag = true ∨ sz = 1) ∧ K (mk ag (cs.take sz))
 | none => False := rfl
@[go_sem] theorem a0d {id off : Nat} : n7 P h t (.ptr id off) K = match gi P t with
 | some (sz, ag) => match h[id]? with
   | some (some cs) => off + sz ≤ cs.length ∧ (ag = true ∨ sz = 1) ∧ K (mk ag ((cs.drop off).take sz))
   | _ => False
 | none => False := rfl
@[go_sem] theorem arl {cs : List V} : ea P t f (.pt cs) K = match gf P t f with
 | some (off, sz, _) => 0 < sz ∧ K (.pt (cs.drop off))
 | none => False := rfl
@[go_sem] theorem ap9 {id o : Nat} : ea P t f (.ptr id o) K = match gf P t f with
 | some (off, sz, _) => 0 < sz ∧ K (.ptr id (o + off))
 | none => False := rfl
@[go_sem] theorem ars {n w : Nat} {cs : List V} {z : Int} : dp P t (.sl n w cs) z K = match ij P t with
 | some (_, sz, _) => (0 ≤ z ∧ z < n) ∧ w = sz ∧ K (.pt ((cs.drop (z.toNat * w)).take w))
 | none => False := rfl
@[go_sem] theorem ap8 {id off n w : Nat} {z : Int} : dp P t (.osl id off n w) z K = match ij P t with
 | some (_, sz, _) => (0 ≤ z ∧ z < n) ∧ w = sz ∧ K (.ptr id (off + z.toNat * w))
 | none => False := rfl
@[go_sem] theorem azg {s : ByteArray} {z : Int} : s6 P t (.str s) z K = (isStr P t = true ∧ ∃ hi : 0 ≤ z ∧ z.toNat < s.size, K (.int .u8 ((s[z.toNat]'hi.2).toNat : Int))) := rfl
@[go_sem] theorem a1c {ρ : Operand → V} {n w : Nat} {cs : List V} {l : Int} {hi : Option Operand} : ll P ρ t (.sl n w cs) l hi K = match ij P t with
   | some (_, sz, _) => match hi with
     | none => (0 ≤ l ∧ l ≤ n) ∧ w = sz ∧ K (.sl (n - l.toNat) w (cs.drop (l.toNat * w)))
     | some hh => ib (ρ hh) fun _ u => (0 ≤ l ∧ l ≤ u ∧ u ≤ n) ∧ w = sz ∧ K (.sl (u.toNat - l.toNat) w ((cs.drop (l.toNat * w)).take ((u.toNat - l.toNat) * w)))
   | none => False := rfl
@[go_sem] theorem ay0 {ρ : Operand → V} {s : ByteArray} {l : Int} {hi : Option Operand} : ll P ρ t (.str s) l hi K = (isStr P t = true ∧ match hi with
   | none => (0 ≤ l ∧ l ≤ s.size) ∧ K (.str (s.extract l.toNat s.size))
   | some hh => ib (ρ hh) fun _ u => (0 ≤ l ∧ l ≤ u ∧ u ≤ s.size) ∧ K (.str (s.extract l.toNat u.toNat))) := rfl
@[go_sem] theorem a1g {u : Nat} {kd : IntKind} {n : Int} : aa2 P t u (.int kd n) K = ((P.underlying t).isSome = true ∧ match uo P u with
 | some k => K (.int k (k.wrap n))
 | none => isStr P u = true ∧ K (.str (Utf8.encode n))) := rfl
@[go_sem] theorem a1p {h : Hp} {u : Nat} {kd : IntKind} {n : Int} : kl P h t u (.int kd n) K = ((P.underlying t).isSome = true ∧ match uo P u with
 | some k => K (.int k (k.wrap n))
 | none => isStr P u = true ∧ K (.str (Utf8.encode n))) := rfl
@[go_sem] theorem a0l {h : Hp} {u id off n wd : Nat} : kl P h t u (.osl id off n wd) K = ((si P t = true ∧ isStr P u = true ∧ wd = 1) ∧ match h[id]? with
   | some (some cs) => match nu ((cs.drop off).take n) with
     | some xs => K (.str (strOfNums xs))
     | none => False
   | _ => False) := rfl
@[go_sem] theorem axt : nu [] = some [] := rfl
@[go_sem] theorem auq {n : Int} {cs : List V} : nu (.int .u8 n :: cs) = (nu cs).map (n :: ·) := rfl
@[go_sem] theorem a2m {id off : Nat} : wm (.ptr id off) K = K (.ptr id off) := rfl
@[go_sem] theorem a0t {vs : List V} {i : Nat} : nr (.tup vs) i K = match vs[i]? with
 | some v => K v
 | none => False := rfl
@[go_sem] theorem ax7 {id : Nat} {y : V} {ok : Bool} : j5 P h t (.mp id) y ok K = match h[id]? with
   | some (some [.mb es]) => match aeu y, mapOf P t with
     | some k, some (d, z) => wu d k = true ∧ match jr d k es 0 with
       | some (some (_, v)) => K (if ok then .tup [lf v, .bool true] else lf v)
       | some none => K (if ok then .tup [z, .bool false] else z)
       | none => False
     | _, _ => False
   | _ => False := rfl
@[go_sem] theorem a5p {id : Nat} {y v : V} {K : Hp → Prop} : aiw P h t (.mp id) y v K = match h[id]? with
   | some (some [.mb es]) => match aeu y, aeu v, mapOf P t with
     | some k, some vl, some (d, _) => wu d k = true ∧ match jr d k es 0 with
       | some r => K (h.set id (some [.mb (ua k vl r es)]))
       | none => False
     | _, _, _ => False
   | _ => False := rfl
@[go_sem] theorem a2l {k : IntKind} {n : Int} : aeu (.int k n) = some (.int k n) := rfl
@[go_sem] theorem a4f {s : ByteArray} : aeu (.str s) = some (.string s) := rfl
@[go_sem] theorem az1 {s : ByteArray} : wu .string (.string s) = true := rfl
@[go_sem] theorem lf_int {k : IntKind} {n : Int} : lf (.int k n) = .int k n := rfl
@[go_sem] theorem az0 {parts : List (Nat × V)} : pg P t parts K = match zeroOf P t, ac4 P t with
 | some zs, some pl => match vp pl parts zs with
   | some cs => K (.agg cs)
   | none => False
 | _, _ => False := rfl
@[go_sem] theorem ax0 {id off : Nat} {v : V} {K : Hp → Prop} : ks P h t (.ptr id off) v K = match h[id]? with
 | some (some cs) => match cellsOf v with
   | some ns => match gi P t with
     | some (sz, _) => ns.length = sz ∧ off + sz ≤ cs.length ∧ K (h.set id (some (ck cs off ns)))
     | none => False
   | none => False
 | _ => False := rfl
@[go_sem] theorem a6e {sz n w : Nat} {cs : List V} {no : Option Nat} {K : Nat → List V → Prop} : ma h sz no (.sl n w cs) K = (w = sz ∧ cs.all bq = true ∧ K n cs) := rfl
@[go_sem] theorem a2h {sz id off n w : Nat} {no : Option Nat} {K : Nat → List V → Prop} : ma h sz no (.osl id off n w) K = (some id ≠ no ∧ match h[id]? with
 | some (some cs) => w = sz ∧ ((cs.drop off).take (n * sz)).all bq = true ∧ K n ((cs.drop off).take (n * sz))
 | _ => False) := rfl
@[go_sem] theorem auw {s : St} {u : Nat} {y : V} {K : St → V → Prop} : su P s t u .nilsl y K = (uk P u = true ∧ match ij P t with
 | some (e, sz, by_) => match zeroOf P e with
   | some zs => zs.length = sz ∧ ma s.h sz none y fun n2 cs2 => 0 < n2 ∧ n2 * by_ ≤ 140737488355328 ∧ n2 ≤ 4611686018427387904 ∧ K { s with h := s.h ++ [some cs2] } (.osl s.h.length 0 n2 sz)
   | none => False
 | none => False) := rfl
@[go_sem] theorem avi {s : St} {u id off n wd : Nat} {y : V} {K : St → V → Prop} : su P s t u (.osl id off n wd) y K = (uk P u = true ∧ match ij P t with
 | some (e, sz, by_) => match zeroOf P e with
   | some zs => zs.length = sz ∧ match s.h[id]? with
     | some (some cs) => off = 0 ∧ wd = sz ∧ n * sz = cs.length ∧ ma s.h sz (some id) y fun n2 cs2 =>
         (s.k ≤ id ∨ cs2 ≠ []) ∧ (n + n2) * by_ ≤ 140737488355328 ∧ n + n2 ≤ 4611686018427387904 ∧
         K { s with t := vy id s.t, h := (s.h.map (j0 id)).set id (some (cx id (cs ++ cs2))) } (.osl id 0 (n + n2) sz)
     | _ => False
   | none => False
 | none => False) := rfl
end
attribute [go_sem] vh va mk ub
def LeC (n : Nat) : List V → List V → Prop
 | [], [] => True
 | a :: l, b :: l' => LeV (ren (bm n) 3 a) b ∧ LeC n l l'
 | _, _ => False

theorem anj {n : Nat} {a : V} {l l' : List V} : LeC n (a :: l) (.undef :: l') = LeC n l l' := by
 simp [LeC, LeV]
theorem aov {n : Nat} {a b : V} {l l' : List V} : LeC n (a :: l) (b :: l') = (LeV (ren (bm n) 3 a) b ∧ LeC n l l') := rfl
theorem ar8 {n : Nat} : LeC n [] [] = True := rfl
theorem LeC.get {n : Nat} : ∀ {l l' : List V}, LeC n l l' → l.length = l'.length ∧ ∀ i (hi : i < l.length) (hi' : i < l'.length), LeV (ren (bm n) 3 l[i]) l'[i]
 | [], [], _ => ⟨rfl, fun i hi => by simp at hi⟩
 | a :: l, b :: l', h => by
   obtain ⟨h1, h2⟩ := LeC.get h.2
   refine ⟨by simp [h1], fun i hi hi' => ?_⟩
   cases i with
   | zero => exact h.1
   | succ i => exact h2 i (by simpa using hi) (by simpa using hi')
 | [], _ :: _, h => h.elim
 | _ :: _, [], h => h.elim


theorem br.cut {t t2 : List V} {h h2 : Hp} {k : Nat} (n : Nat) (hk : k ≤ n) (hn : n ≤ h.length) (ht : LeC n t t2) (hh : cb n h = h2) : br ⟨t, h, k⟩ ⟨t2, h2, k⟩ := by
 subst hh
 intro w0 m0 h0 av0 a w m I
 have hcase : ∀ (j : Nat) (c : List V), (cb n h)[j]? = some (some c) → j < n ∧ ∃ c0, h[j]? = some (some c0) ∧ c = c0.map (ren (bm n) 2) := by
   intro j c hj
   have hlt : j < n := by
     have := dy hj
     simp [cb] at this; omega
   simp only [cb, List.getElem?_map, List.getElem?_take_of_lt hlt] at hj
   cases h2 : h[j]? with
   | none => simp [h2] at hj
   | some b =>
     cases b with
     | none => simp [h2, db] at hj
     | some c0 => simp [h2, db] at hj; exact ⟨hlt, c0, rfl, hj.symm⟩
 have hnew : ∀ (j : Nat) (c : List V), j < n → h[j]? = some (some c) → (cb n h)[j]? = some (some (c.map (ren (bm n) 2))) := by
   intro j c hlt hj
   simp [cb, List.getElem?_take_of_lt hlt, hj, db]
 have hown : ∀ b, own m (cb n h) b → own m h b := by
   rintro b ⟨j, c, h1, rfl⟩
   obtain ⟨_, c0, h2, _⟩ := hcase j c h1
   exact ⟨j, c0, h2, rfl⟩
 have hR : Ren w w m m h (cb n h) (avm av0 m h) (avm av0 m (cb n h)) (bm n) := by
   refine ⟨fun b off v hb hc => ⟨fun h => hb (h.imp (fun x => x) (hown b)), hc⟩, fun j c j' hj hf => ?_, fun j c c' hj hf => ?_⟩
   · unfold bm at hf
     split at hf
     · rename_i hlt; simp at hf; subst hf
       exact ⟨_, hnew j c hlt hj, by simp, rfl, Nat.le_refl _, du _ _ _⟩
     · cases hf
   · unfold bm at hf
     split at hf <;> cases hf
 obtain ⟨hlen, hget⟩ := ht.get
 refine ⟨m, ⟨fun i j ci cj h1 h2 he => ?_, fun j c h1 => .inr ⟨j, c, h1, rfl⟩, fun j c h1 => ?_⟩, by rw [I.size]; exact hlen, fun i hi => ?_, I.defers, I.ext, fun j c h1 => ?_, I.lt, I.lent, I.gl, I.k, ?_⟩
 · obtain ⟨_, c0, h3, _⟩ := hcase i ci h1
   obtain ⟨_, c1, h4, _⟩ := hcase j cj h2
   exact I.rh.inj i j c0 c1 h3 h4 he
 · obtain ⟨_, c0, h2, rfl⟩ := hcase j c h1
   exact (I.rh.blk j c0 h2).map rfl (j1 _ 2) (fun v x hx => hx.ren hR 2)
 · have hi' : i < t.length := by rw [hlen]; exact hi
   exact ((I.slots i hi').ren hR 3).le (hget i hi' hi)
 · obtain ⟨_, c0, h2, rfl⟩ := hcase j c h1
   rw [List.length_map]
   exact I.ids j c0 h2
 · have := I.k
   dsimp only at this
   simp [cb]; omega


@[go_sem] theorem q_move (x : Operand) : ef (.move x) = true := rfl
@[go_sem] theorem a2k (x : Operand) : ef (.assign x) = true := rfl
@[go_sem] theorem q_pick (x y z : Operand) : ef (.pick x y z) = true := rfl
@[go_sem] theorem a50 (t : Nat) (x : Array (Nat × Operand)) : ef (.build t x) = true := rfl
@[go_sem] theorem atk (t n : Nat) (x : Array (Nat × Operand)) : ef (.buildSlice t n x) = true := rfl
@[go_sem] theorem q_load (t : Nat) (x : Operand) : ef (.load t x) = true := rfl
@[go_sem] theorem avz (x : Operand) : ef (.nilCheck x) = true := rfl
@[go_sem] theorem a5z (o : BinOp) (t u : Nat) (x y : Operand) : ef (.binOp o t x y u) = true := rfl
@[go_sem] theorem q_unOp (o : UnOp) (t : Nat) (x : Operand) : ef (.unOp o t x) = true := rfl
@[go_sem] theorem a5v (t : Nat) (x : Operand) (a b c : Option Operand) : ef (.slice t x a b c) = true := rfl
@[go_sem] theorem au6 (t : Nat) (x : Operand) (f : Nat) : ef (.fieldAddr t x f) = true := rfl
@[go_sem] theorem aut (t : Nat) (x y : Operand) : ef (.indexAddr t x y) = true := rfl
@[go_sem] theorem a0u (x : Operand) (i : Nat) : ef (.extract x i) = true := rfl
@[go_sem] theorem a7s (f : Operand) (a : Array Operand) (t : Array TypeId) : ef (.call { callee := .value f, args := a, argTypes := t }) = !(aze t || ams f) := rfl
@[go_sem] theorem azh (f : FuncId) : ams (.func f) = wx akv f := rfl
@[go_sem] theorem a0m (t : Tmp) : ams (.tmp t) = false := rfl
@[go_sem] theorem a0x (t : TypeId) (l : List TypeId) : aze (t :: l).toArray = wx akm t := rfl
attribute [go_sem] akm akv wx Bool.not_true Bool.not_false
@[go_sem] theorem q_len (a : Array Operand) (t : Array TypeId) : ef (.call { callee := .builtin .len, args := a, argTypes := t }) = true := rfl
@[go_sem] theorem a13 (t : Nat) (x y : Operand) : ef (.store t x y) = false := rfl
@[go_sem] theorem a15 (t : Nat) (x y : Operand) (ok : Bool) : ef (.lookup t x y ok) = true := rfl
@[go_sem] theorem a0s (a : Array Operand) (t : Array TypeId) : ef (.call { callee := .builtin .append, args := a, argTypes := t }) = false := rfl
@[go_sem] theorem a56 (t : Nat) : ef (.alloc t) = true := rfl
@[go_sem] theorem a7o (x : Operand) : rk (.move x) = false := rfl
@[go_sem] theorem a7f (x : Operand) (l : Array Edge) : q9 (.move x) l = false := rfl
@[go_sem] theorem a66 (x : Operand) : kg (.move x) = false := rfl
@[go_sem] theorem a5u (x : Operand)  : rb (.move x) = false := rfl
@[go_sem] theorem a6n {P : Program} (x : Operand)  : qw P (.move x) = false := rfl
@[go_sem] theorem a54 (x : Operand) : qx (.move x) = false := rfl
@[go_sem] theorem a1j (x : Operand) : rk (.assign x) = false := rfl
@[go_sem] theorem a0y (x : Operand) (l : Array Edge) : q9 (.assign x) l = false := rfl
@[go_sem] theorem a1m (x : Operand) : kg (.assign x) = false := rfl
@[go_sem] theorem a01 (x : Operand)  : rb (.assign x) = false := rfl
@[go_sem] theorem a0h {P : Program} (x : Operand)  : qw P (.assign x) = false := rfl
@[go_sem] theorem az5 (x : Operand) : qx (.assign x) = false := rfl
@[go_sem] theorem a52 (x y z : Operand) : rk (.pick x y z) = false := rfl
@[go_sem] theorem a6u (x y z : Operand) (l : Array Edge) : q9 (.pick x y z) l = false := rfl
@[go_sem] theorem a5s (x y z : Operand) : kg (.pick x y z) = false := rfl
@[go_sem] theorem a7e (x y z : Operand)  : rb (.pick x y z) = false := rfl
@[go_sem] theorem a6v {P : Program} (x y z : Operand)  : qw P (.pick x y z) = false := rfl
@[go_sem] theorem a6q (x y z : Operand) : qx (.pick x y z) = false := rfl
@[go_sem] theorem a5h (t : Nat) (x : Array (Nat × Operand)) : rk (.build t x) = false := rfl
@[go_sem] theorem a3n (t : Nat) (x : Array (Nat × Operand)) (l : Array Edge) : q9 (.build t x) l = false := rfl
@[go_sem] theorem a36 (t : Nat) (x : Array (Nat × Operand)) : kg (.build t x) = false := rfl
@[go_sem] theorem a2f (t : Nat) (x : Array (Nat × Operand))  : rb (.build t x) = false := rfl
@[go_sem] theorem a48 {P : Program} (t : Nat) (x : Array (Nat × Operand))  : qw P (.build t x) = false := rfl
@[go_sem] theorem a2a (t : Nat) (x : Array (Nat × Operand)) : qx (.build t x) = false := rfl
@[go_sem] theorem ari (t n : Nat) (x : Array (Nat × Operand)) : rk (.buildSlice t n x) = (if n = 0 then true else false) := rfl
@[go_sem] theorem ar0 (t n : Nat) (x : Array (Nat × Operand)) (l : Array Edge) : q9 (.buildSlice t n x) l = false := rfl
@[go_sem] theorem arx (t n : Nat) (x : Array (Nat × Operand)) : kg (.buildSlice t n x) = false := rfl
@[go_sem] theorem ary (t n : Nat) (x : Array (Nat × Operand))  : rb (.buildSlice t n x) = false := rfl
@[go_sem] theorem aro {P : Program} (t n : Nat) (x : Array (Nat × Operand))  : qw P (.buildSlice t n x) = false := rfl
@[go_sem] theorem arq (t n : Nat) (x : Array (Nat × Operand)) : qx (.buildSlice t n x) = false := rfl
@[go_sem] theorem a5w (t : Nat) (x : Operand) : rk (.load t x) = false := rfl
@[go_sem] theorem a5y (t : Nat) (x : Operand) (l : List Edge) : q9 (.load t x) l.toArray = gcL l := rfl
@[go_sem] theorem a5q (t : Nat) (x : Operand) : kg (.load t x) = false := rfl
@[go_sem] theorem a5m (t : Nat) (x : Operand)  : rb (.load t x) = true := rfl
@[go_sem] theorem a6s {P : Program} (t : Nat) (x : Operand)  : qw P (.load t x) = false := rfl
@[go_sem] theorem a5x (t : Nat) (x : Operand) : qx (.load t x) = false := rfl
@[go_sem] theorem aul (x : Operand) : rk (.nilCheck x) = false := rfl
@[go_sem] theorem au9 (x : Operand) (l : Array Edge) : q9 (.nilCheck x) l = false := rfl
@[go_sem] theorem avb (x : Operand) : kg (.nilCheck x) = false := rfl
@[go_sem] theorem avo (x : Operand)  : rb (.nilCheck x) = false := rfl
@[go_sem] theorem auv {P : Program} (x : Operand)  : qw P (.nilCheck x) = false := rfl
@[go_sem] theorem au1 (x : Operand) : qx (.nilCheck x) = false := rfl
@[go_sem] theorem a3v (o : BinOp) (t u : Nat) (x y : Operand) : rk (.binOp o t x y u) = false := rfl
@[go_sem] theorem a5f (o : BinOp) (t u : Nat) (x y : Operand) (l : Array Edge) : q9 (.binOp o t x y u) l = false := rfl
@[go_sem] theorem a3z (o : BinOp) (t u : Nat) (x y : Operand) : kg (.binOp o t x y u) = false := rfl
@[go_sem] theorem a2y (o : BinOp) (t u : Nat) (x y : Operand)  : rb (.binOp o t x y u) = false := rfl
@[go_sem] theorem a2p {P : Program} (o : BinOp) (t u : Nat) (x y : Operand)  : qw P (.binOp o t x y u) = false := rfl
@[go_sem] theorem a1x (o : BinOp) (t u : Nat) (x y : Operand) : qx (.binOp o t x y u) = false := rfl
@[go_sem] theorem a7k (o : UnOp) (t : Nat) (x : Operand) : rk (.unOp o t x) = false := rfl
@[go_sem] theorem a6g (o : UnOp) (t : Nat) (x : Operand) (l : Array Edge) : q9 (.unOp o t x) l = false := rfl
@[go_sem] theorem a7p (o : UnOp) (t : Nat) (x : Operand) : kg (.unOp o t x) = false := rfl
@[go_sem] theorem a7i (o : UnOp) (t : Nat) (x : Operand)  : rb (.unOp o t x) = false := rfl
@[go_sem] theorem a5t {P : Program} (o : UnOp) (t : Nat) (x : Operand)  : qw P (.unOp o t x) = false := rfl
@[go_sem] theorem a68 (o : UnOp) (t : Nat) (x : Operand) : qx (.unOp o t x) = false := rfl
@[go_sem] theorem a3l (t : Nat) (x : Operand) (a b c : Option Operand) : rk (.slice t x a b c) = false := rfl
@[go_sem] theorem a1y (t : Nat) (x : Operand) (a b c : Option Operand) (l : Array Edge) : q9 (.slice t x a b c) l = false := rfl
@[go_sem] theorem a1t (t : Nat) (x : Operand) (a b c : Option Operand) : kg (.slice t x a b c) = false := rfl
@[go_sem] theorem a4e (t : Nat) (x : Operand) (a b c : Option Operand)  : rb (.slice t x a b c) = false := rfl
@[go_sem] theorem a4t {P : Program} (t : Nat) (x : Operand) (a b c : Option Operand)  : qw P (.slice t x a b c) = false := rfl
@[go_sem] theorem a2b (t : Nat) (x : Operand) (a b c : Option Operand) : qx (.slice t x a b c) = false := rfl
@[go_sem] theorem ato (t : Nat) (x : Operand) (f : Nat) : rk (.fieldAddr t x f) = false := rfl
@[go_sem] theorem ats (t : Nat) (x : Operand) (f : Nat) (l : Array Edge) : q9 (.fieldAddr t x f) l = false := rfl
@[go_sem] theorem asl (t : Nat) (x : Operand) (f : Nat) : kg (.fieldAddr t x f) = false := rfl
@[go_sem] theorem as5 (t : Nat) (x : Operand) (f : Nat)  : rb (.fieldAddr t x f) = false := rfl
@[go_sem] theorem ast {P : Program} (t : Nat) (x : Operand) (f : Nat)  : qw P (.fieldAddr t x f) = false := rfl
@[go_sem] theorem asj (t : Nat) (x : Operand) (f : Nat) : qx (.fieldAddr t x f) = false := rfl
@[go_sem] theorem asy (t : Nat) (x y : Operand) : rk (.indexAddr t x y) = false := rfl
@[go_sem] theorem ar7 (t : Nat) (x y : Operand) (l : Array Edge) : q9 (.indexAddr t x y) l = false := rfl
@[go_sem] theorem aso (t : Nat) (x y : Operand) : kg (.indexAddr t x y) = false := rfl
@[go_sem] theorem asn (t : Nat) (x y : Operand)  : rb (.indexAddr t x y) = false := rfl
@[go_sem] theorem asz {P : Program} (t : Nat) (x y : Operand)  : qw P (.indexAddr t x y) = false := rfl
@[go_sem] theorem ath (t : Nat) (x y : Operand) : qx (.indexAddr t x y) = false := rfl
@[go_sem] theorem axk (x : Operand) (i : Nat) : rk (.extract x i) = false := rfl
@[go_sem] theorem ay9 (x : Operand) (i : Nat) (l : Array Edge) : q9 (.extract x i) l = false := rfl
@[go_sem] theorem avt (x : Operand) (i : Nat) : kg (.extract x i) = false := rfl
@[go_sem] theorem ayo (x : Operand) (i : Nat)  : rb (.extract x i) = false := rfl
@[go_sem] theorem axs {P : Program} (x : Operand) (i : Nat)  : qw P (.extract x i) = false := rfl
@[go_sem] theorem ay1 (x : Operand) (i : Nat) : qx (.extract x i) = false := rfl
@[go_sem] theorem a2e (f : Operand) (a : Array Operand) (t : Array TypeId) : rk (.call { callee := .value f, args := a, argTypes := t }) = false := rfl
@[go_sem] theorem a4j (f : Operand) (a : Array Operand) (t : Array TypeId) (l : Array Edge) : q9 (.call { callee := .value f, args := a, argTypes := t }) l = false := rfl
@[go_sem] theorem a3s (f : Operand) (a : Array Operand) (t : Array TypeId) : kg (.call { callee := .value f, args := a, argTypes := t }) = false := rfl
@[go_sem] theorem a2i (f : Operand) (a : Array Operand) (t : Array TypeId)  : rb (.call { callee := .value f, args := a, argTypes := t }) = false := rfl
@[go_sem] theorem a3u {P : Program} (f : Operand) (a : Array Operand) (t : TypeId) (ts : List TypeId) : qw P (.call { callee := .value f, args := a, argTypes := (t :: ts).toArray }) = yo P t := rfl
@[go_sem] theorem a2g (f : Operand) (a : Array Operand) (t : Array TypeId) : qx (.call { callee := .value f, args := a, argTypes := t }) = false := rfl
@[go_sem] theorem b0_len (a : Array Operand) (t : Array TypeId) : rk (.call { callee := .builtin .len, args := a, argTypes := t }) = false := rfl
@[go_sem] theorem lg_len (a : Array Operand) (t : Array TypeId) (l : Array Edge) : q9 (.call { callee := .builtin .len, args := a, argTypes := t }) l = false := rfl
@[go_sem] theorem st_len (a : Array Operand) (t : Array TypeId) : kg (.call { callee := .builtin .len, args := a, argTypes := t }) = false := rfl
@[go_sem] theorem ld_len (a : Array Operand) (t : Array TypeId)  : rb (.call { callee := .builtin .len, args := a, argTypes := t }) = false := rfl
@[go_sem] theorem vc_len {P : Program} (a : Array Operand) (t : Array TypeId)  : qw P (.call { callee := .builtin .len, args := a, argTypes := t }) = false := rfl
@[go_sem] theorem ap_len (a : Array Operand) (t : Array TypeId) : qx (.call { callee := .builtin .len, args := a, argTypes := t }) = false := rfl
@[go_sem] theorem a3h (t : Nat) (x y : Operand) : rk (.store t x y) = false := rfl
@[go_sem] theorem a25 (t : Nat) (x y : Operand) (l : Array Edge) : q9 (.store t x y) l = false := rfl
@[go_sem] theorem a3m (t : Nat) (x y : Operand) : kg (.store t x y) = true := rfl
@[go_sem] theorem a2x (t : Nat) (x y : Operand)  : rb (.store t x y) = false := rfl
@[go_sem] theorem a14 {P : Program} (t : Nat) (x y : Operand)  : qw P (.store t x y) = false := rfl
@[go_sem] theorem a1u (t : Nat) (x y : Operand) : qx (.store t x y) = false := rfl
@[go_sem] theorem a1q (t : Nat) (x y : Operand) (ok : Bool) : rk (.lookup t x y ok) = false := rfl
@[go_sem] theorem a05 (t : Nat) (x y : Operand) (ok : Bool) (l : Array Edge) : q9 (.lookup t x y ok) l = false := rfl
@[go_sem] theorem azw (t : Nat) (x y : Operand) (ok : Bool) : kg (.lookup t x y ok) = false := rfl
@[go_sem] theorem a1i (t : Nat) (x y : Operand) (ok : Bool)  : rb (.lookup t x y ok) = false := rfl
@[go_sem] theorem azu {P : Program} (t : Nat) (x y : Operand) (ok : Bool)  : qw P (.lookup t x y ok) = false := rfl
@[go_sem] theorem a07 (t : Nat) (x y : Operand) (ok : Bool) : qx (.lookup t x y ok) = false := rfl
@[go_sem] theorem a02 (a : Array Operand) (t : Array TypeId) : rk (.call { callee := .builtin .append, args := a, argTypes := t }) = false := rfl
@[go_sem] theorem a06 (a : Array Operand) (t : Array TypeId) (l : Array Edge) : q9 (.call { callee := .builtin .append, args := a, argTypes := t }) l = false := rfl
@[go_sem] theorem a0p (a : Array Operand) (t : Array TypeId) : kg (.call { callee := .builtin .append, args := a, argTypes := t }) = false := rfl
@[go_sem] theorem azv (a : Array Operand) (t : Array TypeId)  : rb (.call { callee := .builtin .append, args := a, argTypes := t }) = false := rfl
@[go_sem] theorem a1d {P : Program} (a : Array Operand) (t : Array TypeId)  : qw P (.call { callee := .builtin .append, args := a, argTypes := t }) = false := rfl
@[go_sem] theorem a0g (a : Array Operand) (t : Array TypeId) : qx (.call { callee := .builtin .append, args := a, argTypes := t }) = true := rfl
@[go_sem] theorem a18 (t : Nat) : rk (.alloc t) = false := rfl
@[go_sem] theorem a2n (t : Nat) (l : Array Edge) : q9 (.alloc t) l = false := rfl
@[go_sem] theorem a3x (t : Nat) : kg (.alloc t) = false := rfl
@[go_sem] theorem a3y (t : Nat)  : rb (.alloc t) = false := rfl
@[go_sem] theorem a2j {P : Program} (t : Nat)  : qw P (.alloc t) = false := rfl
@[go_sem] theorem a47 (t : Nat) : qx (.alloc t) = false := rfl
@[go_sem] theorem a0k (x : Operand) : aox (.assign x) = true := rfl
@[go_sem] theorem a2z (t : Nat) (x y : Operand) : aox (.store t x y) = true := rfl
attribute [go_sem] bm cb db Bool.true_or Bool.or_true Bool.or_false Bool.false_or Bool.false_and Bool.and_false
attribute [go_sem] arb ara azr atr
attribute [go_sem] ar8 aov
attribute [go_sem high] anj

attribute [go_sem] List.cons_append List.nil_append List.append_nil List.getD_cons_zero List.getD_cons_succ List.set_cons_zero List.set_cons_succ List.length_cons List.length_nil List.map_cons List.map_nil List.take_succ_cons List.take_zero List.drop_succ_cons List.drop_zero
 gv Option.bind_some List.getElem?_toArray List.getElem?_cons_zero List.getElem?_cons_succ List.replicate_succ List.replicate_zero List.all_cons List.all_nil
@[go_sem] theorem a4w {P : Program} {s : St} {K : List V → Prop} : vw P s [] K = K [] := rfl
@[go_sem] theorem a2s {P : Program} {s : St} {t : Tmp} {l : List ResultVar} {K : List V → Prop} : vw P s (.tmp t :: l) K = vw P s l fun vs => K (s.t.getD t .undef :: vs) := rfl
@[go_sem] theorem a1f {P : Program} {s : St} {a : Tmp} {t : TypeId} {l : List ResultVar} {K : List V → Prop} : vw P s (.cell a t :: l) K = n7 P s.h t (s.t.getD a .undef) fun v => vw P s l fun vs => K (v :: vs) := rfl
@[go_sem] theorem at5 {P : Program} {res : List ResultVar} {r : V} {hout : Hp} {s : St} : ayz P res r hout .normal s = vw P s res fun vs => al s.k (ud vs) s.h r hout := rfl
@[go_sem] theorem a43 {P : Program} {res : List ResultVar} {r : V} {hout : Hp} {s : St} : ayz P res r hout .ret s = vw P s res fun vs => al s.k (ud vs) s.h r hout := rfl
@[go_sem] theorem a0e {v : V} : ud [v] = v := rfl
@[go_sem] theorem a0n {v u : V} : ud [v, u] = .tup [v, u] := rfl
@[go_sem] theorem auj {v u x : V} : ud [v, u, x] = .tup [v, u, x] := rfl

theorem al.drop {v : V} {h : Hp} (hn : cc 3 v = true) : al 0 v h v [] := by
 intro w0 m0 h0 av0 w m val hk _ hlt hle H hx hi
 refine ⟨m, ⟨fun i j ci cj h => by simp at h, fun id cs h => by simp at h, fun id cs h => by simp at h⟩, ?_, fun id cs h => by simp at h⟩
 have h1 := (RV.cc 3 v hn hx)
 have h2 : RV w m [] (avm av0 m []) false val v := h1.v7 (fun b off u hb hc => ⟨fun h => hb (by
   rcases h with h | ⟨id, cs, h, _⟩
   · exact .inl h
   · simp at h), hc⟩) rfl
 exact h2.rn

theorem w9 (p : Nat → Bool) : ∀ (d : Nat) (v : V), cc d v = true → rl p d v = true
 | 0, v, hv => by cases v <;> first | rfl | (simp [cc] at hv; done)
 | d + 1, v, hv => by
   have key : ∀ l : List V, l.all (cc d) = true → l.all (rl p d) = true := fun l hl =>
     List.all_eq_true.2 fun x hx => w9 p d x (List.all_eq_true.1 hl x hx)
   cases v with
   | agg cs => exact key cs hv
   | tup cs => exact key cs hv
   | fn f a c =>
     simp only [cc, Bool.and_eq_true] at hv
     simp only [rl, Bool.and_eq_true]
     exact ⟨key a hv.1, key c hv.2⟩
   | _ => first | rfl | (simp [cc] at hv; done)
theorem ajn (h : Hp) (d : Nat) (v : V) (hv : cc d v = true) : n6 h d v = true := w9 _ d v hv
theorem ru {h : Hp} {f : Fn} {vc : List V} (hv : vc.all (cc 3) = true) : n6 h 4 (.fn f [] vc) = true :=
 ajn h 4 _ (by simp only [cc, List.all_nil, Bool.true_and]; exact hv)

theorem ak.intro {P : Program} {h : Hp} {g : FuncId} {a c args : List V} {K : V → Hp → Prop} {x : Tag K} {as' : List V} {r : V} {hout : Hp} (hs : Ctr P g as' [] r hout)
   (hle : LeL ((a ++ args ++ c).map (ren (eh h 3) 3)) as') (hro : (a ++ args ++ c).all (cc 3) = true ∨ uh r ∧ lg hout) (hrf : n6 h 4 (.fn (.func g) a c) = true ∧ args.all (n6 h 3) = true) (hk : K r hout) : ak P h (.fn (.func g) a c) args K x :=
 ⟨hrf, as', r, hout, hle, hs, hro, hk⟩

theorem aj.intro {P : Program} {t : List V} {h : Hp} {k : Nat} {dst : Option Tmp} {g : FuncId} {a c args : List V} {K : St → Prop} {x : Tag K} {as' : List V} {r : V} {hout : Hp} (hs : Ctr P g as' [] r hout)
   (hle : LeL ((a ++ args ++ c).map (ren (eh h 3) 3)) as') (hro : (a ++ args ++ c).all (cc 3) = true ∨ uh r ∧ lg hout) (hk : K (oz ⟨t, h, k⟩ dst r hout)) : aj P ⟨t, h, k⟩ dst (.fn (.func g) a c) args K x :=
 .inl ⟨as', r, hout, hle, hs, hro, hk⟩

theorem aj.qb {P : Program} {t : List V} {h : Hp} {k : Nat} {dst : Option Tmp} {g : FuncId} {a c args : List V} {K : St → Prop} {x : Tag K} (sel : List Nat) (fz : Bool) {as' : List V} {hin : Hp} {r : V} {hout : Hp} (hs : Ctr P g as' hin r hout) (hn : sel.Nodup)
   (hle : LeL ((a ++ args ++ c).map (ren (bg sel h fz) 3)) as') (hh : bc sel h fz = hin) (hg : grown hin hout) (hro : fz = false ∨ uh r ∧ lg hout) (hk : K (aaf ⟨t, h, k⟩ dst sel r hout)) : aj P ⟨t, h, k⟩ dst (.fn (.func g) a c) args K x :=
 .inr (.inl ⟨sel, fz, as', r, hout, hn, hle, by rw [hh]; exact hs, by rw [hh]; exact hg, hro, hk⟩)

def LeG (f : V → V) : List V → List V → Prop
 | [], [] => True
 | a :: l, b :: l' => LeV (f a) b ∧ LeG f l l'
 | _, _ => False
theorem LeG.get {f : V → V} : ∀ {l l' : List V}, LeG f l l' → l.length = l'.length ∧ ∀ i (hi : i < l.length) (hi' : i < l'.length), LeV (f l[i]) l'[i]
 | [], [], _ => ⟨rfl, fun i hi => by simp at hi⟩
 | a :: l, b :: l', h => by
   obtain ⟨h1, h2⟩ := LeG.get h.2
   refine ⟨by simp [h1], fun i hi hi' => ?_⟩
   cases i with
   | zero => exact h.1
   | succ i => exact h2 i (by simpa using hi) (by simpa using hi')
 | [], _ :: _, h => h.elim
 | _ :: _, [], h => h.elim

theorem br.pick {t t2 : List V} {h h2 : Hp} {k : Nat} (sel : List Nat) (hn : sel.Nodup) (hk : ∀ j, j < k → sel[j]? = some j) (ht : LeG (ren (bg sel h true) 3) t t2) (hh : bc sel h true = h2) : br ⟨t, h, k⟩ ⟨t2, h2, k⟩ := by
 subst hh
 intro w0 m0 h0 av0 a w m I
 have hk0 := I.k
 dsimp only at hk0
 obtain ⟨g1, g2, g3⟩ := afi (sel := sel) I.rh I.ids I.lt hn (by rw [← hk0]; exact hk)
 obtain ⟨hlen, hget⟩ := ht.get
 refine ⟨fb sel m, g1, by rw [I.size]; exact hlen, fun i hi => ?_, I.defers, I.ext, g2, I.lt, I.lent, I.gl, I.k, ?_⟩
 · have hi' : i < t.length := by rw [hlen]; exact hi
   exact (g3 3 _ _ (I.slots i hi')).le (hget i hi' hi)
 · rw [← hk0]
   simp only [bc, List.length_map]
   rcases Nat.eq_zero_or_pos k with e | e
   · omega
   · have := (List.getElem?_eq_some_iff.1 (hk (k - 1) (by omega))).1
     omega

theorem al.pick {k : Nat} {v r : V} {h hout : Hp} (sel : List Nat) (hn : sel.Nodup) (hk : ∀ j, j < k → sel[j]? = some j) (hv : LeV (ren (bg sel h true) 3 v) r) (hh : bc sel h true = hout) : al k v h r hout := by
 subst hh
 intro w0 m0 h0 av0 w m val e _ hlt hle H hx hi
 obtain ⟨g1, g2, g3⟩ := afi (sel := sel) H hi hlt hn (by rw [e]; exact hk)
 exact ⟨fb sel m, g1, (g3 3 _ _ hx).le hv, g2⟩

theorem cw.intro {W : (Exit → St → Prop) → St → Prop} {Q : Exit → St → Prop} {s : St} {x : Tag W} {y : Tag Q} {σ : Type} (I : σ → Prop) (emb : σ → St) (μ : σ → Nat) (x0 : σ) (h0 : I x0) (hW : br s (emb x0))
   (hr : ∀ x, I x → W (pn (fun s' => ∃ y, I y ∧ br s' (emb y) ∧ μ y < μ x) Q) (emb x)) : cw W Q s x y := ⟨σ, I, emb, μ, x0, h0, hW, hr⟩

theorem al.of_eq {k : Nat} {v r : V} {h : Hp} (e : v = r) : al k v h r h := by subst e; exact al.refl k v h
theorem al.ax {v r : V} {h : Hp} (e : v = r) (hn : cc 3 v = true) : al 0 v h r [] := by subst e; exact al.drop hn
attribute [go_sem] Bool.not_true Bool.not_false if_true if_false true_and and_true Bool.false_eq_true and_self Nat.zero_add
attribute [go_sem] or_true true_or or_false false_or bq Bool.and_self Bool.true_and Bool.and_true
@[go_sem] theorem aub {cs : List V} : cellsOf (.agg cs) = if cs.all bq then some cs else none := rfl
@[go_sem] theorem au2 {k : IntKind} {n : Int} : cellsOf (.int k n) = some [.int k n] := rfl
@[go_sem] theorem as7 {b : Bool} : cellsOf (.bool b) = some [.bool b] := rfl
@[go_sem] theorem aum {b : ByteArray} : cellsOf (.str b) = some [.str b] := rfl
@[go_sem] theorem aus {a b c d : Nat} : cellsOf (.osl a b c d) = some [.osl a b c d] := rfl
theorem ajl {a : V} {l ns : List V} {n : Nat} : ck (a :: l) (n + 1) ns = a :: ck l n ns := by
 simp only [ck, List.take_succ_cons, List.cons_append, show n + 1 + ns.length = (n + ns.length) + 1 from by omega, List.drop_succ_cons]
theorem aa8 {l ns : List V} : ck l 0 ns = ns ++ l.drop ns.length := by simp [ck]
attribute [go_sem] ajl aa8
attribute [go_sem] vy j0 cx jk List.map_append
attribute [go_sem] ren eh shf shB shH cc LeL oz vp z7
attribute [go_sem] aaf gp oa nz grown bg bh bc posOf sx Option.isSome_some Option.isSome_none
attribute [go_sem] ahj w6 ac9 s9 vx
theorem uh.int {k : IntKind} {n : Int} : uh (.int k n) := fun _ _ _ _ _ hx => by cases hx; exact .int _ _
theorem uh.bool {b : Bool} : uh (.bool b) := fun _ _ _ _ _ hx => by cases hx; exact .bool _
theorem uh.str {b : ByteArray} : uh (.str b) := fun _ _ _ _ _ hx => by cases hx; exact .str _
def uc : Nat → V → Bool
 | _, .undef => true
 | _, .skip => true
 | _, .bool _ => true
 | _, .int _ _ => true
 | _, .str _ => true
 | _, .nilsl => true
 | _, .osl _ _ _ _ => true
 | _, .ptr _ _ => true
 | _, .sl _ _ [] => true
 | d + 1, .agg cs => cs.all (uc d)
 | d + 1, .tup cs => cs.all (uc d)
 | _, _ => false
theorem aht : ∀ (d : Nat) {x : V}, uc d x = true → uh x := by
 intro d
 induction d with
 | zero =>
   intro x hx w m h av v hv
   cases hv <;> first | (simp [uc] at hx; done) | skip
   case undef => exact .undef _
   case skip => exact .skip
   case bool b => exact .bool b
   case int k n => exact .int k n
   case str s => exact .str s
   case nilsl => exact .nilsl
   case slz a c wd => exact .slz a c wd
   case sl b off n cap wd cs vals hl ha hc hv hr =>
     cases cs with
     | nil => exact .sl b off n cap wd [] vals hl (fun h => absurd rfl h) hc hv (fun i hi => by simp at hi)
     | cons _ _ => simp [uc] at hx
   case osl id off n cap wd cs hid hl hc hs => exact .osl id off n cap wd cs hid hl hc hs
   case ptr id off cs hid => exact .ptr id off cs hid
 | succ d ih =>
   intro x hx w m h av v hv
   cases hv <;> first | (simp [uc] at hx; done) | skip
   case undef => exact .undef _
   case skip => exact .skip
   case bool b => exact .bool b
   case int k n => exact .int k n
   case str s => exact .str s
   case nilsl => exact .nilsl
   case slz a c wd => exact .slz a c wd
   case sl b off n cap wd cs vals hl ha hc hv hr =>
     cases cs with
     | nil => exact .sl b off n cap wd [] vals hl (fun h => absurd rfl h) hc hv (fun i hi => by simp at hi)
     | cons _ _ => simp [uc] at hx
   case osl id off n cap wd cs hid hl hc hs => exact .osl id off n cap wd cs hid hl hc hs
   case ptr id off cs hid => exact .ptr id off cs hid
   case agg a a' ha hra =>
     simp only [uc, List.all_eq_true] at hx
     exact .agg a a' ha (fun i hi => ih (hx _ (List.getElem_mem _)) _ _ _ _ _ (hra i hi))
   case tup a a' ha hra =>
     simp only [uc, List.all_eq_true] at hx
     exact .tup a a' ha (fun i hi => ih (hx _ (List.getElem_mem _)) _ _ _ _ _ (hra i hi))
def ags (h : Hp) : Bool := h.all fun b => match b with
 | some cs => cs.all (uc 0)
 | none => true
theorem lg.of {h : Hp} (hh : ags h = true) : lg h := by
 intro id cs hid x hx
 have := List.all_eq_true.1 hh _ (List.mem_of_getElem? hid)
 exact aht 0 (List.all_eq_true.1 this x hx)
theorem lg.nil : lg [] := fun id cs h => by simp at h

end Go.Lv
end
