/-
  States of slots and local blocks, contracts of functions, and the steps that keep a state and a world together. Conditions: none.
-/
import Derived.Test.YtfnlgojocgdmcaaDoorLvD
import Derived.Tactics
set_option linter.unusedSimpArgs false
set_option linter.unusedVariables false
namespace Go.Lv

structure St where
  t : List V
  h : Hp
  k : Nat

def St.put (s : St) (dst : Option Tmp) (v : V) : St :=
  match dst with
  | some d => { s with t := s.t.set d v }
  | none => s

def own (m : Nat → Nat) (h : Hp) (b : Nat) : Prop := ∃ id cs, h[id]? = some (some cs) ∧ m id = b

def avm (av0 : Nat → Prop) (m : Nat → Nat) (h : Hp) (b : Nat) : Prop := av0 b ∨ own m h b

/-- The blocks of package-level variables that the contracts lean on, and what these hold (of the seat). -/
def tabs : List (Nat × Array Value) := [(1, #[.int .u64 1, .int .u64 10, .int .u64 100, .int .u64 1000, .int .u64 10000, .int .u64 100000, .int .u64 1000000, .int .u64 10000000, .int .u64 100000000, .int .u64 1000000000, .int .u64 10000000000, .int .u64 100000000000, .int .u64 1000000000000, .int .u64 10000000000000, .int .u64 100000000000000, .int .u64 1000000000000000, .int .u64 10000000000000000, .int .u64 100000000000000000, .int .u64 1000000000000000000, .int .u64 10000000000000000000])]

/-- The variables hold what they should; nobody may write them. -/
def GL (w : World) (av : Nat → Prop) : Prop := ∀ p ∈ tabs, ¬ av p.1 ∧ ∃ T fr, w.heap[p.1]? = some (.cells p.2 T fr)
theorem GL.mono {w : World} {av av' : Nat → Prop} (h : GL w av) (ha : ∀ b, av' b → av b) : GL w av' := fun p hp => ⟨fun h' => (h p hp).1 (ha _ h'), (h p hp).2⟩

/-- The function can be entered. -/
def okF (P : Program) (f : FuncId) : Bool :=
  match P.funcs[f]? with
  | some fn => !(fn.name == "runtime.NumGoroutine") && fn.body.isSome
  | none => false

/-- A block that is new, or an old one: it is where it was, or has grown and may have moved. -/
abbrev IdOk (n : Nat) (m0 : Nat → Nat) (h0 : Hp) (id mid l : Nat) : Prop :=
  (id < h0.length ∧ ∃ c0, h0[id]? = some (some c0) ∧ c0.length ≤ l ∧ (mid = m0 id ∨ (c0.length < l ∧ n ≤ mid))) ∨ (h0.length ≤ id ∧ n ≤ mid)
/-- New blocks are new, old ones are where they were, or have grown. -/
def Ids (n : Nat) (m0 m : Nat → Nat) (h0 h : Hp) : Prop :=
  ∀ id cs, h[id]? = some (some cs) → IdOk n m0 h0 id (m id) cs.length

/-- A function's contract: called with values that read as args (blocks hin are lent to it), it returns a value that reads as r; hout: the lent blocks behind the call, then new ones. -/
def Ctr (P : Program) (f : FuncId) (args : List V) (hin : Hp) (r : V) (hout : Hp) : Prop :=
  okF P f = true ∧ ∀ (w : World) (vs : Array Value) (m : Nat → Nat) (av : Nat → Prop),
    RH w m hin av → (∀ b, av b → b < w.heap.size) → GL w av → vs.size = args.length → (∀ i (hi : i < args.length), RV w m hin av true (vs.getD i Go.undef) args[i]) →
    Calls P f vs w fun e w' => ∃ v m', e = .returned v ∧ Ext (own m hin) w w' ∧ RH w' m' hout (avm av m' hout) ∧ RV w' m' hout (avm av m' hout) true v r ∧ Ids w.heap.size m m' hin hout

/-- What ties a state to a world in the midst of a call that began in w0 with lent blocks h0. -/
structure Inv (w0 : World) (m0 : Nat → Nat) (h0 : Hp) (av0 : Nat → Prop) (s : St) (a : Act) (w : World) (m : Nat → Nat) : Prop where
  rh : RH w m s.h (avm av0 m s.h)
  size : a.tmps.size = s.t.length
  slots : ∀ i (hi : i < s.t.length), RV w m s.h (avm av0 m s.h) true (a.tmps.getD i Go.undef) s.t[i]
  defers : a.defers = []
  ext : Ext (own m0 h0) w0 w
  ids : Ids w0.heap.size m0 m h0 s.h
  lt : ∀ b, av0 b → b < w0.heap.size
  lent : ∀ b, own m0 h0 b → av0 b
  gl : GL w0 av0
  k : s.k = h0.length
  len : h0.length ≤ s.h.length

section
variable {w0 : World} {m0 : Nat → Nat} {h0 : Hp} {av0 : Nat → Prop} {s : St} {a : Act} {w : World} {m : Nat → Nat}

theorem Inv.ev (I : Inv w0 m0 h0 av0 s a w m) (x : Operand) : RV w m s.h (avm av0 m s.h) true (a.eval x) (ev s.t x) := by
  cases x with
  | tmp t =>
    show RV w m s.h _ true (a.tmps.getD t Go.undef) (s.t.getD t .undef)
    by_cases ht : t < s.t.length
    · have := I.slots t ht
      rw [show s.t.getD t .undef = s.t[t] by simp [List.getD, ht]]
      exact this
    · rw [show s.t.getD t .undef = .undef by simp [List.getD, List.getElem?_eq_none (Nat.le_of_not_lt ht)]]
      exact .undef _
  | const v => exact rv_cv ..
  | global g => exact .undef _
  | func f => exact .fn _ _ _ _ _ rfl rfl (fun i hi => by simp at hi) (fun i hi => by simp at hi)

theorem put_tmps (a : Act) (d : Tmp) (v : Value) (i : Nat) : (a.put (some d) v).tmps.getD i Go.undef = if d = i ∧ i < a.tmps.size then v else a.tmps.getD i Go.undef := by
  show (a.tmps.setIfInBounds d v).getD i Go.undef = _
  rw [Array.getD_eq_getD_getElem?, Array.getD_eq_getD_getElem?, Array.getElem?_setIfInBounds]
  by_cases h1 : d = i
  · subst h1
    by_cases h2 : d < a.tmps.size
    · simp [h2]
    · simp [h2]
  · simp [h1]

theorem Inv.put (I : Inv w0 m0 h0 av0 s a w m) {dst : Option Tmp} {v : Value} {x : V} (hx : RV w m s.h (avm av0 m s.h) true v x) : Inv w0 m0 h0 av0 (s.put dst x) (a.put dst v) w m := by
  cases dst with
  | none => exact I
  | some d =>
    refine ⟨I.rh, ?_, ?_, I.defers, I.ext, I.ids, I.lt, I.lent, I.gl, I.k, I.len⟩
    · simp [St.put, Act.put, I.size]
    · intro i hi
      have hi' : i < s.t.length := by simpa [St.put] using hi
      rw [put_tmps]
      show RV w m s.h _ true _ ((s.t.set d x)[i]'(by simpa using hi'))
      rw [List.getElem_set]
      by_cases e : d = i
      · rw [if_pos ⟨e, by rw [I.size]; exact hi'⟩, if_pos e]
        exact hx
      · rw [if_neg (fun h => e h.1), if_neg e]
        exact I.slots i hi'

theorem own_lt {w : World} {av : Nat → Prop} {m : Nat → Nat} {h : Hp} (H : RH w m h av) {b : Nat} (hb : own m h b) : b < w.heap.size := by
  obtain ⟨id, cs, h1, rfl⟩ := hb
  exact H.lt h1

theorem Inv.glw (I : Inv w0 m0 h0 av0 s a w m) : GL w (avm av0 m s.h) := by
  intro p hp
  obtain ⟨h1, T, fr, h2⟩ := I.gl p hp
  have hlt : p.1 < w0.heap.size := (Array.getElem?_eq_some_iff.1 h2).1
  refine ⟨fun h => ?_, T, fr, by rw [I.ext.block _ hlt (fun h => h1 (I.lent _ h))]; exact h2⟩
  rcases h with h | ⟨id, cs, h3, e⟩
  · exact h1 h
  · rcases I.ids id cs h3 with ⟨_, c0, h5, _, h4 | ⟨_, h4⟩⟩ | ⟨_, h4⟩
    · exact h1 (I.lent _ ⟨id, c0, h5, by rw [← h4, e]⟩)
    · omega
    · omega

theorem Inv.avlt (I : Inv w0 m0 h0 av0 s a w m) {b : Nat} (hb : avm av0 m s.h b) : b < w.heap.size := by
  rcases hb with hb | hb
  · exact Nat.lt_of_lt_of_le (I.lt b hb) I.ext.size
  · exact own_lt I.rh hb

/-- The world has gone on; nothing that was there has changed. -/
theorem Inv.world (I : Inv w0 m0 h0 av0 s a w m) {w' : World} (hE : Ext (fun _ => False) w w') : Inv w0 m0 h0 av0 s a w' m := by
  have hstep : ∀ {o : Bool} {v : Value} {x : V}, RV w m s.h (avm av0 m s.h) o v x → RV w' m s.h (avm av0 m s.h) o v x :=
    fun hx => hx.step (fun b off v hb hc => ⟨hb, hE.cell hc (fun h => h)⟩) (fun id cs hid => ⟨cs, hid, Nat.le_refl _, rfl, hE.row _ (I.rh.lt hid), rfl⟩)
  refine ⟨⟨I.rh.inj, I.rh.avd, fun id cs hid => ?_⟩, I.size, fun i hi => hstep (I.slots i hi), I.defers, I.ext.trans' hE (fun _ _ h => h.elim), I.ids, I.lt, I.lent, I.gl, I.k, I.len⟩
  exact (I.rh.blk id cs hid).step (hE.block _ (I.rh.lt hid) (fun h => h)) (fun v x => hstep)

theorem hp_snoc {h : Hp} {b : Option (List V)} {id : Nat} {cs : List V} (hid : (h ++ [b])[id]? = some (some cs)) : h[id]? = some (some cs) ∨ (id = h.length ∧ b = some cs) := by
  rw [List.getElem?_append] at hid
  split at hid
  · exact .inl hid
  · rename_i hlt
    have : id - h.length = 0 := by
      rcases Nat.eq_zero_or_pos (id - h.length) with e | e
      · exact e
      · rw [List.getElem?_eq_none (by simp; omega)] at hid; cases hid
    rw [this] at hid
    simp at hid
    exact .inr ⟨by omega, hid⟩

def mext (m : Nat → Nat) (n b : Nat) : Nat → Nat := fun id => if id = n then b else m id

theorem mext_old {m : Nat → Nat} {n b id : Nat} (h : id < n) : mext m n b id = m id := if_neg (by omega)
theorem mext_new {m : Nat → Nat} {n b : Nat} : mext m n b n = b := if_pos rfl

theorem id_lt {h : Hp} {id : Nat} {x : Option (List V)} (hid : h[id]? = some x) : id < h.length := (List.getElem?_eq_some_iff.1 hid).1

/-- A new block of our own. -/
theorem Inv.allocF (fr : Nat × Nat) (I : Inv w0 m0 h0 av0 s a w m) (C : Array Value) (T : TypeId) (cs : List V) (hfr : FrOk fr C.size) (hl : cs.length ≤ C.size)
    (hc : ∀ i (hi : i < cs.length), RV w m s.h (avm av0 m s.h) true (C.getD i Go.undef) cs[i]) :
    Inv w0 m0 h0 av0 { s with h := s.h ++ [some cs] } a (w.alloc (.cells C T fr)) (mext m s.h.length w.heap.size) ∧
    (∀ {o : Bool} {v : Value} {x : V}, RV w m s.h (avm av0 m s.h) o v x → RV (w.alloc (.cells C T fr)) (mext m s.h.length w.heap.size) (s.h ++ [some cs]) (avm av0 (mext m s.h.length w.heap.size) (s.h ++ [some cs])) o v x) := by
  have hE : Ext (fun _ => False) w (w.alloc (.cells C T fr)) := Ext.alloc _ w _
  have hid0 : ∀ id c, s.h[id]? = some (some c) → mext m s.h.length w.heap.size id = m id := fun id c hid => mext_old (id_lt hid)
  have hown : ∀ b, own (mext m s.h.length w.heap.size) (s.h ++ [some cs]) b → own m s.h b ∨ b = w.heap.size := by
    rintro b ⟨id, c, h1, rfl⟩
    rcases hp_snoc h1 with h1 | ⟨rfl, _⟩
    · exact .inl ⟨id, c, h1, (hid0 id c h1).symm⟩
    · exact .inr mext_new
  have hav : ∀ b, b < w.heap.size → avm av0 (mext m s.h.length w.heap.size) (s.h ++ [some cs]) b → avm av0 m s.h b := by
    rintro b hb (h1 | h1)
    · exact .inl h1
    · rcases hown b h1 with h2 | h2
      · exact .inr h2
      · omega
  have hold : ∀ id c, s.h[id]? = some (some c) → (s.h ++ [some cs])[id]? = some (some c) := fun id c hid => by rw [List.getElem?_append_left (id_lt hid)]; exact hid
  have hstep : ∀ {o : Bool} {v : Value} {x : V}, RV w m s.h (avm av0 m s.h) o v x → RV (w.alloc (.cells C T fr)) (mext m s.h.length w.heap.size) (s.h ++ [some cs]) (avm av0 (mext m s.h.length w.heap.size) (s.h ++ [some cs])) o v x :=
    fun hx => hx.step (fun b off v hb hcell => ⟨fun h => hb (hav b (World.block_lt_of_cell? w _ hcell) h), hE.cell hcell (fun h => h)⟩)
      (fun id c hid => ⟨c, hold id c hid, Nat.le_refl _, hid0 id c hid, hE.row _ (I.rh.lt hid), rfl⟩)
  refine ⟨⟨⟨?_, ?_, ?_⟩, I.size, fun i hi => hstep (I.slots i hi), I.defers, I.ext.trans' hE (fun _ _ h => h.elim), ?_, I.lt, I.lent, I.gl, I.k, by simp; have := I.len; omega⟩, hstep⟩
  · intro i j ci cj h1 h2 he
    rcases hp_snoc h1 with h1 | ⟨rfl, _⟩ <;> rcases hp_snoc h2 with h2 | ⟨rfl, _⟩
    · rw [hid0 i ci h1, hid0 j cj h2] at he
      exact I.rh.inj i j ci cj h1 h2 he
    · rw [hid0 i ci h1, mext_new] at he
      have := I.rh.lt h1; omega
    · rw [hid0 j cj h2, mext_new] at he
      have := I.rh.lt h2; omega
    · rfl
  · intro id c h1
    exact .inr ⟨id, c, h1, rfl⟩
  · intro id c h1
    rcases hp_snoc h1 with h1 | ⟨rfl, h3⟩
    · rw [hid0 id c h1]
      exact (I.rh.blk id c h1).step (hE.block _ (I.rh.lt h1) (fun h => h)) (fun v x => hstep)
    · simp at h3; subst h3
      refine .inl ⟨C, T, fr, ?_, hfr, hl, fun i hi => hstep (hc i hi)⟩
      rw [mext_new]
      exact heap_alloc_new w _
  · intro id c h1
    rcases hp_snoc h1 with h1 | ⟨rfl, _⟩
    · rw [hid0 id c h1]
      exact I.ids id c h1
    · exact .inr ⟨I.len, by rw [mext_new]; exact I.ext.size⟩

theorem Inv.alloc (I : Inv w0 m0 h0 av0 s a w m) (C : Array Value) (T : TypeId) (cs : List V) (hl : cs.length ≤ C.size)
    (hc : ∀ i (hi : i < cs.length), RV w m s.h (avm av0 m s.h) true (C.getD i Go.undef) cs[i]) :
    Inv w0 m0 h0 av0 { s with h := s.h ++ [some cs] } a (w.alloc (.cells C T)) (mext m s.h.length w.heap.size) ∧
    (∀ {o : Bool} {v : Value} {x : V}, RV w m s.h (avm av0 m s.h) o v x → RV (w.alloc (.cells C T)) (mext m s.h.length w.heap.size) (s.h ++ [some cs]) (avm av0 (mext m s.h.length w.heap.size) (s.h ++ [some cs])) o v x) :=
  I.allocF (0, 0) C T cs (.inl rfl) hl hc

end
end Go.Lv
