/-
  One operation over a state; a region whose order is the text's. Conditions: none.
-/
import Derived.Test.YtfnlgojocgdmcaaDoorLvI
set_option linter.unusedSimpArgs false
set_option linter.unusedVariables false
open Go.MapKept (IsKey)
namespace Go.Lv

/-- The types of addresses of structs that are lent to a callee. -/
def lendTs : List Nat := [71]
def ptrT (ts : Array TypeId) : Bool := match ts.toList with
  | t :: _ => elemT lendTs t
  | [] => false

/-- The functions to which a block is lent, though the call's types don't tell. -/
def lendFs : List Nat := []
def lentF : Operand → Bool
  | .func f => elemT lendFs f
  | _ => false

/-- The operations that change no block and make none that is kept as our own. -/
def quietOp : Op → Bool
  | .call { callee := .value f, argTypes := ts, .. } => !(ptrT ts || lentF f)
  | .store _ _ _ => false
  | .makeMap _ _ => false
  | .mapUpdate _ _ _ _ => false
  | .call { callee := .builtin .append, .. } => false
  | _ => true

/-- Quiet operations, calls among them: what they make is read only from then on. -/
def kop (P : Program) (h : Hp) (ρ : Operand → V) (op : Op) (K : V → Prop) : Prop :=
  match op with
  | .build t parts => buildV P t (parts.toList.map fun p => (p.1, ρ p.2)) K
  | .buildSlice t n parts => match elOf P t with
    | some (e, sz, _) => match zeroOf P e with
      | some _ => match seqV sz 0 (parts.toList.map fun p => (p.1, ρ p.2)) with
        | some cs => parts.size = n ∧ n * sz ≤ 16777216 ∧ cs.length = n * sz ∧ cs.all (noOwn 2) = true ∧ K (.sl n sz cs)
        | none => False
      | none => False
    | none => False
  | .call { callee := .value f, args, .. } => callA P h (ρ f) (args.toList.map ρ) fun r hout => K (ren (snapR hout 3) 3 r)
  | op => qop P h ρ op K

/-- A map gets a value at a key. -/
def mpPut (k v : Value) : Option (Nat × Value) → List (Value × Value) → List (Value × Value)
  | some (i, _), es => es.modify i fun e => (e.1, v)
  | none, es => es ++ [(k, v)]

def updV (P : Program) (h : Hp) (t : TypeId) (x y v : V) (K : Hp → Prop) : Prop :=
  match x with
  | .mp id => match h[id]? with
    | some (some [.mb es]) => match keyV y, keyV v, mapOf P t with
      | some k, some vl, some (d, _) => keyOk d k = true ∧ match mpFind d k es 0 with
        | some r => K (h.set id (some [.mb (mpPut k vl r es)]))
        | none => False
      | _, _, _ => False
    | _ => False
  | _ => False

def convB (t : Bool) (A B : Prop) : Prop :=
  match t with
  | true => A
  | false => B
/-- A conversion; one of a string to bytes makes a block. -/
def convS (P : Program) (s : St) (dst : Option Tmp) (sT d : TypeId) (x : V) (K : St → Prop) : Prop :=
  match x with
  | .str b => convB (isU8S P d) (isStr P sT = true ∧ K (({ s with h := s.h ++ [some (strCells b)] } : St).put dst (.osl s.h.length 0 b.size 1))) (convH P s.h sT d (.str b) fun v => K (s.put dst v))
  | x => convH P s.h sT d x fun v => K (s.put dst v)

/-- Every operation, over the state. -/
def fop (P : Program) (s : St) (o : Oper) (K : St → Prop) : Prop :=
  match o.op with
  | .alloc t => match zeroOf P t with
    | some zs => K (({ s with h := s.h ++ [some zs] } : St).put o.dst (.ptr s.h.length 0))
    | none => False
  | .box _ x => match cellsOf (ev s.t x) with
    | some cs => K (({ s with h := s.h ++ [some cs] } : St).put o.dst (.ptr s.h.length 0))
    | none => False
  | .build t parts => buildV P t (parts.toList.map fun p => (p.1, ev s.t p.2)) fun v => K (s.put o.dst v)
  | .buildSlice t n parts => match elOf P t with
    | some (e, sz, _) => match zeroOf P e with
      | some _ => match seqV sz 0 (parts.toList.map fun p => (p.1, ev s.t p.2)) with
        | some cs => parts.size = n ∧ n * sz ≤ 16777216 ∧ cs.length = n * sz ∧ K (({ s with h := s.h ++ [some cs] } : St).put o.dst (.osl s.h.length 0 n sz))
        | none => False
      | none => False
    | none => False
  | .makeSlice t l c => atInt (ev s.t l) fun _ n => atInt (ev s.t c) fun _ n' => n' = n ∧ match elOf P t with
    | some (e, sz, by_) => match zeroOf P e with
      | some zs => 0 ≤ n ∧ (by_ : Int) * n ≤ 281474976710656 ∧ n ≤ 9223372036854775807 ∧ K (({ s with h := s.h ++ [some (zrow (n.toNat * sz) zs)] } : St).put o.dst (.osl s.h.length 0 n.toNat sz))
      | none => False
    | none => False
  | .store t a x => storeV P s.h t (ev s.t a) (ev s.t x) fun h' => K (({ s with h := h' } : St).put o.dst .skip)
  | .makeMap _ none => K (({ s with h := s.h ++ [some [.mb []]] } : St).put o.dst (.mp s.h.length))
  | .mapUpdate t m k v => updV P s.h t (ev s.t m) (ev s.t k) (ev s.t v) fun h' => K (({ s with h := h' } : St).put o.dst .skip)
  | .convert sT d x => convS P s o.dst sT d (ev s.t x) K
  | .call { callee := .builtin .append, args := ⟨[x, y]⟩, argTypes := ⟨[t, u]⟩ } => appendV P s t u (ev s.t x) (ev s.t y) fun s' r => K (s'.put o.dst r)
  | .call { callee := .value f, args, .. } => callA P s.h (ev s.t f) (args.toList.map (ev s.t)) (fun r hout => K (afterCall s o.dst r hout)) ∨ callM P s o.dst (ev s.t f) (args.toList.map (ev s.t)) K ∨ callK P s o.dst (ev s.t f) (args.toList.map (ev s.t)) K ∨ callR P s o.dst (ev s.t f) (args.toList.map (ev s.t)) K
  | op => qop P s.h (ev s.t) op fun v => K (s.put o.dst v)

/-- The value that a guard looks at. -/
def gv (ops : Array Oper) (t : List V) (j : Nat) : V :=
  match (ops[j]?).bind (·.dst) with
  | some d => t.getD d .undef
  | none => .undef

def guardA (want : Bool) (g : V) (A B : Prop) : Prop :=
  match g with
  | .bool b => (b = want → A) ∧ (b = !want → B)
  | .skip => B
  | _ => False

def gdA (ops : Array Oper) (t : List V) (g : Option (Nat × Bool)) (A B : Prop) : Prop :=
  match g with
  | none => A
  | some (j, want) => guardA want (gv ops t j) A B

def fopsA (P : Program) (ops : Array Oper) : List Oper → St → (St → Prop) → Prop
  | [], s, K => K s
  | o :: rest, s, K => gdA ops s.t o.guard (fop P s o fun s' => fopsA P ops rest s' K) (fopsA P ops rest (s.put o.dst .skip) K)

section
variable {P : Program} {w0 : World} {m0 : Nat → Nat} {h0 : Hp} {av0 : Nat → Prop} {s : St} {a : Act} {w : World} {m : Nat → Nat}

theorem wp_value {o : Oper} {v : Value} {w' : World} {K : Act → World → Prop} {Q : Exit → Act → World → Prop} (hr : (execOp a.eval o).run P w = .ok (.value v) w') (hk : K (a.put o.dst v) w') : o.wp P a w K Q := by
  unfold Oper.wp
  rw [hr]
  exact hk

theorem rows_map {ρ : Operand → V} (hρ : ∀ x, RV w m s.h (avm av0 m s.h) true (a.eval x) (ρ x)) (xs : Array Operand) :
    (xs.map a.eval).size = (xs.toList.map ρ).length ∧ ∀ i (hi : i < (xs.toList.map ρ).length), RV w m s.h (avm av0 m s.h) true ((xs.map a.eval).getD i Go.undef) (xs.toList.map ρ)[i] :=
  makeFunc_list hρ xs

/-- A call of a Go function, up to what it leaves. -/
theorem call_wp (I : Inv w0 m0 h0 av0 s a w m) {ρ : Operand → V} (hρ : ∀ x, RV w m s.h (avm av0 m s.h) true (a.eval x) (ρ x)) {f : Operand} {args : Array Operand} {ts : Array TypeId} {dst : Option Tmp} {ty : TypeId} {pos : String} {after : Array Edge} {gd : Option (Nat × Bool)}
    {K : V → Hp → Prop} (hq : callA P s.h (ρ f) (args.toList.map ρ) K) {Kc : Act → World → Prop} {Q : Exit → Act → World → Prop}
    (hk : ∀ r hout w' v m' avX, K r hout → Left w0 m0 h0 av0 s a w m w' v r hout m' avX → Kc (a.put dst v) w') :
    (⟨dst, .call { callee := .value f, args, argTypes := ts }, ty, pos, after, gd⟩ : Oper).wp P a w Kc Q := by
  have hrm := rows_map (s := s) (av0 := av0) hρ args
  obtain ⟨g, first, cap, r, hout, hu, hok, hkk, hcalls⟩ := call_left I (hρ f) hrm.1 hrm.2 hq
  unfold Oper.wp
  rw [run_callV hok hu]
  show Calls P g (first ++ args.map a.eval ++ cap) w _
  refine hcalls.mono ?_
  rintro e w' ⟨v, m', avX, rfl, L⟩
  exact hk r hout w' v m' avX hkk L

theorem osl_new {C : Array Value} {T : TypeId} {cs : List V} {n sz : Nat} (hmb : isMb cs = false) (hC : C.size = n * sz) (hcs : cs.length = n * sz) :
    RV (w.alloc (.cells C T)) (mext m s.h.length w.heap.size) (s.h ++ [some cs]) (avm av0 (mext m s.h.length w.heap.size) (s.h ++ [some cs])) true (.slice (some ⟨w.heap.size, 0, none⟩) n n) (.osl s.h.length 0 n sz) := by
  have := RV.osl (w := w.alloc (.cells C T)) (m := mext m s.h.length w.heap.size) (h := s.h ++ [some cs]) (av := avm av0 (mext m s.h.length w.heap.size) (s.h ++ [some cs])) s.h.length 0 n n sz cs ⟨by simp, hmb⟩ (by omega) (Nat.le_refl _) (by
    rw [mext_new]
    simp only [rowSize, heap_alloc_new]
    omega)
  rw [mext_new] at this
  exact this

theorem ptr_new {C : Array Value} {T : TypeId} {cs : List V} (hmb : isMb cs = false) :
    RV (w.alloc (.cells C T)) (mext m s.h.length w.heap.size) (s.h ++ [some cs]) (avm av0 (mext m s.h.length w.heap.size) (s.h ++ [some cs])) true (.pointer (some ⟨w.heap.size, 0, none⟩)) (.ptr s.h.length 0) := by
  have := RV.ptr (w := w.alloc (.cells C T)) (m := mext m s.h.length w.heap.size) (h := s.h ++ [some cs]) (av := avm av0 (mext m s.h.length w.heap.size) (s.h ++ [some cs])) s.h.length 0 cs ⟨by simp, hmb⟩
  rw [mext_new] at this
  exact this

/-- A new map. -/
theorem Inv.newMap (I : Inv w0 m0 h0 av0 s a w m) :
    Inv w0 m0 h0 av0 { s with h := s.h ++ [some [.mb []]] } a (w.alloc (.map #[] 0)) (mext m s.h.length w.heap.size) := by
  have hE : Ext (fun _ => False) w (w.alloc (.map #[] 0)) := Ext.alloc _ w _
  have hid0 : ∀ id c, s.h[id]? = some (some c) → mext m s.h.length w.heap.size id = m id := fun id c hid => mext_old (id_lt hid)
  have hown : ∀ b, own (mext m s.h.length w.heap.size) (s.h ++ [some [.mb []]]) b → own m s.h b ∨ b = w.heap.size := by
    rintro b ⟨id, c, h1, rfl⟩
    rcases hp_snoc h1 with h1 | ⟨rfl, _⟩
    · exact .inl ⟨id, c, h1, (hid0 id c h1).symm⟩
    · exact .inr mext_new
  have hav : ∀ b, b < w.heap.size → avm av0 (mext m s.h.length w.heap.size) (s.h ++ [some [.mb []]]) b → avm av0 m s.h b := by
    rintro b hb (h1 | h1)
    · exact .inl h1
    · rcases hown b h1 with h2 | h2
      · exact .inr h2
      · omega
  have hold : ∀ id c, s.h[id]? = some (some c) → (s.h ++ [some [.mb []]])[id]? = some (some c) := fun id c hid => by rw [List.getElem?_append_left (id_lt hid)]; exact hid
  have hstep : ∀ {o : Bool} {v : Value} {x : V}, RV w m s.h (avm av0 m s.h) o v x → RV (w.alloc (.map #[] 0)) (mext m s.h.length w.heap.size) (s.h ++ [some [.mb []]]) (avm av0 (mext m s.h.length w.heap.size) (s.h ++ [some [.mb []]])) o v x :=
    fun hx => hx.step (fun b off v hb hcell => ⟨fun h => hb (hav b (World.block_lt_of_cell? w _ hcell) h), hE.cell hcell (fun h => h)⟩)
      (fun id c hid => ⟨c, hold id c hid, Nat.le_refl _, hid0 id c hid, hE.row _ (I.rh.lt hid), rfl⟩)
  refine ⟨⟨?_, ?_, ?_⟩, I.size, fun i hi => hstep (I.slots i hi), I.defers, I.ext.trans' hE (fun _ _ h => h.elim), ?_, I.lt, I.lent, I.gl, I.k, by simp; have := I.len; omega⟩
  · intro i j ci cj h1 h2 he
    rcases hp_snoc h1 with h1 | ⟨rfl, _⟩ <;> rcases hp_snoc h2 with h2 | ⟨rfl, _⟩
    · rw [hid0 i ci h1, hid0 j cj h2] at he
      exact I.rh.inj i j ci cj h1 h2 he
    · rw [hid0 i ci h1, mext_new] at he
      have := I.rh.lt h1; omega
    · rw [hid0 j cj h2, mext_new] at he
      have := I.rh.lt h2; omega
    · rfl
  · intro id c h1
    exact .inr ⟨id, c, h1, rfl⟩
  · intro id c h1
    rcases hp_snoc h1 with h1 | ⟨rfl, h3⟩
    · rw [hid0 id c h1]
      exact (I.rh.blk id c h1).step (hE.block _ (I.rh.lt h1) (fun h => h)) (fun v x => hstep)
    · simp at h3; subst h3
      refine .inr ⟨#[], 0, [], ?_, rfl, rfl⟩
      rw [mext_new]
      exact heap_alloc_new w _
  · intro id c h1
    rcases hp_snoc h1 with h1 | ⟨rfl, _⟩
    · rw [hid0 id c h1]
      exact I.ids id c h1
    · exact .inr ⟨I.len, by rw [mext_new]; exact I.ext.size⟩

theorem heap_setM {w : World} {r : Nat} {o o' : Obj} (hb : w.heap[r]? = some o) : (w.heap.setIfInBounds r o')[r]? = some o' ∧ ∀ r', r' ≠ r → (w.heap.setIfInBounds r o')[r']? = w.heap[r']? := by
  have hlt : r < w.heap.size := (Array.getElem?_eq_some_iff.1 hb).1
  exact ⟨by simp [hlt], fun r' hne => by simp [Ne.symm hne]⟩

/-- A map's contents are written anew. -/
theorem Inv.setMap (I : Inv w0 m0 h0 av0 s a w m) {id : Nat} {es es' : List (Value × Value)} {E E' : Array MapEntry} {c c' : Nat} (hid : s.h[id]? = some (some [.mb es]))
    (hb : w.heap[m id]? = some (.map E c)) (he : es' = E'.toList.map fun e => (e.key, e.val)) :
    Inv w0 m0 h0 av0 { s with h := s.h.set id (some [.mb es']) } a { w with heap := w.heap.setIfInBounds (m id) (.map E' c') } m := by
  obtain ⟨g1, g2⟩ := heap_setM (o' := .map E' c') hb
  have hown : ∀ b, own m (s.h.set id (some [.mb es'])) b → own m s.h b := by
    rintro b ⟨j, c, h1, rfl⟩
    rcases hp_set hid h1 with ⟨rfl, _⟩ | ⟨_, h2⟩
    · exact ⟨j, _, hid, rfl⟩
    · exact ⟨j, c, h2, rfl⟩
  have hav : ∀ b, avm av0 m (s.h.set id (some [.mb es'])) b → avm av0 m s.h b := fun b hb => hb.imp (fun x => x) (hown b)
  have hE : Ext (own m s.h) w { w with heap := w.heap.setIfInBounds (m id) (.map E' c') } := by
    refine ⟨rfl, rfl, rfl, by simp, fun k _ hn => g2 k (fun e => hn (e ▸ ⟨id, _, hid, rfl⟩)), fun k _ => ?_⟩
    by_cases e : k = m id
    · exact Nat.le_trans (Nat.le_of_eq (show rowSize w k = 0 by rw [e]; simp [rowSize, hb])) (Nat.zero_le _)
    · exact Nat.le_of_eq (rowSize_of_block (g2 k e)).symm
  have hstep : ∀ {o : Bool} {v : Value} {x : V}, RV w m s.h (avm av0 m s.h) o v x → RV { w with heap := w.heap.setIfInBounds (m id) (.map E' c') } m (s.h.set id (some [.mb es'])) (avm av0 m (s.h.set id (some [.mb es']))) o v x :=
    fun hx => hx.step (fun b off v hb hc => ⟨fun h => hb (hav b h), hE.cell hc (fun h => hb (.inr h))⟩) (fun j c hj => by
      by_cases e : j = id
      · subst e
        rw [hid] at hj
        simp at hj; subst hj
        exact ⟨[.mb es'], by rw [List.getElem?_set_self (id_lt hid)], Nat.le_refl _, rfl, hE.row _ (I.rh.lt hid), rfl⟩
      · exact ⟨c, by rw [List.getElem?_set_ne (Ne.symm e)]; exact hj, Nat.le_refl _, rfl, hE.row _ (I.rh.lt hj), rfl⟩)
  refine ⟨⟨?_, ?_, ?_⟩, I.size, fun i hi => hstep (I.slots i hi), I.defers, I.ext.trans' hE ?_, ?_, I.lt, I.lent, I.gl, I.k, by simpa using I.len⟩
  · intro i j ci cj h1 h2 he
    have g : ∀ (i : Nat) (ci : List V), (s.h.set id (some [.mb es']))[i]? = some (some ci) → ∃ c, s.h[i]? = some (some c) := by
      intro i ci h1
      rcases hp_set hid h1 with ⟨rfl, _⟩ | ⟨_, h2⟩
      · exact ⟨_, hid⟩
      · exact ⟨ci, h2⟩
    obtain ⟨c1, g1⟩ := g i ci h1
    obtain ⟨c2, g2⟩ := g j cj h2
    exact I.rh.inj i j c1 c2 g1 g2 he
  · intro j c h1
    exact .inr ⟨j, c, h1, rfl⟩
  · intro j c h1
    rcases hp_set hid h1 with ⟨rfl, rfl⟩ | ⟨e, h2⟩
    · exact .inr ⟨E', c', es', g1, rfl, he⟩
    · exact (I.rh.blk j c h2).step (g2 (m j) (fun e2 => e (I.rh.inj j id c _ h2 hid e2))) (fun v x => hstep)
  · rintro b hb ⟨j, c, h1, rfl⟩
    rcases I.ids j c h1 with ⟨h2, c0, h4, _, h3 | ⟨_, h3⟩⟩ | ⟨h2, h3⟩
    · exact ⟨j, c0, h4, h3.symm⟩
    · omega
    · omega
  · intro j c h1
    rcases hp_set hid h1 with ⟨rfl, rfl⟩ | ⟨_, h2⟩
    · have := I.ids j [.mb es] hid
      exact this
    · exact I.ids j c h2

theorem sameNow_eq {d : TypeDesc} {a b : Value} (hk : keyOk d a = true) (h : Instr.sameNow d a b = some true) : a = b := by
  cases d <;> cases a <;> simp [keyOk] at hk <;> cases b <;> simp [Instr.sameNow] at h
  · obtain ⟨rfl, rfl⟩ := h; rfl
  · rw [(MapKept.bytes_beq _ _).1 h]

theorem findNow_at {d : TypeDesc} {k : Value} (hk : keyOk d k = true) : ∀ (l : List MapEntry) (i j : Nat) (v : Value), Instr.findNow d k l i = some (some (j, v)) → ∃ q e, j = i + q ∧ l[q]? = some e ∧ e.key = k
  | [], _, _, _, h => by simp [Instr.findNow] at h
  | e :: l, i, j, v, h => by
    simp only [Instr.findNow] at h
    split at h
    · rename_i h1
      simp at h
      exact ⟨0, e, by omega, rfl, (sameNow_eq hk h1).symm⟩
    · obtain ⟨q, e', h1, h2, h3⟩ := findNow_at hk l (i + 1) j v h
      exact ⟨q + 1, e', by omega, by simpa using h2, h3⟩
    · cases h

/-- A map gets a new value at a key. -/
theorem upd_ok (I : Inv w0 m0 h0 av0 s a w m) {t : TypeId} {x y v : V} {xv yv vv : Value} (hx : RV w m s.h (avm av0 m s.h) true xv x) (hy : RV w m s.h (avm av0 m s.h) true yv y) (hv : RV w m s.h (avm av0 m s.h) true vv v) {K : Hp → Prop}
    (hq : updV P s.h t x y v K) : ∃ h' w', K h' ∧ (Instr.mapUpdate t xv yv vv).run P w = .ok () w' ∧ Inv w0 m0 h0 av0 { s with h := h' } a w' m := by
  unfold updV at hq
  split at hq
  · rename_i id
    split at hq
    · rename_i es hid
      obtain ⟨rfl, E, c, hb, he⟩ := map_at I.rh hx hid
      split at hq
      · rename_i k vl d z hk hvl hm
        obtain ⟨hko, hq⟩ := hq
        have e1 := keyV_ok hy hk
        have e2 := keyV_ok hv hvl
        subst e1 e2
        obtain ⟨kt, e, i, zv, h1, h2, h3, h4, rfl⟩ := mapOf_some hm
        have hkey := keyOk_key hko
        have hck := MapKept.run_checkKey (P := P) (w := w) h2 hkey false 9999
        split at hq
        · rename_i r hf
          rw [he, ← findNow_mp] at hf
          have hfk := MapKept.run_findKey (P := P) (w := w) h2 hf
          cases r with
          | none =>
            refine ⟨_, _, hq, ?_, I.setMap (E' := E.push { key := yv, val := vv, born := c }) (c' := c + 1) hid hb ?_⟩
            · simp [Instr.mapUpdate, run_underlying h1, MapKept.run_getObj_map hb, hck, hfk, MapKept.run_setObj_map _ hb]
            · simp [mpPut, he]
          | some p =>
            obtain ⟨j, val⟩ := p
            obtain ⟨q, en, hj, hq2, hen⟩ := findNow_at hko _ _ _ _ hf
            rw [Nat.zero_add] at hj
            subst hj
            have hEj : E[j]? = some en := by simpa using hq2
            have hst := MapKept.run_keyThatStays (P := P) (w := w) hkey
            refine ⟨_, _, hq, ?_, I.setMap (E' := E.modify j fun e => { e with key := yv, val := vv }) (c' := c) hid hb ?_⟩
            · simp [Instr.mapUpdate, run_underlying h1, MapKept.run_getObj_map hb, hck, hfk, hEj, hen, hst, MapKept.run_setObj_map _ hb]
            · simp only [mpPut, he, Array.toList_modify]
              apply List.ext_getElem?
              intro n
              simp only [List.getElem?_map, List.getElem?_modify]
              by_cases hn : j = n
              · subst hn
                rw [hq2]
                simp [hen]
              · cases E.toList[n]? <;> simp [hn]
        · exact hq.elim
      · exact hq.elim
    · exact hq.elim
  · exact hq.elim

theorem run_stringToBytes (w : World) (sT d e : TypeId) (hd : P.underlying d = some (.slice e)) (he : P.underlying e = some (.int .u8)) (hs : P.underlying sT = some .string) (b : ByteArray) :
    ∃ C : Array Value, C.size = grownCap w b.size 0 e ∧ (∀ i (hi : i < (strCells b).length), C.getD i Go.undef = .int .u8 ((b.data.toList.getD i 0).toNat)) ∧
      (convert sT d (.string b)).run P w = .ok (.slice (some ⟨w.heap.size, 0, none⟩) b.size (grownCap w b.size 0 e)) (w.drew.alloc (.cells C e (C.size, C.size + 1))) := by
  have hge := grownCap_ge w b.size 0 e
  refine ⟨(b.data.map fun c => Value.int .u8 c.toNat) ++ Array.replicate (grownCap w b.size 0 e - b.size) (.int .u8 0), ?_, ?_, ?_⟩
  · simp only [Array.size_append, Array.size_map, Array.size_replicate]
    have : b.data.size = b.size := rfl
    omega
  · intro i hi
    have hi' : i < b.data.size := by simpa [strCells] using hi
    have hi2 : i < b.size := hi'
    rw [getD_append_left _ _ (by simpa using hi')]
    simp [Array.getD, hi2, List.getD]
  · have hC : ∀ C : Array Value, (w.drew.alloc (.cells C e)).freeze ⟨w.heap.size, C.size, none⟩ 1 = w.drew.alloc (.cells C e (C.size, C.size + 1)) := by
      intro C
      simp only [World.freeze, World.alloc]
      rw [if_neg (by decide)]
      congr 1
      have hd : w.drew.heap = w.heap := rfl
      rw [hd]
      apply Array.ext
      · simp
      · intro i h1 h2
        simp only [Array.getElem_modify]
        by_cases hi : w.heap.size = i
        · subst hi
          simp
        · rw [if_neg hi]
          have : i < w.heap.size := by simp at h2; omega
          simp [Array.getElem_push, this]
    have hsh : ∀ C : Array Value, (w.drew.alloc (.cells C e)).shape? w.heap.size = some (e, C.size) := by
      intro C
      have := heap_alloc_new w.drew (.cells C e)
      have hd : w.drew.heap.size = w.heap.size := rfl
      rw [hd] at this
      unfold World.shape?
      rw [this]
    have hcv : (convert sT d (.string b)).run P w = (Conv.stringToBytes e b).run P w := by
      simp [convert, run_underlying hs, run_underlying hd, run_underlying he]
    rw [hcv]
    have hd : w.drew.heap.size = w.heap.size := rfl
    have hnew : ∀ (W : World) (C : Array Value), W.heap.size = w.heap.size → (newObj (.cells C e)).run P W = .ok w.heap.size (W.alloc (.cells C e)) := by
      intro W C h
      rw [← h]
      rfl
    have hfr : (choose (.appendCap b.size 0 e)).run P w = Result.ok (grownCap w b.size 0 e) w.drew := by
      rw [run_choose]
      rfl
    simp only [Conv.stringToBytes, Sem.run_bind, Sem.run_pure, Result.andThen_ok, newRow, markStringish, run_freeze, run_shape]
    rw [hfr]
    simp only [Result.andThen_ok, hnew w.drew _ hd, hsh, run_freeze, hC]

/-- A string's bytes come into a block of our own. -/
theorem convS_ok (I : Inv w0 m0 h0 av0 s a w m) {dst : Option Tmp} {sT d : TypeId} {x : V} {u : Value} (hx : RV w m s.h (avm av0 m s.h) true u x) {K : St → Prop} (hq : convS P s dst sT d x K) :
    ∃ s' v w' m', K s' ∧ (convert sT d u).run P w = .ok v w' ∧ Inv w0 m0 h0 av0 s' (a.put dst v) w' m' := by
  have quiet : ∀ {x : V} {u : Value}, RV w m s.h (avm av0 m s.h) true u x → (convH P s.h sT d x fun v => K (s.put dst v)) → ∃ s' v w' m', K s' ∧ (convert sT d u).run P w = .ok v w' ∧ Inv w0 m0 h0 av0 s' (a.put dst v) w' m' := by
    intro x u hx hq
    obtain ⟨v, y, h1, h2, h3⟩ := convH_ok (P := P) I.rh hx hq
    exact ⟨_, v, w, m, h1, h3, I.put h2⟩
  cases hx with
  | str b =>
    change convB (isU8S P d) _ _ at hq
    generalize hu : isU8S P d = t at hq
    cases t with
    | false => exact quiet (.str b) hq
    | true =>
      obtain ⟨hs, hq⟩ := hq
      obtain ⟨e, g1, g2⟩ := isU8S_some hu
      obtain ⟨C, hC1, hC2, hrun⟩ := run_stringToBytes (P := P) w sT d e g1 g2 (isStr_some hs) b
      have hge := grownCap_ge w b.size 0 e
      have hl : (strCells b).length = b.size := by simp [strCells]
      have ID := I.world (Ext.drew (fun _ => False) w)
      have hrow : ∀ i (hi : i < (strCells b).length), RV w.drew m s.h (avm av0 m s.h) true (C.getD i Go.undef) (strCells b)[i] := by
        intro i hi
        rw [hC2 i hi]
        have hi' : i < b.data.toList.length := by simpa [strCells] using hi
        have hi2 : i < b.size := by simpa using hi'
        have : (strCells b)[i] = .int .u8 ((b.data.toList.getD i 0).toNat) := by simp [strCells, List.getD, hi2]
        rw [this]
        exact .int _ _
      obtain ⟨J, _⟩ := ID.allocF (C.size, C.size + 1) C e (strCells b) (.inr (Nat.le_refl _)) (by omega) hrow
      refine ⟨_, _, _, _, hq, hrun, J.put ?_⟩
      have hdrew : w.drew.heap.size = w.heap.size := rfl
      have := RV.osl (w := w.drew.alloc (.cells C e (C.size, C.size + 1))) (m := mext m s.h.length w.drew.heap.size) (h := s.h ++ [some (strCells b)])
        (av := avm av0 (mext m s.h.length w.drew.heap.size) (s.h ++ [some (strCells b)])) s.h.length 0 b.size (grownCap w b.size 0 e) 1 (strCells b) ⟨by simp, notMb hrow⟩ (by omega) hge (by
          rw [mext_new]
          simp only [rowSize, heap_alloc_new]
          omega)
      rw [mext_new] at this
      exact this
  | undef => exact quiet (.undef _) hq
  | skip => exact quiet .skip hq
  | bool b => exact quiet (.bool b) hq
  | int k n => exact quiet (.int k n) hq
  | osl id off n cap wd cs hid hl hc hs => exact quiet (.osl id off n cap wd cs hid hl hc hs) hq
  | nilsl => exact quiet .nilsl hq
  | _ => exact hq.2.elim

theorem fop_ok (I : Inv w0 m0 h0 av0 s a w m) {o : Oper} {K : St → Prop} (hq : fop P s o K) {Kc : Act → World → Prop} {Q : Exit → Act → World → Prop}
    (hk : ∀ s' a' w' m', K s' → Inv w0 m0 h0 av0 s' a' w' m' → Kc a' w') : o.wp P a w Kc Q := by
  obtain ⟨dst, op, ty, pos, after, guard⟩ := o
  unfold fop at hq
  dsimp only at hq
  split at hq
  · rename_i t
    split at hq
    · rename_i zs hz
      obtain ⟨i, z, h1, h2, rfl⟩ := zeroOf_some hz
      have hrow := row_zero (w := w) (m := m) (h := s.h) (av := avm av0 m s.h) z.cells
      obtain ⟨J, _⟩ := I.alloc z.cells t _ (Nat.le_of_eq hrow.1.symm) hrow.2
      refine wp_value (v := .pointer (some ⟨w.heap.size, 0, none⟩)) (w' := w.alloc (.cells z.cells t)) (by simp [execOp, Instr.alloc, zeroValue, typeInfo, h1, h2, newVar, newRow]) (hk _ _ _ _ hq (J.put (ptr_new (notMb hrow.2))))
    · exact hq.elim
  · rename_i t x
    split at hq
    · rename_i cs hcs
      obtain ⟨g1, g2, g3⟩ := cellsOf_ok (I.ev x) hcs
      obtain ⟨J, _⟩ := I.alloc (a.eval x).cells t cs (Nat.le_of_eq g1.symm) g2
      refine wp_value (v := .pointer (some ⟨w.heap.size, 0, none⟩)) (w' := w.alloc (.cells (a.eval x).cells t)) (by simp [execOp, Instr.box, newVar, newRow]) (hk _ _ _ _ hq (J.put (ptr_new (notMb g2))))
    · exact hq.elim
  · rename_i t parts
    obtain ⟨v, x, h1, h2, h3⟩ := build_ok (P := P) I.ev hq
    exact wp_value (v := v) (w' := w) (by simp [execOp, h3]) (hk _ _ _ _ h1 (I.put h2))
  · rename_i t n parts
    split at hq
    · rename_i e sz by_ he
      split at hq
      · rename_i zs hz
        split at hq
        · rename_i cs hs
          obtain ⟨h1, h2, h3, hq⟩ := hq
          obtain ⟨D, hD, hrun⟩ := buildSlice_ok (P := P) I.ev he hz h1 h2 hs
          obtain ⟨J, _⟩ := I.alloc D e cs (Nat.le_of_eq hD.1.symm) hD.2
          exact wp_value (v := .slice (some ⟨w.heap.size, 0, none⟩) n n) (w' := w.alloc (.cells D e)) (by simp [execOp, hrun]) (hk _ _ _ _ hq (J.put (osl_new (notMb hD.2) (by rw [hD.1, h3]) h3)))
        · exact hq.elim
      · exact hq.elim
    · exact hq.elim
  · rename_i t l c
    obtain ⟨k, n, h1, _, hq⟩ := at_int (I.ev l) hq
    obtain ⟨k', n', h2, _, hq⟩ := at_int (I.ev c) hq
    obtain ⟨rfl, hq⟩ := hq
    split at hq
    · rename_i e sz by_ he
      split at hq
      · rename_i zs hz
        obtain ⟨g1, g2, g3, hq⟩ := hq
        obtain ⟨D, hD, hrun⟩ := makeSlice_ok (P := P) (w := w) (m := m) (h := s.h) (av := avm av0 m s.h) he hz (k := k) (k' := k') g1 g2 g3
        obtain ⟨J, _⟩ := I.alloc D e _ (Nat.le_of_eq hD.1.symm) hD.2
        have hl : (zrow (n'.toNat * sz) zs).length = n'.toNat * sz := by simp [zrow]
        exact wp_value (v := .slice (some ⟨w.heap.size, 0, none⟩) n'.toNat n'.toNat) (w' := w.alloc (.cells D e)) (by simp [execOp, h1, h2, hrun]) (hk _ _ _ _ hq (J.put (osl_new (notMb hD.2) (by rw [hD.1, hl]) hl)))
      · exact hq.elim
    · exact hq.elim
  · rename_i t ad x
    obtain ⟨h', w', h1, h2, h3⟩ := store_ok (P := P) I (I.ev ad) (I.ev x) hq
    unfold Oper.wp
    have hrun : (execOp a.eval ⟨dst, .store t ad x, ty, pos, after, guard⟩).run P w = .ok .skip w' := by simp [execOp, h2]
    rw [hrun]
    exact hk _ _ _ _ h1 (h3.put .skip)
  · rename_i t
    have J := I.newMap
    have hr : RV (w.alloc (.map #[] 0)) (mext m s.h.length w.heap.size) (s.h ++ [some [.mb []]]) (avm av0 (mext m s.h.length w.heap.size) (s.h ++ [some [.mb []]])) true (.map (some w.heap.size)) (.mp s.h.length) := by
      have := RV.mp (w := w.alloc (.map #[] 0)) (m := mext m s.h.length w.heap.size) (h := s.h ++ [some [.mb []]]) (av := avm av0 (mext m s.h.length w.heap.size) (s.h ++ [some [.mb []]])) s.h.length [.mb []] (by simp) rfl
      rwa [mext_new] at this
    exact wp_value (v := .map (some w.heap.size)) (w' := w.alloc (.map #[] 0)) (by simp [execOp]; rfl) (hk _ _ _ _ hq (J.put hr))
  · rename_i t x y v
    obtain ⟨h', w', h1, h2, h3⟩ := upd_ok (P := P) I (I.ev x) (I.ev y) (I.ev v) hq
    unfold Oper.wp
    have hrun : (execOp a.eval ⟨dst, .mapUpdate t x y v, ty, pos, after, guard⟩).run P w = .ok .skip w' := by simp [execOp, h2]
    rw [hrun]
    exact hk _ _ _ _ h1 (h3.put .skip)
  · rename_i sT d x
    obtain ⟨s', v, w', m', h1, h2, h3⟩ := convS_ok (P := P) I (dst := dst) (I.ev x) hq
    exact wp_value (v := v) (w' := w') (by simp [execOp, h2]) (hk _ _ _ _ h1 h3)
  · rename_i x y t u
    obtain ⟨s', r, v, w', m', h1, h2, h3, h4⟩ := append_ok (P := P) (ty := ty) I (I.ev x) (I.ev y) hq
    exact wp_value (v := v) (w' := w') (by simp [execOp, resolve, invoke, builtin, h2]) (hk _ _ _ _ h1 (h3.put h4))
  · rename_i f args ts
    rcases hq with hq | hq
    · exact call_wp I I.ev hq (fun r hout w' v m' avX h1 L => hk _ _ _ _ h1 (L.full dst))
    · have hrm := rows_map (s := s) (av0 := av0) I.ev args
      rcases hq with hq | hq | hq
      · obtain ⟨g, first, cap, s', hu, hok, hkk, hcalls⟩ := callM_ok I (dst := dst) (I.ev f) hrm.1 hrm.2 hq
        unfold Oper.wp
        rw [run_callV hok hu]
        show Calls P g (first ++ args.map a.eval ++ cap) w _
        refine hcalls.mono ?_
        rintro e w' ⟨v, m', rfl, J⟩
        exact hk s' _ w' m' hkk J
      · obtain ⟨g, first, cap, s', hu, hok, hkk, hcalls⟩ := callK_ok I (dst := dst) (I.ev f) hrm.1 hrm.2 hq
        unfold Oper.wp
        rw [run_callV hok hu]
        show Calls P g (first ++ args.map a.eval ++ cap) w _
        refine hcalls.mono ?_
        rintro e w' ⟨v, m', rfl, J⟩
        exact hk s' _ w' m' hkk J
      · obtain ⟨g, first, cap, hu, hok, hcalls⟩ := callR_ok I (dst := dst) (I.ev f) hrm.1 hrm.2 hq
        unfold Oper.wp
        rw [run_callV hok hu]
        show Calls P g (first ++ args.map a.eval ++ cap) w _
        refine hcalls.mono ?_
        rintro e w' ⟨v, m', s', rfl, hkk, J⟩
        exact hk s' _ w' m' hkk J
  · obtain ⟨v, x, h1, h2, h3⟩ := qop_ok (P := P) I.rh I.ev (⟨dst, op, ty, pos, after, guard⟩ : Oper) hq
    exact wp_value h3 (hk _ _ _ _ h1 (I.put h2))

theorem gv_ok (I : Inv w0 m0 h0 av0 s a w m) {ops : Array Oper} {j : Nat} :
    (∀ b, gv ops s.t j = .bool b → yielded ops a.tmps j = some b) ∧ (gv ops s.t j = .skip → yielded ops a.tmps j = none) := by
  unfold gv yielded
  cases hd : (ops[j]?).bind (·.dst) with
  | none => simp
  | some d =>
    simp only [Option.bind_some]
    by_cases hlt : d < s.t.length
    · have hs := I.slots d hlt
      have e1 : s.t.getD d .undef = s.t[d] := by simp [List.getD, hlt]
      have hlt' : d < a.tmps.size := by rw [I.size]; exact hlt
      have e2 : a.tmps[d]? = some (a.tmps.getD d Go.undef) := by simp [Array.getD, hlt']
      rw [e1, e2]
      generalize a.tmps.getD d Go.undef = v at hs
      generalize s.t[d] = x at hs
      constructor
      · rintro b rfl
        cases hs; rfl
      · rintro rfl
        cases hs; rfl
    · have e1 : s.t.getD d .undef = .undef := by simp [List.getD, List.getElem?_eq_none (Nat.le_of_not_lt hlt)]
      rw [e1]
      exact ⟨(fun b h => by cases h), (fun h => by cases h)⟩

/-- What a guard decides, in the world. -/
theorem gdA_ok (I : Inv w0 m0 h0 av0 s a w m) {ops : Array Oper} {o : Oper} {A B : Prop} (hq : gdA ops s.t o.guard A B) :
    (Region.wanted o (yielded ops a.tmps) = true ∧ A) ∨ (Region.wanted o (yielded ops a.tmps) = false ∧ B) := by
  unfold gdA at hq
  unfold Region.wanted
  cases hg : o.guard with
  | none => rw [hg] at hq; exact .inl ⟨rfl, hq⟩
  | some jw =>
    obtain ⟨j, want⟩ := jw
    rw [hg] at hq
    dsimp only at hq ⊢
    have hy := gv_ok I (ops := ops) (j := j)
    unfold guardA at hq
    split at hq
    · rename_i b hb
      rw [hy.1 b hb]
      by_cases e : b = want
      · exact .inl ⟨by simp [e], hq.1 e⟩
      · exact .inr ⟨by simp [e], hq.2 (by cases b <;> cases want <;> simp_all)⟩
    · rename_i hb
      rw [hy.2 hb]
      exact .inr ⟨by simp, hq⟩
    · exact hq.elim

theorem fopsA_ok {ops : Array Oper} {Q : Exit → Act → World → Prop} {K : St → Prop} (hk : ∀ s' a' w' m', K s' → Inv w0 m0 h0 av0 s' a' w' m' → Q .normal a' w') :
    ∀ (l : List Oper) (s : St) (a : Act) (w : World) (m : Nat → Nat), Inv w0 m0 h0 av0 s a w m → fopsA P ops l s K → wpList P ops Q l a w
  | [], s, a, w, m, I, hq => hk s a w m hq I
  | o :: rest, s, a, w, m, I, hq => by
    have ih := fopsA_ok (ops := ops) (Q := Q) hk rest
    unfold wpList
    rcases gdA_ok I hq with ⟨h1, h2⟩ | ⟨h1, h2⟩
    · rw [if_pos h1]
      exact .inl (fop_ok I h2 (fun s' a' w' m' h3 h4 => ih s' a' w' m' h4 h3))
    · rw [if_neg (by simp [h1])]
      exact ih _ _ w m (I.put .skip) h2

end
end Go.Lv
