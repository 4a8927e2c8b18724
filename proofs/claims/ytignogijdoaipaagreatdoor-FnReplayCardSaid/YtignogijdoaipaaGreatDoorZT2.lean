/-
  A part of the proof: texts put together by a program of the prover. Conditions: none.
-/
import Derived.Test.YtignogijdoaipaaGreatDoorZT1
import Derived.Control
set_option linter.unusedSimpArgs false
set_option linter.unusedVariables false
section
open Go.MapKept (IsKey)
namespace Go.Lv

def am3 : List Nat := [58, 104, 213, 214]
def ayq (ts : Array TypeId) : Bool := match ts.toList with
 | t :: _ => yc am3 t
 | [] => false

def amm : List Nat := [179]
def ann : Operand → Bool
 | .func f => yc amm f
 | _ => false

def fe : Op → Bool
 | .call { callee := .value f, argTypes := ts, .. } => !(ayq ts || ann f)
 | .store _ _ _ => false
 | .makeMap _ _ => false
 | .mapUpdate _ _ _ _ => false
 | .insert _ _ _ _ => false
 | .call { callee := .builtin .append, .. } => false
 | _ => true

def vw (k v : Value) : Option (Nat × Value) → List (Value × Value) → List (Value × Value)
 | some (i, _), es => es.modify i fun e => (e.1, v)
 | none, es => es ++ [(k, v)]

def alk (P : Program) (h : Hp) (t : TypeId) (x y v : V) (K : Hp → Prop) : Prop :=
 match x with
 | .mp id => match h[id]? with
  | some (some [.mb es]) => match af3 y, af3 v, mapOf P t with
   | some k, some vl, some (d, _) => yh d k = true ∧ match kn d k es 0 with
    | some r => K (h.set id (some [.mb (vw k vl r es)]))
    | none => False
   | _, _, _ => False
  | _ => False
 | _ => False

def aeg (t : Bool) (A B : Prop) : Prop :=
 match t with
 | true => A
 | false => B
def alb (P : Program) (s : St) (dst : Option Tmp) (sT d : TypeId) (x : V) (K : St → Prop) : Prop :=
 match x with
 | .str b => aeg (sr P d) (isStr P sT = true ∧ K (({ s with h := s.h ++ [some (strCells b)] } : St).put dst (.osl s.h.length 0 b.size 1))) (j5 P s.h sT d (.str b) fun v => K (s.put dst v))
 | x => j5 P s.h sT d x fun v => K (s.put dst v)

def fop (P : Program) (s : St) (o : Oper) (K : St → Prop) : Prop :=
 match o.op with
 | .alloc t => match zeroOf P t with
  | some zs => K (({ s with h := s.h ++ [some zs] } : St).put o.dst (.ptr s.h.length 0))
  | none => False
 | .box _ x => match cellsOf (ev s.t x) with
  | some cs => K (({ s with h := s.h ++ [some cs] } : St).put o.dst (.ptr s.h.length 0))
  | none => False
 | .build t parts => ri P t (parts.toList.map fun p => (p.1, ev s.t p.2)) fun v => K (s.put o.dst v)
 | .buildSlice t n parts => match jo P t with
  | some (e, sz, _) => match zeroOf P e with
   | some _ => match abh sz 0 (parts.toList.map fun p => (p.1, ev s.t p.2)) with
    | some cs => parts.size = n ∧ n * sz ≤ 16777216 ∧ cs.length = n * sz ∧ K (({ s with h := s.h ++ [some cs] } : St).put o.dst (.osl s.h.length 0 n sz))
    | none => False
   | none => False
  | none => False
 | .makeSlice t l c => jg (ev s.t l) fun _ n => jg (ev s.t c) fun _ n' => n' = n ∧ match jo P t with
  | some (e, sz, by_) => match zeroOf P e with
   | some zs => 0 ≤ n ∧ (by_ : Int) * n ≤ 281474976710656 ∧ n ≤ 9223372036854775807 ∧ K (({ s with h := s.h ++ [some (xn (n.toNat * sz) zs)] } : St).put o.dst (.osl s.h.length 0 n.toNat sz))
   | none => False
  | none => False
 | .store t a x => mi P s.h t (ev s.t a) (ev s.t x) fun h' => K (({ s with h := h' } : St).put o.dst .skip)
 | .makeMap _ none => K (({ s with h := s.h ++ [some [.mb []]] } : St).put o.dst (.mp s.h.length))
 | .mapUpdate t m k v => alk P s.h t (ev s.t m) (ev s.t k) (ev s.t v) fun h' => K (({ s with h := h' } : St).put o.dst .skip)
 | .insert t m k v => alk P s.h t (ev s.t m) (ev s.t k) (ev s.t v) fun h' => K (({ s with h := h' } : St).put o.dst .skip)
 | .convert sT d x => alb P s o.dst sT d (ev s.t x) K
 | .call { callee := .builtin .append, args := ⟨[x, y]⟩, argTypes := ⟨[t, u]⟩ } => uz P s t u (ev s.t x) (ev s.t y) fun s' r => K (s'.put o.dst r)
 | .call { callee := .value f, args, .. } => w6 P s.h (ev s.t f) (args.toList.map (ev s.t)) (fun r hout => K (qp s o.dst r hout)) ∨ ar3 P s o.dst (ev s.t f) (args.toList.map (ev s.t)) K ∨ aq8 P s o.dst (ev s.t f) (args.toList.map (ev s.t)) K ∨ asx P s o.dst (ev s.t f) (args.toList.map (ev s.t)) K
 | op => qop P s.h (ev s.t) op fun v => K (s.put o.dst v)

def gv (ops : Array Oper) (t : List V) (j : Nat) : V :=
 match (ops[j]?).bind (·.dst) with
 | some d => t.getD d .undef
 | none => .undef

def vr (want : Bool) (g : V) (A B : Prop) : Prop :=
 match g with
 | .bool b => (b = want → A) ∧ (b = !want → B)
 | .skip => B
 | _ => False

def gdA (ops : Array Oper) (t : List V) (g : Option (Nat × Bool)) (A B : Prop) : Prop :=
 match g with
 | none => A
 | some (j, want) => vr want (gv ops t j) A B

def ib (P : Program) (ops : Array Oper) : List Oper → St → (St → Prop) → Prop
 | [], s, K => K s
 | o :: rest, s, K => gdA ops s.t o.guard (fop P s o fun s' => ib P ops rest s' K) (ib P ops rest (s.put o.dst .skip) K)

section
variable {P : Program} {w0 : World} {m0 : Nat → Nat} {h0 : Hp} {av0 : Nat → Prop} {s : St} {a : Act} {w : World} {m : Nat → Nat}

theorem ft {o : Oper} {v : Value} {w' : World} {K : Act → World → Prop} {Q : Exit → Act → World → Prop} (hr : (execOp a.eval o).run P w = .ok (.value v) w') (hk : K (a.put o.dst v) w') : o.wp P a w K Q := by
 unfold Oper.wp
 rw [hr]
 exact hk

theorem afp {ρ : Operand → V} (hρ : ∀ x, RV w m s.h (avm av0 m s.h) true (a.eval x) (ρ x)) (xs : Array Operand) :
 (xs.map a.eval).size = (xs.toList.map ρ).length ∧ ∀ i (hi : i < (xs.toList.map ρ).length), RV w m s.h (avm av0 m s.h) true ((xs.map a.eval).getD i Go.undef) (xs.toList.map ρ)[i] :=
 th hρ xs

theorem anz (I : Inv w0 m0 h0 av0 s a w m) {ρ : Operand → V} (hρ : ∀ x, RV w m s.h (avm av0 m s.h) true (a.eval x) (ρ x)) {f : Operand} {args : Array Operand} {ts : Array TypeId} {dst : Option Tmp} {ty : TypeId} {pos : String} {after : Array Edge} {gd : Option (Nat × Bool)}
 {K : V → Hp → Prop} (hq : w6 P s.h (ρ f) (args.toList.map ρ) K) {Kc : Act → World → Prop} {Q : Exit → Act → World → Prop}
 (hk : ∀ r hout w' v m' avX, K r hout → Left w0 m0 h0 av0 s a w m w' v r hout m' avX → Kc (a.put dst v) w') :
 (⟨dst, .call { callee := .value f, args, argTypes := ts }, ty, pos, after, gd⟩ : Oper).wp P a w Kc Q := by
 have hrm := afp (s := s) (av0 := av0) hρ args
 obtain ⟨g, first, cap, r, hout, hu, hok, hkk, hcalls⟩ := aot I (hρ f) hrm.1 hrm.2 hq
 unfold Oper.wp
 rw [xx hok hu]
 show Calls P g (first ++ args.map a.eval ++ cap) w _
 refine hcalls.mono ?_
 rintro e w' ⟨v, m', avX, rfl, L⟩
 exact hk r hout w' v m' avX hkk L

theorem ah9 {C : Array Value} {T : TypeId} {cs : List V} {n sz : Nat} (hmb : ix cs = false) (hC : C.size = n * sz) (hcs : cs.length = n * sz) :
 RV (w.alloc (.cells C T)) (gb m s.h.length w.heap.size) (s.h ++ [some cs]) (avm av0 (gb m s.h.length w.heap.size) (s.h ++ [some cs])) true (.slice (some ⟨w.heap.size, 0, none⟩) n n) (.osl s.h.length 0 n sz) := by
 have := RV.osl (w := w.alloc (.cells C T)) (m := gb m s.h.length w.heap.size) (h := s.h ++ [some cs]) (av := avm av0 (gb m s.h.length w.heap.size) (s.h ++ [some cs])) s.h.length 0 n n sz cs ⟨by simp, hmb⟩ (by omega) (Nat.le_refl _) (by
  rw [fg]
  simp only [dh, heap_alloc_new]
  omega)
 rw [fg] at this
 exact this

theorem anu {C : Array Value} {T : TypeId} {cs : List V} (hmb : ix cs = false) :
 RV (w.alloc (.cells C T)) (gb m s.h.length w.heap.size) (s.h ++ [some cs]) (avm av0 (gb m s.h.length w.heap.size) (s.h ++ [some cs])) true (.pointer (some ⟨w.heap.size, 0, none⟩)) (.ptr s.h.length 0) := by
 have := RV.ptr (w := w.alloc (.cells C T)) (m := gb m s.h.length w.heap.size) (h := s.h ++ [some cs]) (av := avm av0 (gb m s.h.length w.heap.size) (s.h ++ [some cs])) s.h.length 0 cs ⟨by simp, hmb⟩
 rw [fg] at this
 exact this

theorem Inv.azx (I : Inv w0 m0 h0 av0 s a w m) :
 Inv w0 m0 h0 av0 { s with h := s.h ++ [some [.mb []]] } a (w.alloc (.map #[] 0)) (gb m s.h.length w.heap.size) := by
 have hE : Ext (fun _ => False) w (w.alloc (.map #[] 0)) := Ext.alloc _ w _
 have hid0 : ∀ id c, s.h[id]? = some (some c) → gb m s.h.length w.heap.size id = m id := fun id c hid => akg (e8 hid)
 have hown : ∀ b, own (gb m s.h.length w.heap.size) (s.h ++ [some [.mb []]]) b → own m s.h b ∨ b = w.heap.size := by
  rintro b ⟨id, c, h1, rfl⟩
  rcases ow h1 with h1 | ⟨rfl, _⟩
  · exact .inl ⟨id, c, h1, (hid0 id c h1).symm⟩
  · exact .inr fg
 have hav : ∀ b, b < w.heap.size → avm av0 (gb m s.h.length w.heap.size) (s.h ++ [some [.mb []]]) b → avm av0 m s.h b := by
  rintro b hb (h1 | h1)
  · exact .inl h1
  · rcases hown b h1 with h2 | h2
    · exact .inr h2
    · omega
 have hold : ∀ id c, s.h[id]? = some (some c) → (s.h ++ [some [.mb []]])[id]? = some (some c) := fun id c hid => by rw [List.getElem?_append_left (e8 hid)]; exact hid
 have hstep : ∀ {o : Bool} {v : Value} {x : V}, RV w m s.h (avm av0 m s.h) o v x → RV (w.alloc (.map #[] 0)) (gb m s.h.length w.heap.size) (s.h ++ [some [.mb []]]) (avm av0 (gb m s.h.length w.heap.size) (s.h ++ [some [.mb []]])) o v x :=
  fun hx => hx.step (fun b off v hb hcell => ⟨fun h => hb (hav b (World.block_lt_of_cell? w _ hcell) h), hE.cell hcell (fun h => h)⟩)
   (fun id c hid => ⟨c, hold id c hid, Nat.le_refl _, hid0 id c hid, hE.row _ (I.rh.lt hid), rfl⟩)
 refine ⟨⟨?_, ?_, ?_⟩, I.size, fun i hi => hstep (I.slots i hi), I.defers, I.ext.trans' hE (fun _ _ h => h.elim), ?_, I.lt, I.lent, I.gl, I.k, by simp; have := I.len; omega⟩
 · intro i j ci cj h1 h2 he
   rcases ow h1 with h1 | ⟨rfl, _⟩ <;> rcases ow h2 with h2 | ⟨rfl, _⟩
   · rw [hid0 i ci h1, hid0 j cj h2] at he
     exact I.rh.inj i j ci cj h1 h2 he
   · rw [hid0 i ci h1, fg] at he
     have := I.rh.lt h1; omega
   · rw [hid0 j cj h2, fg] at he
     have := I.rh.lt h2; omega
   · rfl
 · intro id c h1
   exact .inr ⟨id, c, h1, rfl⟩
 · intro id c h1
   rcases ow h1 with h1 | ⟨rfl, h3⟩
   · rw [hid0 id c h1]
     exact (I.rh.blk id c h1).step (hE.block _ (I.rh.lt h1) (fun h => h)) (fun v x => hstep)
   · simp at h3; subst h3
     refine .inr ⟨#[], 0, [], ?_, rfl, rfl⟩
     rw [fg]
     exact heap_alloc_new w _
 · intro id c h1
   rcases ow h1 with h1 | ⟨rfl, _⟩
   · rw [hid0 id c h1]
     exact I.ids id c h1
   · exact .inr ⟨I.len, by rw [fg]; exact I.ext.size⟩

theorem ap9 {w : World} {r : Nat} {o o' : Obj} (hb : w.heap[r]? = some o) : (w.heap.setIfInBounds r o')[r]? = some o' ∧ ∀ r', r' ≠ r → (w.heap.setIfInBounds r o')[r']? = w.heap[r']? := by
 have hlt : r < w.heap.size := (Array.getElem?_eq_some_iff.1 hb).1
 exact ⟨by simp [hlt], fun r' hne => by simp [Ne.symm hne]⟩

theorem Inv.asm (I : Inv w0 m0 h0 av0 s a w m) {id : Nat} {es es' : List (Value × Value)} {E E' : Array MapEntry} {c c' : Nat} (hid : s.h[id]? = some (some [.mb es]))
 (hb : w.heap[m id]? = some (.map E c)) (he : es' = E'.toList.map fun e => (e.key, e.val)) :
 Inv w0 m0 h0 av0 { s with h := s.h.set id (some [.mb es']) } a { w with heap := w.heap.setIfInBounds (m id) (.map E' c') } m := by
 obtain ⟨g1, g2⟩ := ap9 (o' := .map E' c') hb
 have hown : ∀ b, own m (s.h.set id (some [.mb es'])) b → own m s.h b := by
  rintro b ⟨j, c, h1, rfl⟩
  rcases oe hid h1 with ⟨rfl, _⟩ | ⟨_, h2⟩
  · exact ⟨j, _, hid, rfl⟩
  · exact ⟨j, c, h2, rfl⟩
 have hav : ∀ b, avm av0 m (s.h.set id (some [.mb es'])) b → avm av0 m s.h b := fun b hb => hb.imp (fun x => x) (hown b)
 have hE : Ext (own m s.h) w { w with heap := w.heap.setIfInBounds (m id) (.map E' c') } := by
  refine ⟨rfl, rfl, rfl, by simp, fun k _ hn => g2 k (fun e => hn (e ▸ ⟨id, _, hid, rfl⟩)), fun k _ => ?_⟩
  by_cases e : k = m id
  · exact Nat.le_trans (Nat.le_of_eq (show dh w k = 0 by rw [e]; simp [dh, hb])) (Nat.zero_le _)
  · exact Nat.le_of_eq (iw (g2 k e)).symm
 have hstep : ∀ {o : Bool} {v : Value} {x : V}, RV w m s.h (avm av0 m s.h) o v x → RV { w with heap := w.heap.setIfInBounds (m id) (.map E' c') } m (s.h.set id (some [.mb es'])) (avm av0 m (s.h.set id (some [.mb es']))) o v x :=
  fun hx => hx.step (fun b off v hb hc => ⟨fun h => hb (hav b h), hE.cell hc (fun h => hb (.inr h))⟩) (fun j c hj => by
   by_cases e : j = id
   · subst e
     rw [hid] at hj
     simp at hj; subst hj
     exact ⟨[.mb es'], by rw [List.getElem?_set_self (e8 hid)], Nat.le_refl _, rfl, hE.row _ (I.rh.lt hid), rfl⟩
   · exact ⟨c, by rw [List.getElem?_set_ne (Ne.symm e)]; exact hj, Nat.le_refl _, rfl, hE.row _ (I.rh.lt hj), rfl⟩)
 refine ⟨⟨?_, ?_, ?_⟩, I.size, fun i hi => hstep (I.slots i hi), I.defers, I.ext.trans' hE ?_, ?_, I.lt, I.lent, I.gl, I.k, by simpa using I.len⟩
 · intro i j ci cj h1 h2 he
   have g : ∀ (i : Nat) (ci : List V), (s.h.set id (some [.mb es']))[i]? = some (some ci) → ∃ c, s.h[i]? = some (some c) := by
    intro i ci h1
    rcases oe hid h1 with ⟨rfl, _⟩ | ⟨_, h2⟩
    · exact ⟨_, hid⟩
    · exact ⟨ci, h2⟩
   obtain ⟨c1, g1⟩ := g i ci h1
   obtain ⟨c2, g2⟩ := g j cj h2
   exact I.rh.inj i j c1 c2 g1 g2 he
 · intro j c h1
   exact .inr ⟨j, c, h1, rfl⟩
 · intro j c h1
   rcases oe hid h1 with ⟨rfl, rfl⟩ | ⟨e, h2⟩
   · exact .inr ⟨E', c', es', g1, rfl, he⟩
   · exact (I.rh.blk j c h2).step (g2 (m j) (fun e2 => e (I.rh.inj j id c _ h2 hid e2))) (fun v x => hstep)
 · rintro b hb ⟨j, c, h1, rfl⟩
   rcases I.ids j c h1 with ⟨h2, c0, h4, _, h3 | ⟨_, h3⟩⟩ | ⟨h2, h3⟩
   · exact ⟨j, c0, h4, h3.symm⟩
   · omega
   · omega
 · intro j c h1
   rcases oe hid h1 with ⟨rfl, rfl⟩ | ⟨_, h2⟩
   · have := I.ids j [.mb es] hid
     exact this
   · exact I.ids j c h2

theorem am4 {d : TypeDesc} {a b : Value} (hk : yh d a = true) (h : Instr.sameNow d a b = some true) : a = b := by
 cases d <;> cases a <;> simp [yh] at hk <;> cases b <;> simp [Instr.sameNow] at h
 · obtain ⟨rfl, rfl⟩ := h; rfl
 · rw [(MapKept.bytes_beq _ _).1 h]

theorem ady {d : TypeDesc} {k : Value} (hk : yh d k = true) : ∀ (l : List MapEntry) (i j : Nat) (v : Value), Instr.findNow d k l i = some (some (j, v)) → ∃ q e, j = i + q ∧ l[q]? = some e ∧ e.key = k
 | [], _, _, _, h => by simp [Instr.findNow] at h
 | e :: l, i, j, v, h => by
  simp only [Instr.findNow] at h
  split at h
  · rename_i h1
    simp at h
    exact ⟨0, e, by omega, rfl, (am4 hk h1).symm⟩
  · obtain ⟨q, e', h1, h2, h3⟩ := ady hk l (i + 1) j v h
    exact ⟨q + 1, e', by omega, by simpa using h2, h3⟩
  · cases h

theorem asb (I : Inv w0 m0 h0 av0 s a w m) {t : TypeId} {x y v : V} {xv yv vv : Value} (hx : RV w m s.h (avm av0 m s.h) true xv x) (hy : RV w m s.h (avm av0 m s.h) true yv y) (hv : RV w m s.h (avm av0 m s.h) true vv v) {K : Hp → Prop}
 (hq : alk P s.h t x y v K) : ∃ h' w', K h' ∧ (Instr.mapUpdate t xv yv vv).run P w = .ok () w' ∧ Inv w0 m0 h0 av0 { s with h := h' } a w' m := by
 unfold alk at hq
 split at hq
 · rename_i id
   split at hq
   · rename_i es hid
     obtain ⟨rfl, E, c, hb, he⟩ := asi I.rh hx hid
     split at hq
     · rename_i k vl d z hk hvl hm
       obtain ⟨hko, hq⟩ := hq
       have e1 := ahu hy hk
       have e2 := ahu hv hvl
       subst e1 e2
       obtain ⟨kt, e, i, zv, h1, h2, h3, h4, rfl⟩ := aez hm
       have hkey := ahq hko
       have hck := MapKept.run_checkKey (P := P) (w := w) h2 hkey false 9999
       split at hq
       · rename_i r hf
         rw [he, ← uy] at hf
         have hfk := MapKept.run_findKey (P := P) (w := w) h2 hf
         cases r with
         | none =>
          refine ⟨_, _, hq, ?_, I.asm (E' := E.push { key := yv, val := vv, born := c }) (c' := c + 1) hid hb ?_⟩
          · simp [Instr.mapUpdate, run_underlying h1, MapKept.run_getObj_map hb, hck, hfk, MapKept.run_setObj_map _ hb]
          · simp [vw, he]
         | some p =>
          obtain ⟨j, val⟩ := p
          obtain ⟨q, en, hj, hq2, hen⟩ := ady hko _ _ _ _ hf
          rw [Nat.zero_add] at hj
          subst hj
          have hEj : E[j]? = some en := by simpa using hq2
          have hst := MapKept.run_keyThatStays (P := P) (w := w) hkey
          refine ⟨_, _, hq, ?_, I.asm (E' := E.modify j fun e => { e with key := yv, val := vv }) (c' := c) hid hb ?_⟩
          · simp [Instr.mapUpdate, run_underlying h1, MapKept.run_getObj_map hb, hck, hfk, hEj, hen, hst, MapKept.run_setObj_map _ hb]
          · simp only [vw, he, Array.toList_modify]
            apply List.ext_getElem?
            intro n
            simp only [List.getElem?_map, List.getElem?_modify]
            by_cases hn : j = n
            · subst hn
              rw [hq2]
              simp [hen]
            · cases E.toList[n]? <;> simp [hn]
       · exact hq.elim
     · exact hq.elim
   · exact hq.elim
 · exact hq.elim

theorem sj (w : World) (sT d e : TypeId) (hd : P.underlying d = some (.slice e)) (he : P.underlying e = some (.int .u8)) (hs : P.underlying sT = some .string) (b : ByteArray) :
 ∃ C : Array Value, C.size = grownCap w b.size 0 e ∧ (∀ i (hi : i < (strCells b).length), C.getD i Go.undef = .int .u8 ((b.data.toList.getD i 0).toNat)) ∧
  (convert sT d (.string b)).run P w = .ok (.slice (some ⟨w.heap.size, 0, none⟩) b.size (grownCap w b.size 0 e)) (w.drew.alloc (.cells C e (C.size, C.size + 1))) := by
 have hge := grownCap_ge w b.size 0 e
 refine ⟨(b.data.map fun c => Value.int .u8 c.toNat) ++ Array.replicate (grownCap w b.size 0 e - b.size) (.int .u8 0), ?_, ?_, ?_⟩
 · simp only [Array.size_append, Array.size_map, Array.size_replicate]
   have : b.data.size = b.size := rfl
   omega
 · intro i hi
   have hi' : i < b.data.size := by simpa [strCells] using hi
   have hi2 : i < b.size := hi'
   rw [iq _ _ (by simpa using hi')]
   simp [Array.getD, hi2, List.getD]
 · have hC : ∀ C : Array Value, (w.drew.alloc (.cells C e)).freeze ⟨w.heap.size, C.size, none⟩ 1 = w.drew.alloc (.cells C e (C.size, C.size + 1)) := by
    intro C
    simp only [World.freeze, World.alloc]
    rw [if_neg (by decide)]
    congr 1
    have hd : w.drew.heap = w.heap := rfl
    rw [hd]
    apply Array.ext
    · simp
    · intro i h1 h2
      simp only [Array.getElem_modify]
      by_cases hi : w.heap.size = i
      · subst hi
        simp
      · rw [if_neg hi]
        have : i < w.heap.size := by simp at h2; omega
        simp [Array.getElem_push, this]
   have hsh : ∀ C : Array Value, (w.drew.alloc (.cells C e)).shape? w.heap.size = some (e, C.size) := by
    intro C
    have := heap_alloc_new w.drew (.cells C e)
    have hd : w.drew.heap.size = w.heap.size := rfl
    rw [hd] at this
    unfold World.shape?
    rw [this]
   have hcv : (convert sT d (.string b)).run P w = (Conv.stringToBytes e b).run P w := by
    simp [convert, run_underlying hs, run_underlying hd, run_underlying he]
   rw [hcv]
   have hd : w.drew.heap.size = w.heap.size := rfl
   have hnew : ∀ (W : World) (C : Array Value), W.heap.size = w.heap.size → (newObj (.cells C e)).run P W = .ok w.heap.size (W.alloc (.cells C e)) := by
    intro W C h
    rw [← h]
    rfl
   have hfr : (choose (.appendCap b.size 0 e)).run P w = Result.ok (grownCap w b.size 0 e) w.drew := by
    rw [run_choose]
    rfl
   simp only [Conv.stringToBytes, Sem.run_bind, Sem.run_pure, Result.andThen_ok, newRow, markStringish, run_freeze, run_shape]
   rw [hfr]
   simp only [Result.andThen_ok, hnew w.drew _ hd, hsh, run_freeze, hC]

theorem aqn (I : Inv w0 m0 h0 av0 s a w m) {dst : Option Tmp} {sT d : TypeId} {x : V} {u : Value} (hx : RV w m s.h (avm av0 m s.h) true u x) {K : St → Prop} (hq : alb P s dst sT d x K) :
 ∃ s' v w' m', K s' ∧ (convert sT d u).run P w = .ok v w' ∧ Inv w0 m0 h0 av0 s' (a.put dst v) w' m' := by
 have quiet : ∀ {x : V} {u : Value}, RV w m s.h (avm av0 m s.h) true u x → (j5 P s.h sT d x fun v => K (s.put dst v)) → ∃ s' v w' m', K s' ∧ (convert sT d u).run P w = .ok v w' ∧ Inv w0 m0 h0 av0 s' (a.put dst v) w' m' := by
  intro x u hx hq
  obtain ⟨v, y, h1, h2, h3⟩ := ak6 (P := P) I.rh hx hq
  exact ⟨_, v, w, m, h1, h3, I.put h2⟩
 cases hx with
 | str b =>
  change aeg (sr P d) _ _ at hq
  generalize hu : sr P d = t at hq
  cases t with
  | false => exact quiet (.str b) hq
  | true =>
   obtain ⟨hs, hq⟩ := hq
   obtain ⟨e, g1, g2⟩ := y0 hu
   obtain ⟨C, hC1, hC2, hrun⟩ := sj (P := P) w sT d e g1 g2 (kl hs) b
   have hge := grownCap_ge w b.size 0 e
   have hl : (strCells b).length = b.size := by simp [strCells]
   have ID := I.world (Ext.drew (fun _ => False) w)
   have hrow : ∀ i (hi : i < (strCells b).length), RV w.drew m s.h (avm av0 m s.h) true (C.getD i Go.undef) (strCells b)[i] := by
    intro i hi
    rw [hC2 i hi]
    have hi' : i < b.data.toList.length := by simpa [strCells] using hi
    have hi2 : i < b.size := by simpa using hi'
    have : (strCells b)[i] = .int .u8 ((b.data.toList.getD i 0).toNat) := by simp [strCells, List.getD, hi2]
    rw [this]
    exact .int _ _
   obtain ⟨J, _⟩ := ID.as4 (C.size, C.size + 1) C e (strCells b) (.inr (Nat.le_refl _)) (by omega) hrow
   refine ⟨_, _, _, _, hq, hrun, J.put ?_⟩
   have hdrew : w.drew.heap.size = w.heap.size := rfl
   have := RV.osl (w := w.drew.alloc (.cells C e (C.size, C.size + 1))) (m := gb m s.h.length w.drew.heap.size) (h := s.h ++ [some (strCells b)])
    (av := avm av0 (gb m s.h.length w.drew.heap.size) (s.h ++ [some (strCells b)])) s.h.length 0 b.size (grownCap w b.size 0 e) 1 (strCells b) ⟨by simp, o9 hrow⟩ (by omega) hge (by
     rw [fg]
     simp only [dh, heap_alloc_new]
     omega)
   rw [fg] at this
   exact this
 | undef => exact quiet (.undef _) hq
 | skip => exact quiet .skip hq
 | bool b => exact quiet (.bool b) hq
 | int k n => exact quiet (.int k n) hq
 | osl id off n cap wd cs hid hl hc hs => exact quiet (.osl id off n cap wd cs hid hl hc hs) hq
 | nilsl => exact quiet .nilsl hq
 | _ => exact hq.2.elim

theorem afo (I : Inv w0 m0 h0 av0 s a w m) {o : Oper} {K : St → Prop} (hq : fop P s o K) {Kc : Act → World → Prop} {Q : Exit → Act → World → Prop}
 (hk : ∀ s' a' w' m', K s' → Inv w0 m0 h0 av0 s' a' w' m' → Kc a' w') : o.wp P a w Kc Q := by
 obtain ⟨dst, op, ty, pos, after, guard⟩ := o
 unfold fop at hq
 dsimp only at hq
 split at hq
 · rename_i t
   split at hq
   · rename_i zs hz
     obtain ⟨i, z, h1, h2, rfl⟩ := j9 hz
     have hrow := aa1 (w := w) (m := m) (h := s.h) (av := avm av0 m s.h) z.cells
     obtain ⟨J, _⟩ := I.alloc z.cells t _ (Nat.le_of_eq hrow.1.symm) hrow.2
     refine ft (v := .pointer (some ⟨w.heap.size, 0, none⟩)) (w' := w.alloc (.cells z.cells t)) (by simp [execOp, Instr.alloc, zeroValue, typeInfo, h1, h2, newVar, newRow]) (hk _ _ _ _ hq (J.put (anu (o9 hrow.2))))
   · exact hq.elim
 · rename_i t x
   split at hq
   · rename_i cs hcs
     obtain ⟨g1, g2, g3⟩ := va (I.ev x) hcs
     obtain ⟨J, _⟩ := I.alloc (a.eval x).cells t cs (Nat.le_of_eq g1.symm) g2
     refine ft (v := .pointer (some ⟨w.heap.size, 0, none⟩)) (w' := w.alloc (.cells (a.eval x).cells t)) (by simp [execOp, Instr.box, newVar, newRow]) (hk _ _ _ _ hq (J.put (anu (o9 g2))))
   · exact hq.elim
 · rename_i t parts
   obtain ⟨v, x, h1, h2, h3⟩ := aka (P := P) I.ev hq
   exact ft (v := v) (w' := w) (by simp [execOp, h3]) (hk _ _ _ _ h1 (I.put h2))
 · rename_i t n parts
   split at hq
   · rename_i e sz by_ he
     split at hq
     · rename_i zs hz
       split at hq
       · rename_i cs hs
         obtain ⟨h1, h2, h3, hq⟩ := hq
         obtain ⟨D, hD, hrun⟩ := s9 (P := P) I.ev he hz h1 h2 hs
         obtain ⟨J, _⟩ := I.alloc D e cs (Nat.le_of_eq hD.1.symm) hD.2
         exact ft (v := .slice (some ⟨w.heap.size, 0, none⟩) n n) (w' := w.alloc (.cells D e)) (by simp [execOp, hrun]) (hk _ _ _ _ hq (J.put (ah9 (o9 hD.2) (by rw [hD.1, h3]) h3)))
       · exact hq.elim
     · exact hq.elim
   · exact hq.elim
 · rename_i t l c
   obtain ⟨k, n, h1, _, hq⟩ := l9 (I.ev l) hq
   obtain ⟨k', n', h2, _, hq⟩ := l9 (I.ev c) hq
   obtain ⟨rfl, hq⟩ := hq
   split at hq
   · rename_i e sz by_ he
     split at hq
     · rename_i zs hz
       obtain ⟨g1, g2, g3, hq⟩ := hq
       obtain ⟨D, hD, hrun⟩ := aat (P := P) (w := w) (m := m) (h := s.h) (av := avm av0 m s.h) he hz (k := k) (k' := k') g1 g2 g3
       obtain ⟨J, _⟩ := I.alloc D e _ (Nat.le_of_eq hD.1.symm) hD.2
       have hl : (xn (n'.toNat * sz) zs).length = n'.toNat * sz := by simp [xn]
       exact ft (v := .slice (some ⟨w.heap.size, 0, none⟩) n'.toNat n'.toNat) (w' := w.alloc (.cells D e)) (by simp [execOp, h1, h2, hrun]) (hk _ _ _ _ hq (J.put (ah9 (o9 hD.2) (by rw [hD.1, hl]) hl)))
     · exact hq.elim
   · exact hq.elim
 · rename_i t ad x
   obtain ⟨h', w', h1, h2, h3⟩ := atp (P := P) I (I.ev ad) (I.ev x) hq
   unfold Oper.wp
   have hrun : (execOp a.eval ⟨dst, .store t ad x, ty, pos, after, guard⟩).run P w = .ok .skip w' := by simp [execOp, h2]
   rw [hrun]
   exact hk _ _ _ _ h1 (h3.put .skip)
 · rename_i t
   have J := I.azx
   have hr : RV (w.alloc (.map #[] 0)) (gb m s.h.length w.heap.size) (s.h ++ [some [.mb []]]) (avm av0 (gb m s.h.length w.heap.size) (s.h ++ [some [.mb []]])) true (.map (some w.heap.size)) (.mp s.h.length) := by
    have := RV.mp (w := w.alloc (.map #[] 0)) (m := gb m s.h.length w.heap.size) (h := s.h ++ [some [.mb []]]) (av := avm av0 (gb m s.h.length w.heap.size) (s.h ++ [some [.mb []]])) s.h.length [.mb []] (by simp) rfl
    rwa [fg] at this
   exact ft (v := .map (some w.heap.size)) (w' := w.alloc (.map #[] 0)) (by simp [execOp]; rfl) (hk _ _ _ _ hq (J.put hr))
 · rename_i t x y v
   obtain ⟨h', w', h1, h2, h3⟩ := asb (P := P) I (I.ev x) (I.ev y) (I.ev v) hq
   unfold Oper.wp
   have hrun : (execOp a.eval ⟨dst, .mapUpdate t x y v, ty, pos, after, guard⟩).run P w = .ok .skip w' := by simp [execOp, h2]
   rw [hrun]
   exact hk _ _ _ _ h1 (h3.put .skip)
 · rename_i t x y v
   obtain ⟨h', w', h1, h2, h3⟩ := asb (P := P) I (I.ev x) (I.ev y) (I.ev v) hq
   unfold Oper.wp
   have hrun : (execOp a.eval ⟨dst, .insert t x y v, ty, pos, after, guard⟩).run P w = .ok .skip w' := by simp [execOp, h2]
   rw [hrun]
   exact hk _ _ _ _ h1 (h3.put .skip)
 · rename_i sT d x
   obtain ⟨s', v, w', m', h1, h2, h3⟩ := aqn (P := P) I (dst := dst) (I.ev x) hq
   exact ft (v := v) (w' := w') (by simp [execOp, h2]) (hk _ _ _ _ h1 h3)
 · rename_i x y t u
   obtain ⟨s', r, v, w', m', h1, h2, h3, h4⟩ := aou (P := P) (ty := ty) I (I.ev x) (I.ev y) hq
   exact ft (v := v) (w' := w') (by simp [execOp, resolve, invoke, builtin, h2]) (hk _ _ _ _ h1 (h3.put h4))
 · rename_i f args ts
   rcases hq with hq | hq
   · exact anz I I.ev hq (fun r hout w' v m' avX h1 L => hk _ _ _ _ h1 (L.full dst))
   · have hrm := afp (s := s) (av0 := av0) I.ev args
     rcases hq with hq | hq | hq
     · obtain ⟨g, first, cap, s', hu, hok, hkk, hcalls⟩ := asy I (dst := dst) (I.ev f) hrm.1 hrm.2 hq
       unfold Oper.wp
       rw [xx hok hu]
       show Calls P g (first ++ args.map a.eval ++ cap) w _
       refine hcalls.mono ?_
       rintro e w' ⟨v, m', rfl, J⟩
       exact hk s' _ w' m' hkk J
     · obtain ⟨g, first, cap, s', hu, hok, hkk, hcalls⟩ := arz I (dst := dst) (I.ev f) hrm.1 hrm.2 hq
       unfold Oper.wp
       rw [xx hok hu]
       show Calls P g (first ++ args.map a.eval ++ cap) w _
       refine hcalls.mono ?_
       rintro e w' ⟨v, m', rfl, J⟩
       exact hk s' _ w' m' hkk J
     · obtain ⟨g, first, cap, hu, hok, hcalls⟩ := aqq I (dst := dst) (I.ev f) hrm.1 hrm.2 hq
       unfold Oper.wp
       rw [xx hok hu]
       show Calls P g (first ++ args.map a.eval ++ cap) w _
       refine hcalls.mono ?_
       rintro e w' ⟨v, m', s', rfl, hkk, J⟩
       exact hk s' _ w' m' hkk J
 · obtain ⟨v, x, h1, h2, h3⟩ := amz (P := P) I.rh I.ev (⟨dst, op, ty, pos, after, guard⟩ : Oper) hq
   exact ft h3 (hk _ _ _ _ h1 (I.put h2))

theorem a7z (I : Inv w0 m0 h0 av0 s a w m) {ops : Array Oper} {j : Nat} :
 (∀ b, gv ops s.t j = .bool b → yielded ops a.tmps j = some b) ∧ (gv ops s.t j = .skip → yielded ops a.tmps j = none) := by
 unfold gv yielded
 cases hd : (ops[j]?).bind (·.dst) with
 | none => simp
 | some d =>
  simp only [Option.bind_some]
  by_cases hlt : d < s.t.length
  · have hs := I.slots d hlt
    have e1 : s.t.getD d .undef = s.t[d] := by simp [List.getD, hlt]
    have hlt' : d < a.tmps.size := by rw [I.size]; exact hlt
    have e2 : a.tmps[d]? = some (a.tmps.getD d Go.undef) := by simp [Array.getD, hlt']
    rw [e1, e2]
    generalize a.tmps.getD d Go.undef = v at hs
    generalize s.t[d] = x at hs
    constructor
    · rintro b rfl
      cases hs; rfl
    · rintro rfl
      cases hs; rfl
  · have e1 : s.t.getD d .undef = .undef := by simp [List.getD, List.getElem?_eq_none (Nat.le_of_not_lt hlt)]
    rw [e1]
    exact ⟨(fun b h => by cases h), (fun h => by cases h)⟩

theorem oo (I : Inv w0 m0 h0 av0 s a w m) {ops : Array Oper} {o : Oper} {A B : Prop} (hq : gdA ops s.t o.guard A B) :
 (Region.wanted o (yielded ops a.tmps) = true ∧ A) ∨ (Region.wanted o (yielded ops a.tmps) = false ∧ B) := by
 unfold gdA at hq
 unfold Region.wanted
 cases hg : o.guard with
 | none => rw [hg] at hq; exact .inl ⟨rfl, hq⟩
 | some jw =>
  obtain ⟨j, want⟩ := jw
  rw [hg] at hq
  dsimp only at hq ⊢
  have hy := a7z I (ops := ops) (j := j)
  unfold vr at hq
  split at hq
  · rename_i b hb
    rw [hy.1 b hb]
    by_cases e : b = want
    · exact .inl ⟨by simp [e], hq.1 e⟩
    · exact .inr ⟨by simp [e], hq.2 (by cases b <;> cases want <;> simp_all)⟩
  · rename_i hb
    rw [hy.2 hb]
    exact .inr ⟨by simp, hq⟩
  · exact hq.elim

theorem ale {ops : Array Oper} {Q : Exit → Act → World → Prop} {K : St → Prop} (hk : ∀ s' a' w' m', K s' → Inv w0 m0 h0 av0 s' a' w' m' → Q .normal a' w') :
 ∀ (l : List Oper) (s : St) (a : Act) (w : World) (m : Nat → Nat), Inv w0 m0 h0 av0 s a w m → ib P ops l s K → wpList P ops Q l a w
 | [], s, a, w, m, I, hq => hk s a w m hq I
 | o :: rest, s, a, w, m, I, hq => by
  have ih := ale (ops := ops) (Q := Q) hk rest
  unfold wpList
  rcases oo I hq with ⟨h1, h2⟩ | ⟨h1, h2⟩
  · rw [if_pos h1]
    exact .inl (afo I h2 (fun s' a' w' m' h3 h4 => ih s' a' w' m' h4 h3))
  · rw [if_neg (by simp [h1])]
    exact ih _ _ w m (I.put .skip) h2

end
end Go.Lv
end
section
namespace Go.Lv

def tf (p : Nat → Bool) : Nat → V → Bool
 | _, .osl id _ _ _ => p id
 | _, .ptr id _ => p id
 | _, .mp _ => false
 | d + 1, .agg cs => cs.all (tf p d)
 | d + 1, .tup cs => cs.all (tf p d)
 | d + 1, .fn _ a c => a.all (tf p d) && c.all (tf p d)
 | 0, .agg _ => false
 | 0, .tup _ => false
 | 0, .fn _ _ _ => false
 | _, _ => true
def ami (h : Hp) : Nat → Nat → Bool
 | 0, _ => false
 | n + 1, id => match h[id]? with
  | some (some cs) => cs.all (tf (ami h n) 2)
  | _ => false
def pw (h : Hp) (d : Nat) (v : V) : Bool := tf (ami h 3) d v

def ahb (P : Program) (h : Hp) (sT d : TypeId) (x : V) (K : V → Hp → Prop) : Prop :=
 match x with
 | .str b => aeg (sr P d) (isStr P sT = true ∧ K (.osl h.length 0 b.size 1) [some (strCells b)]) (j5 P h sT d (.str b) fun v => K v [])
 | x => j5 P h sT d x fun v => K v []
def gop (P : Program) (h : Hp) (ρ : Operand → V) (op : Op) (K : V → Hp → Prop) : Prop :=
 match op with
 | .alloc t => match zeroOf P t with
  | some zs => K (.ptr h.length 0) [some zs]
  | none => False
 | .box _ x => match cellsOf (ρ x) with
  | some cs => K (.ptr h.length 0) [some cs]
  | none => False
 | .build t parts => ri P t (parts.toList.map fun p => (p.1, ρ p.2)) fun v => K v []
 | .buildSlice t n parts => match jo P t with
  | some (e, sz, _) => match zeroOf P e with
   | some _ => match abh sz 0 (parts.toList.map fun p => (p.1, ρ p.2)) with
    | some cs => parts.size = n ∧ n * sz ≤ 16777216 ∧ cs.length = n * sz ∧ K (.osl h.length 0 n sz) [some cs]
    | none => False
   | none => False
  | none => False
 | .makeSlice t l c => jg (ρ l) fun _ n => jg (ρ c) fun _ n' => n' = n ∧ match jo P t with
  | some (e, sz, by_) => match zeroOf P e with
   | some zs => 0 ≤ n ∧ (by_ : Int) * n ≤ 281474976710656 ∧ n ≤ 9223372036854775807 ∧ K (.osl h.length 0 n.toNat sz) [some (xn (n.toNat * sz) zs)]
   | none => False
  | none => False
 | .call { callee := .value f, args, .. } => (pw h 4 (ρ f) = true ∧ (args.toList.map ρ).all (pw h 3) = true) ∧ w6 P h (ρ f) (args.toList.map ρ) fun r hout => K (ren (shf h.length) 3 r) (shH h.length hout)
 | .convert sT d x => ahb P h sT d (ρ x) K
 | op => qop P h ρ op fun v => K v []

section
variable {P : Program} {w : World} {m : Nat → Nat} {hc ht : Hp} {av : Nat → Prop}

theorem ala {p : Nat → Bool} {f g : Nat → R} (hp : ∀ id cs, hc[id]? = some (some cs) → p id = true → f id = g id) {o : Bool} {v : Value} {x : V} (hx : RV w m hc av o v x) :
 ∀ d e, tf p d x = true → ren f e x = ren g e x := by
 induction hx with
 | osl id off n cap wd cs hid hl hc' hs =>
  intro d e h
  have h' : p id = true := by cases d <;> exact h
  have := hp id cs hid.1 h'
  cases e <;> simp only [ren, this]
 | ptr id off cs hid =>
  intro d e h
  have h' : p id = true := by cases d <;> exact h
  have := hp id cs hid.1 h'
  cases e <;> simp only [ren, this]
 | mp id cs hid hm => intro d e h; cases d <;> simp [tf] at h
 | fn f a c a' c' ha hc' hra hrc iha ihc =>
  intro d e h
  cases d with
  | zero => simp [tf] at h
  | succ d =>
   simp only [tf, Bool.and_eq_true, List.all_eq_true] at h
   cases e with
   | zero => rfl
   | succ e =>
    simp only [ren]
    congr 1
    · refine List.map_congr_left fun x hx => ?_
      obtain ⟨i, hi, rfl⟩ := List.getElem_of_mem hx
      exact iha i hi d e (h.1 _ hx)
    · refine List.map_congr_left fun x hx => ?_
      obtain ⟨i, hi, rfl⟩ := List.getElem_of_mem hx
      exact ihc i hi d e (h.2 _ hx)
 | agg a a' ha hra iha =>
  intro d e h
  cases d with
  | zero => simp [tf] at h
  | succ d =>
   simp only [tf, List.all_eq_true] at h
   cases e with
   | zero => rfl
   | succ e =>
    simp only [ren]
    congr 1
    refine List.map_congr_left fun x hx => ?_
    obtain ⟨i, hi, rfl⟩ := List.getElem_of_mem hx
    exact iha i hi d e (h _ hx)
 | tup a a' ha hra iha =>
  intro d e h
  cases d with
  | zero => simp [tf] at h
  | succ d =>
   simp only [tf, List.all_eq_true] at h
   cases e with
   | zero => rfl
   | succ e =>
    simp only [ren]
    congr 1
    refine List.map_congr_left fun x hx => ?_
    obtain ⟨i, hi, rfl⟩ := List.getElem_of_mem hx
    exact iha i hi d e (h _ hx)
 | _ => intro d e _; cases e <;> rfl
theorem aqo (H : RH w m hc av) (hcmp : ∀ (id : Nat) (cs cs' : List V), hc[id]? = some (some cs) → ht[id]? = some (some cs') → cs = cs') :
 ∀ n k id cs, hc[id]? = some (some cs) → ami ht n id = true → fh ht k id = fh hc k id := by
 intro n
 induction n with
 | zero => intro k id cs _ h; simp [ami] at h
 | succ n ih =>
  intro k id cs hid h
  cases k with
  | zero => rfl
  | succ k =>
   unfold ami at h
   split at h
   · rename_i cs' h1
     have := hcmp id cs cs' hid h1
     subst this
     simp only [fh, h1, hid]
     congr 1
     refine List.map_congr_left fun x hx => ?_
     by_cases hmb : ix cs = true
     · match cs, hmb, hx with
       | [y], hmb, hx =>
        have := List.mem_singleton.1 hx
        subst this
        cases x <;> first | rfl | (simp [ix, axl] at hmb; done)
     · obtain ⟨C, T, _, _, _, _, g3⟩ := (H.blk id cs hid).cells (by simpa using hmb)
       obtain ⟨i, hi, rfl⟩ := List.getElem_of_mem hx
       exact ala (fun j c hj hp => ih k j c hj hp) (g3 i hi) 2 2 (List.all_eq_true.1 h _ hx)
   · cases h
theorem ajj (H : RH w m hc av) (hcmp : ∀ (id : Nat) (cs cs' : List V), hc[id]? = some (some cs) → ht[id]? = some (some cs') → cs = cs') {o : Bool} {v : Value} {x : V} (hx : RV w m hc av o v x) :
 ∀ d e, pw ht d x = true → ren (fh ht 3) e x = ren (fh hc 3) e x := fun d e h =>
 ala (fun j c hj hp => aqo H hcmp 3 3 j c hj hp) hx d e h

theorem aol (H : RH w m hc av) (hcmp : ∀ (id : Nat) (cs cs' : List V), hc[id]? = some (some cs) → ht[id]? = some (some cs') → cs = cs') {fv : V} {u : Value} {args : List V} {vs : List Value} (hf : RV w m hc av true u fv)
 (hlen : vs.length = args.length) (ha : ∀ i (hi : i < args.length), RV w m hc av true (vs.getD i Go.undef) args[i]) (hrf : pw ht 4 fv = true) (hra : args.all (pw ht 3) = true)
 {K : V → Hp → Prop} (hq : w6 P ht fv args K) : w6 P hc fv args K := by
 unfold w6 at *
 split at hq
 · rename_i g a c
   obtain ⟨as', r, hout, hle, h1, h2, h3⟩ := hq
   refine ⟨as', r, hout, ?_, h1, h2, h3⟩
   have e : (a ++ args ++ c).map (ren (fh hc 3) 3) = (a ++ args ++ c).map (ren (fh ht 3) 3) := by
    simp only [pw, tf, Bool.and_eq_true, List.all_eq_true] at hrf
    cases hf with
    | fn f aa ca a' c' haa hca hraa hrca =>
     refine List.map_congr_left fun x hx => ?_
     simp only [List.mem_append] at hx
     rcases hx with (hx | hx) | hx
     · obtain ⟨i, hi, rfl⟩ := List.getElem_of_mem hx
       exact (ajj H hcmp (hraa i hi) 3 3 (hrf.1 _ hx)).symm
     · obtain ⟨i, hi, rfl⟩ := List.getElem_of_mem hx
       exact (ajj H hcmp (ha i hi) 3 3 (List.all_eq_true.1 hra _ hx)).symm
     · obtain ⟨i, hi, rfl⟩ := List.getElem_of_mem hx
       exact (ajj H hcmp (hrca i hi) 3 3 (hrf.2 _ hx)).symm
   rw [e]
   exact hle
 · exact hq

def adg : Op → Bool
 | .load _ _ => true
 | .lookup _ _ _ _ => true
 | .convert _ _ _ => true
 | _ => false

theorem ary {ρ : Operand → V} {op : Op} {K : V → Prop} (hr : adg op = false) : qop P ht ρ op K = qop P hc ρ op K := by
 unfold qop
 split <;> first | rfl | (simp [adg] at hr)

theorem ana (hcmp : ∀ (id : Nat) (cs cs' : List V), hc[id]? = some (some cs) → ht[id]? = some (some cs') → cs = cs') {a : Operand → Value} {ρ : Operand → V} (hρ : ∀ x, RV w m hc av true (a x) (ρ x)) {op : Op} {K : V → Prop}
 (hq : qop P ht ρ op K) : qop P hc ρ op K := by
 by_cases hr : adg op = false
 · rw [← ary (ht := ht) hr]; exact hq
 · cases op with
   | load t x =>
    change pq P ht t (ρ x) K at hq
    show pq P hc t (ρ x) K
    have hx := hρ x
    clear hρ
    unfold pq at *
    generalize a x = vv at hx
    generalize ρ x = y at hx hq ⊢
    cases hx with
    | ptr id off cs hid =>
     dsimp only at *
     split at hq
     · split at hq
       · rename_i cs' h1
         have := hcmp id cs cs' hid.1 h1
         subst this
         simp only [hid.1]
         exact hq
       · exact hq.elim
     · exact hq.elim
    | _ => exact hq
   | lookup t x y ok =>
    change ks P ht t (ρ x) (ρ y) ok K at hq
    show ks P hc t (ρ x) (ρ y) ok K
    have hx := hρ x
    clear hρ
    unfold ks at *
    generalize a x = vv at hx
    generalize ρ x = z at hx hq ⊢
    cases hx with
    | mp id cs hid hm =>
     dsimp only at *
     split at hq
     · rename_i es h1
       have := hcmp id cs _ hid h1
       subst this
       simp only [hid]
       exact hq
     · exact hq.elim
    | _ => exact hq
   | convert s d x =>
    change j5 P ht s d (ρ x) K at hq
    show j5 P hc s d (ρ x) K
    have hx := hρ x
    clear hρ
    generalize a x = vv at hx
    generalize ρ x = z at hx hq ⊢
    cases hx with
    | osl id off n cap wd cs hid hl hc' hs =>
     unfold j5 at *
     dsimp only at *
     refine ⟨hq.1, ?_⟩
     replace hq := hq.2
     split at hq
     · rename_i cs' h1
       have := hcmp id cs cs' hid.1 h1
       subst this
       simp only [hid.1]
       exact hq
     · exact hq.elim
    | _ => exact hq
   | _ => simp [adg] at hr

end

def dv : Hp → Nat → Hp → Hp
 | h, _, [] => h
 | h, off, b :: bs => dv (h.set off b) (off + 1) bs

theorem ye : ∀ (bs h : Hp) (off : Nat), (dv h off bs).length = h.length
 | [], h, off => rfl
 | b :: bs, h, off => by
  show (dv (h.set off b) (off + 1) bs).length = _
  rw [ye bs]; simp
theorem px : ∀ (bs h : Hp) (off j : Nat), (j < off ∨ off + bs.length ≤ j) → (dv h off bs)[j]? = h[j]?
 | [], h, off, j, _ => rfl
 | b :: bs, h, off, j, hj => by
  simp only [List.length_cons] at hj
  show (dv (h.set off b) (off + 1) bs)[j]? = _
  rw [px bs _ _ j (by omega), List.getElem?_set_ne (by omega)]
theorem yk : ∀ (bs h : Hp) (off p : Nat), off + bs.length ≤ h.length → p < bs.length → (dv h off bs)[off + p]? = bs[p]?
 | [], h, off, p, _, hp => by simp at hp
 | b :: bs, h, off, p, hl, hp => by
  simp only [List.length_cons] at hl hp
  show (dv (h.set off b) (off + 1) bs)[off + p]? = _
  cases p with
  | zero => rw [px bs _ _ _ (by omega), Nat.add_zero, List.getElem?_set_self (by omega)]; rfl
  | succ p =>
   have := yk bs (h.set off b) (off + 1) p (by simp; omega) (by omega)
   rw [show off + (p + 1) = off + 1 + p by omega, this]; rfl

section
variable {P : Program} {w0 : World} {m0 : Nat → Nat} {h0 : Hp} {av0 : Nat → Prop} {s : St} {a : Act} {w : World} {m : Nat → Nat}

def q7 (m m' : Nat → Nat) (off n : Nat) : Nat → Nat := fun id => if off ≤ id ∧ id < off + n then m' (id - off) else m id

theorem Left.place {w' : World} {v : Value} {r : V} {hout : Hp} {m' : Nat → Nat} {avX : Nat → Prop} (L : Left w0 m0 h0 av0 s a w m w' v r hout m' avX) (dst : Option Tmp) (off : Nat)
 (hpl : ∀ j, j < hout.length → s.h[off + j]? = some none) (hoff : h0.length ≤ off) :
 Inv w0 m0 h0 av0 (({ s with h := dv s.h off (shH off hout) } : St).put dst (ren (shf off) 3 r)) (a.put dst v) w' (q7 m m' off hout.length) := by
 have I : Inv w0 m0 h0 av0 s a w m := L.inv
 have hsl : (shH off hout).length = hout.length := by simp [shH]
 have hfit : hout.length = 0 ∨ off + hout.length ≤ s.h.length := by
  rcases Nat.eq_zero_or_pos hout.length with e | e
  · exact .inl e
  · have := (List.getElem?_eq_some_iff.1 (hpl (hout.length - 1) (by omega))).1
    exact .inr (by omega)
 have hold : ∀ (j : Nat) (c : List V), s.h[j]? = some (some c) → (dv s.h off (shH off hout))[j]? = some (some c) := fun j c h => by
  rw [px _ _ _ _ (by
   rw [hsl]
   rcases Nat.lt_or_ge j off with h1 | h1
   · exact .inl h1
   · rcases Nat.lt_or_ge j (off + hout.length) with h2 | h2
     · have := hpl (j - off) (by omega)
       rw [show off + (j - off) = j by omega, h] at this
       cases this
     · exact .inr h2)]
  exact h
 have hmo : ∀ (j : Nat) (c : List V), s.h[j]? = some (some c) → q7 m m' off hout.length j = m j := fun j c h => by
  unfold q7
  rw [if_neg]
  rintro ⟨h1, h2⟩
  have := hpl (j - off) (by omega)
  rw [show off + (j - off) = j by omega, h] at this
  cases this
 have hmn : ∀ j, j < hout.length → q7 m m' off hout.length (off + j) = m' j := fun j hj => by
  unfold q7
  rw [if_pos (by omega)]; congr 1; omega
 have hcase : ∀ (j : Nat) (c : List V), (dv s.h off (shH off hout))[j]? = some (some c) → s.h[j]? = some (some c) ∨ ∃ j' c', j' < hout.length ∧ j = off + j' ∧ hout[j']? = some (some c') ∧ c = c'.map (ren (shf off) 2) := by
  intro j c h
  by_cases hr : off ≤ j ∧ j < off + hout.length
  · have h1 : (dv s.h off (shH off hout))[off + (j - off)]? = (shH off hout)[j - off]? := yk _ _ _ _ (by rw [hsl]; omega) (by rw [hsl]; omega)
    rw [show off + (j - off) = j by omega, h] at h1
    refine .inr ⟨j - off, ?_⟩
    simp only [shH, List.getElem?_map] at h1
    cases h2 : hout[j - off]? with
    | none => simp [h2] at h1
    | some b =>
     cases b with
     | none => simp [h2, shB] at h1
     | some c' => simp [h2, shB] at h1; exact ⟨c', by omega, by omega, rfl, h1⟩
  · rw [px _ _ _ _ (by rw [hsl]; omega)] at h
    exact .inl h
 have hlt' : ∀ (j : Nat) (c : List V), hout[j]? = some (some c) → j < hout.length := fun j c h => e8 h
 have hnew : ∀ (j : Nat) (c : List V), hout[j]? = some (some c) → (dv s.h off (shH off hout))[off + j]? = some (some (c.map (ren (shf off) 2))) := by
  intro j c h
  have := hlt' j c h
  rw [yk _ _ _ _ (by rw [hsl]; omega) (by rw [hsl]; omega)]
  simp [shH, h, shB]
 have hown : ∀ b, own (q7 m m' off hout.length) (dv s.h off (shH off hout)) b → own m s.h b ∨ own m' hout b := by
  rintro b ⟨j, c, h1, rfl⟩
  rcases hcase j c h1 with h2 | ⟨j', c', hj, rfl, h2, _⟩
  · exact .inl ⟨j, c, h2, (hmo j c h2).symm⟩
  · exact .inr ⟨j', c', h2, (hmn j' hj).symm⟩
 have hnlt : ∀ b, own m' hout b → w.heap.size ≤ b := by
  rintro b ⟨j, c, h1, rfl⟩
  exact L.new j c h1
 have hstep : ∀ {o : Bool} {v : Value} {x : V}, RV w m s.h (avm av0 m s.h) o v x → RV w' (q7 m m' off hout.length) (dv s.h off (shH off hout)) (avm av0 (q7 m m' off hout.length) (dv s.h off (shH off hout))) o v x :=
  fun hx => hx.step (fun b off' v hb hc => ⟨fun h => by
   rcases h with h | h
   · exact hb (.inl h)
   · rcases hown b h with h2 | h2
     · exact hb (.inr h2)
     · have := hnlt b h2
       have := World.block_lt_of_cell? w _ hc
       simp at this; omega, L.ext.cell hc (fun h => h)⟩)
   (fun id c hid => ⟨c, hold id c hid, Nat.le_refl _, hmo id c hid, L.ext.row _ (L.aed _ (.inr ⟨id, c, hid, rfl⟩)), rfl⟩)
 have hR : Ren w' w' m' (q7 m m' off hout.length) hout (dv s.h off (shH off hout)) avX (avm av0 (q7 m m' off hout.length) (dv s.h off (shH off hout))) (shf off) := by
  refine ⟨fun b off' v hb hc => ⟨fun h => hb (L.hX b ?_), hc⟩, fun id cs j hid hf => ?_, fun id cs cs' hid hf => by simp [shf] at hf⟩
  · rcases h with h | h
    · exact .inl (.inl h)
    · rcases hown b h with h2 | h2
      · exact .inl (.inr h2)
      · exact .inr h2
  · simp [shf] at hf; subst hf
    exact ⟨_, hnew id cs hid, by simp, hmn id (hlt' id cs hid), Nat.le_refl _, er _ _ _⟩
 have J : Inv w0 m0 h0 av0 { s with h := dv s.h off (shH off hout) } a w' (q7 m m' off hout.length) := by
  refine ⟨⟨?_, ?_, ?_⟩, I.size, fun i hi => hstep (I.slots i hi), I.defers, I.ext.trans' L.ext (fun _ _ h => h.elim), ?_, I.lt, I.lent, I.gl, I.k, by rw [ye]; exact I.len⟩
  · intro i j ci cj h1 h2 he
    rcases hcase i ci h1 with h3 | ⟨i', c', hi, rfl, h3, _⟩ <;> rcases hcase j cj h2 with h4 | ⟨j', d', hj, rfl, h4, _⟩
    · rw [hmo i ci h3, hmo j cj h4] at he
      exact I.rh.inj i j ci cj h3 h4 he
    · rw [hmo i ci h3, hmn _ hj] at he
      have := I.rh.lt h3
      have := L.new j' d' h4
      omega
    · rw [hmn _ hi, hmo j cj h4] at he
      have := I.rh.lt h4
      have := L.new i' c' h3
      omega
    · rw [hmn _ hi, hmn _ hj] at he
      rw [L.inj i' j' c' d' h3 h4 he]
  · intro j c h1
    exact .inr ⟨j, c, h1, rfl⟩
  · intro j c h1
    rcases hcase j c h1 with h2 | ⟨j', c', hj, rfl, h2, rfl⟩
    · rw [hmo j c h2]
      exact (I.rh.blk j c h2).step (L.ext.block _ (I.rh.lt h2) (fun h => h)) (fun v x => hstep)
    · rw [hmn _ hj]
      exact (L.blk j' c' h2).map rfl (kh _ 2) (fun v x hx => hx.ren hR 2)
  · intro j c h1
    rcases hcase j c h1 with h2 | ⟨j', c', hj, rfl, h2, _⟩
    · rw [hmo j c h2]
      exact I.ids j c h2
    · refine .inr ⟨by omega, ?_⟩
      rw [hmn _ hj]
      exact Nat.le_trans I.ext.size (L.new j' c' h2)
 exact J.put (L.res.ren hR 3)

theorem Inv.an3 (fr : Nat × Nat) (I : Inv w0 m0 h0 av0 s a w m) (C : Array Value) (T : TypeId) (cs : List V) (off : Nat) (hpl : s.h[off]? = some none) (hoff : h0.length ≤ off) (hfr : aa2 fr C.size) (hl : cs.length ≤ C.size)
 (hc : ∀ i (hi : i < cs.length), RV w m s.h (avm av0 m s.h) true (C.getD i Go.undef) cs[i]) :
 Inv w0 m0 h0 av0 { s with h := s.h.set off (some cs) } a (w.alloc (.cells C T fr)) (gb m off w.heap.size) := by
 have hE : Ext (fun _ => False) w (w.alloc (.cells C T fr)) := Ext.alloc _ w _
 have hne : ∀ id c, s.h[id]? = some (some c) → id ≠ off := by rintro id c h rfl; rw [hpl] at h; cases h
 have hid0 : ∀ id c, s.h[id]? = some (some c) → gb m off w.heap.size id = m id := fun id c hid => if_neg (hne id c hid)
 have hnew : gb m off w.heap.size off = w.heap.size := if_pos rfl
 have hcase : ∀ (j : Nat) (c : List V), (s.h.set off (some cs))[j]? = some (some c) → (s.h[j]? = some (some c) ∧ j ≠ off) ∨ (j = off ∧ c = cs) := by
  intro j c h
  rcases oe hpl h with ⟨h1, h2⟩ | ⟨h1, h2⟩
  · exact .inr ⟨h1, h2⟩
  · exact .inl ⟨h2, h1⟩
 have hown : ∀ b, own (gb m off w.heap.size) (s.h.set off (some cs)) b → own m s.h b ∨ b = w.heap.size := by
  rintro b ⟨id, c, h1, rfl⟩
  rcases hcase id c h1 with ⟨h2, _⟩ | ⟨rfl, _⟩
  · exact .inl ⟨id, c, h2, (hid0 id c h2).symm⟩
  · exact .inr hnew
 have hav : ∀ b, b < w.heap.size → avm av0 (gb m off w.heap.size) (s.h.set off (some cs)) b → avm av0 m s.h b := by
  rintro b hb (h1 | h1)
  · exact .inl h1
  · rcases hown b h1 with h2 | h2
    · exact .inr h2
    · omega
 have hold : ∀ id c, s.h[id]? = some (some c) → (s.h.set off (some cs))[id]? = some (some c) := fun id c hid => by rw [List.getElem?_set_ne (Ne.symm (hne id c hid))]; exact hid
 have hstep : ∀ {o : Bool} {v : Value} {x : V}, RV w m s.h (avm av0 m s.h) o v x → RV (w.alloc (.cells C T fr)) (gb m off w.heap.size) (s.h.set off (some cs)) (avm av0 (gb m off w.heap.size) (s.h.set off (some cs))) o v x :=
  fun hx => hx.step (fun b off' v hb hcell => ⟨fun h => hb (hav b (World.block_lt_of_cell? w _ hcell) h), hE.cell hcell (fun h => h)⟩)
   (fun id c hid => ⟨c, hold id c hid, Nat.le_refl _, hid0 id c hid, hE.row _ (I.rh.lt hid), rfl⟩)
 refine ⟨⟨?_, ?_, ?_⟩, I.size, fun i hi => hstep (I.slots i hi), I.defers, I.ext.trans' hE (fun _ _ h => h.elim), ?_, I.lt, I.lent, I.gl, I.k, by simpa using I.len⟩
 · intro i j ci cj h1 h2 he
   rcases hcase i ci h1 with ⟨h3, _⟩ | ⟨h3, _⟩ <;> rcases hcase j cj h2 with ⟨h4, _⟩ | ⟨h4, _⟩
   · rw [hid0 i ci h3, hid0 j cj h4] at he
     exact I.rh.inj i j ci cj h3 h4 he
   · rw [hid0 i ci h3, h4, hnew] at he
     have := I.rh.lt h3; omega
   · rw [hid0 j cj h4, h3, hnew] at he
     have := I.rh.lt h4; omega
   · rw [h3, h4]
 · intro id c h1
   exact .inr ⟨id, c, h1, rfl⟩
 · intro id c h1
   rcases hcase id c h1 with ⟨h1, _⟩ | ⟨rfl, rfl⟩
   · rw [hid0 id c h1]
     exact (I.rh.blk id c h1).step (hE.block _ (I.rh.lt h1) (fun h => h)) (fun v x => hstep)
   · refine .inl ⟨C, T, fr, ?_, hfr, hl, fun i hi => hstep (hc i hi)⟩
     rw [hnew]
     exact heap_alloc_new w _
 · intro id c h1
   rcases hcase id c h1 with ⟨h1, _⟩ | ⟨rfl, _⟩
   · rw [hid0 id c h1]
     exact I.ids id c h1
   · exact .inr ⟨hoff, by rw [hnew]; exact I.ext.size⟩

theorem Inv.ajk (I : Inv w0 m0 h0 av0 s a w m) (C : Array Value) (T : TypeId) (cs : List V) (off : Nat) (hpl : s.h[off]? = some none) (hoff : h0.length ≤ off) (hl : cs.length ≤ C.size)
 (hc : ∀ i (hi : i < cs.length), RV w m s.h (avm av0 m s.h) true (C.getD i Go.undef) cs[i]) :
 Inv w0 m0 h0 av0 { s with h := s.h.set off (some cs) } a (w.alloc (.cells C T)) (gb m off w.heap.size) :=
 I.an3 (0, 0) C T cs off hpl hoff (.inl rfl) hl hc
theorem as7 {C : Array Value} {T : TypeId} {cs : List V} {off : Nat} (hpl : s.h[off]? = some none) (hmb : ix cs = false) :
 RV (w.alloc (.cells C T)) (gb m off w.heap.size) (s.h.set off (some cs)) (avm av0 (gb m off w.heap.size) (s.h.set off (some cs))) true (.pointer (some ⟨w.heap.size, 0, none⟩)) (.ptr off 0) := by
 have := RV.ptr (w := w.alloc (.cells C T)) (m := gb m off w.heap.size) (h := s.h.set off (some cs)) (av := avm av0 (gb m off w.heap.size) (s.h.set off (some cs))) off 0 cs ⟨by rw [List.getElem?_set_self (e8 hpl)], hmb⟩
 rw [show gb m off w.heap.size off = w.heap.size from if_pos rfl] at this
 exact this

theorem ash {C : Array Value} {T : TypeId} {cs : List V} {n sz off : Nat} (hpl : s.h[off]? = some none) (hmb : ix cs = false) (hC : C.size = n * sz) (hcs : cs.length = n * sz) :
 RV (w.alloc (.cells C T)) (gb m off w.heap.size) (s.h.set off (some cs)) (avm av0 (gb m off w.heap.size) (s.h.set off (some cs))) true (.slice (some ⟨w.heap.size, 0, none⟩) n n) (.osl off 0 n sz) := by
 have e : gb m off w.heap.size off = w.heap.size := if_pos rfl
 have := RV.osl (w := w.alloc (.cells C T)) (m := gb m off w.heap.size) (h := s.h.set off (some cs)) (av := avm av0 (gb m off w.heap.size) (s.h.set off (some cs))) off 0 n n sz cs ⟨by rw [List.getElem?_set_self (e8 hpl)], hmb⟩ (by omega) (Nat.le_refl _) (by
  rw [e]
  simp only [dh, heap_alloc_new]
  omega)
 rw [e] at this
 exact this

theorem alu (I : Inv w0 m0 h0 av0 s a w m) {ht : Hp} (hcmp : ∀ (id : Nat) (cs cs' : List V), s.h[id]? = some (some cs) → ht[id]? = some (some cs') → cs = cs') (hoff : h0.length ≤ ht.length) {o : Oper} {x0 : V} {n0 : Hp}
 (hpl : ∀ j, j < n0.length → s.h[ht.length + j]? = some none) (hq : gop P ht (ev s.t) o.op fun x n => x = x0 ∧ n = n0) {Kc : Act → World → Prop} {Q : Exit → Act → World → Prop}
 (hk : ∀ v w' m', Inv w0 m0 h0 av0 (({ s with h := dv s.h ht.length n0 } : St).put o.dst x0) (a.put o.dst v) w' m' → Kc (a.put o.dst v) w') : o.wp P a w Kc Q := by
 obtain ⟨dst, op, ty, pos, after, guard⟩ := o
 unfold gop at hq
 dsimp only at hq
 split at hq
 · rename_i t
   split at hq
   · rename_i zs hz
     obtain ⟨i, z, h1, h2, rfl⟩ := j9 hz
     obtain ⟨rfl, rfl⟩ := hq
     have hp0 := hpl 0 (by simp)
     rw [Nat.add_zero] at hp0
     have hrow := aa1 (w := w) (m := m) (h := s.h) (av := avm av0 m s.h) z.cells
     have J := I.ajk z.cells t _ ht.length hp0 hoff (Nat.le_of_eq hrow.1.symm) hrow.2
     exact ft (v := .pointer (some ⟨w.heap.size, 0, none⟩)) (w' := w.alloc (.cells z.cells t)) (by simp [execOp, Instr.alloc, zeroValue, typeInfo, h1, h2, newVar, newRow]) (hk _ _ _ (J.put (as7 hp0 (o9 hrow.2))))
   · exact hq.elim
 · rename_i t x
   split at hq
   · rename_i cs hcs
     obtain ⟨rfl, rfl⟩ := hq
     have hp0 := hpl 0 (by simp)
     rw [Nat.add_zero] at hp0
     obtain ⟨g1, g2, g3⟩ := va (I.ev x) hcs
     have J := I.ajk (a.eval x).cells t cs ht.length hp0 hoff (Nat.le_of_eq g1.symm) g2
     exact ft (v := .pointer (some ⟨w.heap.size, 0, none⟩)) (w' := w.alloc (.cells (a.eval x).cells t)) (by simp [execOp, Instr.box, newVar, newRow]) (hk _ _ _ (J.put (as7 hp0 (o9 g2))))
   · exact hq.elim
 · rename_i t parts
   obtain ⟨v, x, ⟨rfl, rfl⟩, h2, h3⟩ := aka (P := P) I.ev hq
   exact ft (v := v) (w' := w) (by simp [execOp, h3]) (hk _ _ _ (I.put h2))
 · rename_i t n parts
   split at hq
   · rename_i e sz by_ he
     split at hq
     · rename_i zs hz
       split at hq
       · rename_i cs hs
         obtain ⟨h1, h2, h3, rfl, rfl⟩ := hq
         have hp0 := hpl 0 (by simp)
         rw [Nat.add_zero] at hp0
         obtain ⟨D, hD, hrun⟩ := s9 (P := P) I.ev he hz h1 h2 hs
         have J := I.ajk D e cs ht.length hp0 hoff (Nat.le_of_eq hD.1.symm) hD.2
         exact ft (v := .slice (some ⟨w.heap.size, 0, none⟩) n n) (w' := w.alloc (.cells D e)) (by simp [execOp, hrun]) (hk _ _ _ (J.put (ash hp0 (o9 hD.2) (by rw [hD.1, h3]) h3)))
       · exact hq.elim
     · exact hq.elim
   · exact hq.elim
 · rename_i t l c
   obtain ⟨k, n, h1, _, hq⟩ := l9 (I.ev l) hq
   obtain ⟨k', n', h2, _, hq⟩ := l9 (I.ev c) hq
   obtain ⟨rfl, hq⟩ := hq
   split at hq
   · rename_i e sz by_ he
     split at hq
     · rename_i zs hz
       obtain ⟨g1, g2, g3, rfl, rfl⟩ := hq
       have hp0 := hpl 0 (by simp)
       rw [Nat.add_zero] at hp0
       obtain ⟨D, hD, hrun⟩ := aat (P := P) (w := w) (m := m) (h := s.h) (av := avm av0 m s.h) he hz (k := k) (k' := k') g1 g2 g3
       have J := I.ajk D e _ ht.length hp0 hoff (Nat.le_of_eq hD.1.symm) hD.2
       have hl : (xn (n'.toNat * sz) zs).length = n'.toNat * sz := by simp [xn]
       exact ft (v := .slice (some ⟨w.heap.size, 0, none⟩) n'.toNat n'.toNat) (w' := w.alloc (.cells D e)) (by simp [execOp, h1, h2, hrun]) (hk _ _ _ (J.put (ash hp0 (o9 hD.2) (by rw [hD.1, hl]) hl)))
     · exact hq.elim
   · exact hq.elim
 · rename_i f args ts
   obtain ⟨⟨hr1, hr2⟩, hq⟩ := hq
   have hrm := afp (s := s) (av0 := av0) I.ev args
   have hq' : w6 P s.h (ev s.t f) (args.toList.map (ev s.t)) fun r hout => ren (shf ht.length) 3 r = x0 ∧ shH ht.length hout = n0 :=
    aol I.rh hcmp (I.ev f) (vs := (args.map a.eval).toList) (by simp) (fun i hi => by
     have := hrm.2 i hi
     rw [Array.getD_eq_getD_getElem?] at this
     rw [List.getD_eq_getElem?_getD, Array.getElem?_toList]
     exact this) hr1 hr2 hq
   refine anz I I.ev hq' (fun r hout w' v m' avX h1 L => ?_)
   obtain ⟨rfl, rfl⟩ := h1
   refine hk v w' _ (L.place dst ht.length (fun j hj => hpl j (by simpa [shH] using hj)) hoff)
 · rename_i sT d x
   have quiet : (j5 P ht sT d (ev s.t x) fun v => v = x0 ∧ [] = n0) → (⟨dst, .convert sT d x, ty, pos, after, guard⟩ : Oper).wp P a w Kc Q := by
    intro hq
    have hq : qop P ht (ev s.t) (.convert sT d x) fun v => v = x0 ∧ [] = n0 := hq
    have hq' := ana (P := P) hcmp I.ev hq
    obtain ⟨v, y, ⟨rfl, rfl⟩, h2, h3⟩ := amz (P := P) I.rh I.ev (⟨dst, .convert sT d x, ty, pos, after, guard⟩ : Oper) hq'
    exact ft h3 (hk _ _ _ (I.put h2))
   have hx := I.ev x
   generalize hu : a.eval x = u at hx
   generalize hy : ev s.t x = y at hx hq
   cases y with
   | str b =>
    change aeg (sr P d) _ _ at hq
    generalize hu8 : sr P d = t at hq
    cases t with
    | false => exact quiet (by rw [hy]; exact hq)
    | true =>
     obtain ⟨hs, rfl, rfl⟩ := hq
     have hp0 := hpl 0 (by simp)
     rw [Nat.add_zero] at hp0
     obtain ⟨e, g1, g2⟩ := y0 hu8
     obtain ⟨C, hC1, hC2, hrun⟩ := sj (P := P) w sT d e g1 g2 (kl hs) b
     have hge := grownCap_ge w b.size 0 e
     have hl : (strCells b).length = b.size := by simp [strCells]
     have ID := I.world (Ext.drew (fun _ => False) w)
     have hub : u = .string b := by cases hx; rfl
     have hrow : ∀ i (hi : i < (strCells b).length), RV w.drew m s.h (avm av0 m s.h) true (C.getD i Go.undef) (strCells b)[i] := by
      intro i hi
      rw [hC2 i hi]
      have hi2 : i < b.size := by omega
      have : (strCells b)[i] = .int .u8 ((b.data.toList.getD i 0).toNat) := by simp [strCells, List.getD, hi2]
      rw [this]
      exact .int _ _
     have J := ID.an3 (C.size, C.size + 1) C e (strCells b) ht.length hp0 hoff (.inr (Nat.le_refl _)) (by omega) hrow
     refine ft (v := .slice (some ⟨w.heap.size, 0, none⟩) b.size (grownCap w b.size 0 e)) (w' := w.drew.alloc (.cells C e (C.size, C.size + 1))) (by simp [execOp, hu, hub, hrun]) (hk _ _ _ (J.put ?_))
     have e1 : gb m ht.length w.drew.heap.size ht.length = w.heap.size := if_pos rfl
     have := RV.osl (w := w.drew.alloc (.cells C e (C.size, C.size + 1))) (m := gb m ht.length w.drew.heap.size) (h := s.h.set ht.length (some (strCells b))) (av := avm av0 (gb m ht.length w.drew.heap.size) (s.h.set ht.length (some (strCells b)))) ht.length 0 b.size (grownCap w b.size 0 e) 1 (strCells b) ⟨by rw [List.getElem?_set_self (e8 hp0)], o9 hrow⟩ (by omega) hge (by
      rw [e1]
      have := heap_alloc_new w.drew (.cells C e (C.size, C.size + 1))
      have hd : w.drew.heap.size = w.heap.size := rfl
      rw [hd] at this
      simp only [dh, this]
      omega)
     rw [e1] at this
     exact this
   | _ => exact quiet (by rw [hy]; exact hq)
 · have hq' := ana (P := P) hcmp I.ev hq
   obtain ⟨v, x, ⟨rfl, rfl⟩, h2, h3⟩ := amz (P := P) I.rh I.ev (⟨dst, op, ty, pos, after, guard⟩ : Oper) hq'
   exact ft h3 (hk _ _ _ (I.put h2))

end
end Go.Lv
end
section
namespace Go.Lv

theorem aay {t t' : List V} {x : Operand} (h : ∀ u, x = .tmp u → t.getD u .undef = t'.getD u .undef) : ev t x = ev t' x := by
 cases x with
 | tmp u => exact h u rfl
 | _ => rfl

theorem abm {P : Program} {h : Hp} {ρ ρ' : Operand → V} {op : Op} {K : V → Hp → Prop} (hr : ∀ x ∈ op.operands, ρ x = ρ' x) (hq : gop P h ρ op K) : gop P h ρ' op K := by
 cases op with
 | move x => have := hr x (by simp [Op.operands]); simpa [gop, qop, this] using hq
 | assign x => have := hr x (by simp [Op.operands]); simpa [gop, qop, this] using hq
 | pick c x y =>
  have h1 := hr c (by simp [Op.operands]); have h2 := hr x (by simp [Op.operands]); have h3 := hr y (by simp [Op.operands])
  simpa [gop, qop, h1, h2, h3] using hq
 | build t ps =>
  have : (ps.toList.map fun p => (p.1, ρ p.2)) = ps.toList.map fun p => (p.1, ρ' p.2) := List.map_congr_left fun p hp => by
   rw [hr p.2 (by simp [Op.operands]; exact ⟨p.1, by simpa using hp⟩)]
  simpa only [gop, this] using hq
 | buildSlice t n ps =>
  have : (ps.toList.map fun p => (p.1, ρ p.2)) = ps.toList.map fun p => (p.1, ρ' p.2) := List.map_congr_left fun p hp => by
   rw [hr p.2 (by simp [Op.operands]; exact ⟨p.1, by simpa using hp⟩)]
  simpa only [gop, this] using hq
 | alloc t => exact hq
 | box t x => have := hr x (by simp [Op.operands]); simp only [gop, this] at hq ⊢; exact hq
 | makeSlice t l c =>
  have h1 := hr l (by simp [Op.operands]); have h2 := hr c (by simp [Op.operands])
  simp only [gop, h1, h2] at hq ⊢
  exact hq
 | load t x => have := hr x (by simp [Op.operands]); simpa [gop, qop, this] using hq
 | nilCheck x => have := hr x (by simp [Op.operands]); simpa [gop, qop, this] using hq
 | binOp op t x y t' => have h1 := hr x (by simp [Op.operands]); have h2 := hr y (by simp [Op.operands]); simpa [gop, qop, h1, h2] using hq
 | unOp op t x => have := hr x (by simp [Op.operands]); cases op <;> simp only [gop, qop, this] at hq ⊢ <;> exact hq
 | convert s d x => have := hr x (by simp [Op.operands]); simpa [gop, this] using hq
 | makeFunc f x y =>
  have h1 : x.toList.map ρ = x.toList.map ρ' := List.map_congr_left fun p hp => hr p (by simp [Op.operands]; exact .inl (by simpa using hp))
  have h2 : y.toList.map ρ = y.toList.map ρ' := List.map_congr_left fun p hp => hr p (by simp [Op.operands]; exact .inr (by simpa using hp))
  simp only [gop, qop, h1, h2] at hq ⊢
  exact hq
 | slice t x lo hi mx =>
  have h1 := hr x (by simp [Op.operands])
  cases mx with
  | some _ => exact hq
  | none =>
   have h2 : vz ρ lo = vz ρ' lo := by
    cases lo with
    | none => rfl
    | some l => have := hr l (by simp [Op.operands]); simp [vz, this]
   have h3 : ∀ x l (K : V → Prop), nz P ρ t x l hi K = nz P ρ' t x l hi K := by
    intro x l K
    cases hi with
    | none => rfl
    | some u => have := hr u (by simp [Op.operands]); simp [nz, this]
   simp only [gop, qop, h1, h2] at hq ⊢
   split at hq
   · exact hq
   · rw [h3] at hq; exact hq
 | lookup t x y ok => have h1 := hr x (by simp [Op.operands]); have h2 := hr y (by simp [Op.operands]); simpa [gop, qop, h1, h2] using hq
 | fieldAddr t x f => have := hr x (by simp [Op.operands]); simpa [gop, qop, this] using hq
 | field t x f => have := hr x (by simp [Op.operands]); simpa [gop, qop, this] using hq
 | indexAddr t x i => have h1 := hr x (by simp [Op.operands]); have h2 := hr i (by simp [Op.operands]); simpa [gop, qop, h1, h2] using hq
 | index t x i => have h1 := hr x (by simp [Op.operands]); have h2 := hr i (by simp [Op.operands]); simpa [gop, qop, h1, h2] using hq
 | extract x i => have := hr x (by simp [Op.operands]); simpa [gop, qop, this] using hq
 | call c =>
  obtain ⟨cal, args, ts⟩ := c
  cases cal with
  | value f =>
   have h1 := hr f (by simp [Op.operands, Call.operands])
   have h2 : args.toList.map ρ = args.toList.map ρ' := List.map_congr_left fun p hp => hr p (by simp [Op.operands, Call.operands]; exact .inr (by simpa using hp))
   simp only [gop, h1, h2] at hq ⊢
   exact hq
  | invoke r s => exact hq
  | builtin b =>
   have h2 : ∀ p ∈ args.toList, ρ p = ρ' p := fun p hp => hr p (by simp [Op.operands, Call.operands]; simpa using hp)
   obtain ⟨l⟩ := args
   obtain ⟨ts⟩ := ts
   cases b <;> try exact hq
   case len =>
    match l, ts, hq, h2 with
    | [x], [t], hq, h2 => have := h2 x (by simp); simp only [gop, qop, this] at hq ⊢; exact hq
    | [], _, hq, _ => exact hq
    | [_], [], hq, _ => exact hq
    | [_], _ :: _ :: _, hq, _ => exact hq
    | _ :: _ :: _, _, hq, _ => exact hq
   case max =>
    match l, hq, h2 with
    | [x, y], hq, h2 => have e1 := h2 x (by simp); have e2 := h2 y (by simp); simp only [gop, qop, e1, e2] at hq ⊢; exact hq
    | [], hq, _ => exact hq
    | [_], hq, _ => exact hq
    | _ :: _ :: _ :: _, hq, _ => exact hq
   case min =>
    match l, hq, h2 with
    | [x, y], hq, h2 => have e1 := h2 x (by simp); have e2 := h2 y (by simp); simp only [gop, qop, e1, e2] at hq ⊢; exact hq
    | [], hq, _ => exact hq
    | [_], hq, _ => exact hq
    | _ :: _ :: _ :: _, hq, _ => exact hq
 | _ => exact hq

def Det (F : (V → Prop) → Prop) : Prop := ∀ K, F K → ∃ x, K x ∧ F (fun y => y = x)

theorem Det.ret (x : V) : Det (fun K => K x) := fun _ hk => ⟨x, hk, rfl⟩
theorem Det.no : Det (fun _ => False) := fun _ hk => hk.elim
theorem Det.and {A : Prop} {F : (V → Prop) → Prop} (h : Det F) : Det (fun K => A ∧ F K) := fun K ⟨ha, hk⟩ => let ⟨x, h1, h2⟩ := h K hk; ⟨x, h1, ha, h2⟩
theorem Det.ex {A : Prop} {F : A → (V → Prop) → Prop} (h : ∀ a, Det (F a)) : Det (fun K => ∃ a, F a K) := fun K ⟨a, hk⟩ => let ⟨x, h1, h2⟩ := h a K hk; ⟨x, h1, a, h2⟩

theorem oh {x : V} {F : IntKind → Int → (V → Prop) → Prop} (h : ∀ k z, Det (F k z)) : Det (fun K => jg x fun k z => F k z K) := by
 cases x with
 | int k z => exact h k z
 | _ => exact Det.no
theorem aep {x : V} {F : Bool → (V → Prop) → Prop} (h : ∀ b, Det (F b)) : Det (fun K => km x fun b => F b K) := by
 cases x with
 | bool b => exact h b
 | _ => exact Det.no

theorem ark (P : Program) (h : Hp) (t : TypeId) (x : V) : Det (pq P h t x) := by
 unfold pq
 cases jl P t with
 | none => exact Det.no
 | some p =>
  obtain ⟨sz, ag⟩ := p
  cases x with
  | pt cs => exact (Det.ret _).and.and
  | ptr id off =>
   dsimp only
   cases h[id]? with
   | none => exact Det.no
   | some b => cases b with
    | none => exact Det.no
    | some cs => exact (Det.ret _).and.and
  | _ => exact Det.no

theorem af4 (P : Program) (s : TypeId) (f : Nat) (x : V) : Det (ff P s f x) := by
 unfold ff
 cases kr P s f with
 | none => exact Det.no
 | some p =>
  obtain ⟨o, sz, ag⟩ := p
  cases x with
  | pt cs => exact (Det.ret _).and
  | ptr id off => exact (Det.ret _).and
  | _ => exact Det.no.and

theorem apf (P : Program) (s : TypeId) (f : Nat) (x : V) : Det (yx P s f x) := by
 unfold yx
 cases kr P s f with
 | none => exact Det.no
 | some p =>
  obtain ⟨o, sz, ag⟩ := p
  cases x with
  | agg cs => exact (Det.ret _).and.and
  | _ => exact Det.no

theorem af1 (P : Program) (t : TypeId) (x : V) (z : Int) : Det (eo P t x z) := by
 unfold eo
 cases x with
 | sl n w cs => dsimp only; cases jo P t with
  | none => exact Det.no
  | some p => exact (Det.ret _).and.and
 | osl id off n w => dsimp only; cases jo P t with
  | none => exact Det.no
  | some p => exact (Det.ret _).and.and
 | ptr id off => dsimp only; cases alr P t with
  | none => exact Det.no
  | some p => exact (Det.ret _).and
 | pt cs => dsimp only; cases alr P t with
  | none => exact Det.no
  | some p => exact (Det.ret _).and
 | _ => exact Det.no

theorem apb (P : Program) (t : TypeId) (x : V) (z : Int) : Det (u7 P t x z) := by
 unfold u7
 cases x with
 | str s => exact (Det.ex fun _ => Det.ret _).and
 | agg cs => dsimp only; cases alr P t with
  | none => exact Det.no
  | some p => exact (Det.ret _).and.and.and
 | _ => exact Det.no

theorem ape (P : Program) (ρ : Operand → V) (t : TypeId) (x : V) (l : Int) (hi : Option Operand) : Det (nz P ρ t x l hi) := by
 unfold nz
 cases x with
 | sl n w cs => dsimp only; cases jo P t with
  | none => exact Det.no
  | some p => cases hi with
   | none => exact (Det.ret _).and.and
   | some u => dsimp only; cases ρ u with
    | int k z => exact (Det.ret _).and.and
    | _ => exact Det.no
 | osl id off n w => dsimp only; cases jo P t with
  | none => exact Det.no
  | some p => cases hi with
   | none => exact (Det.ret _).and.and
   | some u => dsimp only; cases ρ u with
    | int k z => exact (Det.ret _).and.and
    | _ => exact Det.no
 | str s => dsimp only; cases hi with
  | none => exact (Det.ret _).and.and
  | some u => dsimp only; cases ρ u with
   | int k z => exact (Det.ret _).and.and
   | _ => exact Det.no.and
 | _ => exact Det.no

theorem ans (P : Program) (op : BinOp) (t : TypeId) (c : Bool) (x y : V) : Det (bin P op t c x y) := by
 unfold bin
 cases x with
 | lit a => cases y with
  | lit b =>
   dsimp only
   cases azk c a b with
   | none => exact Det.no.and
   | some r => cases op <;> first | exact (Det.ret _).and | exact Det.no.and
  | _ => exact Det.no
 | int k a => cases y with
  | int k' b => cases op <;> first | exact (Det.ret _).and | exact (Det.ret _).and.and | exact Det.no.and
  | _ => exact Det.no
 | str a => cases y with
  | str b => cases op <;> first | exact Det.ret _ | exact (Det.ret _).and | exact Det.no
  | _ => exact Det.no
 | bool a => cases y with
  | bool b => cases op <;> first | exact (Det.ret _).and | exact Det.no.and
  | _ => exact Det.no
 | agg a => cases y with
  | agg b =>
   dsimp only
   cases xh P t with
   | none => exact Det.no
   | some ds =>
    dsimp only
    cases eqL ds a b with
    | none => exact Det.no
    | some r => cases op <;> first | exact Det.ret _ | exact Det.no
  | _ => exact Det.no
 | _ => cases y <;> exact Det.no

theorem auh (P : Program) (t : TypeId) (x : V) : Det (ac5 P t x) := by
 unfold ac5
 cases x with
 | sl n w cs => exact (Det.ret _).and
 | osl id off n w => exact (Det.ret _).and
 | nilsl => exact (Det.ret _).and
 | str s => exact (Det.ret _).and
 | _ => exact Det.no

theorem aqk (P : Program) (s d : TypeId) (x : V) : Det (acv P s d x) := by
 unfold acv
 cases x with
 | int k n => dsimp only; cases xf P d with
  | none => exact (Det.ret _).and.and
  | some k => exact (Det.ret _).and
 | str b => exact (Det.ret _).and.and
 | _ => exact Det.no.and

theorem ahe (P : Program) (h : Hp) (s d : TypeId) (x : V) : Det (j5 P h s d x) := by
 cases x with
 | osl id off n wd =>
  unfold j5
  dsimp only
  refine Det.and ?_
  cases h[id]? with
  | none => exact Det.no
  | some b => cases b with
   | none => exact Det.no
   | some cs =>
    dsimp only
    cases oa ((cs.drop off).take n) with
    | none => exact Det.no
    | some xs => exact Det.ret _
 | _ => unfold j5; exact aqk P s d _

theorem auq (x : V) : Det (ya x) := by
 unfold ya
 cases x with
 | ptr id off => exact Det.ret _
 | pt cs => exact Det.ret _
 | fn f a c => cases f with
  | func g => exact Det.ret _
  | _ => exact Det.no
 | _ => exact Det.no

theorem amj (P : Program) (h : Hp) (t : TypeId) (x y : V) (ok : Bool) : Det (ks P h t x y ok) := by
 intro K hq
 unfold ks at hq ⊢
 split at hq
 · split at hq
   · split at hq
     · obtain ⟨h0, hq⟩ := hq
       split at hq
       · exact ⟨_, hq, h0, rfl⟩
       · exact ⟨_, hq, h0, rfl⟩
       · exact hq.elim
     · exact hq.elim
   · exact hq.elim
 · exact hq.elim

theorem ap4 (x : V) (i : Nat) : Det (o2 x i) := by
 unfold o2
 cases x with
 | tup vs => dsimp only; cases vs[i]? with
  | none => exact Det.no
  | some v => exact Det.ret _
 | _ => exact Det.no

theorem ao4 (P : Program) (t : TypeId) (parts : List (Nat × V)) : Det (ri P t parts) := by
 unfold ri
 cases zeroOf P t with
 | none => exact Det.no
 | some zs => cases ac1 P t with
  | none => exact Det.no
  | some pl => dsimp only; cases xo pl parts zs with
   | none => exact Det.no
   | some cs => exact Det.ret _

def kv (F : (V → Hp → Prop) → Prop) : Prop := ∀ K, F K → ∃ x n, K x n ∧ F (fun y m => y = x ∧ m = n)

theorem kv.ret (x : V) (n : Hp) : kv (fun K => K x n) := fun _ hk => ⟨x, n, hk, rfl, rfl⟩
theorem kv.no : kv (fun _ => False) := fun _ hk => hk.elim
theorem kv.and {A : Prop} {F : (V → Hp → Prop) → Prop} (h : kv F) : kv (fun K => A ∧ F K) := fun K ⟨ha, hk⟩ => let ⟨x, n, h1, h2⟩ := h K hk; ⟨x, n, h1, ha, h2⟩
theorem kv.of {F : (V → Prop) → Prop} (h : Det F) : kv (fun K => F fun v => K v []) := fun K hk => by
 obtain ⟨x, h1, h2⟩ := h _ hk
 refine ⟨x, [], h1, ?_⟩
 have e : (fun y => y = x) = fun y => y = x ∧ ([] : Hp) = [] := by funext y; simp
 show F fun y => y = x ∧ ([] : Hp) = []
 rw [← e]
 exact h2
theorem afn {x : V} {F : IntKind → Int → (V → Hp → Prop) → Prop} (h : ∀ k z, kv (F k z)) : kv (fun K => jg x fun k z => F k z K) := by
 cases x with
 | int k z => exact h k z
 | _ => exact kv.no

theorem ato (P : Program) (h : Hp) (fv : V) (args : List V) (g : V → Hp → V) (g' : Hp → Hp) : kv (fun K => w6 P h fv args fun r hout => K (g r hout) (g' hout)) := by
 intro K hq
 cases fv with
 | fn f a c => cases f with
  | func g' =>
   obtain ⟨as', r, hout, h1, h2, h3, h4⟩ := hq
   exact ⟨_, _, h4, as', r, hout, h1, h2, h3, rfl, rfl⟩
  | _ => exact False.elim hq
 | _ => exact False.elim hq

theorem avc (P : Program) (h : Hp) (ρ : Operand → V) (op : Op) : Det (qop P h ρ op) := by
 unfold qop
 split
 · exact Det.ret _
 · exact Det.ret _
 · exact aep fun b => Det.ret _
 · exact ark _ _ _ _
 · exact af4 _ _ _ _
 · exact apf _ _ _ _
 · exact oh fun _ z => af1 _ _ _ _
 · exact oh fun _ z => apb _ _ _ _
 · rename_i t x lo hi
   cases vz ρ lo with
   | none => exact Det.no
   | some l => exact ape _ _ _ _ _ _
 · exact ans _ _ _ _ _ _
 · exact aep fun b => Det.ret _
 · exact oh fun _ z => Det.ret _
 · exact ahe _ _ _ _ _
 · exact ap4 _ _
 · exact auq _
 · exact amj _ _ _ _ _ _
 · exact Det.ret _
 · exact auh _ _ _
 · exact oh fun _ z => oh fun _ z => Det.ret _
 · exact oh fun _ z => oh fun _ z => Det.ret _
 · exact Det.no

theorem aoy (P : Program) (h : Hp) (sT d : TypeId) (x : V) : kv (ahb P h sT d x) := by
 have hq : ∀ y, kv (fun K : V → Hp → Prop => j5 P h sT d y fun v => K v []) := fun y => kv.of (ahe P h sT d y)
 cases x with
 | str b =>
  show kv fun K => aeg (sr P d) _ _
  cases sr P d with
  | true => exact (kv.ret _ _).and
  | false => exact hq (.str b)
 | _ => (unfold ahb; exact hq _)

theorem ais (P : Program) (h : Hp) (ρ : Operand → V) (op : Op) : kv (gop P h ρ op) := by
 unfold gop
 split
 · rename_i t
   cases zeroOf P t with
   | none => exact kv.no
   | some zs => exact kv.ret _ _
 · rename_i t x
   cases cellsOf (ρ x) with
   | none => exact kv.no
   | some cs => exact kv.ret _ _
 · exact kv.of (ao4 _ _ _)
 · rename_i t n parts
   cases jo P t with
   | none => exact kv.no
   | some p =>
    dsimp only
    cases zeroOf P p.1 with
    | none => exact kv.no
    | some zs =>
     dsimp only
     cases abh p.2.1 0 (parts.toList.map fun p => (p.1, ρ p.2)) with
     | none => exact kv.no
     | some cs => exact (kv.ret _ _).and.and.and
 · rename_i t l c
   refine afn fun _ n => afn fun _ n' => kv.and ?_
   cases jo P t with
   | none => exact kv.no
   | some p =>
    dsimp only
    cases zeroOf P p.1 with
    | none => exact kv.no
    | some zs => exact (kv.ret _ _).and.and.and
 · exact (ato _ _ _ _ _ _).and
 · exact aoy _ _ _ _ _
 · exact kv.of (avc _ _ _ _)

end Go.Lv
end
section
namespace Go.Lv

def clr (u v : Tmp) : List Oper → Bool
 | [] => true
 | o :: D => (match o.dst with | some x => x != u && x != v | none => true) && clr u v D

def aea (o : Oper) : Bool :=
 match o.guard with
 | none => match o.op with
  | .fieldAddr _ (.tmp _) _ => true
  | .indexAddr _ (.tmp _) (.tmp _) => true
  | .move (.tmp _) => true
  | .nilCheck (.tmp _) => true
  | _ => false
 | some _ => false

def ahx (D : List Oper) (o : Oper) : Bool :=
 match o.dst, o.op with
 | some d, .fieldAddr _ (.tmp a) _ => clr a d D
 | some d, .indexAddr _ (.tmp a) (.tmp b) => clr a d D && clr b d D
 | some d, .move (.tmp a) => clr a d D
 | some d, .nilCheck (.tmp a) => clr a d D
 | _, _ => false

def edL (b : Nat) : List Edge → Bool
 | [] => true
 | e :: l => if e.on < b then edL b l else false
def edB (b : Nat) (after : Array Edge) : Bool := edL b after.toList

def quietAt (b : Nat) (D : List Oper) (o : Oper) : Bool :=
 match D with
 | [] => fe o.op
 | _ :: _ => aea o && (ahx D o && edB b o.after)

def np (b : Nat) (D : List Oper) : Nat :=
 match D with
 | [] => b + 1
 | _ :: _ => b

def nq (P : Program) (ops : Array Oper) : List Oper → Nat → List Oper → St → (St → Prop) → Prop
 | [], _, D, s, K => ib P ops D s K
 | o :: rest, b, D, s, K => if quietAt b D o = true then gdA ops s.t o.guard (gop P s.h (ev s.t) o.op fun v n => nq P ops rest (np b D) D (({ s with h := s.h ++ n } : St).put o.dst v) K) (nq P ops rest (np b D) D (s.put o.dst .skip) K)
  else nq P ops rest b (D ++ [o]) s K

def ae2 : List Oper → Nat → List Oper → List Bool
 | [], _, _ => []
 | o :: l, b, D => if quietAt b D o then true :: ae2 l (np b D) D else false :: ae2 l b (D ++ [o])

def inB (b : Array Nat) (i j : Nat) : Bool := (b.getD i 0).testBit j

def ly (ops : Array Oper) (j i : Nat) : Bool :=
 match ops[j]?, ops[i]? with
 | some x, some o => match x.dst with
  | some u => (o.looksAt ops).contains u || o.dst == some u
  | none => false
 | _, _ => false

def ag7 : Op → Bool
 | .fieldAddr _ (.tmp _) _ => true
 | .indexAddr _ (.tmp _) (.tmp _) => true
 | .move (.tmp _) => true
 | .pick (.tmp _) _ _ => true
 | .binOp _ _ _ _ _ => true
 | .extract (.tmp _) _ => true
 | .unOp .not _ _ => true
 | .nilCheck (.tmp _) => true
 | _ => false
def om (o : Oper) : Bool := ag7 o.op

def tkB (ops : Array Oper) (b : Array Nat) (k : Nat) : Bool :=
 match ops[k]? with
 | none => false
 | some o => om o && (List.range ops.size).all fun j => match ops[j]? with
  | none => true
  | some o' => j == k || inB b k j || (o'.after.toList.any fun e => Region.binds .any e && e.on == k) || o.apart ops o'

def cc (ops : Array Oper) : Bool :=
 let b := Region.before ops
 let zl := ae2 ops.toList 0 []
 (List.range ops.size).all fun i => match ops[i]? with
  | none => false
  | some o =>
   ((List.range ops.size).all fun j => !(inB b i j) || o.after.toList.any fun e => Region.binds .any e && (e.on == j || inB b e.on j)) &&
   (o.after.toList.all fun e => !(Region.binds .any e) || decide (e.on < i)) &&
   (match o.op with | .select _ _ => false | _ => true) &&
   (match zl.getD i false with
    | true => (o.after.toList.all fun e => !(Region.binds .any e) || zl.getD e.on false) &&
     (List.range ops.size).all fun j => !(zl.getD j false) || j == i || !(ly ops j i) || (if j < i then inB b i j else inB b j i)
    | false => (List.range ops.size).all fun j => match zl.getD j false with
     | true => inB b i j || tkB ops b j
     | false => !(decide (j < i)) || inB b i j)

structure nk (ops : Array Oper) (z : Nat → Bool) (B : Nat → Nat → Prop) (tk : Nat → Bool) (la : Nat → Bool := fun _ => false) : Prop where
 clo : ∀ (i : Nat) (o : Oper) (j : Nat), ops[i]? = some o → B i j → ∃ e ∈ o.after, Region.binds .any e = true ∧ (e.on = j ∨ B e.on j)
 lt : ∀ (i : Nat) (o : Oper), ops[i]? = some o → ∀ e ∈ o.after, Region.binds .any e = true → e.on < i
 cl : ∀ i j, i < ops.size → j < ops.size → z i = true → z j = true → j ≠ i → ly ops j i = true → (j < i → B i j) ∧ (i < j → B j i)
 noq : ∀ (i : Nat) (o : Oper), ops[i]? = some o → z i = true → ∀ e ∈ o.after, Region.binds .any e = true → z e.on = true
 mix : ∀ i j, i < ops.size → j < ops.size → z i = false → z j = true → B i j ∨ tk j = true ∨ la i = true
 bar : ∀ i j, i < ops.size → z i = false → j < i → z j = false → B i j
 take : ∀ (k : Nat) (o : Oper), ops[k]? = some o → tk k = true → om o = true ∧ ∀ (j : Nat) (o' : Oper), ops[j]? = some o' → j ≠ k → ¬ B k j → (∀ e ∈ o'.after, Region.binds .any e = true → e.on ≠ k) → o.apart ops o' = true
 sel : ∀ (i : Nat) (o : Oper) (cs : Array SelectCase) (b : Bool), ops[i]? = some o → o.op ≠ .select cs b

def zOf (ops : Array Oper) (i : Nat) : Bool := (ae2 ops.toList 0 []).getD i false

theorem ako {ops : Array Oper} (hd : cc ops = true) : nk ops (zOf ops) (fun i j => j < ops.size ∧ inB (Region.before ops) i j = true) (tkB ops (Region.before ops)) := by
 have h : ∀ i, i < ops.size → ∃ o, ops[i]? = some o ∧
  ((List.range ops.size).all fun j => !(inB (Region.before ops) i j) || o.after.toList.any fun e => Region.binds .any e && (e.on == j || inB (Region.before ops) e.on j)) = true ∧
  (o.after.toList.all fun e => !(Region.binds .any e) || decide (e.on < i)) = true ∧ (match o.op with | .select _ _ => false | _ => true) = true ∧
  (match zOf ops i with
   | true => (o.after.toList.all fun e => !(Region.binds .any e) || zOf ops e.on) &&
    (List.range ops.size).all fun j => !(zOf ops j) || j == i || !(ly ops j i) || (if j < i then inB (Region.before ops) i j else inB (Region.before ops) j i)
   | false => (List.range ops.size).all fun j => match zOf ops j with
    | true => inB (Region.before ops) i j || tkB ops (Region.before ops) j
    | false => !(decide (j < i)) || inB (Region.before ops) i j) = true := by
  intro i hi
  have := List.all_eq_true.1 hd i (List.mem_range.2 hi)
  split at this
  · cases this
  · rename_i o ho
    simp only [Bool.and_eq_true] at this
    exact ⟨o, ho, this.1.1.1, this.1.1.2, this.1.2, this.2⟩
 have lt_of : ∀ {i : Nat} {o : Oper}, ops[i]? = some o → i < ops.size := fun h => (Array.getElem?_eq_some_iff.1 h).1
 refine ⟨fun i o j ho hB => ?_, fun i o ho e he hb => ?_, fun i j hi hj zi zj hne hc => ?_, fun i o ho zi e he hb => ?_, fun i j hi hj zi zj => ?_, fun i j hi zi hj zj => ?_, fun k o ho ht => ?_, fun i o cs b ho => ?_⟩
 · obtain ⟨o', ho', h1, _⟩ := h i (lt_of ho)
   rw [ho] at ho'; simp at ho'; subst ho'
   have := List.all_eq_true.1 h1 j (List.mem_range.2 hB.1)
   simp only [hB.2, Bool.not_true, Bool.false_or, List.any_eq_true, Bool.and_eq_true, Bool.or_eq_true, beq_iff_eq] at this
   obtain ⟨e, he, hb, hc⟩ := this
   exact ⟨e, by simpa using he, hb, hc.imp (fun h => h) (fun h => ⟨hB.1, h⟩)⟩
 · obtain ⟨o', ho', _, h2, _⟩ := h i (lt_of ho)
   rw [ho] at ho'; simp at ho'; subst ho'
   have := List.all_eq_true.1 h2 e (by simpa using he)
   simpa [hb] using this
 · obtain ⟨o', ho', _, _, _, h3⟩ := h i hi
   rw [zi] at h3
   simp only [Bool.and_eq_true] at h3
   have := List.all_eq_true.1 h3.2 j (List.mem_range.2 hj)
   have hne' : (j == i) = false := by simpa using hne
   rw [hne', hc, zj] at this
   simp only [Bool.not_true, Bool.false_or] at this
   refine ⟨fun hlt => ⟨by omega, by rw [if_pos hlt] at this; exact this⟩, fun hlt => ⟨by omega, by rw [if_neg (by omega)] at this; exact this⟩⟩
 · obtain ⟨o', ho', _, _, _, h3⟩ := h i (lt_of ho)
   rw [ho] at ho'; simp at ho'; subst ho'
   rw [zi] at h3
   simp only [Bool.and_eq_true] at h3
   have := List.all_eq_true.1 h3.1 e (by simpa using he)
   simpa [hb] using this
 · obtain ⟨o', ho', _, _, _, h3⟩ := h i hi
   rw [zi] at h3
   have := List.all_eq_true.1 h3 j (List.mem_range.2 hj)
   rw [zj] at this
   simp only [Bool.or_eq_true] at this
   exact this.imp (fun h => ⟨hj, h⟩) (fun h => .inl h)
 · obtain ⟨o', ho', _, _, _, h3⟩ := h i hi
   rw [zi] at h3
   have := List.all_eq_true.1 h3 j (List.mem_range.2 (by omega))
   rw [zj] at this
   simp only [decide_eq_true hj, Bool.not_true, Bool.false_or] at this
   exact ⟨by omega, this⟩
 · unfold tkB at ht
   rw [ho] at ht
   simp only [Bool.and_eq_true] at ht
   refine ⟨ht.1, fun j o' ho' hne hB hall => ?_⟩
   have := List.all_eq_true.1 ht.2 j (List.mem_range.2 (lt_of ho'))
   rw [ho'] at this
   simp only [Bool.or_eq_true, beq_iff_eq, List.any_eq_true, Bool.and_eq_true] at this
   rcases this with ((h1 | h1) | ⟨e, he, hb, h1⟩) | h1
   · exact absurd h1 hne
   · exact absurd ⟨lt_of ho', h1⟩ hB
   · exact absurd h1 (hall e (by simpa using he) hb)
   · exact h1
 · obtain ⟨o', ho', _, _, h5, _⟩ := h i (lt_of ho)
   rw [ho] at ho'; simp at ho'; subst ho'
   intro e
   rw [e] at h5
   cases h5

def ze (t : List V) (d : Option Tmp) (v : V) : List V :=
 match d with
 | some d => t.set d v
 | none => t

theorem put_eq (s : St) (d : Option Tmp) (v : V) : s.put d v = { s with t := ze s.t d v } := by cases d <;> rfl

section
variable (ops : Array Oper) (t0 : List V) (xs : Nat → V)

def ez (i : Nat) : Option Tmp := (ops[i]?).bind (·.dst)

def tS (S : Nat → Bool) : Nat → List V
 | 0 => t0
 | q + 1 => if S q then ze (tS S q) (ez ops q) (xs q) else tS S q

theorem kj (t : List V) (d : Option Tmp) (v : V) : (ze t d v).length = t.length := by cases d <;> simp [ze]

theorem cd (S : Nat → Bool) : ∀ q, (tS ops t0 xs S q).length = t0.length
 | 0 => rfl
 | q + 1 => by
  simp only [tS]
  split
  · rw [kj]; exact cd S q
  · exact cd S q

theorem iv (t : List V) (d : Option Tmp) (v : V) (u : Nat) (hu : u < t.length) : (ze t d v).getD u .undef = if d = some u then v else t.getD u .undef := by
 cases d with
 | none => simp [ze]
 | some d =>
  simp only [ze, List.getD_eq_getElem?_getD, List.getElem?_set, Option.some.injEq]
  by_cases e : d = u
  · subst e; simp [hu]
  · simp [e]

theorem u9 (S S' : Nat → Bool) (u : Nat) (hu : u < t0.length) : ∀ q, (∀ i, i < q → ez ops i = some u → S i = S' i) → (tS ops t0 xs S q).getD u .undef = (tS ops t0 xs S' q).getD u .undef
 | 0, _ => rfl
 | q + 1, h => by
  have ih := u9 S S' u hu q (fun i hi hd => h i (by omega) hd)
  simp only [tS]
  by_cases hd : ez ops q = some u
  · rw [h q (by omega) hd]
    split
    · rw [iv _ _ _ _ (by rw [cd]; exact hu), iv _ _ _ _ (by rw [cd]; exact hu), if_pos hd, if_pos hd]
    · exact ih
  · have e : ∀ T, (if S q then ze (tS ops t0 xs T q) (ez ops q) (xs q) else tS ops t0 xs T q).getD u .undef = (tS ops t0 xs T q).getD u .undef := by
     intro T
     split
     · rw [iv _ _ _ _ (by rw [cd]; exact hu), if_neg hd]
     · rfl
    have e' : ∀ T, (if S' q then ze (tS ops t0 xs T q) (ez ops q) (xs q) else tS ops t0 xs T q).getD u .undef = (tS ops t0 xs T q).getD u .undef := by
     intro T
     split
     · rw [iv _ _ _ _ (by rw [cd]; exact hu), if_neg hd]
     · rfl
    rw [e, e', ih]

theorem vt (S : Nat → Bool) (u : Nat) (hu : u < t0.length) (k : Nat) : ∀ q, k ≤ q → (∀ i, k ≤ i → i < q → ez ops i = some u → S i = false) → (tS ops t0 xs S q).getD u .undef = (tS ops t0 xs S k).getD u .undef
 | 0, h, _ => by have : k = 0 := by omega
                 subst this; rfl
 | q + 1, h, hs => by
  by_cases e : k = q + 1
  · subst e; rfl
  · have ih := vt S u hu k q (by omega) (fun i h1 h2 hd => hs i h1 (by omega) hd)
    simp only [tS]
    by_cases hd : ez ops q = some u
    · rw [hs q (by omega) (by omega) hd]
      exact ih
    · split
      · rw [iv _ _ _ _ (by rw [cd]; exact hu), if_neg hd]
        exact ih
      · exact ih

theorem qy (S z : Nat → Bool) (u i p : Nat) (hip : i ≤ p) (h : ∀ j, j < p → ez ops j = some u → (S j = true ↔ j < i ∧ z j = true)) :
 (tS ops t0 xs S p).getD u .undef = (tS ops t0 xs z i).getD u .undef := by
 by_cases hu : u < t0.length
 · rw [vt ops t0 xs S u hu i p hip (fun j h1 h2 hd => by
    have := h j h2 hd
    cases hs : S j
    · rfl
    · have := (this.1 hs).1; omega)]
   exact u9 ops t0 xs S z u hu i (fun j hj hd => by
    have := h j (by omega) hd
    cases hz : z j
    · cases hs : S j
      · rfl
      · rw [(this.1 hs).2] at hz; cases hz
    · exact this.2 ⟨hj, hz⟩)
 · have e : ∀ (l : List V), l.length = t0.length → l.getD u .undef = .undef := fun l hl => by
    rw [List.getD_eq_getElem?_getD, List.getElem?_eq_none (by omega)]; rfl
   rw [e _ (cd ..), e _ (cd ..)]

end

theorem oz {l l' : List V} (hl : l.length = l'.length) (h : ∀ u, u < l.length → l.getD u .undef = l'.getD u .undef) : l = l' := by
 apply List.ext_getElem hl
 intro u h1 h2
 have := h u h1
 simpa [List.getD_eq_getElem?_getD, h1, h2] using this

def hS (h0 : Hp) (ns : Nat → Hp) (z S : Nat → Bool) : Nat → Hp
 | 0 => h0
 | q + 1 => if z q then hS h0 ns z S q ++ (if S q then ns q else List.replicate (ns q).length none) else hS h0 ns z S q

section
variable (h0 : Hp) (ns : Nat → Hp) (z : Nat → Bool)

theorem xd (S S' : Nat → Bool) : ∀ q, (hS h0 ns z S q).length = (hS h0 ns z S' q).length
 | 0 => rfl
 | q + 1 => by
  have := xd S S' q
  simp only [hS]
  split
  · simp only [List.length_append, this]
    split <;> split <;> simp
  · exact this

theorem ka {S S' : Nat → Bool} : ∀ q, (∀ i, i < q → z i = true → S i = S' i) → hS h0 ns z S q = hS h0 ns z S' q
 | 0, _ => rfl
 | q + 1, h => by
  simp only [hS]
  rw [ka q (fun i hi => h i (by omega))]
  split
  · rename_i hz; rw [h q (by omega) hz]
  · rfl

theorem aku (S : Nat → Bool) : ∀ q, h0.length ≤ (hS h0 ns z S q).length
 | 0 => Nat.le_refl _
 | q + 1 => by
  have := aku S q
  simp only [hS]
  split
  · simp only [List.length_append]; omega
  · exact this

theorem aaz (S : Nat → Bool) (i : Nat) : ∀ q, i ≤ q → ∃ B : Hp, ∀ S' : Nat → Bool, (∀ j, i ≤ j → S' j = S j) → hS h0 ns z S' q = hS h0 ns z S' i ++ B
 | 0, h => ⟨[], fun S' _ => by have : i = 0 := by omega
                               subst this; simp⟩
 | q + 1, h => by
  by_cases e : i = q + 1
  · subst e; exact ⟨[], fun S' _ => by simp⟩
  · obtain ⟨B, hB⟩ := aaz S i q (by omega)
    by_cases hz : z q = true
    · refine ⟨B ++ (if S q then ns q else List.replicate (ns q).length none), fun S' hS' => ?_⟩
      simp only [hS, if_pos hz]
      rw [hB S' hS', hS' q (by omega), List.append_assoc]
    · refine ⟨B, fun S' hS' => ?_⟩
      simp only [hS, if_neg hz]
      exact hB S' hS'

theorem as3 (S : Nat → Bool) : ∀ (q id : Nat), (hS h0 ns z S q)[id]? = (hS h0 ns z z q)[id]? ∨ (hS h0 ns z S q)[id]? = some none
 | 0, id => .inl rfl
 | q + 1, id => by
  have ih := as3 S q id
  have hl := xd h0 ns z S z q
  by_cases hz : z q = true
  · simp only [hS, hz, if_true]
    rcases Nat.lt_or_ge id (hS h0 ns z S q).length with h | h
    · rw [List.getElem?_append_left h, List.getElem?_append_left (by omega)]
      exact ih
    · rw [List.getElem?_append_right h, List.getElem?_append_right (by omega), hl]
      by_cases hs : S q = true
      · rw [if_pos hs]; exact .inl rfl
      · rw [if_neg hs]
        rcases Nat.lt_or_ge (id - (hS h0 ns z z q).length) (ns q).length with h2 | h2
        · refine .inr ?_
          rw [List.getElem?_replicate, if_pos h2]
        · refine .inl ?_
          rw [List.getElem?_replicate, if_neg (by omega), List.getElem?_eq_none h2]
  · simp only [hS, hz]
    exact ih

theorem aaq (S : Nat → Bool) {k q : Nat} (hk : k ≤ q) (id : Nat) (cs cs' : List V) (h1 : (hS h0 ns z S q)[id]? = some (some cs)) (h2 : (hS h0 ns z z k)[id]? = some (some cs')) : cs = cs' := by
 obtain ⟨B, hB⟩ := aaz h0 ns z z k q hk
 have h3 : (hS h0 ns z z q)[id]? = some (some cs') := by
  rw [hB z (fun _ _ => rfl), List.getElem?_append_left (List.getElem?_eq_some_iff.1 h2).1]
  exact h2
 rcases as3 h0 ns z S q id with h | h
 · rw [h1, h3] at h; simpa using h
 · rw [h1] at h; cases h

theorem adu : ∀ (bs A B : Hp), dv (A ++ List.replicate bs.length none ++ B) A.length bs = A ++ bs ++ B
 | [], A, B => by simp [dv]
 | b :: bs, A, B => by
  show dv ((A ++ List.replicate (bs.length + 1) none ++ B).set A.length b) (A.length + 1) bs = _
  have e : (A ++ List.replicate (bs.length + 1) none ++ B).set A.length b = (A ++ [b]) ++ List.replicate bs.length none ++ B := by
   rw [List.append_assoc, List.set_append_right _ _ (Nat.le_refl _), Nat.sub_self, List.replicate_succ]
   simp
  rw [e]
  have := adu bs (A ++ [b]) B
  simp only [List.length_append, List.length_singleton] at this
  rw [this]
  simp

theorem z8 (S : Nat → Bool) {i q : Nat} (hi : i < q) (hz : z i = true) (hs : S i = false) (j : Nat) (hj : j < (ns i).length) : (hS h0 ns z S q)[(hS h0 ns z z i).length + j]? = some none := by
 obtain ⟨B, hB⟩ := aaz h0 ns z S (i + 1) q (by omega)
 rw [hB S (fun _ _ => rfl)]
 simp only [hS, hz, if_true, hs]
 rw [xd h0 ns z z S i, List.append_assoc, List.getElem?_append_right (by omega), Nat.add_sub_cancel_left]
 simp only [Bool.false_eq_true, if_false]
 rw [List.getElem?_append_left (by simpa using hj), List.getElem?_replicate, if_pos hj]

theorem ads (S S' : Nat → Bool) {i q : Nat} (hi : i < q) (hz : z i = true) (hs : S i = false) (hs' : S' i = true) (he : ∀ j, j ≠ i → S' j = S j) : dv (hS h0 ns z S q) (hS h0 ns z z i).length (ns i) = hS h0 ns z S' q := by
 obtain ⟨B, hB⟩ := aaz h0 ns z S (i + 1) q (by omega)
 rw [hB S (fun _ _ => rfl), hB S' (fun j hj => he j (by omega))]
 simp only [hS, hz, if_true, hs, hs', Bool.false_eq_true, if_false]
 rw [ka h0 ns z (S := S') (S' := S) i (fun j hj _ => he j (by omega)), xd h0 ns z z S i]
 exact adu _ _ _

theorem zd : ∀ q, ∃ k, hS h0 ns z (fun _ => false) q = h0 ++ List.replicate k none
 | 0 => ⟨0, by simp [hS]⟩
 | q + 1 => by
  obtain ⟨k, hk⟩ := zd q
  simp only [hS, hk]
  split
  · exact ⟨k + (ns q).length, by simp only [Bool.false_eq_true, if_false]; rw [List.append_assoc, List.replicate_append_replicate]⟩
  · exact ⟨k, rfl⟩

end

def Go2 (P : Program) (ops : Array Oper) (h : Hp) (o : Oper) (t : List V) (x : V) (n : Hp) : Prop :=
 gdA ops t o.guard (gop P h (ev t) o.op fun y m => y = x ∧ m = n) (x = .skip ∧ n = [])

theorem aje {ops : Array Oper} {t : List V} {g : Option (Nat × Bool)} {F : (V → Hp → Prop) → Prop} (hF : kv F) {K : V → Hp → Prop} (hq : gdA ops t g (F K) (K .skip [])) :
 ∃ x n, K x n ∧ gdA ops t g (F fun y m => y = x ∧ m = n) (x = .skip ∧ n = []) := by
 unfold gdA at *
 cases g with
 | none => exact hF K hq
 | some jw =>
  obtain ⟨j, want⟩ := jw
  dsimp only at *
  unfold vr at *
  split at hq
  · rename_i b hb
    by_cases e : b = want
    · obtain ⟨x, n, h1, h2⟩ := hF K (hq.1 e)
      exact ⟨x, n, h1, fun _ => h2, fun e2 => by subst e; cases b <;> simp at e2⟩
    · have e' : b = !want := by cases b <;> cases want <;> simp_all
      exact ⟨.skip, [], hq.2 e', fun e2 => absurd e2 e, fun _ => ⟨rfl, rfl⟩⟩
  · exact ⟨.skip, [], hq, rfl, rfl⟩
  · exact hq.elim

def gf (ops : Array Oper) (z : Nat → Bool) (q : Nat) : List Oper := ((List.range ops.size).drop q).filterMap fun i => if z i then none else ops[i]?

def ki (ops : Array Oper) (z : Nat → Bool) (q : Nat) : List Oper := (List.range q).filterMap fun i => if z i then none else ops[i]?

section
variable {P : Program} {ops : Array Oper}

theorem agq {s : St} {K : St → Prop} (hq : nq P ops ops.toList 0 [] s K) : ∀ k, k ≤ ops.size → ∃ (xs : Nat → V) (ns : Nat → Hp) (b : Nat),
 (∀ i o, i < k → zOf ops i = true → ops[i]? = some o → Go2 P ops (hS s.h ns (zOf ops) (zOf ops) i) o (tS ops s.t xs (zOf ops) i) (xs i) (ns i)) ∧
 ae2 (ops.toList.drop k) b (ki ops (zOf ops) k) = (ae2 ops.toList 0 []).drop k ∧
 nq P ops (ops.toList.drop k) b (ki ops (zOf ops) k) { s with t := tS ops s.t xs (zOf ops) k, h := hS s.h ns (zOf ops) (zOf ops) k } K
 | 0, _ => ⟨fun _ => .undef, fun _ => [], 0, fun i o hi => absurd hi (by omega), by simp [ki], by simpa [tS, hS, ki] using hq⟩
 | k + 1, hk => by
  obtain ⟨xs, ns, b, h1, hr, h2⟩ := agq hq k (by omega)
  have hlt : k < ops.size := by omega
  have hget : ops[k]? = some ops[k] := Array.getElem?_eq_getElem hlt
  have hdrop : ops.toList.drop k = ops[k] :: ops.toList.drop (k + 1) := by
   rw [List.drop_eq_getElem_cons (by simpa using hlt)]
   simp
  rw [hdrop] at h2 hr
  have hrest : ki ops (zOf ops) (k + 1) = if zOf ops k then ki ops (zOf ops) k else ki ops (zOf ops) k ++ [ops[k]] := by
   simp only [ki, List.range_succ, List.filterMap_append, List.filterMap_cons, List.filterMap_nil, hget]
   cases zOf ops k <;> simp
  have hr1 : ∀ o l b D, ae2 (o :: l) b D = if quietAt b D o then true :: ae2 l (np b D) D else false :: ae2 l b (D ++ [o]) := fun _ _ _ _ => rfl
  rw [hr1] at hr
  unfold nq at h2
  by_cases hz : quietAt b (ki ops (zOf ops) k) ops[k] = true
  · rw [if_pos hz] at hr h2
    have hzk : zOf ops k = true := by
     unfold zOf
     have := congrArg List.head? hr
     simp only [List.head?_cons, List.head?_drop] at this
     rw [List.getD_eq_getElem?_getD, ← this]; rfl
    have hr2 : ae2 (ops.toList.drop (k + 1)) (np b (ki ops (zOf ops) k)) (ki ops (zOf ops) (k + 1)) = (ae2 ops.toList 0 []).drop (k + 1) := by
     have := congrArg List.tail hr
     simp only [List.tail_cons, List.tail_drop] at this
     rw [hrest, hzk, if_pos rfl, this]
    have h2' : gdA ops (tS ops s.t xs (zOf ops) k) ops[k].guard (gop P (hS s.h ns (zOf ops) (zOf ops) k) (ev (tS ops s.t xs (zOf ops) k)) ops[k].op fun v n =>
     nq P ops (ops.toList.drop (k + 1)) (np b (ki ops (zOf ops) k)) (ki ops (zOf ops) k) (({ s with t := tS ops s.t xs (zOf ops) k, h := hS s.h ns (zOf ops) (zOf ops) k ++ n } : St).put ops[k].dst v) K)
     (nq P ops (ops.toList.drop (k + 1)) (np b (ki ops (zOf ops) k)) (ki ops (zOf ops) k) (({ s with t := tS ops s.t xs (zOf ops) k, h := hS s.h ns (zOf ops) (zOf ops) k ++ [] } : St).put ops[k].dst .skip) K) := by
     rw [List.append_nil]; exact h2
    obtain ⟨x, n, h3, h4⟩ := aje (ais P (hS s.h ns (zOf ops) (zOf ops) k) (ev (tS ops s.t xs (zOf ops) k)) ops[k].op)
     (K := fun v n => nq P ops (ops.toList.drop (k + 1)) (np b (ki ops (zOf ops) k)) (ki ops (zOf ops) k) (({ s with t := tS ops s.t xs (zOf ops) k, h := hS s.h ns (zOf ops) (zOf ops) k ++ n } : St).put ops[k].dst v) K) h2'
    have agree : ∀ i, i ≤ k → tS ops s.t (fun j => if j = k then x else xs j) (zOf ops) i = tS ops s.t xs (zOf ops) i := by
     intro i
     induction i with
     | zero => intro _; rfl
     | succ i ih =>
      intro hi
      simp only [tS]
      rw [ih (by omega)]
      simp only [if_neg (show ¬ i = k by omega)]
    have agreeH : ∀ i, i ≤ k → hS s.h (fun j => if j = k then n else ns j) (zOf ops) (zOf ops) i = hS s.h ns (zOf ops) (zOf ops) i := by
     intro i
     induction i with
     | zero => intro _; rfl
     | succ i ih =>
      intro hi
      simp only [hS]
      rw [ih (by omega)]
      simp only [if_neg (show ¬ i = k by omega)]
    refine ⟨fun j => if j = k then x else xs j, fun j => if j = k then n else ns j, _, fun i o hi zi ho => ?_, hr2, ?_⟩
    · rw [agree i (by omega), agreeH i (by omega)]
      by_cases e : i = k
      · subst e
        rw [hget] at ho; simp at ho; subst ho
        simp only [if_true]
        exact h4
      · simp only [if_neg e]
        exact h1 i o (by omega) zi ho
    · rw [hrest, hzk, if_pos rfl]
      have e1 : tS ops s.t (fun j => if j = k then x else xs j) (zOf ops) (k + 1) = ze (tS ops s.t xs (zOf ops) k) ops[k].dst x := by
       simp only [tS]
       rw [agree k (Nat.le_refl _), hzk]
       simp [ez, hget]
      have e2 : hS s.h (fun j => if j = k then n else ns j) (zOf ops) (zOf ops) (k + 1) = hS s.h ns (zOf ops) (zOf ops) k ++ n := by
       simp only [hS]
       rw [agreeH k (Nat.le_refl _), hzk]
       simp
      rw [e1, e2]
      rw [put_eq] at h3
      exact h3
  · rw [if_neg hz] at hr h2
    have hzk : zOf ops k = false := by
     unfold zOf
     have := congrArg List.head? hr
     simp only [List.head?_cons, List.head?_drop] at this
     rw [List.getD_eq_getElem?_getD, ← this]; rfl
    refine ⟨xs, ns, b, fun i o hi zi ho => ?_, ?_, ?_⟩
    · by_cases e : i = k
      · subst e; rw [hzk] at zi; cases zi
      · exact h1 i o (by omega) zi ho
    · have := congrArg List.tail hr
      simp only [List.tail_cons, List.tail_drop] at this
      rw [hrest, hzk, ← this]; rfl
    · rw [hrest, hzk]
      simp only [tS, hS, hzk]
      exact h2

def left (n : Nat) (listed : Array Bool) : Nat := ((List.range n).filter fun i => !listed.getD i true).length

theorem filter_lt {f g : Nat → Bool} {i : Nat} : ∀ (l : List Nat), i ∈ l → (∀ j, g j = true → f j = true) → f i = true → g i = false → (l.filter g).length < (l.filter f).length
 | [], h, _, _, _ => by simp at h
 | x :: l, h, hgf, hf, hg => by
  have le : ∀ (l : List Nat), (l.filter g).length ≤ (l.filter f).length := by
   intro l
   induction l with
   | nil => simp
   | cons y l ih =>
    simp only [List.filter_cons]
    cases hgy : g y
    · cases f y <;> simp <;> omega
    · rw [hgf y hgy]; simp; omega
  simp only [List.filter_cons]
  by_cases e : x = i
  · subst e
    rw [hf, hg]
    simp
    have := le l; omega
  · have hm : i ∈ l := by simpa [Ne.symm e] using h
    have ih := filter_lt l hm hgf hf hg
    cases hgx : g x
    · cases f x <;> simp <;> omega
    · rw [hgf x hgx]; simp; omega

theorem lv {n : Nat} {listed : Array Bool} {i : Nat} (hi : i < n) (hl : listed.size = n) (h : listed.getD i true = false) : left n (listed.setIfInBounds i true) < left n listed := by
 unfold left
 refine filter_lt (List.range n) (List.mem_range.2 hi) (fun j hj => ?_) (by simp [h]) ?_
 · by_cases e : i = j
   · subst e; simp [show i < listed.size from by omega] at hj
   · rw [getD_set_ne true e] at hj; exact hj
 · simp [show i < listed.size from by omega]

theorem gq {listed : Array Bool} {i : Nat} (hi : i < listed.size) : listed.getD i true = listed.getD i false := by simp [Array.getD, hi]

end
end Go.Lv
end
section
namespace Go.Lv

section
variable {P : Program} {ops : Array Oper} {z tk lt : Nat → Bool} {B : Nat → Nat → Prop}

theorem nk.B_lt (D : nk ops z B tk lt) : ∀ (i j : Nat), i < ops.size → B i j → j < i := by
 intro i
 induction i using Nat.strongRecOn with
 | _ i ih =>
  intro j hi hB
  have hget : ops[i]? = some ops[i] := Array.getElem?_eq_getElem hi
  obtain ⟨e, he, hb, h⟩ := D.clo i _ j hget hB
  have hlt := D.lt i _ hget e he hb
  rcases h with h | h
  · omega
  · have := ih e.on hlt j (by omega) h
    omega

theorem nk.zB (D : nk ops z B tk lt) : ∀ (i j : Nat), i < ops.size → z i = true → B i j → z j = true := by
 intro i
 induction i using Nat.strongRecOn with
 | _ i ih =>
  intro j hi hz hB
  have hget : ops[i]? = some ops[i] := Array.getElem?_eq_getElem hi
  obtain ⟨e, he, hb, h⟩ := D.clo i _ j hget hB
  have hlt := D.lt i _ hget e he hb
  have hze := D.noq i _ hget hz e he hb
  rcases h with h | h
  · rw [← h]; exact hze
  · exact ih e.on hlt j (by omega) hze h

def wi (B : Nat → Nat → Prop) (listed : Array Bool) : Prop := ∀ i j, listed.getD i false = true → B i j → listed.getD j false = true

theorem jm (D : nk ops z B tk lt) {listed : Array Bool} (hc : wi B listed) {i : Nat} (hr : i ∈ Region.ready .any ops listed) {j : Nat} (hB : B i j) : listed.getD j false = true := by
 obtain ⟨_, o, ho, hall⟩ := mem_ready.1 hr
 obtain ⟨e, he, hb, h⟩ := D.clo i o j ho hB
 have h1 := hall e he hb
 rcases h with h | h
 · rw [← h]; exact h1
 · exact hc _ _ h1 h

theorem gx {listed : Array Bool} {i : Nat} (hr : i ∈ Region.ready .any ops listed) : i < ops.size ∧ listed.getD i true = false := by
 obtain ⟨h0, o, ho, _⟩ := mem_ready.1 hr
 exact ⟨(Array.getElem?_eq_some_iff.1 ho).1, h0⟩

theorem progress (D : nk ops z B tk lt) {listed : Array Bool} {i : Nat} (hi : i < ops.size) (hu : listed.getD i true = false) (hall : ∀ j, j < i → (z i = true → z j = true) → listed.getD j false = true) : i ∈ Region.ready .any ops listed := by
 have hget : ops[i]? = some ops[i] := Array.getElem?_eq_getElem hi
 exact mem_ready.2 ⟨hu, _, hget, fun e he hb => hall _ (D.lt i _ hget e he hb) (fun hz => D.noq i _ hget hz e he hb)⟩

theorem zx {n : Nat} {listed : Array Bool} {i : Nat} (hi : i < n) (hu : listed.getD i true = false) : 0 < left n listed := by
 unfold left
 exact List.length_pos_of_mem (List.mem_filter.2 ⟨List.mem_range.2 hi, by simp [hu]⟩)

variable {w0 : World} {m0 : Nat → Nat} {h0 : Hp} {av0 : Nat → Prop}

theorem cq {listed : Array Bool} {i j : Nat} (hi : i < listed.size) : (listed.setIfInBounds i true).getD j false = if i = j then true else listed.getD j false := by
 by_cases e : i = j
 · subst e; simp [hi]
 · rw [getD_set_ne false e, if_neg e]

theorem ov {q : Nat} (hq : q < ops.size) : gf ops z q = if z q then gf ops z (q + 1) else ops[q] :: gf ops z (q + 1) := by
 unfold gf
 rw [List.drop_eq_getElem_cons (by simpa using hq), List.filterMap_cons]
 simp only [List.getElem_range, Array.getElem?_eq_getElem hq]
 cases z q <;> rfl

theorem amn (D : nk ops z B tk lt) {Q : Exit → Act → World → Prop} {K : St → Prop} (hk : ∀ s' a' w' m', K s' → Inv w0 m0 h0 av0 s' a' w' m' → Q .normal a' w') :
 ∀ (d q : Nat), q + d = ops.size → ∀ (fuel : Nat) (listed : Array Bool) (s : St) (a : Act) (w : World) (m : Nat → Nat), listed.size = ops.size → (∀ i, i < ops.size → (listed.getD i false = true ↔ z i = true ∨ i < q)) → left ops.size listed ≤ fuel →
  Inv w0 m0 h0 av0 s a w m → ib P ops (gf ops z q) s K → wpAny P .any ops Q fuel listed a w := by
 intro d
 induction d with
 | zero =>
  intro q hq fuel listed s a w m hl hli hf I hops
  have e : gf ops z q = [] := by unfold gf; rw [List.drop_of_length_le (by simp; omega)]; rfl
  rw [e] at hops
  refine wpAny_done (List.eq_nil_iff_forall_not_mem.2 fun i hr => ?_) (hk s a w m hops I) fuel
  obtain ⟨h1, h2⟩ := gx hr
  have := (hli i h1).2 (.inr (by omega))
  rw [gq (by omega)] at h2
  rw [this] at h2
  cases h2
 | succ d ih =>
  intro q hq fuel listed s a w m hl hli hf I hops
  have hqn : q < ops.size := by omega
  rw [ov hqn] at hops
  by_cases hzq : z q = true
  · rw [if_pos hzq] at hops
    refine ih (q + 1) (by omega) fuel listed s a w m hl (fun i hi => ?_) hf I hops
    rw [hli i hi]
    by_cases e : i = q
    · subst e; simp [hzq]
    · constructor <;> rintro (h | h) <;> first | exact .inl h | exact .inr (by omega)
  · rw [if_neg hzq] at hops
    have hu : listed.getD q true = false := by
     rw [gq (by omega)]
     cases hx : listed.getD q false
     · rfl
     · rcases (hli q hqn).1 hx with h | h
       · exact absurd h hzq
       · omega
    cases fuel with
    | zero => have := zx hqn hu; omega
    | succ fuel =>
     have hpr : q ∈ Region.ready .any ops listed := progress D hqn hu (fun j hj _ => (hli j (by omega)).2 (.inr hj))
     refine ⟨(fun hr => by rw [hr] at hpr; cases hpr), fun i hr => ?_⟩
     obtain ⟨hi, hui⟩ := gx hr
     have hni : ¬ (z i = true ∨ i < q) := by
      intro h
      have := (hli i hi).2 h
      rw [gq (by omega), this] at hui
      cases hui
     have hiq : i = q := by
      rcases Nat.lt_or_ge q i with h | h
      · exfalso
        have hzi : z i = false := by cases hx : z i
                                     · rfl
                                     · exact absurd (.inl hx) hni
        have hB := D.bar i q hi hzi h (by simpa using hzq)
        obtain ⟨_, o, ho, hall⟩ := mem_ready.1 hr
        obtain ⟨e, he, hb, hh⟩ := D.clo i o q ho hB
        have h1 := hall e he hb
        have h2 := D.lt i o ho e he hb
        have h3 := (hli e.on (by omega)).1 h1
        rcases hh with hh | hh
        · rw [hh] at h3
          rcases h3 with h3 | h3
          · exact hzq h3
          · omega
        · rcases h3 with h3 | h3
          · exact hzq (D.zB e.on q (by omega) h3 hh)
          · have := D.B_lt e.on q (by omega) hh
            omega
      · omega
     subst hiq
     have hget : ops[i]? = some ops[i] := Array.getElem?_eq_getElem hi
     have next : ∀ (s' : St) (a' : Act) (w' : World) (m' : Nat → Nat), Inv w0 m0 h0 av0 s' a' w' m' → ib P ops (gf ops z (i + 1)) s' K → wpAny P .any ops Q fuel (listed.setIfInBounds i true) a' w' := by
      intro s' a' w' m' I' h'
      refine ih (i + 1) (by omega) fuel _ s' a' w' m' (by simpa using hl) (fun j hj => ?_) (by have := lv hi hl hu; omega) I' h'
      rw [cq (by omega)]
      by_cases e : i = j
      · subst e; simp
      · rw [if_neg e, hli j hj]
        constructor <;> rintro (h | h) <;> first | exact .inl h | exact .inr (by omega)
     unfold wpOp
     simp only [hget]
     unfold ib at hops
     rcases oo I hops with ⟨h1, h2⟩ | ⟨h1, h2⟩
     · rw [if_pos h1]
       exact .inl (afo I h2 (fun s' a' w' m' h3 h4 => next s' a' w' m' h4 h3))
     · rw [if_neg (by simp [h1])]
       exact next _ _ w m (I.put .skip) h2

theorem ia {o : Oper} {u : Tmp} (h : Operand.tmp u ∈ o.op.operands) : u ∈ o.looksAt ops := by
 unfold Oper.looksAt
 exact List.mem_append_left _ (List.mem_filterMap.2 ⟨.tmp u, by simpa using h, rfl⟩)

theorem ny {o : Oper} {g : Nat} {b : Bool} {u : Tmp} (hg : o.guard = some (g, b)) (hu : (ops[g]?).bind (·.dst) = some u) : u ∈ o.looksAt ops := by
 unfold Oper.looksAt
 rw [hg]
 exact List.mem_append_right _ (by simp [hu])

theorem o4 : ∀ (p : Nat) (f : Nat → Bool), ¬ (∀ i, i < p → f i = true) → ∃ i, i < p ∧ f i = false ∧ ∀ j, j < i → f j = true
 | 0, f, h => absurd (fun i hi => absurd hi (by omega)) h
 | p + 1, f, h => by
  by_cases h' : ∀ i, i < p → f i = true
  · refine ⟨p, by omega, ?_, h'⟩
    cases hx : f p
    · rfl
    · exact absurd (fun i hi => by
       rcases Nat.lt_or_ge i p with g | g
       · exact h' i g
       · have : i = p := by omega
         subst this; exact hx) h
  · obtain ⟨i, h1, h2, h3⟩ := o4 p f h'
    exact ⟨i, by omega, h2, h3⟩

theorem wx (ops : Array Oper) (t0 : List V) (xs : Nat → V) (S S' : Nat → Bool) : ∀ q, (∀ i, i < q → S i = S' i) → tS ops t0 xs S q = tS ops t0 xs S' q
 | 0, _ => rfl
 | q + 1, h => by
  simp only [tS]
  rw [h q (by omega), wx ops t0 xs S S' q (fun i hi => h i (by omega))]

theorem ab4 {t t' : List V} {gd : Option (Nat × Bool)} {A A' B : Prop} (hg : ∀ g b, gd = some (g, b) → gv ops t g = gv ops t' g) (hA : A → A') (hq : gdA ops t gd A B) : gdA ops t' gd A' B := by
 unfold gdA at *
 cases gd with
 | none => exact hA hq
 | some jw =>
  obtain ⟨j, want⟩ := jw
  dsimp only at *
  rw [← hg j want rfl]
  unfold vr at *
  split at hq
  · exact ⟨fun e => hA (hq.1 e), hq.2⟩
  · exact hq
  · exact hq.elim

theorem adl {w : World} {m : Nat → Nat} {h : Hp} {av : Nat → Prop} {u : Value} {x : V} {s : TypeId} {f : Nat} {K : V → Prop} (hx : RV w m h av true u x) (hq : ff P s f x K) :
 ∃ v y, K y ∧ RV w m h av true v y ∧ ∀ w', (Instr.fieldAt s u f).run P w' = .ok v w' := by
 unfold ff at hq
 split at hq
 · rename_i off sz ag ht
   obtain ⟨fs, fd, i, d, h1, h2, rfl, h4, h5, rfl, h7⟩ := aca ht
   obtain ⟨hpos, hq⟩ := hq
   have hne : ¬ i.size = 0 := by omega
   have run : ∀ b o w', (Instr.fieldAt s (.pointer (some ⟨b, o, none⟩)) f).run P w' = .ok (.pointer (some ⟨b, o + fd.offset, none⟩)) w' := by
    intro b o w'
    simp [Instr.fieldAt, run_underlying h1, h2, Instr.sureAddr, fieldPlace, sizeOf, typeInfo, h4, hne, Addr.add_lit]
   cases hx with
   | pt b o cs vals ha hv hr =>
    refine ⟨_, _, hq, .pt b (o + fd.offset) _ (fun j => vals (fd.offset + j)) (fun hne => ha (by rintro rfl; simp at hne)) (fun j hj => ?_) (fun j hj => ?_), run b o⟩
    · rw [Nat.add_assoc]; exact hv _ (by simp at hj; omega)
    · rw [List.getElem_drop]; exact hr _ _
   | ptr id o cs hid => exact ⟨_, _, hq, .ptr id _ cs hid, run _ o⟩
   | _ => exact False.elim hq
 · exact hq.elim

def isLit : V → Bool
 | .int _ _ => true
 | .str _ => true
 | .bool _ => true
 | _ => false
def al5 : V → Value
 | .int k n => .int k n
 | .str s => .string s
 | .bool b => .bool b
 | _ => Go.undef
theorem as1 {w : World} {m : Nat → Nat} {h : Hp} {av : Nat → Prop} {o : Bool} {v : Value} {x : V} (hl : isLit x = true) (hx : RV w m h av o v x) : v = al5 x := by
 cases hx <;> first | rfl | (cases hl; done)
theorem ae6 {w : World} {m : Nat → Nat} {h : Hp} {av : Nat → Prop} {o : Bool} {x : V} (hl : isLit x = true) : RV w m h av o (al5 x) x := by
 cases x <;> first | exact .int _ _ | exact .str _ | exact .bool _ | (cases hl; done)
theorem av1 {op : BinOp} {t : TypeId} {c : Bool} {x y : V} {K : V → Prop} (hq : bin P op t c x y K) : bin P op t c x y (fun z => K z ∧ isLit z = true) := by
 unfold bin at hq ⊢
 split at hq
 · refine ⟨hq.1, ?_⟩
   have h := hq.2
   dsimp only at h ⊢
   split at h
   · split at h
     · exact ⟨h, rfl⟩
     · exact ⟨h, rfl⟩
     · exact h.elim
   · exact h.elim
 · refine ⟨hq.1, ?_⟩
   have h := hq.2
   cases op <;> simp only [xl] at h ⊢ <;> first | exact ⟨h, rfl⟩ | exact ⟨h.1, h.2, rfl⟩ | exact h
 · cases op <;> simp only [xg] at hq ⊢ <;> first | exact ⟨hq, rfl⟩ | exact ⟨hq.1, hq.2, rfl⟩ | exact hq
 · refine ⟨hq.1, ?_⟩
   have h := hq.2
   split at h
   · exact ⟨h, rfl⟩
   · exact ⟨h, rfl⟩
   · exact h.elim
 · split at hq
   · split at hq
     · split at hq
       · exact ⟨hq, rfl⟩
       · exact ⟨hq, rfl⟩
       · exact hq.elim
     · exact hq.elim
   · exact hq.elim
 · exact hq.elim
theorem anq : ∀ {ds : List TypeDesc} {a b : List V} {r : Bool}, eqL ds a b = some r → (∀ x ∈ a, isLit x = true) ∧ ∀ x ∈ b, isLit x = true
 | [], [], [], _, _ => ⟨fun x h => by simp at h, fun x h => by simp at h⟩
 | d :: ds, u :: a, v :: b, r, h => by
  unfold eqL at h
  split at h
  · rename_i x1 x2 h1 h2
    have ih := anq h2
    have hu : isLit u = true ∧ isLit v = true := by
     unfold eqV at h1
     split at h1 <;> first | exact ⟨rfl, rfl⟩ | (cases h1; done)
    exact ⟨fun x hx => by rcases List.mem_cons.1 hx with rfl | hx; exact hu.1; exact ih.1 x hx, fun x hx => by rcases List.mem_cons.1 hx with rfl | hx; exact hu.2; exact ih.2 x hx⟩
  · cases h
 | [], _ :: _, _, _, h => by simp [eqL] at h
 | [], [], _ :: _, _, h => by simp [eqL] at h
 | _ :: _, [], _, _, h => by simp [eqL] at h
 | _ :: _, _ :: _, [], _, h => by simp [eqL] at h
theorem ane {w w' : World} {m : Nat → Nat} {h : Hp} {av : Nat → Prop} {v : Value} {cs : List V} (hl : ∀ x ∈ cs, isLit x = true) (hx : RV w m h av true v (.agg cs)) : RV w' m h av true v (.agg cs) := by
 cases hx with
 | agg a a' ha hra =>
  refine .agg a _ ha (fun i hi => ?_)
  have h1 := hl _ (List.getElem_mem hi)
  rw [as1 h1 (hra i hi)]
  exact ae6 h1
theorem aqg {w w' : World} {m : Nat → Nat} {h : Hp} {av : Nat → Prop} {u v : Value} {op : BinOp} {t : TypeId} {c : Bool} {x y : V} {K : V → Prop} (hx : RV w m h av true u x) (hy : RV w m h av true v y) (hq : bin P op t c x y K) :
 RV w' m h av true u x ∧ RV w' m h av true v y := by
 unfold bin at hq
 split at hq
 · cases hx; cases hy; exact ⟨.lit _, .lit _⟩
 · cases hx; cases hy; exact ⟨.int _ _, .int _ _⟩
 · cases hx; cases hy; exact ⟨.str _, .str _⟩
 · cases hx; cases hy; exact ⟨.bool _, .bool _⟩
 · split at hq
   · split at hq
     · rename_i r he
       obtain ⟨h1, h2⟩ := anq he
       exact ⟨ane h1 hx, ane h2 hy⟩
     · exact hq.elim
   · exact hq.elim
 · exact hq.elim
theorem adk {w : World} {m : Nat → Nat} {h : Hp} {av : Nat → Prop} {u v : Value} {op : BinOp} {t : TypeId} {c : Bool} {x y : V} {K : V → Prop} (hx : RV w m h av true u x) (hy : RV w m h av true v y) (hq : bin P op t c x y K) :
 ∃ z, K z ∧ isLit z = true ∧ ∀ w' ox oy, (c = true → (kO ox || kO oy) = true) → (do eqGuard op t ox oy u v; binOp op t u v : Sem Value).run P w' = .ok (al5 z) w' := by
 obtain ⟨z, hz, hq'⟩ := ans P op t c x y _ (av1 hq)
 refine ⟨z, hz.1, hz.2, fun w' ox oy hc => ?_⟩
 obtain ⟨g1, g2⟩ := aqg (w' := w') hx hy hq'
 obtain ⟨v', x', h1, h2, h3⟩ := ase (ox := ox) (oy := oy) hc g1 g2 hq'
 subst h1
 rw [as1 hz.2 h2] at h3
 exact h3

theorem aa3 {w : World} {m : Nat → Nat} {h : Hp} {av : Nat → Prop} {u v : Value} {x : V} {k : IntKind} {z : Int} {t : TypeId} {K : V → Prop} (hx : RV w m h av true u x) (hv : v = .int k z) (hq : eo P t x z K) :
 ∃ v' y, K y ∧ RV w m h av true v' y ∧ ∀ w', (Instr.indexAt t u v).run P w' = .ok v' w' := by
 unfold eo at hq
 subst hv
 cases hx with
 | sl b off n cap wd cs vals hl ha hc hcell hr =>
  dsimp only at hq
  split at hq
  · rename_i e sz by_ he
    obtain ⟨i, h1, h2, rfl, h4⟩ := je he
    obtain ⟨⟨h5, h6⟩, rfl, hk⟩ := hq
    have hzn : z.toNat < n := by omega
    have hroom : z.toNat * i.size + i.size ≤ cs.length := adn hzn hl
    refine ⟨_, _, hk, .pt b (off + z.toNat * i.size) _ (fun j => vals (z.toNat * i.size + j)) (fun hne => ha (by rintro rfl; simp at hne)) (fun j hj => ?_) (fun j hj => ?_), fun w' => nj t e i h1 h2 b off n cap k z h5 h6⟩
    · rw [Nat.add_assoc]; exact hcell _ (by simp at hj; omega)
    · simp only [List.getElem_take, List.getElem_drop]; exact hr _ _
  · exact hq.elim
 | slz a c wd =>
  dsimp only at hq
  split at hq
  · exact absurd hq.1 (by omega)
  · exact hq.elim
 | osl id off n cap wd cs hid hl hc hs =>
  dsimp only at hq
  split at hq
  · rename_i e sz by_ he
    obtain ⟨i, h1, h2, rfl, h4⟩ := je he
    obtain ⟨⟨h5, h6⟩, rfl, hk⟩ := hq
    exact ⟨_, _, hk, .ptr id _ cs hid, fun w' => nj t e i h1 h2 _ off n cap k z h5 h6⟩
  · exact hq.elim
 | ptr id off cs hid =>
  dsimp only at hq
  split at hq
  · rename_i n sz ag he
    obtain ⟨e, i, d, h1, h2, h3, rfl, rfl⟩ := tt he
    obtain ⟨⟨h5, h6⟩, hk⟩ := hq
    exact ⟨_, _, hk, .ptr id _ cs hid, fun w' => nu t e n i h1 h2 _ off k z h5 h6⟩
  · exact hq.elim
 | pt b off cs vals ha hcell hr =>
  dsimp only at hq
  split at hq
  · rename_i n sz ag he
    obtain ⟨e, i, d, h1, h2, h3, rfl, rfl⟩ := tt he
    obtain ⟨⟨h5, h6⟩, hk⟩ := hq
    refine ⟨_, _, hk, .pt b (off + z.toNat * i.size) _ (fun j => vals (z.toNat * i.size + j)) (fun hne => ha (by rintro rfl; simp at hne)) (fun j hj => ?_) (fun j hj => ?_), fun w' => nu t e n i h1 h2 b off k z h5 h6⟩
    · rw [Nat.add_assoc]; exact hcell _ (by simp at hj; omega)
    · simp only [List.getElem_drop]; exact hr _ _
  · exact hq.elim
 | _ => exact False.elim hq

theorem Inv.pad {s : St} {a : Act} {w : World} {m : Nat → Nat} (I : Inv w0 m0 h0 av0 s a w m) (k : Nat) : Inv w0 m0 h0 av0 { s with h := s.h ++ List.replicate k none } a w m := by
 have hcase : ∀ (j : Nat) (c : List V), (s.h ++ List.replicate k none)[j]? = some (some c) → s.h[j]? = some (some c) := by
  intro j c h
  rcases Nat.lt_or_ge j s.h.length with h1 | h1
  · rw [List.getElem?_append_left h1] at h; exact h
  · rw [List.getElem?_append_right h1, List.getElem?_replicate] at h
    split at h <;> cases h
 have hold : ∀ (j : Nat) (c : List V), s.h[j]? = some (some c) → (s.h ++ List.replicate k none)[j]? = some (some c) := fun j c h => by
  rw [List.getElem?_append_left (e8 h)]; exact h
 have hown : ∀ b, own m (s.h ++ List.replicate k none) b → own m s.h b := by
  rintro b ⟨j, c, h1, rfl⟩
  exact ⟨j, c, hcase j c h1, rfl⟩
 have hstep : ∀ {o : Bool} {v : Value} {x : V}, RV w m s.h (avm av0 m s.h) o v x → RV w m (s.h ++ List.replicate k none) (avm av0 m (s.h ++ List.replicate k none)) o v x :=
  fun hx => hx.step (fun b off' v hb hc => ⟨fun h => hb (h.imp (fun h => h) (hown b)), hc⟩) (fun id c hid => ⟨c, hold id c hid, Nat.le_refl _, rfl, Nat.le_refl _, rfl⟩)
 refine ⟨⟨fun i j ci cj h1 h2 he => I.rh.inj i j ci cj (hcase i ci h1) (hcase j cj h2) he, fun j c h1 => .inr ⟨j, c, h1, rfl⟩, fun j c h1 => (I.rh.blk j c (hcase j c h1)).step rfl (fun v x => hstep)⟩, I.size, fun i hi => hstep (I.slots i hi), I.defers, I.ext, fun j c h1 => I.ids j c (hcase j c h1), I.lt, I.lent, I.gl, I.k, by
  have := I.len
  simp only [List.length_append]; omega⟩

theorem azl (D : nk ops z B tk) {Q : Exit → Act → World → Prop} {K : St → Prop} (hQp : ∀ c a a' w, Q (.panic c) a w → Q (.panic c) a' w) (hk : ∀ s' a' w' m', K s' → Inv w0 m0 h0 av0 s' a' w' m' → Q .normal a' w') {s : St} (hlen : h0.length ≤ s.h.length) {xs : Nat → V} {ns : Nat → Hp}
 (hgo : ∀ i o, i < ops.size → z i = true → ops[i]? = some o → Go2 P ops (hS s.h ns z z i) o (tS ops s.t xs z i) (xs i) (ns i)) (hend : ib P ops (gf ops z 0) { s with t := tS ops s.t xs z ops.size, h := hS s.h ns z z ops.size } K) :
 ∀ (fuel : Nat) (listed : Array Bool) (a : Act) (w : World) (m : Nat → Nat), listed.size = ops.size → wi B listed → (∀ i, listed.getD i false = true → z i = true) → left ops.size listed ≤ fuel →
  Inv w0 m0 h0 av0 { s with t := tS ops s.t xs (fun i => listed.getD i false) ops.size, h := hS s.h ns z (fun i => listed.getD i false) ops.size } a w m → wpAny P .any ops Q fuel listed a w := by
 have done : ∀ (fuel : Nat) (listed : Array Bool) (a : Act) (w : World) (m : Nat → Nat), listed.size = ops.size → (∀ i, listed.getD i false = true → z i = true) → left ops.size listed ≤ fuel →
  Inv w0 m0 h0 av0 { s with t := tS ops s.t xs (fun i => listed.getD i false) ops.size, h := hS s.h ns z (fun i => listed.getD i false) ops.size } a w m → (∀ i, i < ops.size → z i = true → listed.getD i false = true) → wpAny P .any ops Q fuel listed a w := by
  intro fuel listed a w m hl hlz hf I hall
  have hsz : ∀ i, i < ops.size → listed.getD i false = z i := fun i hi => by
   cases hz : z i
   · cases hx : listed.getD i false
     · rfl
     · rw [hlz i hx] at hz; cases hz
   · exact hall i hi hz
  rw [wx ops s.t xs _ z ops.size hsz, ka s.h ns z ops.size (fun i hi _ => hsz i hi)] at I
  refine amn D hk ops.size 0 (by omega) fuel listed _ a w m hl (fun i hi => ?_) hf I hend
  rw [hsz i hi]; simp
 intro fuel
 induction fuel with
 | zero =>
  intro listed a w m hl hc hlz hf I
  refine done 0 listed a w m hl hlz hf I (fun i hi _ => ?_)
  cases hx : listed.getD i false
  · have := zx (listed := listed) hi (by rw [gq (by omega)]; exact hx)
    omega
  · rfl
 | succ fuel ih =>
  intro listed a w m hl hc hlz hf I
  by_cases hall : ∀ i, i < ops.size → (!(z i) || listed.getD i false) = true
  · exact done (fuel + 1) listed a w m hl hlz hf I (fun i hi hz => by have := hall i hi; simpa [hz] using this)
  · obtain ⟨k, hkn, hku, hkl⟩ := o4 ops.size (fun i => !(z i) || listed.getD i false) hall
    simp only [Bool.or_eq_false_iff, Bool.not_eq_false'] at hku
    obtain ⟨hkz, hku⟩ := hku
    have hkr : k ∈ Region.ready .any ops listed := progress D hkn (by rw [gq (by omega)]; exact hku) (fun j hj hz => by
     have := hkl j hj
     simpa [hz hkz] using this)
    -- one quiet operation, ready
    have main : ∀ i, i ∈ Region.ready .any ops listed → z i = true → (∃ hi : i < ops.size, Go2 P ops (hS s.h ns z z i) ops[i] (tS ops s.t xs (fun i => listed.getD i false) ops.size) (xs i) (ns i) ∧
     ∀ (v : Value) (w' : World) (m' : Nat → Nat), Inv w0 m0 h0 av0 (({ s with t := tS ops s.t xs (fun i => listed.getD i false) ops.size, h := dv (hS s.h ns z (fun i => listed.getD i false) ops.size) (hS s.h ns z z i).length (ns i) } : St).put ops[i].dst (xs i)) (a.put ops[i].dst v) w' m' →
      wpAny P .any ops Q fuel (listed.setIfInBounds i true) (a.put ops[i].dst v) w') := by
     intro i hr hzi
     obtain ⟨hi, hu⟩ := gx hr
     have hu' : listed.getD i false = false := by rw [← gq (by omega)]; exact hu
     have hget : ops[i]? = some ops[i] := Array.getElem?_eq_getElem hi
     have hwr : ∀ u, (u ∈ ops[i].looksAt ops ∨ ops[i].dst = some u) → ∀ j, j < ops.size → ez ops j = some u → (listed.getD j false = true ↔ j < i ∧ z j = true) := by
      intro u hmem j hj hd
      by_cases e : j = i
      · subst e; simp [hu']
      · by_cases hzj : z j = true
        · have hgj : ops[j]? = some ops[j] := Array.getElem?_eq_getElem hj
          have hcl : ly ops j i = true := by
           have hd' : ops[j].dst = some u := by simpa [ez, hgj] using hd
           unfold ly
           simp only [hgj, hget, hd']
           rcases hmem with h | h
           · simp [h]
           · simp [h]
          obtain ⟨c1, c2⟩ := D.cl i j hi hj hzi hzj e hcl
          rcases Nat.lt_or_ge j i with h | h
          · exact ⟨fun _ => ⟨h, hzj⟩, fun _ => jm D hc hr (c1 h)⟩
          · refine ⟨fun hx => ?_, fun hx => by omega⟩
            have := hc j i hx (c2 (by omega))
            rw [hu'] at this
            cases this
        · exact ⟨fun hx => absurd (hlz j hx) hzj, fun hx => absurd hx.2 hzj⟩
     have hat : ∀ u, (u ∈ ops[i].looksAt ops ∨ ops[i].dst = some u) → (tS ops s.t xs z i).getD u .undef = (tS ops s.t xs (fun i => listed.getD i false) ops.size).getD u .undef :=
      fun u hmem => (qy ops s.t xs _ z u i ops.size (by omega) (hwr u hmem)).symm
     have hgo1 := hgo i _ hi hzi hget
     refine ⟨hi, ?_, ?_⟩
     · unfold Go2 at hgo1 ⊢
       refine ab4 (fun g b hg => ?_) (fun h => abm (fun x hx => aay fun u hxu => hat u (.inl (ia (hxu ▸ hx)))) h) hgo1
       unfold gv
       cases hd : (ops[g]?).bind (·.dst) with
       | none => rfl
       | some d => exact hat d (.inl (ny hg hd))
     · intro v w' m' I'
       have hst : ({ s with t := tS ops s.t xs (fun i => listed.getD i false) ops.size, h := dv (hS s.h ns z (fun i => listed.getD i false) ops.size) (hS s.h ns z z i).length (ns i) } : St).put ops[i].dst (xs i) =
        { s with t := tS ops s.t xs (fun j => (listed.setIfInBounds i true).getD j false) ops.size, h := hS s.h ns z (fun j => (listed.setIfInBounds i true).getD j false) ops.size } := by
        rw [put_eq]
        congr 1
        · refine oz (by rw [kj, cd, cd]) (fun u hu2 => ?_)
          rw [kj, cd] at hu2
          rw [iv _ _ _ _ (by rw [cd]; exact hu2)]
          have hdi : ez ops i = ops[i].dst := by simp [ez, hget]
          by_cases hd : ops[i].dst = some u
          · rw [if_pos hd]
            rw [qy ops s.t xs _ z u (i + 1) ops.size (by omega) (fun j hj hdj => ?_)]
            · simp only [tS, hzi, if_true]
              rw [iv _ _ _ _ (by rw [cd]; exact hu2), hdi, if_pos hd]
            · rw [cq (by omega)]
              by_cases e : i = j
              · subst e; simp [hzi]
              · rw [if_neg e, hwr u (.inr hd) j hj hdj]
                constructor <;> rintro ⟨h, h'⟩ <;> exact ⟨by omega, h'⟩
          · rw [if_neg hd]
            refine u9 ops s.t xs _ _ u hu2 ops.size (fun j hj hdj => ?_)
            rw [cq (by omega), if_neg]
            rintro rfl
            rw [hdi] at hdj
            exact hd hdj
        · refine ads s.h ns z _ _ hi hzi hu' ?_ (fun j hj => ?_)
          · rw [cq (by omega), if_pos rfl]
          · rw [cq (by omega), if_neg (Ne.symm hj)]
       rw [hst] at I'
       refine ih _ _ w' m' (by simpa using hl) (fun i' j hl' hB => ?_) (fun j hj => ?_) (by have := lv hi hl hu; omega) I'
       · rw [cq (by omega)] at hl' ⊢
         by_cases e : i = j
         · rw [if_pos e]
         · rw [if_neg e]
           by_cases e' : i = i'
           · subst e'
             exact jm D hc hr hB
           · rw [if_neg e'] at hl'
             exact hc i' j hl' hB
       · rw [cq (by omega)] at hj
         by_cases e : i = j
         · subst e; exact hzi
         · rw [if_neg e] at hj
           exact hlz j hj
    by_cases ht : tk k = true
    · -- the operation goes first
      obtain ⟨hi, hg, next⟩ := main k hkr hkz
      have hget : ops[k]? = some ops[k] := Array.getElem?_eq_getElem hi
      obtain ⟨hto, hap⟩ := D.take k _ hget ht
      have hyn : ∃ v, Yields P ops ops[k] v a ∧ RV w m (hS s.h ns z (fun i => listed.getD i false) ops.size) (avm av0 m (hS s.h ns z (fun i => listed.getD i false) ops.size)) true v (xs k) ∧ ns k = [] := by
       unfold Go2 at hg
       rcases oo I hg with ⟨hw, hg⟩ | ⟨hw, hg⟩
       rotate_left
       · exact ⟨Go.undef, .inr ⟨hw, rfl⟩, by rw [hg.1]; exact .skip, hg.2⟩
       unfold om at hto
       unfold ag7 at hto
       split at hto
       · rename_i T u f hop
         rw [hop] at hg
         obtain ⟨v, y, ⟨rfl, h2⟩, h3, h4⟩ := adl (P := P) (I.ev (.tmp u)) (K := fun y => y = xs k ∧ [] = ns k) hg
         refine ⟨v, .inl ⟨hw, fun w' => ?_⟩, h3, h2.symm⟩
         have := h4 w'
         generalize ops[k] = o at *
         obtain ⟨dst, op, ty, pos, after, guard⟩ := o
         subst hop
         simp [execOp, this]
       · rename_i T u1 u2 hop
         rw [hop] at hg
         obtain ⟨kd, n, e1, _, hg⟩ := l9 (I.ev (.tmp u2)) (K := fun _ n => eo P T (ev _ (.tmp u1)) n fun y => y = xs k ∧ [] = ns k) hg
         obtain ⟨v, y, ⟨rfl, h2⟩, h3, h4⟩ := aa3 (P := P) (t := T) (I.ev (.tmp u1)) e1 hg
         refine ⟨v, .inl ⟨hw, fun w' => ?_⟩, h3, h2.symm⟩
         have := h4 w'
         generalize ops[k] = o at *
         obtain ⟨dst, op, ty, pos, after, guard⟩ := o
         subst hop
         simp [execOp, this]
       · rename_i u hop
         rw [hop] at hg
         obtain ⟨e1, h2⟩ : ev (tS ops s.t xs (fun i => listed.getD i false) ops.size) (.tmp u) = xs k ∧ [] = ns k := hg
         refine ⟨a.eval (.tmp u), .inl ⟨hw, fun w' => ?_⟩, ?_, h2.symm⟩
         · generalize ops[k] = o at *
           obtain ⟨dst, op, ty, pos, after, guard⟩ := o
           subst hop
           simp [execOp]
         · have := I.ev (.tmp u)
           rw [e1] at this
           exact this
       · rename_i u x1 x2 hop
         rw [hop] at hg
         obtain ⟨b, e1, _, e2, h2⟩ := ng (I.ev (.tmp u)) (K := fun b => (if b then ev (tS ops s.t xs (fun i => listed.getD i false) ops.size) x1 else ev (tS ops s.t xs (fun i => listed.getD i false) ops.size) x2) = xs k ∧ [] = ns k) hg
         refine ⟨if b then a.eval x1 else a.eval x2, .inl ⟨hw, fun w' => ?_⟩, ?_, h2.symm⟩
         · generalize ops[k] = o at *
           obtain ⟨dst, op, ty, pos, after, guard⟩ := o
           subst hop
           cases b <;> simp [execOp, e1, asBool]
         · rw [← e2]
           cases b
           · exact I.ev x2
           · exact I.ev x1
       · rename_i bop T x1 x2 t' hop
         rw [hop] at hg
         obtain ⟨z, ⟨e1, h2⟩, hl, h4⟩ := adk (P := P) (t := T) (K := fun y => y = xs k ∧ [] = ns k) (I.ev x1) (I.ev x2) hg
         refine ⟨al5 z, .inl ⟨hw, fun w' => ?_⟩, by rw [← e1]; exact ae6 hl, h2.symm⟩
         have := h4 w' x1 x2 id
         generalize ops[k] = o at *
         obtain ⟨dst, op, ty, pos, after, guard⟩ := o
         subst hop
         simp only [execOp]
         rw [Sem.run_bind, this]
         rfl
       · rename_i u j hop
         rw [hop] at hg
         change o2 (ev (tS ops s.t xs (fun i => listed.getD i false) ops.size) (.tmp u)) j (fun y => y = xs k ∧ [] = ns k) at hg
         have hx := I.ev (.tmp u)
         generalize hue : a.eval (.tmp u) = uv at hx
         dsimp only at hx
         generalize ev (tS ops s.t xs (fun i => listed.getD i false) ops.size) (.tmp u) = xv at hx hg
         cases hx with
         | tup ar vs ha hra =>
          unfold o2 at hg
          dsimp only at hg
          split at hg
          · rename_i v hv
            have hlt : j < vs.length := (List.getElem?_eq_some_iff.1 hv).1
            have hr := hra j hlt
            rw [(List.getElem?_eq_some_iff.1 hv).2] at hr
            have hlt' : j < ar.size := by omega
            refine ⟨ar.getD j Go.undef, .inl ⟨hw, fun w' => ?_⟩, by rw [← hg.1]; exact hr, hg.2.symm⟩
            generalize ops[k] = o at *
            obtain ⟨dst, op, ty, pos, after, guard⟩ := o
            subst hop
            simp [execOp, hue, Instr.extract, Array.getD, hlt']
          · exact hg.elim
         | _ => exact hg.elim
       · rename_i T x hop
         rw [hop] at hg
         obtain ⟨b, e1, _, e2, h2⟩ := ng (I.ev x) (K := fun b => V.bool (!b) = xs k ∧ [] = ns k) hg
         refine ⟨.bool (!b), .inl ⟨hw, fun w' => ?_⟩, by rw [← e2]; exact .bool _, h2.symm⟩
         generalize ops[k] = o at *
         obtain ⟨dst, op, ty, pos, after, guard⟩ := o
         subst hop
         simp [execOp, Op.unary, e1]
       · rename_i u hop
         rw [hop] at hg
         have hnil : ya (ev (tS ops s.t xs (fun i => listed.getD i false) ops.size) (.tmp u)) (fun y => y = xs k ∧ [] = ns k) := hg
         have hx := I.ev (.tmp u)
         refine ⟨a.eval (.tmp u), .inl ⟨hw, fun w' => ?_⟩, ?_, ?_⟩
         · generalize ops[k] = o at *
           obtain ⟨dst, op, ty, pos, after, guard⟩ := o
           subst hop
           dsimp only at hx
           generalize hue : a.eval (.tmp u) = uv at hx
           generalize ev (tS ops s.t xs (fun i => listed.getD i false) ops.size) (.tmp u) = xv at hx hnil
           cases hx with
           | ptr id off cs hid => simp [execOp, hue]
           | pt b off cs vals ha hv hr => simp [execOp, hue]
           | fn f a1 c1 a' c' ha hc hra hrc =>
            cases f with
            | func f => simp [execOp, hue]
            | _ => exact False.elim hnil
           | _ => exact False.elim hnil
         · have he : ev (tS ops s.t xs (fun i => listed.getD i false) ops.size) (.tmp u) = xs k := by
            unfold ya at hnil
            split at hnil <;> first | (rename_i hh; rw [hh]; exact hnil.1) | exact hnil.1 | exact hnil.elim
           dsimp only at hx
           rw [he] at hx
           exact hx
         · unfold ya at hnil
           split at hnil <;> first | exact hnil.2.symm | exact hnil.elim
       · cases hto
      obtain ⟨v, hy, hrv, hn⟩ := hyn
      refine wpAny_first hget D.sel (fun c a' w' h => hQp c _ _ w' h) fuel listed a w (fun j oj hj hne hun hno => hap j oj hj hne (fun hB => ?_) hno) hkr hy (next v w m ?_)
      · have := jm D hc hkr hB
        rw [gq (by rw [hl]; exact (Array.getElem?_eq_some_iff.1 hj).1), this] at hun
        cases hun
      · rw [hn]
        exact I.put hrv
    · refine ⟨(fun hr => by rw [hr] at hkr; cases hkr), fun i hr => ?_⟩
      obtain ⟨hi, hu⟩ := gx hr
      have hzi : z i = true := by
       cases hx : z i
       · exfalso
         rcases D.mix i k hi hkn hx hkz with h | h | h
         · have := jm D hc hr h
           rw [hku] at this
           cases this
         · exact ht h
         · cases h
       · rfl
      obtain ⟨_, hg, next⟩ := main i hr hzi
      have hu' : listed.getD i false = false := by rw [← gq (by omega)]; exact hu
      unfold wpOp
      simp only [Array.getElem?_eq_getElem hi]
      unfold Go2 at hg
      rcases oo I hg with ⟨h1, h2⟩ | ⟨h1, h2⟩
      · rw [if_pos h1]
        refine .inl (alu I (fun id cs cs' g1 g2 => aaq s.h ns z _ (Nat.le_of_lt hi) id cs cs' g1 g2) (Nat.le_trans hlen (aku s.h ns z z i)) (fun j hj => z8 s.h ns z _ hi hzi hu' j hj) h2 (fun v w' m' I' => next v w' m' I'))
      · rw [if_neg (by simp [h1])]
        refine next _ w m ?_
        rw [h2.1, h2.2]
        exact I.put .skip

theorem acd (hm : P.follows .mixedOrders = true) (hd : cc ops = true) {Q : Exit → Act → World → Prop} {K : St → Prop} (hk : ∀ s' a' w' m', K s' → Inv w0 m0 h0 av0 s' a' w' m' → Q .normal a' w')
 {s : St} {a : Act} {w : World} {m : Nat → Nat} (I : Inv w0 m0 h0 av0 s a w m) (hq : nq P ops ops.toList 0 [] s K) {id : Nat} : (Code.region id ops true).wp P Q a w := by
 have D := ako hd
 obtain ⟨xs, ns, _, h1, _, h2⟩ := agq hq ops.size (Nat.le_refl _)
 rw [List.drop_of_length_le (by simp)] at h2
 refine wp_mono (Q := fun e a w => e = .normal ∧ Q .normal a w) ?_ (fun e a w h => by rw [h.1]; exact h.2)
 refine wp_region_any hm ?_
 have hz : ∀ i, (Array.replicate ops.size false).getD i false = false := fun i => by simp [Array.getD]
 refine azl D (fun c a a' w h => by cases h.1) (fun s' a' w' m' g1 g2 => ⟨rfl, hk s' a' w' m' g1 g2⟩) I.len (fun i o hi hzi ho => h1 i o hi hzi ho) h2 ops.size _ a _ m (by simp) (fun i j hl => by rw [hz] at hl; cases hl) (fun i hl => by rw [hz] at hl; cases hl) ?_ ?_
 · unfold left
   exact Nat.le_trans (List.length_filter_le _ _) (by simp)
 · have e : tS ops s.t xs (fun i => (Array.replicate ops.size false).getD i false) ops.size = s.t := by
    rw [wx ops s.t xs _ (fun _ => false) ops.size (fun i _ => hz i)]
    have : ∀ q, tS ops s.t xs (fun _ => false) q = s.t := by
     intro q
     induction q with
     | zero => rfl
     | succ q ih => simpa [tS] using ih
    exact this _
   rw [e, ka s.h ns (zOf ops) (S' := fun _ => false) ops.size (fun i _ _ => hz i)]
   obtain ⟨k, hk'⟩ := zd s.h ns (zOf ops) ops.size
   rw [hk']
   exact (I.world (Ext.drew _ w)).pad k

end
end Go.Lv
end
section
namespace Go.Lv

def bh (n id : Nat) : R := if id < n then .to id else .kill
def ck (n : Nat) (b : Option (List V)) : Option (List V) := b.map (List.map (ren (bh n) 2))
def cb (n : Nat) (h : Hp) : Hp := (h.take n).map (ck n)

section
variable {P : Program} {w0 : World} {m0 : Nat → Nat} {h0 : Hp} {av0 : Nat → Prop} {s : St} {a : Act} {w : World} {m : Nat → Nat}

theorem Inv.le {t t2 : List V} {h : Hp} {k : Nat} (I : Inv w0 m0 h0 av0 ⟨t, h, k⟩ a w m) (hl : t2.length = t.length) (hle : ∀ i (hi : i < t.length) (hi' : i < t2.length), t2[i] = t[i] ∨ t2[i] = .undef) : Inv w0 m0 h0 av0 ⟨t2, h, k⟩ a w m := by
 refine ⟨I.rh, by rw [I.size]; exact hl.symm, fun i hi => ?_, I.defers, I.ext, I.ids, I.lt, I.lent, I.gl, I.k, I.len⟩
 have hi' : i < t.length := by simpa [hl] using hi
 rcases hle i hi' hi with e | e
 · dsimp only; rw [e]; exact I.slots i hi'
 · dsimp only; rw [e]; exact .undef _

theorem ap5 (I : Inv w0 m0 h0 av0 s a w m) {t ty : TypeId} {y : V} {xv yv : Value} {g n e sz by_ : Nat} {zs cs cs2 : List V} {n2 : Nat} (hx : RV w m s.h (avm av0 m s.h) true xv (.osl g 0 n sz)) (hg : s.h[g]? = some (some cs)) (hn : n * sz = cs.length)
 (he : jo P t = some (e, sz, by_)) (hz : zeroOf P e = some zs) (hzl : zs.length = sz) (hy : RV w m s.h (avm av0 m s.h) true yv y) (hsrc : n5 s.h sz none y fun k ys => k = n2 ∧ ys = cs2)
 (hb : (n + n2) * by_ ≤ 140737488355328) (h63 : n + n2 ≤ 4611686018427387904) :
 ∃ v w' m', (Builtin.append_ #[t, t] ty #[xv, yv]).run P w = .ok v w' ∧
  ((Inv w0 m0 h0 av0 { s with h := s.h.set g (some (cs ++ cs2)) } a w' m' ∧ RV w' m' (s.h.set g (some (cs ++ cs2))) (avm av0 m' (s.h.set g (some (cs ++ cs2)))) true v (.osl g 0 (n + n2) sz)) ∨
   (Inv w0 m0 h0 av0 { s with h := s.h ++ [some (cs ++ cs2)] } a w' m' ∧ RV w' m' (s.h ++ [some (cs ++ cs2)]) (avm av0 m' (s.h ++ [some (cs ++ cs2)])) true v (.osl s.h.length 0 (n + n2) sz))) := by
 obtain ⟨i, h1, h2, rfl, rfl⟩ := je he
 obtain ⟨i', z, h5, h6, rfl⟩ := j9 hz
 rw [h2] at h5; simp at h5; subst h5
 have hzs : z.cells.size = i.size := by simpa using hzl
 cases hx with
 | osl id off n cap wd cs' hid hl hc hs =>
  have hcs : cs' = cs := by
   have := hid.1
   rw [hg] at this
   simpa using this.symm
  subst hcs
  obtain ⟨k2, ys, news, ⟨rfl, rfl⟩, hlen, hf, hl1, hl2, hone, hr⟩ := ame (P := P) I.rh hy hsrc
  obtain ⟨C, T, fr, hC, hfr, hCl, hCr⟩ := (I.rh.blk g cs' hid.1).cells hid.2
  have hrs : dh w (m g) = C.size := by simp [dh, hC]
  rw [hrs] at hs
  by_cases hroom : n + k2 ≤ cap
  · have hfit : 0 + n * i.size + news.length ≤ C.size := by
     rw [hl1]
     have : (n + k2) * i.size ≤ cap * i.size := Nat.mul_le_mul_right _ hroom
     rw [Nat.add_mul] at this
     omega
    have hrun := wq (P := P) (w := w) t t ty e i e h1 h1 h2 (m g) 0 n cap C T hC hfr yv k2 news (hlen w) (hf w (fun _ => rfl)) hone hroom hfit
    have hD : (C.toList.take (0 + n * i.size) ++ news ++ C.toList.drop (0 + n * i.size + news.length)).toArray.size = C.size := by simp; omega
    have hrow := tv (w := w) (m := m) (s := s) (av0 := av0) (cs := cs') (cs2 := ys) (olds := C.toList.take (0 + n * i.size)) (news := news) (by simp; omega) (by omega)
     (fun j hj => by
      have hj' : j < C.size := by omega
      have := hCr j hj
      rw [Array.getD_eq_getD_getElem?] at this
      rw [List.getD, List.getElem?_take_of_lt (by omega), Array.getElem?_toList]
      exact this) hr (C.toList.drop (0 + n * i.size + news.length)).toArray
    obtain ⟨J, _⟩ := I.setRow (cs' := cs' ++ ys) hid hC hfr hD (by simp) (by simp; omega) (fun j hj => by simpa using hrow j hj)
    refine ⟨_, _, _, hrun, .inl ⟨J, ?_⟩⟩
    have hmb : ix (cs' ++ ys) = false := o9 (C := (C.toList.take (0 + n * i.size) ++ news ++ C.toList.drop (0 + n * i.size + news.length)).toArray) (fun j hj => by simpa using hrow j hj)
    refine .osl g 0 (n + k2) cap i.size (cs' ++ ys) ⟨by rw [List.getElem?_set_self (e8 hid.1)], hmb⟩ (by simp; rw [hl2, Nat.add_mul]; omega) hroom ?_
    simp only [dh, setRow_heap w (m g) C _ T _ hC]
    omega
  · have hfit : Builtin.nextslicecap (n + k2) cap * i.bytes ≤ 281474976710656 := growslice_fits (by omega) hb
    have holds : (Builtin.firstCells i.size n (.slice (some ⟨m g, 0, none⟩) n cap)).run P w.drew = .ok (C.toList.take (n * i.size)).toArray w.drew := by
     refine run_firstCells_some w.drew i.size n ⟨m g, 0, none⟩ n cap _ (by simp; omega) (fun j v hj => ?_)
     have hlt : j < n * i.size := by
      have := (List.getElem?_eq_some_iff.1 hj).1
      simp at this; omega
     rw [List.getElem?_take_of_lt hlt, Array.getElem?_toList] at hj
     rw [Addr.add_lit, Nat.zero_add]
     exact (cell_of_row w (m g) j C T fr hC).trans hj
    have hrun := pj (P := P) (w := w) t t ty e i z e h1 h1 h2 h6 (some ⟨m g, 0, none⟩) n cap (C.toList.take (n * i.size)) yv k2 news (hlen w) (hf w.drew (fun _ => rfl)) holds (by omega) (by omega) hfit
    have ID := I.world (Ext.drew (fun _ => False) w)
    have hstep : ∀ {o : Bool} {v : Value} {x : V}, RV w m s.h (avm av0 m s.h) o v x → RV w.drew m s.h (avm av0 m s.h) o v x :=
     fun hx => RV.step (w := w) (w' := w.drew) (m := m) (m' := m) (h := s.h) (h' := s.h) (av := avm av0 m s.h) (av' := avm av0 m s.h) (fun b off v hb hc => ⟨hb, hc⟩) (fun id c hid => ⟨c, hid, Nat.le_refl _, rfl, Nat.le_refl _, rfl⟩) hx
    have hrow := tv (w := w) (m := m) (s := s) (av0 := av0) (cs := cs') (cs2 := ys) (olds := C.toList.take (n * i.size)) (news := news) (by simp; omega) (by omega)
     (fun j hj => by
      have hj' : j < C.size := by omega
      have := hCr j hj
      rw [Array.getD_eq_getD_getElem?] at this
      rw [List.getD, List.getElem?_take_of_lt (by omega), Array.getElem?_toList]
      exact this) hr (Builtin.zeroCells z.cells (grownCap w (n + k2) cap e - (n + k2)))
    obtain ⟨J, _⟩ := ID.alloc ((C.toList.take (n * i.size)).toArray ++ news.toArray ++ Builtin.zeroCells z.cells (grownCap w (n + k2) cap e - (n + k2))) e (cs' ++ ys) (by simp; omega) (fun j hj => hstep (hrow j hj))
    refine ⟨_, _, _, hrun, .inr ⟨J, ?_⟩⟩
    have hmb : ix (cs' ++ ys) = false := o9 hrow
    have hge := grownCap_ge w (n + k2) cap e
    have hdrew : w.drew.heap.size = w.heap.size := rfl
    have := RV.osl (w := w.drew.alloc (.cells ((C.toList.take (n * i.size)).toArray ++ news.toArray ++ Builtin.zeroCells z.cells (grownCap w (n + k2) cap e - (n + k2))) e)) (m := gb m s.h.length w.drew.heap.size) (h := s.h ++ [some (cs' ++ ys)])
     (av := avm av0 (gb m s.h.length w.drew.heap.size) (s.h ++ [some (cs' ++ ys)])) s.h.length 0 (n + k2) (grownCap w (n + k2) cap e) i.size (cs' ++ ys) ⟨by simp, hmb⟩ (by simp; rw [hl2, Nat.add_mul]; omega) (by omega) (by
      rw [fg]
      simp only [dh, heap_alloc_new, Array.size_append, List.size_toArray, List.length_take, Array.length_toList, size_zeroCells, hzs, hl1]
      have e1 : min (n * i.size) C.size = n * i.size := by omega
      rw [e1, ← Nat.add_mul, ← Nat.add_mul, Nat.zero_add]
      exact Nat.mul_le_mul_right _ (by omega))
    rw [fg] at this
    simpa using this

theorem Inv.close {t t2 : List V} {h : Hp} {k : Nat} (I : Inv w0 m0 h0 av0 ⟨t, h, k⟩ a w m) (n : Nat) (hk : k ≤ n) (hn : n ≤ h.length) (gs : List (Nat × List V)) (hgs : ∀ p ∈ gs, n ≤ p.1 ∧ h[p.1]? = some (some p.2) ∧ p.2.all (de 2) = true ∧ ix p.2 = false)
 (hnd : ∀ (i j : Nat) (p q : Nat × List V), gs[i]? = some p → gs[j]? = some q → i ≠ j → p.1 ≠ q.1) (hl : t2.length = t.length)
 (ht : ∀ i (hi : i < t.length) (hi' : i < t2.length), LeV (Lv.ren (bh n) 3 t[i]) t2[i] ∨ ∃ j p c d, gs[j]? = some p ∧ t[i] = .osl p.1 0 c d ∧ t2[i] = .osl (n + j) 0 c d) :
 ∃ m', Inv w0 m0 h0 av0 ⟨t2, cb n h ++ gs.map fun p => some p.2, k⟩ a w m' := by
 let m' : Nat → Nat := fun j => if j < n then m j else m ((gs[j - n]?).getD (0, [])).1
 have hcl : (cb n h).length = n := by simp [cb]; omega
 have hcase : ∀ (j : Nat) (c : List V), (cb n h ++ gs.map fun p => some p.2)[j]? = some (some c) → (j < n ∧ ∃ c0, h[j]? = some (some c0) ∧ c = c0.map (Lv.ren (bh n) 2)) ∨ (n ≤ j ∧ ∃ p, gs[j - n]? = some p ∧ c = p.2) := by
  intro j c hj
  rcases Nat.lt_or_ge j n with hlt | hge
  · rw [List.getElem?_append_left (by omega)] at hj
    simp only [cb, List.getElem?_map, List.getElem?_take_of_lt hlt] at hj
    cases h2 : h[j]? with
    | none => simp [h2] at hj
    | some b =>
     cases b with
     | none => simp [h2, ck] at hj
     | some c0 => simp [h2, ck] at hj; exact .inl ⟨hlt, c0, rfl, hj.symm⟩
  · rw [List.getElem?_append_right (by omega), hcl, List.getElem?_map] at hj
    cases h2 : gs[j - n]? with
    | none => simp [h2] at hj
    | some p => simp [h2] at hj; exact .inr ⟨hge, p, rfl, hj.symm⟩
 have hold : ∀ j, j < n → m' j = m j := fun j hj => if_pos hj
 have hnew : ∀ j p, n ≤ j → gs[j - n]? = some p → m' j = m p.1 := fun j p hj hp => by
  show (if j < n then _ else _) = _
  rw [if_neg (by omega), hp]; rfl
 have hmem : ∀ {j : Nat} {p : Nat × List V}, gs[j]? = some p → n ≤ p.1 ∧ h[p.1]? = some (some p.2) ∧ p.2.all (de 2) = true ∧ ix p.2 = false := fun hp => hgs _ (List.mem_of_getElem? hp)
 have hown : ∀ b, own m' (cb n h ++ gs.map fun p => some p.2) b → own m h b := by
  rintro b ⟨j, c, h1, rfl⟩
  rcases hcase j c h1 with ⟨hlt, c0, h2, _⟩ | ⟨hge, p, h2, _⟩
  · exact ⟨j, c0, h2, (hold j hlt).symm⟩
  · exact ⟨p.1, p.2, (hmem h2).2.1, (hnew j p hge h2).symm⟩
 have hput : ∀ (j : Nat) (c : List V), j < n → h[j]? = some (some c) → (cb n h ++ gs.map fun p => some p.2)[j]? = some (some (c.map (Lv.ren (bh n) 2))) := by
  intro j c hlt hj
  rw [List.getElem?_append_left (by omega)]
  simp [cb, List.getElem?_take_of_lt hlt, hj, ck]
 have hR : Ren w w m m' h (cb n h ++ gs.map fun p => some p.2) (avm av0 m h) (avm av0 m' (cb n h ++ gs.map fun p => some p.2)) (bh n) := by
  refine ⟨fun b off v hb hc => ⟨fun h => hb (h.imp (fun x => x) (hown b)), hc⟩, fun j c j' hj hf => ?_, fun j c c' hj hf => ?_⟩
  · unfold bh at hf
    split at hf
    · rename_i hlt; simp at hf; subst hf
      exact ⟨_, hput j c hlt hj, by simp, hold j hlt, Nat.le_refl _, er _ _ _⟩
    · cases hf
  · unfold bh at hf
    split at hf <;> cases hf
 have hro : ∀ {v : Value} {x : V}, de 2 x = true → RV w m h (avm av0 m h) true v x → RV w m' (cb n h ++ gs.map fun p => some p.2) (avm av0 m' (cb n h ++ gs.map fun p => some p.2)) true v x := fun hx hv =>
  ((RV.de 2 _ hx hv).x6 (fun b off u hb hc => ⟨fun h => hb (h.imp (fun x => x) (hown b)), hc⟩) rfl).se
 refine ⟨m', ⟨fun i j ci cj h1 h2 he => ?_, fun j c h1 => .inr ⟨j, c, h1, rfl⟩, fun j c h1 => ?_⟩, by rw [I.size]; exact hl.symm, fun i hi => ?_, I.defers, I.ext, fun j c h1 => ?_, I.lt, I.lent, I.gl, I.k, ?_⟩
 · rcases hcase i ci h1 with ⟨l1, c0, g1, _⟩ | ⟨l1, p, g1, _⟩ <;> rcases hcase j cj h2 with ⟨l2, c1, g2, _⟩ | ⟨l2, q, g2, _⟩
   · rw [hold i l1, hold j l2] at he
     exact I.rh.inj i j c0 c1 g1 g2 he
   · rw [hold i l1, hnew j q l2 g2] at he
     have := I.rh.inj i q.1 c0 q.2 g1 (hmem g2).2.1 he
     have := (hmem g2).1
     omega
   · rw [hnew i p l1 g1, hold j l2] at he
     have := I.rh.inj p.1 j p.2 c1 (hmem g1).2.1 g2 he
     have := (hmem g1).1
     omega
   · rw [hnew i p l1 g1, hnew j q l2 g2] at he
     have h3 := I.rh.inj p.1 q.1 p.2 q.2 (hmem g1).2.1 (hmem g2).2.1 he
     by_cases e : i = j
     · exact e
     · exact absurd h3 (hnd (i - n) (j - n) p q g1 g2 (by omega))
 · rcases hcase j c h1 with ⟨l1, c0, g1, rfl⟩ | ⟨l1, p, g1, rfl⟩
   · rw [hold j l1]
     exact (I.rh.blk j c0 g1).map rfl (kh _ 2) (fun v x hx => hx.ren hR 2)
   · rw [hnew j p l1 g1]
     have hpl := (hmem g1).2.2.1
     have hmb := (hmem g1).2.2.2
     rcases I.rh.blk p.1 p.2 (hmem g1).2.1 with ⟨C, T, fr, hC, hfr, hCl, hCr⟩ | ⟨E, c, es, g3, g4, g5⟩
     · exact .inl ⟨C, T, fr, hC, hfr, hCl, fun i hi => hro (List.all_eq_true.1 hpl _ (List.getElem_mem _)) (hCr i hi)⟩
     · rw [g4] at hmb
       cases hmb
 · have hi' : i < t.length := by rw [← hl]; exact hi
   rcases ht i hi' hi with hle | ⟨j, p, c, d, hp, e1, e2⟩
   · exact ((I.slots i hi').ren hR 3).le hle
   · have hx := I.slots i hi'
     dsimp only at hx ⊢
     rw [e1] at hx
     rw [e2]
     generalize a.tmps.getD i Go.undef = u at hx
     cases hx with
     | osl id off n' cap wd cs hid hl' hc hs =>
      have hj : (n + j) - n = j := by omega
      have hm := hnew (n + j) p (by omega) (by rw [hj]; exact hp)
      rw [← hm]
      have hcs : cs = p.2 := by
       have := (hmem hp).2.1
       rw [hid.1] at this
       simpa using this
      subst hcs
      refine .osl (n + j) 0 c cap d p.2 ⟨?_, hid.2⟩ hl' hc (by rw [hm]; exact hs)
      rw [List.getElem?_append_right (by omega), hcl, hj, List.getElem?_map, hp]
      rfl
 · rcases hcase j c h1 with ⟨l1, c0, g1, rfl⟩ | ⟨l1, p, g1, _⟩
   · rw [hold j l1, List.length_map]; exact I.ids j c0 g1
   · rw [hnew j p l1 g1]
     rcases I.ids p.1 p.2 (hmem g1).2.1 with ⟨g2, _⟩ | ⟨g2, g3⟩
     · have := (hmem g1).1
       have hk0 := I.k
       dsimp only at hk0
       omega
     · exact .inr ⟨by have hk0 := I.k; dsimp only at hk0; omega, g3⟩
 · have hk0 := I.k
   dsimp only at hk0 ⊢
   rw [List.length_append, hcl]
   omega
end
end Go.Lv
end
section
namespace Go.Lv

structure CE where
 pv : Option Nat
 d : Tmp
 ty : TypeId
 ys : List Tmp

structure Tip where
 i : Nat
 d : Tmp
 ty : TypeId
 ys : List Tmp

def gp (tab : List (Option CE)) (i : Nat) : Option CE := (tab[i]?).bind id

def o7 : List Bool → List Oper → List Oper
 | true :: f, o :: l => o :: o7 f l
 | false :: f, _ :: l => o7 f l
 | _, _ => []

def qb : List (Option CE) → List V → List V
 | [], t => t
 | none :: l, t => qb l t
 | some e :: l, t => qb l (t.set e.d .undef)

def gA (P : Program) (ops : Array Oper) : List Oper → St → (St → Prop) → Prop
 | [], s, K => K s
 | o :: rest, s, K => gdA ops s.t o.guard (gop P s.h (ev s.t) o.op fun v n => gA P ops rest (({ s with h := s.h ++ n } : St).put o.dst v) K) (gA P ops rest (s.put o.dst .skip) K)

def wm (h : Hp) (sz : Nat) : List V → Nat → List V → (Nat → List V → Prop) → Prop
 | [], n, cs, K => K n cs
 | y :: l, n, cs, K => n5 h sz none y fun k ys => wm h sz l (n + k) (cs ++ ys) K

def qv (P : Program) (t : List V) (h : Hp) : List Tip → St → (St → Prop) → Prop
 | [], s, K => K s
 | c :: l, s, K => match jo P c.ty with
  | some (e, sz, by_) => match zeroOf P e with
   | some zs => zs.length = sz ∧ wm h sz (c.ys.map fun y => t.getD y .undef) 0 [] fun n cs => (n * by_ ≤ 140737488355328 ∧ n ≤ 4611686018427387904 ∧ cs.all (de 2) = true) ∧
    qv P t h l { s with t := s.t.set c.d (.osl s.h.length 0 n sz), h := s.h ++ [some cs] } K
   | none => False
  | none => False

def awd (ops : Array Oper) (zl : List Bool) : Bool :=
 let b := Region.before ops
 (List.range ops.size).all fun i => match ops[i]? with
  | none => false
  | some o =>
   ((List.range ops.size).all fun j => !(inB b i j) || o.after.toList.any fun e => Region.binds .any e && (e.on == j || inB b e.on j)) &&
   (o.after.toList.all fun e => !(Region.binds .any e) || decide (e.on < i)) &&
   (match o.op with | .select _ _ => false | _ => true) &&
   (match zl.getD i false with
    | true => (o.after.toList.all fun e => !(Region.binds .any e) || zl.getD e.on false) &&
     (List.range ops.size).all fun j => !(zl.getD j false) || j == i || !(ly ops j i) || (if j < i then inB b i j else inB b j i)
    | false => (List.range ops.size).all fun j => match zl.getD j false with
     | true => inB b i j || tkB ops b j
     | false => !(decide (j < i)) || inB b i j)

theorem amq {ops : Array Oper} {zl : List Bool} (hd : awd ops zl = true) : nk ops (fun i => zl.getD i false) (fun i j => j < ops.size ∧ inB (Region.before ops) i j = true) (tkB ops (Region.before ops)) := by
 have h : ∀ i, i < ops.size → ∃ o, ops[i]? = some o ∧
  ((List.range ops.size).all fun j => !(inB (Region.before ops) i j) || o.after.toList.any fun e => Region.binds .any e && (e.on == j || inB (Region.before ops) e.on j)) = true ∧
  (o.after.toList.all fun e => !(Region.binds .any e) || decide (e.on < i)) = true ∧ (match o.op with | .select _ _ => false | _ => true) = true ∧
  (match zl.getD i false with
   | true => (o.after.toList.all fun e => !(Region.binds .any e) || zl.getD e.on false) &&
    (List.range ops.size).all fun j => !(zl.getD j false) || j == i || !(ly ops j i) || (if j < i then inB (Region.before ops) i j else inB (Region.before ops) j i)
   | false => (List.range ops.size).all fun j => match zl.getD j false with
    | true => inB (Region.before ops) i j || tkB ops (Region.before ops) j
    | false => !(decide (j < i)) || inB (Region.before ops) i j) = true := by
  intro i hi
  have := List.all_eq_true.1 hd i (List.mem_range.2 hi)
  split at this
  · cases this
  · rename_i o ho
    simp only [Bool.and_eq_true] at this
    exact ⟨o, ho, this.1.1.1, this.1.1.2, this.1.2, this.2⟩
 have lt_of : ∀ {i : Nat} {o : Oper}, ops[i]? = some o → i < ops.size := fun h => (Array.getElem?_eq_some_iff.1 h).1
 refine ⟨fun i o j ho hB => ?_, fun i o ho e he hb => ?_, fun i j hi hj zi zj hne hc => ?_, fun i o ho zi e he hb => ?_, fun i j hi hj zi zj => ?_, fun i j hi zi hj zj => ?_, fun k o ho ht => ?_, fun i o cs b ho => ?_⟩
 · obtain ⟨o', ho', h1, _⟩ := h i (lt_of ho)
   rw [ho] at ho'; simp at ho'; subst ho'
   have := List.all_eq_true.1 h1 j (List.mem_range.2 hB.1)
   simp only [hB.2, Bool.not_true, Bool.false_or, List.any_eq_true, Bool.and_eq_true, Bool.or_eq_true, beq_iff_eq] at this
   obtain ⟨e, he, hb, hc⟩ := this
   exact ⟨e, by simpa using he, hb, hc.imp (fun h => h) (fun h => ⟨hB.1, h⟩)⟩
 · obtain ⟨o', ho', _, h2, _⟩ := h i (lt_of ho)
   rw [ho] at ho'; simp at ho'; subst ho'
   have := List.all_eq_true.1 h2 e (by simpa using he)
   simpa [hb] using this
 · obtain ⟨o', ho', _, _, _, h3⟩ := h i hi
   skip
   rw [zi] at h3
   simp only [Bool.and_eq_true] at h3
   have := List.all_eq_true.1 h3.2 j (List.mem_range.2 hj)
   have hne' : (j == i) = false := by simpa using hne
   rw [hne', hc, zj] at this
   simp only [Bool.not_true, Bool.false_or] at this
   refine ⟨fun hlt => ⟨by omega, by rw [if_pos hlt] at this; exact this⟩, fun hlt => ⟨by omega, by rw [if_neg (by omega)] at this; exact this⟩⟩
 · obtain ⟨o', ho', _, _, _, h3⟩ := h i (lt_of ho)
   rw [ho] at ho'; simp at ho'; subst ho'
   skip
   rw [zi] at h3
   simp only [Bool.and_eq_true] at h3
   have := List.all_eq_true.1 h3.1 e (by simpa using he)
   simpa [hb] using this
 · obtain ⟨o', ho', _, _, _, h3⟩ := h i hi
   skip
   rw [zi] at h3
   have := List.all_eq_true.1 h3 j (List.mem_range.2 hj)
   rw [zj] at this
   simp only [Bool.or_eq_true] at this
   exact this.imp (fun h => ⟨hj, h⟩) (fun h => .inl h)
 · obtain ⟨o', ho', _, _, _, h3⟩ := h i hi
   skip
   rw [zi] at h3
   have := List.all_eq_true.1 h3 j (List.mem_range.2 (by omega))
   rw [zj] at this
   simp only [decide_eq_true hj, Bool.not_true, Bool.false_or] at this
   exact ⟨by omega, this⟩
 · unfold tkB at ht
   rw [ho] at ht
   simp only [Bool.and_eq_true] at ht
   refine ⟨ht.1, fun j o' ho' hne hB hall => ?_⟩
   have := List.all_eq_true.1 ht.2 j (List.mem_range.2 (lt_of ho'))
   rw [ho'] at this
   simp only [Bool.or_eq_true, beq_iff_eq, List.any_eq_true, Bool.and_eq_true] at this
   rcases this with ((h1 | h1) | ⟨e, he, hb, h1⟩) | h1
   · exact absurd h1 hne
   · exact absurd ⟨lt_of ho', h1⟩ hB
   · exact absurd h1 (hall e (by simpa using he) hb)
   · exact h1
 · obtain ⟨o', ho', _, _, h5, _⟩ := h i (lt_of ho)
   rw [ho] at ho'; simp at ho'; subst ho'
   intro e
   rw [e] at h5
   cases h5

def aqy (ops : Array Oper) (b : Array Nat) (tab : List (Option CE)) (ql zl : List Bool) (i : Nat) (e : CE) (o : Oper) : Bool :=
 o.dst == some e.d && o.guard.isNone && zl.getD i false && !(ql.getD i false) &&
 (match e.pv, o.op with
  | none, .buildSlice t 0 ⟨[]⟩ => t == e.ty && e.ys.isEmpty
  | some j, .call { callee := .builtin .append, args := ⟨[.tmp x, .tmp y]⟩, argTypes := ⟨[t, u]⟩ } => match gp tab j with
   | some ej => x == ej.d && t == e.ty && u == e.ty && ej.ty == e.ty && decide (e.ys = ej.ys ++ [y]) && inB b i j && decide (j < ops.size) &&
    (List.range ops.size).all fun k => !(zl.getD k false) || !(ez ops k == some y) || (decide (k < i) && ql.getD k false)
   | none => false
  | _, _ => false) &&
 (List.range ops.size).all fun k => !(zl.getD k false) || match ops[k]? with
  | none => true
  | some o' => (k == i || o'.dst != some e.d) && (!((o'.looksAt ops).contains e.d) || match gp tab k with | some e' => e'.pv == some i | none => false)

def ade (ops : Array Oper) (ql zl : List Bool) (tab : List (Option CE)) (tips : List Tip) : Bool :=
 let b := Region.before ops
 awd ops zl && decide (ql.length = ops.size) && decide (zl.length = ops.size) &&
 ((List.range ops.size).all fun i => match gp tab i with
  | none => ql.getD i false == zl.getD i false
  | some e => match ops[i]? with
   | none => false
   | some o => aqy ops b tab ql zl i e o &&
    ((List.range ops.size).all fun k => (List.range ops.size).all fun l => match gp tab k, gp tab l with
     | some ek, some el => !(ek.pv == some i) || !(el.pv == some i) || k == l
     | _, _ => true) &&
    tips.any fun c => c.ty == e.ty && e.ys.isPrefixOf c.ys) &&
 decide (tab.length ≤ ops.size) &&
 (tips.all fun c => match gp tab c.i with
  | some e => decide (e.d = c.d) && decide (e.ty = c.ty) && decide (e.ys = c.ys) && (List.range ops.size).all fun k => match gp tab k with
   | some ek => !(ek.pv == some c.i)
   | none => true
  | none => false) &&
 decide ((tips.map (·.i)).Nodup)

structure CF (ops : Array Oper) (z q : Nat → Bool) (B : Nat → Nat → Prop) (tab : List (Option CE)) (tips : List Tip) : Prop where
 of : ∀ i, i < ops.size → gp tab i = none → q i = z i
 ent : ∀ i e, gp tab i = some e → i < ops.size ∧ z i = true ∧ q i = false ∧ ∃ o, ops[i]? = some o ∧ o.dst = some e.d ∧ o.guard = none ∧
  ((e.pv = none ∧ e.ys = [] ∧ o.op = .buildSlice e.ty 0 #[]) ∨
   (∃ j y ej, e.pv = some j ∧ gp tab j = some ej ∧ ej.ty = e.ty ∧ e.ys = ej.ys ++ [y] ∧ B i j ∧ o.op = .call { callee := .builtin .append, args := #[.tmp ej.d, .tmp y], argTypes := #[e.ty, e.ty] } ∧
    ∀ k, k < ops.size → z k = true → ez ops k = some y → k < i ∧ q k = true))
 sl : ∀ i e, gp tab i = some e → ∀ k o, ops[k]? = some o → z k = true → (k ≠ i → o.dst ≠ some e.d) ∧ (e.d ∈ o.looksAt ops → ∃ e', gp tab k = some e' ∧ e'.pv = some i)
 nx : ∀ i k l ek el, gp tab k = some ek → ek.pv = some i → gp tab l = some el → el.pv = some i → k = l
 tip : ∀ i e, gp tab i = some e → ∃ c ∈ tips, c.ty = e.ty ∧ ∃ r, c.ys = e.ys ++ r
 tp : ∀ c ∈ tips, ∃ e, gp tab c.i = some e ∧ e.d = c.d ∧ e.ty = c.ty ∧ e.ys = c.ys ∧ ∀ k ek, gp tab k = some ek → ek.pv ≠ some c.i
 nd : (tips.map (·.i)).Nodup

theorem ah8 {ops : Array Oper} {ql zl : List Bool} {tab : List (Option CE)} {tips : List Tip} (h : ade ops ql zl tab tips = true) :
 nk ops (fun i => zl.getD i false) (fun i j => j < ops.size ∧ inB (Region.before ops) i j = true) (tkB ops (Region.before ops)) ∧ ql.length = ops.size ∧ zl.length = ops.size ∧
 CF ops (fun i => zl.getD i false) (fun i => ql.getD i false) (fun i j => j < ops.size ∧ inB (Region.before ops) i j = true) tab tips := by
 unfold ade at h
 simp only [Bool.and_eq_true, decide_eq_true_eq] at h
 obtain ⟨⟨⟨⟨⟨⟨h1, h2⟩, h3⟩, h4⟩, h5⟩, h6⟩, h7⟩ := h
 have hlt : ∀ i e, gp tab i = some e → i < ops.size := fun i e he => by
  unfold gp at he
  rcases Nat.lt_or_ge i tab.length with g | g
  · omega
  · rw [List.getElem?_eq_none g] at he; cases he
 have hce : ∀ i e, gp tab i = some e → ∃ o, ops[i]? = some o ∧ aqy ops (Region.before ops) tab ql zl i e o = true ∧
  ((List.range ops.size).all fun k => (List.range ops.size).all fun l => match gp tab k, gp tab l with
   | some ek, some el => !(ek.pv == some i) || !(el.pv == some i) || k == l
   | _, _ => true) = true ∧ (tips.any fun c => c.ty == e.ty && e.ys.isPrefixOf c.ys) = true := fun i e he => by
  have := List.all_eq_true.1 h4 i (List.mem_range.2 (hlt i e he))
  rw [he] at this
  dsimp only at this
  split at this
  · cases this
  · rename_i o ho
    simp only [Bool.and_eq_true] at this
    exact ⟨o, ho, this.1.1, this.1.2, this.2⟩
 refine ⟨amq h1, h2, h3, fun i hi hn => ?_, fun i e he => ?_, fun i e he k o' ho' hz => ?_, fun i k l ek el hk hk2 hl hl2 => ?_, fun i e he => ?_, fun c hc => ?_, h7⟩
 · have := List.all_eq_true.1 h4 i (List.mem_range.2 hi)
   rw [hn] at this
   simpa using this
 · obtain ⟨o, ho, h8, _, _⟩ := hce i e he
   unfold aqy at h8
   simp only [Bool.and_eq_true, Bool.not_eq_true'] at h8
   obtain ⟨⟨⟨⟨⟨g1, g2⟩, g3⟩, g4⟩, g5⟩, _⟩ := h8
   refine ⟨hlt i e he, g3, g4, o, ho, by simpa using g1, by simpa using g2, ?_⟩
   split at g5
   · rename_i t hpv hop
     simp only [Bool.and_eq_true, beq_iff_eq, List.isEmpty_iff] at g5
     exact .inl ⟨hpv, g5.2, by rw [hop, g5.1]⟩
   · rename_i j x y t u hpv hop
     split at g5
     · rename_i ej hej
       simp only [Bool.and_eq_true, beq_iff_eq, decide_eq_true_eq] at g5
       obtain ⟨⟨⟨⟨⟨⟨⟨k1, k2⟩, k3⟩, k4⟩, k5⟩, k6⟩, k7⟩, k8⟩ := g5
       refine .inr ⟨j, y, ej, hpv, hej, k4, k5, ⟨k7, k6⟩, by rw [hop, k1, k2, k3], fun k hk hz hd => ?_⟩
       have := List.all_eq_true.1 k8 k (List.mem_range.2 hk)
       skip
       rw [hz, hd] at this
       simpa using this
     · cases g5
   · cases g5
 · obtain ⟨o, ho, h8, _, _⟩ := hce i e he
   unfold aqy at h8
   simp only [Bool.and_eq_true] at h8
   have := List.all_eq_true.1 h8.2 k (List.mem_range.2 (Array.getElem?_eq_some_iff.1 ho').1)
   skip
   rw [hz, ho'] at this
   simp only [Bool.not_true, Bool.false_or, Bool.and_eq_true, Bool.or_eq_true, beq_iff_eq, bne_iff_ne] at this
   refine ⟨fun hne => this.1.resolve_left hne, fun hm => ?_⟩
   have h9 := this.2.resolve_left (by simp [hm])
   split at h9
   · rename_i e' he'
     exact ⟨e', he', by simpa using h9⟩
   · cases h9
 · have hi : ∃ e, gp tab i = some e := by
    obtain ⟨o, ho, h8, _, _⟩ := hce k ek hk
    unfold aqy at h8
    simp only [Bool.and_eq_true] at h8
    have g5 := h8.1.2
    rw [hk2] at g5
    split at g5
    · rename_i hh _; cases hh
    · rename_i j x y t u hpv hop
      simp at hpv; subst hpv
      split at g5
      · rename_i ej hej; exact ⟨ej, hej⟩
      · cases g5
    · cases g5
   obtain ⟨e, he⟩ := hi
   obtain ⟨o, ho, _, h8, _⟩ := hce i e he
   have := List.all_eq_true.1 (List.all_eq_true.1 h8 k (List.mem_range.2 (hlt k ek hk))) l (List.mem_range.2 (hlt l el hl))
   rw [hk, hl] at this
   simpa [hk2, hl2] using this
 · obtain ⟨o, ho, _, _, h8⟩ := hce i e he
   obtain ⟨c, hc, h9⟩ := List.any_eq_true.1 h8
   simp only [Bool.and_eq_true, beq_iff_eq] at h9
   obtain ⟨r, hr⟩ := List.isPrefixOf_iff_prefix.1 h9.2
   exact ⟨c, hc, h9.1, r, hr.symm⟩
 · have := List.all_eq_true.1 h6 c hc
   skip
   split at this
   · rename_i e he
     simp only [Bool.and_eq_true, decide_eq_true_eq] at this
     refine ⟨e, he, this.1.1.1, this.1.1.2, this.1.2, fun k ek hk heq => ?_⟩
     have h9 := List.all_eq_true.1 this.2 k (List.mem_range.2 (hlt k ek hk))
     rw [hk] at h9
     simp [heq] at h9
   · cases this
end Go.Lv
end
section
namespace Go.Lv

section
variable {P : Program} {ops : Array Oper} {w0 : World} {m0 : Nat → Nat} {h0 : Hp} {av0 : Nat → Prop} {s : St} {a : Act} {w : World} {m : Nat → Nat}

theorem ak4 (I : Inv w0 m0 h0 av0 s a w m) {ht : Hp} {o : Oper} {x0 : V} {n0 : Hp} (hto : om o = true) (hg : Go2 P ops ht o s.t x0 n0) :
 ∃ v, Yields P ops o v a ∧ RV w m s.h (avm av0 m s.h) true v x0 ∧ n0 = [] := by
 unfold Go2 at hg
 rcases oo I hg with ⟨hw, hg⟩ | ⟨hw, hg⟩
 rotate_left
 · exact ⟨Go.undef, .inr ⟨hw, rfl⟩, by rw [hg.1]; exact .skip, hg.2⟩
 unfold om at hto
 unfold ag7 at hto
 split at hto
 · rename_i T u f hop
   rw [hop] at hg
   obtain ⟨v, y, ⟨rfl, h2⟩, h3, h4⟩ := adl (P := P) (I.ev (.tmp u)) (K := fun y => y = x0 ∧ [] = n0) hg
   refine ⟨v, .inl ⟨hw, fun w' => ?_⟩, h3, h2.symm⟩
   have := h4 w'
   skip
   obtain ⟨dst, op, ty, pos, after, guard⟩ := o
   subst hop
   simp [execOp, this]
 · rename_i T u1 u2 hop
   rw [hop] at hg
   obtain ⟨kd, n, e1, _, hg⟩ := l9 (I.ev (.tmp u2)) (K := fun _ n => eo P T (ev s.t (.tmp u1)) n fun y => y = x0 ∧ [] = n0) hg
   obtain ⟨v, y, ⟨rfl, h2⟩, h3, h4⟩ := aa3 (P := P) (t := T) (I.ev (.tmp u1)) e1 hg
   refine ⟨v, .inl ⟨hw, fun w' => ?_⟩, h3, h2.symm⟩
   have := h4 w'
   skip
   obtain ⟨dst, op, ty, pos, after, guard⟩ := o
   subst hop
   simp [execOp, this]
 · rename_i u hop
   rw [hop] at hg
   obtain ⟨e1, h2⟩ : ev s.t (.tmp u) = x0 ∧ [] = n0 := hg
   refine ⟨a.eval (.tmp u), .inl ⟨hw, fun w' => ?_⟩, ?_, h2.symm⟩
   · skip
     obtain ⟨dst, op, ty, pos, after, guard⟩ := o
     subst hop
     simp [execOp]
   · have := I.ev (.tmp u)
     rw [e1] at this
     exact this
 · rename_i u x1 x2 hop
   rw [hop] at hg
   obtain ⟨b, e1, _, e2, h2⟩ := ng (I.ev (.tmp u)) (K := fun b => (if b then ev s.t x1 else ev s.t x2) = x0 ∧ [] = n0) hg
   refine ⟨if b then a.eval x1 else a.eval x2, .inl ⟨hw, fun w' => ?_⟩, ?_, h2.symm⟩
   · skip
     obtain ⟨dst, op, ty, pos, after, guard⟩ := o
     subst hop
     cases b <;> simp [execOp, e1, asBool]
   · rw [← e2]
     cases b
     · exact I.ev x2
     · exact I.ev x1
 · rename_i bop T x1 x2 t' hop
   rw [hop] at hg
   obtain ⟨z, ⟨e1, h2⟩, hl, h4⟩ := adk (P := P) (t := T) (K := fun y => y = x0 ∧ [] = n0) (I.ev x1) (I.ev x2) hg
   refine ⟨al5 z, .inl ⟨hw, fun w' => ?_⟩, by rw [← e1]; exact ae6 hl, h2.symm⟩
   have := h4 w' x1 x2 id
   skip
   obtain ⟨dst, op, ty, pos, after, guard⟩ := o
   subst hop
   simp only [execOp]
   rw [Sem.run_bind, this]
   rfl
 · rename_i u j hop
   rw [hop] at hg
   change o2 (ev s.t (.tmp u)) j (fun y => y = x0 ∧ [] = n0) at hg
   have hx := I.ev (.tmp u)
   generalize hue : a.eval (.tmp u) = uv at hx
   generalize ev s.t (.tmp u) = xv at hx hg
   cases hx with
   | tup ar vs ha hra =>
    unfold o2 at hg
    dsimp only at hg
    split at hg
    · rename_i v hv
      have hlt : j < vs.length := (List.getElem?_eq_some_iff.1 hv).1
      have hr := hra j hlt
      rw [(List.getElem?_eq_some_iff.1 hv).2] at hr
      have hlt' : j < ar.size := by omega
      refine ⟨ar.getD j Go.undef, .inl ⟨hw, fun w' => ?_⟩, by rw [← hg.1]; exact hr, hg.2.symm⟩
      skip
      obtain ⟨dst, op, ty, pos, after, guard⟩ := o
      subst hop
      simp [execOp, hue, Instr.extract, Array.getD, hlt']
    · exact hg.elim
   | _ => exact hg.elim
 · rename_i T x hop
   rw [hop] at hg
   obtain ⟨b, e1, _, e2, h2⟩ := ng (I.ev x) (K := fun b => V.bool (!b) = x0 ∧ [] = n0) hg
   refine ⟨.bool (!b), .inl ⟨hw, fun w' => ?_⟩, by rw [← e2]; exact .bool _, h2.symm⟩
   skip
   obtain ⟨dst, op, ty, pos, after, guard⟩ := o
   subst hop
   simp [execOp, Op.unary, e1]
 · rename_i u hop
   rw [hop] at hg
   have hnil : ya (ev s.t (.tmp u)) (fun y => y = x0 ∧ [] = n0) := hg
   have hx := I.ev (.tmp u)
   refine ⟨a.eval (.tmp u), .inl ⟨hw, fun w' => ?_⟩, ?_, ?_⟩
   · obtain ⟨dst, op, ty, pos, after, guard⟩ := o
     subst hop
     generalize hue : a.eval (.tmp u) = uv at hx
     generalize ev s.t (.tmp u) = xv at hx hnil
     cases hx with
     | ptr id off cs hid => simp [execOp, hue]
     | pt b off cs vals ha hv hr => simp [execOp, hue]
     | fn f a1 c1 a' c' ha hc hra hrc =>
      cases f with
      | func f => simp [execOp, hue]
      | _ => exact False.elim hnil
     | _ => exact False.elim hnil
   · have he : ev s.t (.tmp u) = x0 := by
      unfold ya at hnil
      split at hnil <;> first | (rename_i hh; rw [hh]; exact hnil.1) | exact hnil.1 | exact hnil.elim
     rw [he] at hx
     exact hx
   · unfold ya at hnil
     split at hnil <;> first | exact hnil.2.symm | exact hnil.elim
 · cases hto

def n4 (h : Hp) (v : V) : Nat × List V :=
 match v with
 | .sl n _ cs => (n, cs)
 | .osl id off n w => match h[id]? with
  | some (some cs) => (n, (cs.drop off).take (n * w))
  | _ => (0, [])
 | _ => (0, [])

theorem azh {h : Hp} {sz : Nat} {no : Option Nat} {v : V} {K : Nat → List V → Prop} (hq : n5 h sz no v K) : K (n4 h v).1 (n4 h v).2 ∧ n5 h sz no v (fun k ys => k = (n4 h v).1 ∧ ys = (n4 h v).2) := by
 cases v with
 | sl n wd cs => exact ⟨hq.2.2, hq.1, hq.2.1, rfl, rfl⟩
 | osl id off n wd =>
  unfold n5 at *
  dsimp only at *
  obtain ⟨h1, hq⟩ := hq
  cases hh : h[id]? with
  | none => rw [hh] at hq; exact hq.elim
  | some b =>
   rw [hh] at hq
   cases b with
   | none => exact hq.elim
   | some cs =>
    dsimp only at hq
    obtain ⟨rfl, h2, h3⟩ := hq
    simp only [n4, hh]
    exact ⟨h3, h1, trivial, h2, trivial, trivial⟩
 | nilsl => exact ⟨hq, rfl, rfl⟩
 | _ => exact hq.elim

theorem alz {h : Hp} {sz : Nat} {no : Option Nat} {v : V} {K : Nat → List V → Prop} (hq : n5 h sz no v K) : (n4 h v).2.all ch = true := by
 cases v with
 | sl n wd cs => exact hq.2.1
 | osl id off n wd =>
  unfold n5 at hq
  dsimp only at hq
  obtain ⟨h1, hq⟩ := hq
  cases hh : h[id]? with
  | none => simp [n4, hh]
  | some b =>
   rw [hh] at hq
   cases b with
   | none => simp [n4, hh]
   | some cs =>
    dsimp only at hq
    obtain ⟨rfl, h2, h3⟩ := hq
    simp only [n4, hh]
    exact h2
 | _ => rfl

def qg (h : Hp) (t : List V) : List Tmp → Nat
 | [] => 0
 | y :: l => (n4 h (t.getD y .undef)).1 + qg h t l
def lg (h : Hp) (t : List V) : List Tmp → List V
 | [] => []
 | y :: l => (n4 h (t.getD y .undef)).2 ++ lg h t l

theorem w2 (h : Hp) (t : List V) : ∀ (l r : List Tmp), qg h t (l ++ r) = qg h t l + qg h t r
 | [], r => by simp [qg]
 | y :: l, r => by simp only [List.cons_append, qg, w2 h t l r]; omega
theorem w9 (h : Hp) (t : List V) : ∀ (l r : List Tmp), lg h t (l ++ r) = lg h t l ++ lg h t r
 | [], r => by simp [lg]
 | y :: l, r => by simp only [List.cons_append, lg, w9 h t l r, List.append_assoc]

theorem an5 {h : Hp} {t : List V} {sz : Nat} : ∀ (l : List Tmp) (n : Nat) (cs : List V) (K : Nat → List V → Prop), wm h sz (l.map fun y => t.getD y .undef) n cs K → K (n + qg h t l) (cs ++ lg h t l) ∧
 ∀ y ∈ l, n5 h sz none (t.getD y .undef) (fun k ys => k = (n4 h (t.getD y .undef)).1 ∧ ys = (n4 h (t.getD y .undef)).2)
 | [], n, cs, K, hq => ⟨by simpa [qg, lg, wm] using hq, fun y hy => by simp at hy⟩
 | y :: l, n, cs, K, hq => by
  simp only [List.map_cons, wm] at hq
  obtain ⟨h1, h2⟩ := azh hq
  obtain ⟨h3, h4⟩ := an5 l _ _ K h1
  refine ⟨by simpa [qg, lg, Nat.add_assoc] using h3, fun y' hy => ?_⟩
  rcases List.mem_cons.1 hy with rfl | hy
  · exact h2
  · exact h4 y' hy

def zw (P : Program) (ty : TypeId) : Nat :=
 match jo P ty with
 | some (_, sz, _) => sz
 | none => 0

def ahf (P : Program) (h : Hp) (t : List V) (ty : TypeId) (ys : List Tmp) : Prop :=
 ∃ e sz by_ zs, jo P ty = some (e, sz, by_) ∧ zeroOf P e = some zs ∧ zs.length = sz ∧
  (∀ y ∈ ys, n5 h sz none (t.getD y .undef) (fun k xs => k = (n4 h (t.getD y .undef)).1 ∧ xs = (n4 h (t.getD y .undef)).2)) ∧
  qg h t ys * by_ ≤ 140737488355328 ∧ qg h t ys ≤ 4611686018427387904 ∧ (lg h t ys).all (de 2) = true

theorem ad7 {h : Hp} {t : List V} {sz : Nat} : ∀ (ys : List Tmp), (∀ y ∈ ys, n5 h sz none (t.getD y .undef) (fun k xs => k = (n4 h (t.getD y .undef)).1 ∧ xs = (n4 h (t.getD y .undef)).2)) → (lg h t ys).all ch = true
 | [], _ => rfl
 | y :: l, hh => by
  simp only [lg, List.all_append, Bool.and_eq_true]
  exact ⟨alz (hh y (by simp)), ad7 l fun y' hy => hh y' (by simp [hy])⟩

theorem ah2 {cs : List V} (hc : cs.all ch = true) : ix cs = false := by
 match cs, hc with
 | [], _ => rfl
 | [x], hc => cases x <;> first | rfl | (simp [ch] at hc; done)
 | _ :: _ :: _, _ => rfl

def zu (P : Program) (h : Hp) (t : List V) : List Tip → St → St
 | [], s => s
 | c :: l, s => zu P h t l { s with t := s.t.set c.d (.osl s.h.length 0 (qg h t c.ys) (zw P c.ty)), h := s.h ++ [some (lg h t c.ys)] }

theorem afv {t : List V} {h : Hp} : ∀ (tips : List Tip) (s : St) (K : St → Prop), qv P t h tips s K → K (zu P h t tips s) ∧ ∀ c ∈ tips, ahf P h t c.ty c.ys
 | [], s, K, hq => ⟨hq, fun c hc => by simp at hc⟩
 | c :: l, s, K, hq => by
  unfold qv at hq
  split at hq
  · rename_i e sz by_ he
    split at hq
    · rename_i zs hz
      obtain ⟨h1, hq⟩ := hq
      obtain ⟨h2, h3⟩ := an5 _ _ _ _ hq
      simp only [Nat.zero_add, List.nil_append] at h2
      obtain ⟨⟨h4, h5, h6⟩, h7⟩ := h2
      obtain ⟨h8, h9⟩ := afv l _ K h7
      refine ⟨?_, fun c' hc => ?_⟩
      · unfold zu
        rw [show zw P c.ty = sz by simp [zw, he]]
        exact h8
      · rcases List.mem_cons.1 hc with rfl | hc
        · exact ⟨e, sz, by_, zs, he, hz, h1, h3, h4, h5, h6⟩
        · exact h9 c' hc
    · exact hq.elim
  · exact hq.elim

theorem asv {t : List V} {h : Hp} : ∀ (tips : List Tip) (s : St), (zu P h t tips s).h = s.h ++ (tips.map fun c => some (lg h t c.ys)) ∧ (zu P h t tips s).k = s.k ∧ (zu P h t tips s).t.length = s.t.length
 | [], s => ⟨by simp [zu], rfl, rfl⟩
 | c :: l, s => by
  unfold zu
  obtain ⟨h1, h2, h3⟩ := asv l { s with t := s.t.set c.d (.osl s.h.length 0 (qg h t c.ys) (zw P c.ty)), h := s.h ++ [some (lg h t c.ys)] }
  exact ⟨by rw [h1]; simp, h2, by rw [h3]; simp⟩

theorem aro {t : List V} {h : Hp} : ∀ (tips : List Tip) (s : St), (tips.map (·.d)).Nodup → ∀ u, u < s.t.length →
 (∀ j c, tips[j]? = some c → c.d = u → (zu P h t tips s).t.getD u .undef = .osl (s.h.length + j) 0 (qg h t c.ys) (zw P c.ty)) ∧ ((∀ c ∈ tips, c.d ≠ u) → (zu P h t tips s).t.getD u .undef = s.t.getD u .undef)
 | [], s, _, u, hu => ⟨fun j c hj => by simp at hj, fun _ => rfl⟩
 | c :: l, s, hnd, u, hu => by
  unfold zu
  simp only [List.map_cons, List.nodup_cons] at hnd
  obtain ⟨h1, h2⟩ := aro (t := t) (h := h) l { s with t := s.t.set c.d (.osl s.h.length 0 (qg h t c.ys) (zw P c.ty)), h := s.h ++ [some (lg h t c.ys)] } hnd.2 u (by simpa using hu)
  have hset : ∀ (x : V), (s.t.set c.d x).getD u .undef = if c.d = u then x else s.t.getD u .undef := fun x => by
   simp only [List.getD_eq_getElem?_getD, List.getElem?_set]
   by_cases e : c.d = u
   · subst e; simp [hu]
   · simp [e]
  refine ⟨fun j c' hj hc => ?_, fun hn => ?_⟩
  · cases j with
    | zero =>
     simp at hj; subst hj
     rw [h2 (fun c' hc' e => hnd.1 (List.mem_map.2 ⟨c', hc', by rw [e, hc]⟩)), hset, if_pos hc]
     rfl
    | succ j =>
     rw [h1 j c' (by simpa using hj) hc]
     simp only [List.length_append, List.length_singleton]
     congr 1
     omega
  · rw [h2 (fun c' hc' => hn c' (by simp [hc'])), hset, if_neg (hn c (by simp))]

theorem aoh {ql : List Bool} (hl : ql.length = ops.size) {s : St} {K : St → Prop} (hq : gA P ops (o7 ql ops.toList) s K) : ∀ k, k ≤ ops.size → ∃ (xs : Nat → V) (ns : Nat → Hp),
 (∀ i o, i < k → ql.getD i false = true → ops[i]? = some o → Go2 P ops (hS s.h ns (fun i => ql.getD i false) (fun i => ql.getD i false) i) o (tS ops s.t xs (fun i => ql.getD i false) i) (xs i) (ns i)) ∧
 gA P ops (o7 (ql.drop k) (ops.toList.drop k)) { s with t := tS ops s.t xs (fun i => ql.getD i false) k, h := hS s.h ns (fun i => ql.getD i false) (fun i => ql.getD i false) k } K
 | 0, _ => ⟨fun _ => .undef, fun _ => [], fun i o hi => absurd hi (by omega), by simpa [tS, hS] using hq⟩
 | k + 1, hk => by
  obtain ⟨xs, ns, h1, h2⟩ := aoh hl hq k (by omega)
  have hlt : k < ops.size := by omega
  have hget : ops[k]? = some ops[k] := Array.getElem?_eq_getElem hlt
  have hdrop : ops.toList.drop k = ops[k] :: ops.toList.drop (k + 1) := by
   rw [List.drop_eq_getElem_cons (by simpa using hlt)]
   simp
  have hdq : ql.drop k = (ql.getD k false) :: ql.drop (k + 1) := by
   rw [List.drop_eq_getElem_cons (by omega)]
   simp [List.getD, List.getElem?_eq_getElem (show k < ql.length by omega)]
  rw [hdrop, hdq] at h2
  cases hz : ql.getD k false with
  | true =>
   rw [hz] at h2
   simp only [o7] at h2
   unfold gA at h2
   have h2' : gdA ops (tS ops s.t xs (fun i => ql.getD i false) k) ops[k].guard (gop P (hS s.h ns (fun i => ql.getD i false) (fun i => ql.getD i false) k) (ev (tS ops s.t xs (fun i => ql.getD i false) k)) ops[k].op fun v n =>
    gA P ops (o7 (ql.drop (k + 1)) (ops.toList.drop (k + 1))) (({ s with t := tS ops s.t xs (fun i => ql.getD i false) k, h := hS s.h ns (fun i => ql.getD i false) (fun i => ql.getD i false) k ++ n } : St).put ops[k].dst v) K)
    (gA P ops (o7 (ql.drop (k + 1)) (ops.toList.drop (k + 1))) (({ s with t := tS ops s.t xs (fun i => ql.getD i false) k, h := hS s.h ns (fun i => ql.getD i false) (fun i => ql.getD i false) k ++ [] } : St).put ops[k].dst .skip) K) := by
    rw [List.append_nil]; exact h2
   obtain ⟨x, n, h3, h4⟩ := aje (ais P (hS s.h ns (fun i => ql.getD i false) (fun i => ql.getD i false) k) (ev (tS ops s.t xs (fun i => ql.getD i false) k)) ops[k].op)
    (K := fun v n => gA P ops (o7 (ql.drop (k + 1)) (ops.toList.drop (k + 1))) (({ s with t := tS ops s.t xs (fun i => ql.getD i false) k, h := hS s.h ns (fun i => ql.getD i false) (fun i => ql.getD i false) k ++ n } : St).put ops[k].dst v) K) h2'
   have agree : ∀ i, i ≤ k → tS ops s.t (fun j => if j = k then x else xs j) (fun i => ql.getD i false) i = tS ops s.t xs (fun i => ql.getD i false) i := by
    intro i
    induction i with
    | zero => intro _; rfl
    | succ i ih =>
     intro hi
     simp only [tS]
     rw [ih (by omega)]
     simp only [if_neg (show ¬ i = k by omega)]
   have agreeH : ∀ i, i ≤ k → hS s.h (fun j => if j = k then n else ns j) (fun i => ql.getD i false) (fun i => ql.getD i false) i = hS s.h ns (fun i => ql.getD i false) (fun i => ql.getD i false) i := by
    intro i
    induction i with
    | zero => intro _; rfl
    | succ i ih =>
     intro hi
     simp only [hS]
     rw [ih (by omega)]
     simp only [if_neg (show ¬ i = k by omega)]
   refine ⟨fun j => if j = k then x else xs j, fun j => if j = k then n else ns j, fun i o hi zi ho => ?_, ?_⟩
   · rw [agree i (by omega), agreeH i (by omega)]
     by_cases e : i = k
     · subst e
       rw [hget] at ho; simp at ho; subst ho
       simp only [if_true]
       exact h4
     · simp only [if_neg e]
       exact h1 i o (by omega) zi ho
   · have e1 : tS ops s.t (fun j => if j = k then x else xs j) (fun i => ql.getD i false) (k + 1) = ze (tS ops s.t xs (fun i => ql.getD i false) k) ops[k].dst x := by
      simp only [tS]
      rw [agree k (Nat.le_refl _), hz]
      simp [ez, hget]
     have e2 : hS s.h (fun j => if j = k then n else ns j) (fun i => ql.getD i false) (fun i => ql.getD i false) (k + 1) = hS s.h ns (fun i => ql.getD i false) (fun i => ql.getD i false) k ++ n := by
      simp only [hS]
      rw [agreeH k (Nat.le_refl _), hz]
      simp
     rw [e1, e2]
     rw [put_eq] at h3
     exact h3
  | false =>
   rw [hz] at h2
   simp only [o7] at h2
   refine ⟨xs, ns, fun i o hi zi ho => ?_, ?_⟩
   · by_cases e : i = k
     · subst e; rw [hz] at zi; cases zi
     · exact h1 i o (by omega) zi ho
   · simp only [tS, hS, hz]
     exact h2

theorem vk {zl : List Bool} (hl : zl.length = ops.size) : ∀ (d k : Nat), k + d = ops.size → gf ops (fun i => zl.getD i false) k = o7 ((zl.map (!·)).drop k) (ops.toList.drop k)
 | 0, k, hk => by
  have : gf ops (fun i => zl.getD i false) k = [] := by unfold gf; rw [List.drop_of_length_le (by simp; omega)]; rfl
  rw [this, List.drop_of_length_le (by simp; omega)]
  rfl
 | d + 1, k, hk => by
  have hlt : k < ops.size := by omega
  rw [ov hlt, vk hl d (k + 1) (by omega)]
  have hdrop : ops.toList.drop k = ops[k] :: ops.toList.drop (k + 1) := by
   rw [List.drop_eq_getElem_cons (by simpa using hlt)]
   simp
  have hdq : (zl.map (!·)).drop k = (!(zl.getD k false)) :: (zl.map (!·)).drop (k + 1) := by
   rw [List.drop_eq_getElem_cons (by simp; omega)]
   simp [List.getD, List.getElem?_eq_getElem (show k < zl.length by omega)]
  rw [hdrop, hdq]
  cases zl.getD k false <;> simp [o7]

end
end Go.Lv
end
section
namespace Go.Lv

section
variable {P : Program} {ops : Array Oper} {z q tk : Nat → Bool} {B : Nat → Nat → Prop} {tab : List (Option CE)} {tips : List Tip} {w0 : World} {m0 : Nat → Nat} {h0 : Hp} {av0 : Nat → Prop}

def sw (tab : List (Option CE)) (S : Nat → Bool) (i : Nat) : Prop := ∀ k ek, gp tab k = some ek → ek.pv = some i → S k = false

structure GI (P : Program) (tab : List (Option CE)) (he : Hp) (te : List V) (S : Nat → Bool) (H : Hp) (γ : Nat → Nat) (X : Nat → V) : Prop where
 hx : ∀ i e, gp tab i = some e → S i = true → X i = .osl (γ i) 0 (qg he te e.ys) (zw P e.ty) ∧ he.length ≤ γ i
 hb : ∀ i e, gp tab i = some e → S i = true → sw tab S i → H[γ i]? = some (some (lg he te e.ys))
 hd : ∀ i j ei ej, gp tab i = some ei → gp tab j = some ej → S i = true → S j = true → sw tab S i → sw tab S j → i ≠ j → γ i ≠ γ j
 hl : ∀ i e, gp tab i = some e → S i = true → (lg he te e.ys).length = qg he te e.ys * zw P e.ty

theorem GI.step {he : Hp} {te : List V} {S S' : Nat → Bool} {H H' : Hp} {γ : Nat → Nat} {X : Nat → V} (J : GI P tab he te S H γ X) {i : Nat} {e : CE} (hi : gp tab i = some e) (hS : ∀ j, S' j = if i = j then true else S j) {g : Nat} {x : V}
 (p1 : ∀ j ej, j ≠ i → gp tab j = some ej → S j = true → sw tab S' j → H[γ j]? = some (some (lg he te ej.ys)) → H'[γ j]? = some (some (lg he te ej.ys))) (p2 : H'[g]? = some (some (lg he te e.ys)))
 (p3 : ∀ j ej, j ≠ i → gp tab j = some ej → S j = true → sw tab S' j → γ j ≠ g) (p4 : x = .osl g 0 (qg he te e.ys) (zw P e.ty)) (p5 : he.length ≤ g) (p6 : (lg he te e.ys).length = qg he te e.ys * zw P e.ty) :
 GI P tab he te S' H' (fun j => if j = i then g else γ j) (fun j => if j = i then x else X j) := by
 have hsub : ∀ j, sw tab S' j → sw tab S j := fun j hu k ek h1 h2 => by
  have := hu k ek h1 h2
  rw [hS] at this
  split at this
  · cases this
  · exact this
 have hold : ∀ j, j ≠ i → S' j = true → S j = true := fun j hj h => by rw [hS, if_neg (Ne.symm hj)] at h; exact h
 refine ⟨fun j ej h1 h2 => ?_, fun j ej h1 h2 h3 => ?_, fun j l ej el h1 h2 h3 h4 h5 h6 hne => ?_, fun j ej h1 h2 => ?_⟩
 · by_cases e1 : j = i
   · subst e1
     rw [hi] at h1; simp at h1; subst h1
     simp only [if_true]
     exact ⟨p4, p5⟩
   · simp only [if_neg e1]
     exact J.hx j ej h1 (hold j e1 h2)
 · by_cases e1 : j = i
   · subst e1
     rw [hi] at h1; simp at h1; subst h1
     simp only [if_true]
     exact p2
   · simp only [if_neg e1]
     exact p1 j ej e1 h1 (hold j e1 h2) h3 (J.hb j ej h1 (hold j e1 h2) (hsub j h3))
 · by_cases e1 : j = i <;> by_cases e2 : l = i
   · omega
   · simp only [if_pos e1, if_neg e2]
     exact fun he => p3 l el e2 h2 (hold l e2 h4) h6 he.symm
   · simp only [if_neg e1, if_pos e2]
     exact p3 j ej e1 h1 (hold j e1 h3) h5
   · simp only [if_neg e1, if_neg e2]
     exact J.hd j l ej el h1 h2 (hold j e1 h3) (hold l e2 h4) (hsub j h5) (hsub l h6) hne
 · by_cases e1 : j = i
   · subst e1
     rw [hi] at h1; simp at h1; subst h1
     exact p6
   · exact J.hl j ej h1 (hold j e1 h2)

theorem amk (t0 : List V) (S S' : Nat → Bool) (X X' : Nat → V) (i : Nat) (hX : ∀ j, j ≠ i → X' j = X j) (hS : S i = false) (hS' : ∀ j, S' j = if i = j then true else S j)
 (hw : ∀ u, ez ops i = some u → ∀ j, j ≠ i → ez ops j = some u → S j = true → j < i) : ∀ n, i < n → ze (tS ops t0 X S n) (ez ops i) (X' i) = tS ops t0 X' S' n
 | 0, h => by omega
 | n + 1, h => by
  have agree : ∀ k, k ≤ i → tS ops t0 X S k = tS ops t0 X' S' k := by
   intro k
   induction k with
   | zero => intro _; rfl
   | succ k ih =>
    intro hk
    simp only [tS]
    rw [ih (by omega), show S' k = S k by rw [hS', if_neg (by omega)], hX k (by omega)]
  by_cases e : i = n
  · subst e
    simp only [tS, hS, hS', if_true, Bool.false_eq_true, if_false]
    rw [agree i (Nat.le_refl _)]
  · have ih := amk t0 S S' X X' i hX hS hS' hw n (by omega)
    simp only [tS, hS' n, if_neg e]
    rw [hX n (Ne.symm e), ← ih]
    cases hn : S n with
    | false => simp
    | true =>
     simp only [if_true]
     cases hd : ez ops i with
     | none => rfl
     | some u =>
      cases hd2 : ez ops n with
      | none => rfl
      | some v =>
       have hne : u ≠ v := fun huv => by
        subst huv
        have := hw u hd n (Ne.symm e) hd2 hn
        omega
       simp only [ze]
       rw [List.set_comm _ _ (Ne.symm hne)]

theorem agr (t0 : List V) (S : Nat → Bool) (X xs : Nat → V) (u : Nat) : ∀ p, (∀ j, j < p → S j = true → ez ops j = some u → X j = xs j) → (tS ops t0 X S p).getD u .undef = (tS ops t0 xs S p).getD u .undef
 | 0, _ => rfl
 | p + 1, h => by
  have ih := agr t0 S X xs u p (fun j hj => h j (by omega))
  simp only [tS]
  cases hS : S p with
  | false => simpa using ih
  | true =>
   simp only [if_true]
   by_cases hu : u < t0.length
   · rw [iv _ _ _ _ (by rw [cd]; exact hu), iv _ _ _ _ (by rw [cd]; exact hu)]
     by_cases hd : ez ops p = some u
     · rw [if_pos hd, if_pos hd]; exact h p (by omega) hS hd
     · rw [if_neg hd, if_neg hd]; exact ih
   · have e : ∀ (l : List V), l.length = t0.length → l.getD u .undef = .undef := fun l hl => by
      rw [List.getD_eq_getElem?_getD, List.getElem?_eq_none (by omega)]; rfl
     rw [e _ (by rw [kj, cd]), e _ (by rw [kj, cd])]

theorem ad2 : ∀ (bs H G : Hp) (off : Nat), (bs = [] ∨ off + bs.length ≤ H.length) → dv (H ++ G) off bs = dv H off bs ++ G
 | [], H, G, off, _ => rfl
 | b :: bs, H, G, off, h => by
  have h' : off + (bs.length + 1) ≤ H.length := by
   rcases h with h | h
   · cases h
   · simpa using h
  show dv ((H ++ G).set off b) (off + 1) bs = dv (H.set off b) (off + 1) bs ++ G
  rw [List.set_append_left _ _ (by omega), ad2 bs _ G (off + 1) (.inr (by simp; omega))]

theorem ar7 {w : World} {m : Nat → Nat} {hc ht : Hp} {av : Nat → Prop} (hcmp : ∀ (id : Nat) (cs cs' : List V), hc[id]? = some (some cs) → ht[id]? = some (some cs') → cs = cs') {v : Value} {x : V} (hx : RV w m hc av true v x) {sz : Nat} {no : Option Nat} {K : Nat → List V → Prop}
 (hq : n5 ht sz no x K) : n5 hc sz no x K := by
 cases hx with
 | osl id off n cap wd cs hid hl hc' hs =>
  unfold n5 at *
  dsimp only at *
  refine ⟨hq.1, ?_⟩
  replace hq := hq.2
  cases hh : ht[id]? with
  | none => rw [hh] at hq; exact hq.elim
  | some b =>
   rw [hh] at hq
   cases b with
   | none => exact hq.elim
   | some cs' =>
    have := hcmp id cs cs' hid.1 hh
    subst this
    rw [hid.1]
    exact hq
 | _ => exact hq

theorem aq1 {s : St} {a : Act} {w : World} {m : Nat → Nat} (I : Inv w0 m0 h0 av0 s a w m) {o : Oper} {d : Tmp} {ty e sz by_ : Nat} {zs : List V} (hd : o.dst = some d) (hop : o.op = .buildSlice ty 0 #[]) (he : jo P ty = some (e, sz, by_)) (hz : zeroOf P e = some zs)
 {Kc : Act → World → Prop} {Q : Exit → Act → World → Prop} (hk : ∀ v w' m', Inv w0 m0 h0 av0 (({ s with h := s.h ++ [some []] } : St).put (some d) (.osl s.h.length 0 0 sz)) (a.put (some d) v) w' m' → Kc (a.put (some d) v) w') : o.wp P a w Kc Q := by
 obtain ⟨dst, op, ty', pos, after, g⟩ := o
 dsimp only at hd hop
 subst hd hop
 obtain ⟨D, hD, hrun⟩ := s9 (P := P) I.ev he hz (n := 0) (parts := #[]) (cs := []) rfl (by omega) (by simp [abh])
 obtain ⟨J, _⟩ := I.alloc D e [] (by simp) (fun i hi => by simp at hi)
 exact ft (v := .slice (some ⟨w.heap.size, 0, none⟩) 0 0) (w' := w.alloc (.cells D e)) (by simpa [execOp] using by simp at hrun; simp [hrun]) (hk _ _ _ (J.put (ah9 rfl (by rw [hD.1]; simp) (by simp))))

theorem auw {s : St} {a : Act} {w : World} {m : Nat → Nat} (I : Inv w0 m0 h0 av0 s a w m) {o : Oper} {d x y : Tmp} {ty e sz by_ : Nat} {zs : List V} (hd : o.dst = some d) (hop : o.op = .call { callee := .builtin .append, args := #[.tmp x, .tmp y], argTypes := #[ty, ty] })
 (he : jo P ty = some (e, sz, by_)) (hz : zeroOf P e = some zs) (hzl : zs.length = sz) {g n n2 : Nat} {cs cs2 : List V} (hx : s.t.getD x .undef = .osl g 0 n sz) (hg : s.h[g]? = some (some cs)) (hn : n * sz = cs.length) (hsrc : n5 s.h sz none (s.t.getD y .undef) fun k ys => k = n2 ∧ ys = cs2)
 (hb : (n + n2) * by_ ≤ 140737488355328) (h63 : n + n2 ≤ 4611686018427387904) {Kc : Act → World → Prop} {Q : Exit → Act → World → Prop}
 (hk : ∀ v w' m' g' H', (g' = g ∧ H' = s.h.set g (some (cs ++ cs2)) ∨ g' = s.h.length ∧ H' = s.h ++ [some (cs ++ cs2)]) → Inv w0 m0 h0 av0 (({ s with h := H' } : St).put (some d) (.osl g' 0 (n + n2) sz)) (a.put (some d) v) w' m' → Kc (a.put (some d) v) w') : o.wp P a w Kc Q := by
 obtain ⟨dst, op, ty', pos, after, gd⟩ := o
 dsimp only at hd hop
 subst hd hop
 have hxv := I.ev (.tmp x)
 rw [show ev s.t (.tmp x) = .osl g 0 n sz from hx] at hxv
 obtain ⟨v, w', m', h1, h2⟩ := ap5 (P := P) (ty := ty') I hxv hg hn he hz hzl (I.ev (.tmp y)) hsrc hb h63
 refine ft (v := v) (w' := w') (by simp [execOp, resolve, invoke, builtin, h1]) ?_
 rcases h2 with ⟨J, hr⟩ | ⟨J, hr⟩
 · exact hk _ _ _ _ _ (.inl ⟨rfl, rfl⟩) (J.put hr)
 · exact hk _ _ _ _ _ (.inr ⟨rfl, rfl⟩) (J.put hr)

theorem ahf.less {h : Hp} {t : List V} {ty : TypeId} {l r : List Tmp} (H : ahf P h t ty (l ++ r)) : ahf P h t ty l := by
 obtain ⟨e, sz, by_, zs, h1, h2, h3, h4, h5, h6, h7⟩ := H
 rw [w2] at h5 h6
 rw [w9, List.all_append, Bool.and_eq_true] at h7
 exact ⟨e, sz, by_, zs, h1, h2, h3, fun y hy => h4 y (by simp [hy]), Nat.le_trans (Nat.mul_le_mul_right _ (by omega)) h5, by omega, h7.1⟩

theorem avs {h : Hp} {sz : Nat} {v : V} {K : Nat → List V → Prop} {w : World} {m : Nat → Nat} {hc : Hp} {av : Nat → Prop} {u : Value} (hcmp : ∀ (id : Nat) (cs cs' : List V), hc[id]? = some (some cs) → h[id]? = some (some cs') → cs = cs') (hx : RV w m hc av true u v) (hq : n5 h sz none v K) :
 (n4 h v).2.length = (n4 h v).1 * sz := by
 cases hx with
 | sl b off n cap wd cs vals hl ha hc hv hr => obtain ⟨rfl, _⟩ := hq; exact hl
 | slz a c wd => simp [n4]
 | osl id off n cap wd cs hid hl hc' hs =>
  unfold n5 at hq
  dsimp only at hq
  replace hq := hq.2
  cases hh : h[id]? with
  | none => rw [hh] at hq; exact hq.elim
  | some b =>
   rw [hh] at hq
   cases b with
   | none => exact hq.elim
   | some cs' =>
    have := hcmp id cs cs' hid.1 hh
    subst this
    obtain ⟨rfl, _⟩ := hq
    simp only [n4, hh]
    simp; omega
 | nilsl => simp [n4]
 | _ => exact hq.elim
end
end Go.Lv
end
section
namespace Go.Lv

section
variable {P : Program} {ops : Array Oper} {z q tk : Nat → Bool} {B : Nat → Nat → Prop} {tab : List (Option CE)} {tips : List Tip} {w0 : World} {m0 : Nat → Nat} {h0 : Hp} {av0 : Nat → Prop}

theorem xi (t0 : List V) (S : Nat → Bool) (X : Nat → V) (u j : Nat) (hu : u < t0.length) (hj : S j = true) (hd : ez ops j = some u) : ∀ p, j < p → (∀ k, k < p → k ≠ j → S k = true → ez ops k ≠ some u) → (tS ops t0 X S p).getD u .undef = X j
 | 0, h, _ => by omega
 | p + 1, h, hn => by
  simp only [tS]
  by_cases e : j = p
  · subst e
    rw [hj, if_pos rfl, iv _ _ _ _ (by rw [cd]; exact hu), if_pos hd]
  · have ih := xi t0 S X u j hu hj hd p (by omega) (fun k hk => hn k (by omega))
    cases hS : S p with
    | false => simpa using ih
    | true =>
     simp only [if_true]
     rw [iv _ _ _ _ (by rw [cd]; exact hu), if_neg (hn p (by omega) (Ne.symm e) hS)]
     exact ih

theorem GI.quiet {he : Hp} {te : List V} {S S' : Nat → Bool} {H H' G : Hp} {γ : Nat → Nat} {X : Nat → V} (J : GI P tab he te S (H ++ G) γ X) {i : Nat} (hi : gp tab i = none) (hS : ∀ j, S' j = if i = j then true else S j) (h1 : H.length = he.length) (h2 : H'.length = he.length) :
 GI P tab he te S' (H' ++ G) γ X := by
 have hne : ∀ j e, gp tab j = some e → i ≠ j := fun j e hj e' => by subst e'; rw [hi] at hj; cases hj
 have hold : ∀ j e, gp tab j = some e → S' j = true → S j = true := fun j e hj h => by rw [hS, if_neg (hne j e hj)] at h; exact h
 have hsub : ∀ j, sw tab S' j → sw tab S j := fun j hu k ek g1 g2 => by
  have := hu k ek g1 g2
  rw [hS, if_neg (hne k ek g1)] at this
  exact this
 refine ⟨fun j e hj h => J.hx j e hj (hold j e hj h), fun j e hj h hu => ?_, fun j l ej el hj hl g1 g2 g3 g4 => J.hd j l ej el hj hl (hold j ej hj g1) (hold l el hl g2) (hsub j g3) (hsub l g4), fun j e hj h => J.hl j e hj (hold j e hj h)⟩
 have g1 := J.hb j e hj (hold j e hj h) (hsub j hu)
 have g2 := (J.hx j e hj (hold j e hj h)).2
 rw [List.getElem?_append_right (by omega)] at g1 ⊢
 rw [h2, ← h1]
 exact g1

theorem avr (D : nk ops z B tk) (F : CF ops z q B tab tips) {Q : Exit → Act → World → Prop} {K : St → Prop} (hQp : ∀ c a a' w, Q (.panic c) a w → Q (.panic c) a' w) (hk : ∀ s' a' w' m', K s' → Inv w0 m0 h0 av0 s' a' w' m' → Q .normal a' w') {s : St} (hlen : h0.length ≤ s.h.length) (hsk : s.k = h0.length) {xs : Nat → V} {ns : Nat → Hp} {te : List V} {he : Hp}
 (hte : te = tS ops s.t xs q ops.size) (hhe : he = hS s.h ns q q ops.size)
 (hgo : ∀ i o, i < ops.size → q i = true → ops[i]? = some o → Go2 P ops (hS s.h ns q q i) o (tS ops s.t xs q i) (xs i) (ns i))
 (hcond : ∀ c ∈ tips, ahf P he te c.ty c.ys) (hund : ∀ i e, gp tab i = some e → e.d < s.t.length ∧ s.t.getD e.d .undef = .undef)
 (hend : ib P ops (gf ops z 0) (zu P he te tips ⟨te.map (Lv.ren (bh he.length) 3), cb he.length he, s.k⟩) K) :
 ∀ (fuel : Nat) (listed : Array Bool) (a : Act) (w : World) (m : Nat → Nat) (X : Nat → V) (γ : Nat → Nat) (G : Hp), listed.size = ops.size → wi B listed → (∀ i, listed.getD i false = true → z i = true) → left ops.size listed ≤ fuel →
  (∀ i, q i = true → X i = xs i) → GI P tab he te (fun i => listed.getD i false) (hS s.h ns q (fun i => listed.getD i false) ops.size ++ G) γ X →
  Inv w0 m0 h0 av0 { s with t := tS ops s.t X (fun i => listed.getD i false) ops.size, h := hS s.h ns q (fun i => listed.getD i false) ops.size ++ G } a w m → wpAny P .any ops Q fuel listed a w := by
 have qn : ∀ i, q i = true → gp tab i = none := fun i hq => by
  cases hc : gp tab i with
  | none => rfl
  | some e => have := (F.ent i e hc).2.2.1; rw [hq] at this; cases this
 have qz : ∀ i, i < ops.size → q i = true → z i = true := fun i hi hq => by rw [← F.of i hi (qn i hq)]; exact hq
 have zq : ∀ i, i < ops.size → z i = true → q i = false → ∃ e, gp tab i = some e := fun i hi hz hq => by
  cases hc : gp tab i with
  | none => rw [F.of i hi hc, hz] at hq; cases hq
  | some e => exact ⟨e, rfl⟩
 have dst_at : ∀ i (hi : i < ops.size), ez ops i = ops[i].dst := fun i hi => by simp [ez, Array.getElem?_eq_getElem hi]
 have chd : ∀ i e, gp tab i = some e → ez ops i = some e.d := fun i e hc => by
  obtain ⟨_, _, _, o, ho, hd, _⟩ := F.ent i e hc
  simp [ez, ho, hd]
 have chn : ∀ i e, gp tab i = some e → ∀ k, k < ops.size → z k = true → k ≠ i → ez ops k ≠ some e.d := fun i e hc k hk hz hne hd => by
  have := (F.sl i e hc k ops[k] (Array.getElem?_eq_getElem hk) hz).1 hne
  rw [dst_at k hk] at hd
  exact this hd
 have hlenS : ∀ S, (hS s.h ns q S ops.size).length = he.length := fun S => by rw [hhe]; exact xd s.h ns q S q ops.size
 have hcmpE : ∀ (S : Nat → Bool) (G : Hp) (id : Nat) (cs cs' : List V), (hS s.h ns q S ops.size ++ G)[id]? = some (some cs) → he[id]? = some (some cs') → cs = cs' := fun S G id cs cs' h1 h2 => by
  rw [List.getElem?_append_left (by rw [hlenS]; exact e8 h2)] at h1
  rw [hhe] at h2
  exact aaq s.h ns q S (Nat.le_refl _) id cs cs' h1 h2
 -- slots that are no chain's
 have hT : ∀ (S : Nat → Bool) (X : Nat → V) (u i : Nat), (∀ i, q i = true → X i = xs i) → (∀ j, S j = true → z j = true) → i ≤ ops.size → (∀ j e, gp tab j = some e → S j = true → e.d ≠ u) → (∀ j, j < ops.size → ez ops j = some u → (S j = true ↔ j < i ∧ q j = true)) →
  (tS ops s.t X S ops.size).getD u .undef = (tS ops s.t xs q i).getD u .undef := by
  intro S X u i hX hz hi hu hw
  rw [agr (ops := ops) s.t S X xs u ops.size (fun j hj hSj hd => hX j ((hw j hj hd).1 hSj).2)]
  exact qy ops s.t xs S q u i ops.size hi hw
 have done : ∀ (fuel : Nat) (listed : Array Bool) (a : Act) (w : World) (m : Nat → Nat) (X : Nat → V) (γ : Nat → Nat) (G : Hp), listed.size = ops.size → (∀ i, listed.getD i false = true → z i = true) → left ops.size listed ≤ fuel →
  (∀ i, q i = true → X i = xs i) → GI P tab he te (fun i => listed.getD i false) (hS s.h ns q (fun i => listed.getD i false) ops.size ++ G) γ X →
  Inv w0 m0 h0 av0 { s with t := tS ops s.t X (fun i => listed.getD i false) ops.size, h := hS s.h ns q (fun i => listed.getD i false) ops.size ++ G } a w m → (∀ i, i < ops.size → z i = true → listed.getD i false = true) → wpAny P .any ops Q fuel listed a w := by
  intro fuel listed a w m X γ G hl hlz hf hX J I hall
  have hsz : ∀ i, i < ops.size → listed.getD i false = z i := fun i hi => by
   cases hz : z i
   · cases hx : listed.getD i false
     · rfl
     · rw [hlz i hx] at hz; cases hz
   · exact hall i hi hz
  have hS1 : hS s.h ns q (fun i => listed.getD i false) ops.size = he := by
   rw [hhe]; exact ka s.h ns q ops.size (fun i hi hq => by rw [hsz i hi, qz i hi hq, hq])
  rw [hS1] at I J
  have hSc : ∀ i e, gp tab i = some e → listed.getD i false = true := fun i e hc => by
   obtain ⟨hi, hz, _⟩ := F.ent i e hc
   exact hall i hi hz
  have htd : (tips.map (·.d)).Nodup := by
   have key : ∀ l : List Tip, (∀ c ∈ l, c ∈ tips) → (l.map (·.i)).Nodup → (l.map (·.d)).Nodup := by
    intro l
    induction l with
    | nil => intro _ _; simp
    | cons c l ihl =>
     intro hm hn
     simp only [List.map_cons, List.nodup_cons] at hn ⊢
     refine ⟨fun h => ?_, ihl (fun c' hc' => hm c' (by simp [hc'])) hn.2⟩
     obtain ⟨c', hc', hd⟩ := List.mem_map.1 h
     obtain ⟨e, g1, g2, _⟩ := F.tp c (hm c (by simp))
     obtain ⟨e', g1', g2', _⟩ := F.tp c' (hm c' (by simp [hc']))
     have hne : c'.i ≠ c.i := fun h => hn.1 (List.mem_map.2 ⟨c', hc', h⟩)
     obtain ⟨hi', hz', _⟩ := F.ent c'.i e' g1'
     exact chn c.i e g1 c'.i hi' hz' hne (by rw [chd c'.i e' g1', g2', g2, hd])
   exact key tips (fun c hc => hc) F.nd
  have hk1 : s.k ≤ he.length := by rw [hsk, hhe]; exact Nat.le_trans hlen (aku s.h ns q q ops.size)
  have hfh := asv (P := P) (t := te) (h := he) tips ⟨te.map (Lv.ren (bh he.length) 3), cb he.length he, s.k⟩
  have hft := aro (P := P) (t := te) (h := he) tips ⟨te.map (Lv.ren (bh he.length) 3), cb he.length he, s.k⟩ htd
  have htl : te.length = s.t.length := by rw [hte, cd]
  have hcl : (cb he.length he).length = he.length := by simp [cb]
  obtain ⟨m', I'⟩ := Inv.close (t2 := (zu P he te tips ⟨te.map (Lv.ren (bh he.length) 3), cb he.length he, s.k⟩).t) I he.length hk1 (by simp) (tips.map fun c => (γ c.i, lg he te c.ys))
   (fun p hp => by
    obtain ⟨c, hc, rfl⟩ := List.mem_map.1 hp
    obtain ⟨e, g1, g2, g3, g4, g5⟩ := F.tp c hc
    have hSi := hSc c.i e g1
    have h1 := J.hb c.i e g1 hSi (fun k ek hk1 hk2 => absurd hk2 (g5 k ek hk1))
    obtain ⟨_, _, _, _, _, _, _, k4, _, _, k7⟩ := hcond c hc
    rw [g4] at h1
    exact ⟨(J.hx c.i e g1 hSi).2, h1, k7, ah2 (ad7 _ k4)⟩)
   (fun i j p p' hi hj hne => by
    rw [List.getElem?_map] at hi hj
    cases h1 : tips[i]? with
    | none => simp [h1] at hi
    | some c =>
     cases h2 : tips[j]? with
     | none => simp [h2] at hj
     | some c' =>
      simp [h1] at hi; simp [h2] at hj
      subst hi hj
      obtain ⟨e, g1, _, _, _, g5⟩ := F.tp c (List.mem_of_getElem? h1)
      obtain ⟨e', g1', _, _, _, g5'⟩ := F.tp c' (List.mem_of_getElem? h2)
      refine J.hd c.i c'.i e e' g1 g1' (hSc _ e g1) (hSc _ e' g1') (fun k ek hk1 hk2 => absurd hk2 (g5 k ek hk1)) (fun k ek hk1 hk2 => absurd hk2 (g5' k ek hk1)) (fun hcc => ?_)
      have hn := F.nd
      have i1 : (tips.map (·.i))[i]? = some c.i := by rw [List.getElem?_map, h1]; rfl
      have i2 : (tips.map (·.i))[j]? = some c.i := by rw [List.getElem?_map, h2, hcc]; rfl
      have hil := (List.getElem?_eq_some_iff.1 i1).1
      exact hne ((List.getElem?_inj hil hn).1 (i1.trans i2.symm)))
   (by rw [hfh.2.2, List.length_map, htl, cd])
   (fun u hu hu' => by
    have hu2 : u < s.t.length := by simpa [cd] using hu
    have hu3 : u < (⟨te.map (Lv.ren (bh he.length) 3), cb he.length he, s.k⟩ : St).t.length := by simp; omega
    obtain ⟨f1, f2⟩ := hft u hu3
    have gl : ∀ (l : List V) (h : u < l.length), l[u] = l.getD u .undef := fun l h => by simp [List.getD, h]
    rw [gl _ hu, gl _ hu']
    by_cases ht : ∃ (j : Nat) (c : Tip), tips[j]? = some c ∧ c.d = u
    · obtain ⟨j, c, hj, hd⟩ := ht
      obtain ⟨e, g1, g2, g3, g4, _⟩ := F.tp c (List.mem_of_getElem? hj)
      obtain ⟨hi, hz, _⟩ := F.ent c.i e g1
      refine .inr ⟨j, (γ c.i, lg he te c.ys), _, _, by rw [List.getElem?_map, hj]; rfl, ?_, (f1 j c hj hd).trans (by dsimp only; rw [hcl])⟩
      have hone := xi (ops := ops) s.t (fun i => listed.getD i false) X u c.i hu2 (hSc _ e g1) (by rw [chd _ e g1, g2, hd]) ops.size hi (fun k hk hne hSk => by rw [← hd, ← g2]; exact chn c.i e g1 k hk (hlz k hSk) hne)
      dsimp only
      rw [hone, (J.hx c.i e g1 (hSc _ e g1)).1, g3, g4]
    · have hnt : ∀ c ∈ tips, c.d ≠ u := fun c hc hd => by
       obtain ⟨j, hj, rfl⟩ := List.getElem_of_mem hc
       exact ht ⟨j, tips[j], List.getElem?_eq_getElem hj, hd⟩
      refine .inl ?_
      rw [f2 hnt]
      have hmap : (te.map (Lv.ren (bh he.length) 3)).getD u .undef = Lv.ren (bh he.length) 3 (te.getD u .undef) := by
       simp [List.getD, show u < te.length by omega]
      dsimp only
      rw [hmap]
      by_cases hch : ∃ i e, gp tab i = some e ∧ e.d = u
      · obtain ⟨i, e, hc, hd⟩ := hch
        have h1 : te.getD u .undef = s.t.getD u .undef := by
         rw [hte]
         exact vt ops s.t xs q u hu2 0 ops.size (Nat.zero_le _) (fun k _ hk hdk => by
          cases hqk : q k with
          | false => rfl
          | true =>
           exfalso
           by_cases hki : k = i
           · subst hki; rw [qn k hqk] at hc; cases hc
           · exact chn i e hc k hk (qz k hk hqk) hki (by rw [hdk, hd]))
        rw [h1, ← hd, (hund i e hc).2]
        exact .inr (.inl rfl)
      · have h1 : (tS ops s.t X (fun i => listed.getD i false) ops.size).getD u .undef = te.getD u .undef := by
         rw [hte]
         refine hT _ X u ops.size hX hlz (Nat.le_refl _) (fun j e hc _ hd => hch ⟨j, e, hc, hd⟩) (fun j hj hdj => ?_)
         skip
         rw [hsz j hj]
         refine ⟨fun hz => ⟨hj, ?_⟩, fun h => qz j hj h.2⟩
         cases hqj : q j with
         | true => rfl
         | false =>
          obtain ⟨e, hc⟩ := zq j hj hz hqj
          exact absurd ⟨j, e, hc, by have := chd j e hc; rw [hdj] at this; simpa using this.symm⟩ hch
        rw [h1]
        exact .inl rfl)
  rw [show cb he.length (he ++ G) = cb he.length he by simp [cb], List.map_map] at I'
  generalize hF : zu P he te tips ⟨te.map (Lv.ren (bh he.length) 3), cb he.length he, s.k⟩ = Fs at *
  obtain ⟨t2, h2, k2⟩ := Fs
  dsimp only at hfh I'
  obtain ⟨e1, e2, _⟩ := hfh
  have I2 : Inv w0 m0 h0 av0 ⟨t2, h2, k2⟩ a w m' := by
   rw [e1, e2]
   exact I'
  exact amn D hk ops.size 0 (by omega) fuel listed _ a w m' hl (fun i hi => by rw [hsz i hi]; simp) hf I2 hend
 intro fuel
 induction fuel with
 | zero =>
  intro listed a w m X γ G hl hc hlz hf hX J I
  refine done 0 listed a w m X γ G hl hlz hf hX J I (fun i hi _ => ?_)
  cases hx : listed.getD i false
  · have := zx (listed := listed) hi (by rw [gq (by omega)]; exact hx)
    omega
  · rfl
 | succ fuel ih =>
  intro listed a w m X γ G hl hc hlz hf hX J I
  by_cases hall : ∀ i, i < ops.size → (!(z i) || listed.getD i false) = true
  · exact done (fuel + 1) listed a w m X γ G hl hlz hf hX J I (fun i hi hz => by have := hall i hi; simpa [hz] using this)
  · obtain ⟨k, hkn, hku, hkl⟩ := o4 ops.size (fun i => !(z i) || listed.getD i false) hall
    simp only [Bool.or_eq_false_iff, Bool.not_eq_false'] at hku
    obtain ⟨hkz, hku⟩ := hku
    have hkr : k ∈ Region.ready .any ops listed := progress D hkn (by rw [gq (by omega)]; exact hku) (fun j hj hz => by
     have := hkl j hj
     simpa [hz hkz] using this)
    have hset : ∀ i, i < ops.size → ∀ j, (listed.setIfInBounds i true).getD j false = if i = j then true else listed.getD j false := fun i hi j => cq (by omega)
    have common : ∀ i, i ∈ Region.ready .any ops listed → z i = true → i < ops.size ∧ listed.getD i false = false ∧ wi B (listed.setIfInBounds i true) ∧ (∀ j, (listed.setIfInBounds i true).getD j false = true → z j = true) ∧ left ops.size (listed.setIfInBounds i true) ≤ fuel := by
     intro i hr hzi
     obtain ⟨hi, hu⟩ := gx hr
     have hu' : listed.getD i false = false := by rw [← gq (by omega)]; exact hu
     refine ⟨hi, hu', fun i' j hl' hB => ?_, fun j hj => ?_, by have := lv hi hl hu; omega⟩
     · rw [hset i hi] at hl' ⊢
       by_cases e : i = j
       · rw [if_pos e]
       · rw [if_neg e]
         by_cases e' : i = i'
         · subst e'
           exact jm D hc hr hB
         · rw [if_neg e'] at hl'
           exact hc i' j hl' hB
     · rw [hset i hi] at hj
       by_cases e : i = j
       · subst e; exact hzi
       · rw [if_neg e] at hj
         exact hlz j hj
    -- one quiet operation, ready
    have main : ∀ i, i ∈ Region.ready .any ops listed → q i = true → z i = true → (∃ hi : i < ops.size, Go2 P ops (hS s.h ns q q i) ops[i] (tS ops s.t X (fun i => listed.getD i false) ops.size) (xs i) (ns i) ∧
     ∀ (v : Value) (w' : World) (m' : Nat → Nat), Inv w0 m0 h0 av0 (({ s with t := tS ops s.t X (fun i => listed.getD i false) ops.size, h := dv (hS s.h ns q (fun i => listed.getD i false) ops.size ++ G) (hS s.h ns q q i).length (ns i) } : St).put ops[i].dst (xs i)) (a.put ops[i].dst v) w' m' →
      wpAny P .any ops Q fuel (listed.setIfInBounds i true) (a.put ops[i].dst v) w') := by
     intro i hr hqi hzi
     obtain ⟨hi, hu', c1, c2, c3⟩ := common i hr hzi
     have hget : ops[i]? = some ops[i] := Array.getElem?_eq_getElem hi
     have hni := qn i hqi
     have hch : ∀ u, (u ∈ ops[i].looksAt ops ∨ ops[i].dst = some u) → ∀ j e, gp tab j = some e → e.d ≠ u := fun u hmem j e hcj hd => by
      subst hd
      obtain ⟨s1, s2⟩ := F.sl j e hcj i ops[i] hget hzi
      rcases hmem with h | h
      · obtain ⟨e', h1, _⟩ := s2 h
        rw [hni] at h1; cases h1
      · refine s1 (fun hij => ?_) h
        subst hij
        rw [hni] at hcj; cases hcj
     have hwr : ∀ u, (u ∈ ops[i].looksAt ops ∨ ops[i].dst = some u) → ∀ j, j < ops.size → ez ops j = some u → (listed.getD j false = true ↔ j < i ∧ q j = true) := by
      intro u hmem j hj hd
      have hqj : z j = true → q j = true := fun hz => by
       cases hq : q j with
       | true => rfl
       | false =>
        obtain ⟨e, hcj⟩ := zq j hj hz hq
        exact absurd (by have := chd j e hcj; rw [hd] at this; simpa using this.symm) (hch u hmem j e hcj)
      by_cases e : j = i
      · subst e; simp [hu']
      · by_cases hzj : z j = true
        · have hgj : ops[j]? = some ops[j] := Array.getElem?_eq_getElem hj
          have hcl : ly ops j i = true := by
           have hd' : ops[j].dst = some u := by simpa [ez, hgj] using hd
           unfold ly
           simp only [hgj, hget, hd']
           rcases hmem with h | h
           · simp [h]
           · simp [h]
          obtain ⟨d1, d2⟩ := D.cl i j hi hj hzi hzj e hcl
          rcases Nat.lt_or_ge j i with h | h
          · exact ⟨fun _ => ⟨h, hqj hzj⟩, fun _ => jm D hc hr (d1 h)⟩
          · refine ⟨fun hx => ?_, fun hx => by omega⟩
            have := hc j i hx (d2 (by omega))
            rw [hu'] at this
            cases this
        · exact ⟨fun hx => absurd (hlz j hx) hzj, fun hx => absurd (qz j hj hx.2) hzj⟩
     have hat : ∀ u, (u ∈ ops[i].looksAt ops ∨ ops[i].dst = some u) → (tS ops s.t xs q i).getD u .undef = (tS ops s.t X (fun i => listed.getD i false) ops.size).getD u .undef :=
      fun u hmem => (hT _ X u i hX hlz (by omega) (fun j e hcj _ => hch u hmem j e hcj) (hwr u hmem)).symm
     have hgo1 := hgo i _ hi hqi hget
     refine ⟨hi, ?_, ?_⟩
     · unfold Go2 at hgo1 ⊢
       refine ab4 (fun g b hg => ?_) (fun h => abm (fun x hx => aay fun u hxu => hat u (.inl (ia (hxu ▸ hx)))) h) hgo1
       unfold gv
       cases hd : (ops[g]?).bind (·.dst) with
       | none => rfl
       | some d => exact hat d (.inl (ny hg hd))
     · intro v w' m' I'
       have hfit : ns i = [] ∨ (hS s.h ns q q i).length + (ns i).length ≤ (hS s.h ns q (fun i => listed.getD i false) ops.size).length := by
        cases hn : ns i with
        | nil => exact .inl rfl
        | cons b bs =>
         refine .inr ?_
         have := z8 s.h ns q (fun i => listed.getD i false) hi hqi hu' bs.length (by rw [hn]; simp)
         have := (List.getElem?_eq_some_iff.1 this).1
         simp only [List.length_cons]
         omega
       have hst : ({ s with t := tS ops s.t X (fun i => listed.getD i false) ops.size, h := dv (hS s.h ns q (fun i => listed.getD i false) ops.size ++ G) (hS s.h ns q q i).length (ns i) } : St).put ops[i].dst (xs i) =
        { s with t := tS ops s.t X (fun j => (listed.setIfInBounds i true).getD j false) ops.size, h := hS s.h ns q (fun j => (listed.setIfInBounds i true).getD j false) ops.size ++ G } := by
        rw [put_eq, ad2 _ _ _ _ hfit]
        congr 1
        · rw [← dst_at i hi, ← hX i hqi]
          refine amk s.t _ _ X X i (fun _ _ => rfl) hu' (fun j => hset i hi j) (fun u hd j hne hdj hSj => ?_) ops.size hi
          have hj : j < ops.size := by
           unfold ez at hdj
           cases hg : ops[j]? with
           | none => simp [hg] at hdj
           | some o => exact (Array.getElem?_eq_some_iff.1 hg).1
          exact ((hwr u (.inr (by rw [← dst_at i hi]; exact hd)) j hj hdj).1 hSj).1
        · rw [ads s.h ns q _ (fun j => (listed.setIfInBounds i true).getD j false) hi hqi hu' (by rw [hset i hi, if_pos rfl]) (fun j hj => by rw [hset i hi, if_neg (Ne.symm hj)])]
       rw [hst] at I'
       exact ih _ _ w' m' X γ G (by simpa using hl) c1 c2 c3 hX (J.quiet hni (fun j => hset i hi j) (hlenS _) (hlenS _)) I'
    -- one operation of a chain, ready
    have chain : ∀ i e, i ∈ Region.ready .any ops listed → gp tab i = some e → wpOp P ops Q i (wpAny P .any ops Q fuel (listed.setIfInBounds i true)) a w := by
     intro i e hr hce
     obtain ⟨hi, hzi, hqi, o, ho, hd, hgd, hkind⟩ := F.ent i e hce
     obtain ⟨_, hu', c1, c2, c3⟩ := common i hr hzi
     have hlt : ∀ j ej, gp tab j = some ej → listed.getD j false = true → sw tab (fun i => listed.getD i false) j → γ j < (hS s.h ns q (fun i => listed.getD i false) ops.size ++ G).length := fun j ej h1 h2 h3 => e8 (J.hb j ej h1 h2 h3)
     have hsub : ∀ j, sw tab (fun j => (listed.setIfInBounds i true).getD j false) j → sw tab (fun j => listed.getD j false) j := fun j hu k' ek g1 g2 => by
      have := hu k' ek g1 g2
      dsimp only at this ⊢
      rw [hset i hi] at this
      split at this
      · cases this
      · exact this
     have hSS : hS s.h ns q (fun j => (listed.setIfInBounds i true).getD j false) ops.size = hS s.h ns q (fun j => listed.getD j false) ops.size :=
      ka s.h ns q ops.size (fun j hj hqj => by
       rw [hset i hi, if_neg (fun h => by subst h; rw [hqi] at hqj; cases hqj)])
     obtain ⟨c, hcm, hty, r, hr'⟩ := F.tip i e hce
     have C : ahf P he te e.ty e.ys := by
      have := hcond c hcm
      rw [hty, hr'] at this
      exact this.less
     obtain ⟨ee, sz, by_, zs, k1, k2, k3, k4, k5, k6, k7⟩ := C
     have hszO : zw P e.ty = sz := by simp [zw, k1]
     have next : ∀ (v : Value) (w' : World) (m' : Nat → Nat) (g : Nat) (x : V) (G' : Hp), GI P tab he te (fun j => (listed.setIfInBounds i true).getD j false) (hS s.h ns q (fun j => listed.getD j false) ops.size ++ G') (fun j => if j = i then g else γ j) (fun j => if j = i then x else X j) →
      Inv w0 m0 h0 av0 (({ s with t := tS ops s.t X (fun i => listed.getD i false) ops.size, h := hS s.h ns q (fun i => listed.getD i false) ops.size ++ G' } : St).put (some e.d) x) (a.put (some e.d) v) w' m' →
      wpAny P .any ops Q fuel (listed.setIfInBounds i true) (a.put (some e.d) v) w' := by
      intro v w' m' g x G' J' I'
      have hst : ({ s with t := tS ops s.t X (fun i => listed.getD i false) ops.size, h := hS s.h ns q (fun i => listed.getD i false) ops.size ++ G' } : St).put (some e.d) x =
       { s with t := tS ops s.t (fun j => if j = i then x else X j) (fun j => (listed.setIfInBounds i true).getD j false) ops.size, h := hS s.h ns q (fun j => (listed.setIfInBounds i true).getD j false) ops.size ++ G' } := by
       rw [put_eq, hSS]
       congr 1
       have := amk (ops := ops) s.t (fun i => listed.getD i false) (fun j => (listed.setIfInBounds i true).getD j false) X (fun j => if j = i then x else X j) i (fun j hj => if_neg hj) hu' (fun j => hset i hi j) (fun u hdu j hne hdj hSj => by
        exfalso
        have hj : j < ops.size := by
         unfold ez at hdj
         cases hg : ops[j]? with
         | none => simp [hg] at hdj
         | some o => exact (Array.getElem?_eq_some_iff.1 hg).1
        rw [chd i e hce] at hdu
        exact chn i e hce j hj (hlz j hSj) hne (by rw [hdj, hdu])) ops.size hi
       rw [chd i e hce] at this
       simpa using this
      rw [hst] at I'
      rw [← hSS] at J'
      exact ih _ _ w' m' _ _ G' (by simpa using hl) c1 c2 c3 (fun j hqj => by
       rw [if_neg (fun h => by subst h; rw [hqi] at hqj; cases hqj)]
       exact hX j hqj) J' I'
     have hwant := oo I (show gdA ops (tS ops s.t X (fun i => listed.getD i false) ops.size) o.guard True False by rw [hgd]; trivial)
     have hw1 : Region.wanted o (yielded ops a.tmps) = true := by
      rcases hwant with ⟨h1, _⟩ | ⟨_, h1⟩
      · exact h1
      · exact h1.elim
     unfold wpOp
     simp only [ho]
     rw [if_pos hw1]
     refine .inl ?_
     rcases hkind with ⟨hpv, hys, hop⟩ | ⟨j, y, ej, hpv, hcj, hty', hys, hB, hop, hyw⟩
     · refine aq1 I hd hop k1 k2 (fun v w' m' I1 => ?_)
       dsimp only at I1
       rw [List.append_assoc] at I1
       refine next v w' m' (hS s.h ns q (fun j => listed.getD j false) ops.size ++ G).length _ (G ++ [some []]) ?_ I1
       refine J.step hce (fun j => hset i hi j) (fun j ej hne hcj hSj hun hbj => ?_) ?_ (fun j ej hne hcj hSj hun => ?_) ?_ ?_ ?_
       · rw [← List.append_assoc, List.getElem?_append_left (e8 hbj)]
         exact hbj
       · rw [← List.append_assoc, List.getElem?_append_right (Nat.le_refl _), Nat.sub_self, hys]
         rfl
       · have := hlt j ej hcj hSj (hsub j hun)
         omega
       · rw [hys, hszO]; rfl
       · rw [List.length_append, hlenS]; omega
       · rw [hys]; simp [lg, qg]
     · have hSj : listed.getD j false = true := jm D hc hr hB
       have hunj : sw tab (fun i => listed.getD i false) j := fun k' ek g1 g2 => by
        have := F.nx j k' i ek e g1 g2 hce hpv
        subst this
        exact hu'
       have hszj : zw P ej.ty = sz := by rw [hty', hszO]
       obtain ⟨hj, hzj, _⟩ := F.ent j ej hcj
       have hyT : (tS ops s.t X (fun i => listed.getD i false) ops.size).getD y .undef = te.getD y .undef := by
        rw [hte]
        refine hT _ X y ops.size hX hlz (Nat.le_refl _) (fun l el hcl hSl hdl => ?_) (fun l hl' hdl => ?_)
        · obtain ⟨hl2, hz2, hq2, _⟩ := F.ent l el hcl
          have := (hyw l hl2 hz2 (by rw [chd l el hcl, hdl])).2
          rw [hq2] at this; cases this
        · refine ⟨fun h => ⟨hl', (hyw l hl' (hlz l h) hdl).2⟩, fun h => ?_⟩
          have hzl := qz l hl' h.2
          have hli := (hyw l hl' hzl hdl).1
          have hgl : ops[l]? = some ops[l] := Array.getElem?_eq_getElem hl'
          have hcl : ly ops l i = true := by
           unfold ly
           simp only [hgl, ho]
           have hd' : ops[l].dst = some y := by simpa [ez, hgl] using hdl
           have hm : y ∈ o.looksAt ops := ia (by rw [hop]; simp [Op.operands, Call.operands])
           simp [hd', hm]
          exact jm D hc hr ((D.cl i l hi hl' hzi hzl (by omega) hcl).1 hli)
       have hxT : (tS ops s.t X (fun i => listed.getD i false) ops.size).getD ej.d .undef = .osl (γ j) 0 (qg he te ej.ys) sz := by
        rw [xi (ops := ops) s.t (fun i => listed.getD i false) X ej.d j (hund j ej hcj).1 hSj (chd j ej hcj) ops.size hj (fun k' hk' hne hSk => chn j ej hcj k' hk' (hlz k' hSk) hne), (J.hx j ej hcj hSj).1, hszj]
       have hsr : n5 (hS s.h ns q (fun i => listed.getD i false) ops.size ++ G) sz none ((tS ops s.t X (fun i => listed.getD i false) ops.size).getD y .undef) (fun k ys => k = (n4 he (te.getD y .undef)).1 ∧ ys = (n4 he (te.getD y .undef)).2) := by
        have hrv := I.ev (.tmp y)
        have h1 := k4 y (by rw [hys]; simp)
        rw [← hyT] at h1 ⊢
        exact ar7 (hcmpE _ G) hrv h1
       have hsl : (n4 he (te.getD y .undef)).2.length = (n4 he (te.getD y .undef)).1 * sz := by
        have hrv := I.ev (.tmp y)
        have h1 := k4 y (by rw [hys]; simp)
        rw [← hyT] at h1 ⊢
        exact avs (hcmpE _ G) hrv h1
       have hsum : qg he te e.ys = qg he te ej.ys + (n4 he (te.getD y .undef)).1 := by rw [hys, w2]; rfl
       have hcat : lg he te e.ys = lg he te ej.ys ++ (n4 he (te.getD y .undef)).2 := by rw [hys, w9]; simp [lg]
       have hbj := J.hb j ej hcj hSj hunj
       have hlj := J.hl j ej hcj hSj
       rw [hszj] at hlj
       have hxj := (J.hx j ej hcj hSj).2
       refine auw I hd hop k1 k2 k3 (g := γ j) hxT hbj hlj.symm hsr (by rw [← hsum]; exact k5) (by rw [← hsum]; exact k6) (fun v w' m' g' H' hH I1 => ?_)
       rw [← hsum] at I1
       rw [← hcat] at hH
       have hp6 : (lg he te e.ys).length = qg he te e.ys * zw P e.ty := by rw [hcat, List.length_append, hlj, hsl, hsum, hszO, Nat.add_mul]
       have hnj : ∀ l el, gp tab l = some el → sw tab (fun j => (listed.setIfInBounds i true).getD j false) l → l ≠ j := fun l el hcl hun hlj => by
        subst hlj
        have := hun i e hce hpv
        dsimp only at this
        rw [hset i hi, if_pos rfl] at this
        cases this
       rcases hH with ⟨rfl, rfl⟩ | ⟨rfl, rfl⟩
       · have hset2 : (hS s.h ns q (fun j => listed.getD j false) ops.size ++ G).set (γ j) (some (lg he te e.ys)) = hS s.h ns q (fun j => listed.getD j false) ops.size ++ G.set (γ j - (hS s.h ns q (fun j => listed.getD j false) ops.size).length) (some (lg he te e.ys)) :=
          List.set_append_right _ _ (by rw [hlenS]; exact hxj)
         dsimp only at I1
         rw [hset2] at I1
         refine next v w' m' (γ j) _ (G.set (γ j - (hS s.h ns q (fun j => listed.getD j false) ops.size).length) (some (lg he te e.ys))) ?_ I1
         rw [← hset2]
         refine J.step hce (fun j => hset i hi j) (fun l el hne hcl hSl hun hbl => ?_) ?_ (fun l el hne hcl hSl hun => ?_) (by rw [hszO]) hxj hp6
         · have := J.hd l j el ej hcl hcj hSl hSj (hsub l hun) hunj (hnj l el hcl hun)
           rw [List.getElem?_set_ne (Ne.symm this)]
           exact hbl
         · rw [List.getElem?_set_self (e8 hbj)]
         · exact J.hd l j el ej hcl hcj hSl hSj (hsub l hun) hunj (hnj l el hcl hun)
       · dsimp only at I1
         rw [List.append_assoc] at I1
         refine next v w' m' (hS s.h ns q (fun j => listed.getD j false) ops.size ++ G).length _ (G ++ [some (lg he te e.ys)]) ?_ I1
         refine J.step hce (fun j => hset i hi j) (fun l el hne hcl hSl hun hbl => ?_) ?_ (fun l el hne hcl hSl hun => ?_) (by rw [hszO]) ?_ hp6
         · rw [← List.append_assoc, List.getElem?_append_left (e8 hbl)]
           exact hbl
         · rw [← List.append_assoc, List.getElem?_append_right (Nat.le_refl _), Nat.sub_self]
           rfl
         · have := hlt l el hcl hSl (hsub l hun)
           omega
         · rw [List.length_append, hlenS]; omega
    by_cases ht : tk k = true
    · -- the operation goes first
      have hget : ops[k]? = some ops[k] := Array.getElem?_eq_getElem hkn
      obtain ⟨hto, hap⟩ := D.take k _ hget ht
      have hnk : gp tab k = none := by
       cases hck : gp tab k with
       | none => rfl
       | some e =>
        obtain ⟨_, _, _, o, ho, _, _, hkind⟩ := F.ent k e hck
        rw [hget] at ho; simp at ho; subst ho
        rcases hkind with ⟨_, _, hop⟩ | ⟨_, _, _, _, _, _, _, _, hop, _⟩ <;> simp [om, ag7, hop] at hto
      have hqk : q k = true := by rw [F.of k hkn hnk]; exact hkz
      obtain ⟨hi, hg, next⟩ := main k hkr hqk hkz
      obtain ⟨v, hy, hrv, hn⟩ := ak4 I hto hg
      refine wpAny_first hget D.sel (fun c a' w' h => hQp c _ _ w' h) fuel listed a w (fun j oj hj hne hun hno => hap j oj hj hne (fun hB => ?_) hno) hkr hy (next v w m ?_)
      · have := jm D hc hkr hB
        rw [gq (by rw [hl]; exact (Array.getElem?_eq_some_iff.1 hj).1), this] at hun
        cases hun
      · rw [hn]
        exact I.put hrv
    · refine ⟨(fun hr => by rw [hr] at hkr; cases hkr), fun i hr => ?_⟩
      obtain ⟨hi, hu⟩ := gx hr
      have hzi : z i = true := by
       cases hx : z i
       · exfalso
         rcases D.mix i k hi hkn hx hkz with h | h | h
         · have := jm D hc hr h
           rw [hku] at this
           cases this
         · exact ht h
         · cases h
       · rfl
      cases hci : gp tab i with
      | some e => exact chain i e hr hci
      | none =>
       have hqi : q i = true := by rw [F.of i hi hci]; exact hzi
       obtain ⟨_, hg, next⟩ := main i hr hqi hzi
       have hu' : listed.getD i false = false := by rw [← gq (by omega)]; exact hu
       unfold wpOp
       simp only [Array.getElem?_eq_getElem hi]
       unfold Go2 at hg
       rcases oo I hg with ⟨h1, h2⟩ | ⟨h1, h2⟩
       · rw [if_pos h1]
         have hltq : (hS s.h ns q q i).length ≤ (hS s.h ns q (fun i => listed.getD i false) ops.size).length := by
          obtain ⟨Bq, hBq⟩ := aaz s.h ns q q i ops.size (by omega)
          rw [xd s.h ns q (fun i => listed.getD i false) q ops.size, hBq q (fun _ _ => rfl)]
          simp
         refine .inl (alu I (fun id cs cs' g1 g2 => ?_) (Nat.le_trans hlen (aku s.h ns q q i)) (fun j hj => ?_) h2 (fun v w' m' I' => next v w' m' I'))
         · rw [List.getElem?_append_left (Nat.lt_of_lt_of_le (e8 g2) hltq)] at g1
           exact aaq s.h ns q _ (Nat.le_of_lt hi) id cs cs' g1 g2
         · have := z8 s.h ns q (fun i => listed.getD i false) hi hqi hu' j hj
           dsimp only
           rw [List.getElem?_append_left (e8 this)]
           exact this
       · rw [if_neg (by simp [h1])]
         refine next _ w m ?_
         rw [h2.1, h2.2]
         exact I.put .skip
end
end Go.Lv
end
section
namespace Go.Lv

def sf : Op → Bool
 | .buildSlice _ n _ => if n = 0 then true else false
 | _ => false
def sa : Op → Bool
 | .call { callee := .builtin .append, .. } => true
 | _ => false
def hasB : List Oper → Bool
 | [] => false
 | o :: l => sf o.op || hasB l
def aon : List Oper → Bool
 | [] => false
 | o :: l => sa o.op || aon l
def ath (l : List Oper) : Bool := hasB l && aon l

def awk (tab : List (Option CE)) (t : List V) : Bool := tab.all fun
 | none => true
 | some e => decide (e.d < t.length)

def bo (s s2 : St) : Prop := ∀ (w0 : World) (m0 : Nat → Nat) (h0 : Hp) (av0 : Nat → Prop) (a : Act) (w : World) (m : Nat → Nat), Inv w0 m0 h0 av0 s a w m → ∃ m', Inv w0 m0 h0 av0 s2 a w m'

def chT0 (P : Program) (ops : Array Oper) (s : St) (K : St → Prop) : Prop :=
 ∃ (ql zl : List Bool) (tab : List (Option CE)) (tips : List Tip), ade ops ql zl tab tips = true ∧ awk tab s.t = true ∧
  gA P ops (o7 ql ops.toList) { s with t := qb tab s.t } fun e => qv P e.t e.h tips ⟨e.t.map (ren (bh e.h.length) 3), cb e.h.length e.h, e.k⟩ fun s' => ib P ops (o7 (zl.map (!·)) ops.toList) s' K

def chT (P : Program) (ops : Array Oper) (s : St) (K : St → Prop) : Prop := ∃ s2, bo s s2 ∧ chT0 P ops s2 K
theorem chT.se {P : Program} {ops : Array Oper} {s s2 : St} {K : St → Prop} (hW : bo s s2) (h : chT P ops s2 K) : chT P ops s K := by
 obtain ⟨s3, hW3, h3⟩ := h
 exact ⟨s3, fun w0 m0 h0 av0 a w m I => by obtain ⟨m2, I2⟩ := hW w0 m0 h0 av0 a w m I; exact hW3 w0 m0 h0 av0 a w m2 I2, h3⟩

theorem chT.intro {P : Program} {ops : List Oper} {s : St} {K : St → Prop} (ql zl : List Bool) (tab : List (Option CE)) (tips : List Tip) (h1 : ade ops.toArray ql zl tab tips = true) (h2 : awk tab s.t = true)
 (h3 : gA P ops.toArray (o7 ql ops) ⟨qb tab s.t, s.h, s.k⟩ fun e => qv P e.t e.h tips ⟨e.t.map (ren (bh e.h.length) 3), cb e.h.length e.h, e.k⟩ fun s' => ib P ops.toArray (o7 (zl.map (!·)) ops) s' K) : chT P ops.toArray s K :=
 ⟨s, fun _ _ _ _ _ _ m I => ⟨m, I⟩, ql, zl, tab, tips, h1, h2, h3⟩

theorem aac : ∀ (tab : List (Option CE)) (t : List V), (qb tab t).length = t.length
 | [], t => rfl
 | none :: l, t => aac l t
 | some e :: l, t => by rw [qb, aac l]; simp

theorem ada : ∀ (tab : List (Option CE)) (t : List V) (u : Nat), (qb tab t).getD u .undef = t.getD u .undef ∨ (qb tab t).getD u .undef = .undef
 | [], t, u => .inl rfl
 | none :: l, t, u => ada l t u
 | some e :: l, t, u => by
  have hs : (t.set e.d .undef).getD u .undef = t.getD u .undef ∨ (t.set e.d .undef).getD u .undef = .undef := by
   simp only [List.getD_eq_getElem?_getD, List.getElem?_set]
   by_cases h : e.d = u
   · subst h; by_cases h2 : e.d < t.length <;> simp [h2]
   · simp [h]
  rw [qb]
  rcases ada l (t.set e.d .undef) u with h | h
  · rcases hs with h' | h'
    · exact .inl (h.trans h')
    · exact .inr (h.trans h')
  · exact .inr h

theorem ai6 : ∀ (tab : List (Option CE)) (t : List V) (e : CE), some e ∈ tab → (qb tab t).getD e.d .undef = .undef
 | [], t, e, h => by simp at h
 | none :: l, t, e, h => ai6 l t e (by simpa using h)
 | some e' :: l, t, e, h => by
  rw [qb]
  rcases List.mem_cons.1 h with h | h
  · simp at h; subst h
    rcases ada l (t.set e.d .undef) e.d with h2 | h2
    · rw [h2]
      simp only [List.getD_eq_getElem?_getD, List.getElem?_set]
      by_cases h3 : e.d < t.length <;> simp [h3]
    · exact h2
  · exact ai6 l _ e h

section
variable {P : Program} {ops : Array Oper} {w0 : World} {m0 : Nat → Nat} {h0 : Hp} {av0 : Nat → Prop}

theorem ahv (hm : P.follows .mixedOrders = true) {Q : Exit → Act → World → Prop} {K : St → Prop} (hk : ∀ s' a' w' m', K s' → Inv w0 m0 h0 av0 s' a' w' m' → Q .normal a' w')
 {s : St} {a : Act} {w : World} {m : Nat → Nat} (I : Inv w0 m0 h0 av0 s a w m) (hq0 : chT P ops s K) {id : Nat} : (Code.region id ops true).wp P Q a w := by
 obtain ⟨s2, hW, hq⟩ := hq0
 obtain ⟨m2, I2⟩ := hW _ _ _ _ _ _ _ I
 clear I hW
 revert hq I2
 generalize s2 = s
 generalize m2 = m
 intro hq I
 obtain ⟨ql, zl, tab, tips, h1, h2, h3⟩ := hq
 obtain ⟨D, hql, hzl, F⟩ := ah8 h1
 have I0 : Inv w0 m0 h0 av0 { s with t := qb tab s.t } a w m := Inv.le I (aac tab s.t) (fun i hi hi' => by
  have := ada tab s.t i
  simpa [List.getD, hi, hi'] using this)
 obtain ⟨xs, ns, g1, g2⟩ := aoh hql h3 ops.size (Nat.le_refl _)
 rw [List.drop_of_length_le (by omega), List.drop_of_length_le (by simp)] at g2
 change qv _ _ _ _ _ _ at g2
 obtain ⟨g3, g4⟩ := afv _ _ _ g2
 refine wp_mono (Q := fun e a w => e = .normal ∧ Q .normal a w) ?_ (fun e a w h => by rw [h.1]; exact h.2)
 refine wp_region_any hm ?_
 have hz : ∀ i, (Array.replicate ops.size false).getD i false = false := fun i => by simp [Array.getD]
 have hun : ∀ i e, gp tab i = some e → e.d < (qb tab s.t).length ∧ (qb tab s.t).getD e.d .undef = .undef := fun i e he => by
  have hm : some e ∈ tab := by
   unfold gp at he
   cases hx : tab[i]? with
   | none => rw [hx] at he; cases he
   | some x =>
    rw [hx] at he
    simp at he; subst he
    exact List.mem_of_getElem? hx
  refine ⟨?_, ai6 tab s.t e hm⟩
  have := List.all_eq_true.1 h2 (some e) hm
  rw [aac]
  simpa using this
 have hrs : gf ops (fun i => zl.getD i false) 0 = o7 (zl.map (!·)) ops.toList := by simpa using vk hzl ops.size 0 (by omega)
 rw [← hrs] at g3
 refine avr (s := { s with t := qb tab s.t }) D F (fun c a a' w h => by cases h.1) (fun s' a' w' m' g1 g2 => ⟨rfl, hk s' a' w' m' g1 g2⟩) I.len I.k rfl rfl (fun i o hi hqi ho => g1 i o hi hqi ho) g4 hun g3 ops.size _ a _ m xs (fun _ => 0) [] (by simp) (fun i j hl => by rw [hz] at hl; cases hl) (fun i hl => by rw [hz] at hl; cases hl) ?_ (fun _ _ => rfl) ?_ ?_
 · unfold left
   exact Nat.le_trans (List.length_filter_le _ _) (by simp)
 · refine ⟨fun i e _ hS => ?_, fun i e _ hS => ?_, fun i j ei ej _ _ hS => ?_, fun i e _ hS => ?_⟩ <;> (rw [hz] at hS; cases hS)
 · have e : tS ops (qb tab s.t) xs (fun i => (Array.replicate ops.size false).getD i false) ops.size = qb tab s.t := by
    rw [wx ops _ xs _ (fun _ => false) ops.size (fun i _ => hz i)]
    have : ∀ q, tS ops (qb tab s.t) xs (fun _ => false) q = qb tab s.t := by
     intro q
     induction q with
     | zero => rfl
     | succ q ih => simpa [tS] using ih
    exact this _
   dsimp only
   rw [e, ka s.h ns (fun i => ql.getD i false) (S' := fun _ => false) ops.size (fun i _ _ => hz i), List.append_nil]
   obtain ⟨k, hk'⟩ := zd s.h ns (fun i => ql.getD i false) ops.size
   rw [hk']
   exact (I0.world (Ext.drew _ w)).pad k
end
end Go.Lv
end
