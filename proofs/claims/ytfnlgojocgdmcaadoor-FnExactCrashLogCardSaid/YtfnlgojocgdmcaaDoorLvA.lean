/-
  A library over any program: values as pure trees, states of slots and local blocks, and how they stand to a world. Conditions: none.
-/
import Derived.Eval
import Derived.Orders
import Derived.Below
import Derived.Laws.AppendOwn
import Derived.Laws.MakeOwn
import Derived.Laws.Entries
import Derived.Laws.Small
import Derived.MapKept
import Derived.Laws.StructEq
set_option linter.unusedSimpArgs false
set_option linter.unusedVariables false
namespace Go.Lv

/-- A value as a pure tree. 'sl': a slice that is only read; 'pt': an address behind which only reads happen; 'osl', 'ptr': a slice, an address into a block of our own. -/
inductive V where
  | undef
  | skip
  | bool (b : Bool)
  | int (k : IntKind) (n : Int)
  | str (s : ByteArray)
  | nilsl
  | sl (n w : Nat) (cs : List V)
  | pt (cs : List V)
  | osl (id off n w : Nat)
  | ptr (id off : Nat)
  | fn (f : Fn) (first cap : List V)
  | agg (cs : List V)
  | tup (vs : List V)
  | lit (v : Value)
  | mp (id : Nat)
  | mb (es : List (Value × Value))

abbrev Hp := List (Option (List V))

/-- The contents of a map. -/
def isMbV : V → Bool
  | .mb _ => true
  | _ => false
def isMb : List V → Bool
  | [] => false
  | [x] => isMbV x
  | _ :: _ :: _ => false

/-- A block of cells. -/
def Cl (h : Hp) (id : Nat) (cs : List V) : Prop := h[id]? = some (some cs) ∧ isMb cs = false

def rowSize (w : World) (b : Nat) : Nat :=
  match w.heap[b]? with
  | some (.cells c _ _) => c.size
  | _ => 0

inductive RV (w : World) (m : Nat → Nat) (h : Hp) (av : Nat → Prop) : Bool → Value → V → Prop
  | undef {o : Bool} (v : Value) : RV w m h av o v .undef
  | skip {o : Bool} : RV w m h av o Go.undef .skip
  | bool {o : Bool} (b : Bool) : RV w m h av o (.bool b) (.bool b)
  | int {o : Bool} (k : IntKind) (n : Int) : RV w m h av o (.int k n) (.int k n)
  | str {o : Bool} (s : ByteArray) : RV w m h av o (.string s) (.str s)
  | nilsl {o : Bool} : RV w m h av o (.slice none 0 0) .nilsl
  | slz {o : Bool} (a : Option Addr) (c wd : Nat) : RV w m h av o (.slice a 0 c) (.sl 0 wd [])
  | sl {o : Bool} (b off n cap wd : Nat) (cs : List V) (vals : Nat → Value) (hl : cs.length = n * wd) (ha : cs ≠ [] → ¬ av b) (hc : n ≤ cap)
      (hv : ∀ i, i < cs.length → w.cell? ⟨b, off + i, none⟩ = some (vals i)) (hr : ∀ i (hi : i < cs.length), RV w m h av false (vals i) cs[i]) :
      RV w m h av o (.slice (some ⟨b, off, none⟩) n cap) (.sl n wd cs)
  | pt {o : Bool} (b off : Nat) (cs : List V) (vals : Nat → Value) (ha : cs ≠ [] → ¬ av b)
      (hv : ∀ i, i < cs.length → w.cell? ⟨b, off + i, none⟩ = some (vals i)) (hr : ∀ i (hi : i < cs.length), RV w m h av false (vals i) cs[i]) :
      RV w m h av o (.pointer (some ⟨b, off, none⟩)) (.pt cs)
  | osl (id off n cap wd : Nat) (cs : List V) (hid : Cl h id cs) (hl : off + n * wd ≤ cs.length) (hc : n ≤ cap) (hs : off + cap * wd ≤ rowSize w (m id)) :
      RV w m h av true (.slice (some ⟨m id, off, none⟩) n cap) (.osl id off n wd)
  | ptr (id off : Nat) (cs : List V) (hid : Cl h id cs) : RV w m h av true (.pointer (some ⟨m id, off, none⟩)) (.ptr id off)
  | fn {o : Bool} (f : Fn) (a c : Array Value) (a' c' : List V) (ha : a.size = a'.length) (hc : c.size = c'.length)
      (hra : ∀ i (hi : i < a'.length), RV w m h av o (a.getD i Go.undef) a'[i]) (hrc : ∀ i (hi : i < c'.length), RV w m h av o (c.getD i Go.undef) c'[i]) :
      RV w m h av o (.func f a c) (.fn f a' c')
  | agg {o : Bool} (a : Array Value) (a' : List V) (ha : a.size = a'.length) (hra : ∀ i (hi : i < a'.length), RV w m h av o (a.getD i Go.undef) a'[i]) :
      RV w m h av o (.agg a) (.agg a')
  | tup {o : Bool} (a : Array Value) (a' : List V) (ha : a.size = a'.length) (hra : ∀ i (hi : i < a'.length), RV w m h av o (a.getD i Go.undef) a'[i]) :
      RV w m h av o (.tuple a) (.tup a')
  | lit {o : Bool} (v : Value) : RV w m h av o v (.lit v)
  | mp (id : Nat) (cs : List V) (hid : h[id]? = some (some cs)) (hm : isMb cs = true) : RV w m h av true (.map (some (m id))) (.mp id)

/-- What was there is as it was, but for the blocks of O; no row has shrunk. -/
structure Ext (O : Nat → Prop) (w w' : World) : Prop where
  os : w'.os = w.os
  tape : w'.tape = w.tape
  output : w'.output = w.output
  size : w.heap.size ≤ w'.heap.size
  block : ∀ k, k < w.heap.size → ¬ O k → w'.heap[k]? = w.heap[k]?
  row : ∀ k, k < w.heap.size → rowSize w k ≤ rowSize w' k

theorem Ext.refl (O : Nat → Prop) (w : World) : Ext O w w := ⟨rfl, rfl, rfl, Nat.le_refl _, fun _ _ _ => rfl, fun _ _ => Nat.le_refl _⟩
theorem Ext.trans {O : Nat → Prop} {a b c : World} (h : Ext O a b) (k : Ext O b c) : Ext O a c :=
  ⟨k.os.trans h.os, k.tape.trans h.tape, k.output.trans h.output, Nat.le_trans h.size k.size,
    fun i hi ho => (k.block i (Nat.lt_of_lt_of_le hi h.size) ho).trans (h.block i hi ho),
    fun i hi => Nat.le_trans (h.row i hi) (k.row i (Nat.lt_of_lt_of_le hi h.size))⟩
/-- Steps whose writes lie in O or in blocks that are newer than the first world. -/
theorem Ext.trans' {O O' : Nat → Prop} {a b c : World} (h : Ext O a b) (k : Ext O' b c) (ho : ∀ i, i < a.heap.size → O' i → O i) : Ext O a c :=
  ⟨k.os.trans h.os, k.tape.trans h.tape, k.output.trans h.output, Nat.le_trans h.size k.size,
    fun i hi hn => (k.block i (Nat.lt_of_lt_of_le hi h.size) (fun h' => hn (ho i hi h'))).trans (h.block i hi hn),
    fun i hi => Nat.le_trans (h.row i hi) (k.row i (Nat.lt_of_lt_of_le hi h.size))⟩
theorem Ext.mono {O O' : Nat → Prop} {a b : World} (h : Ext O a b) (ho : ∀ i, i < a.heap.size → O i → O' i) : Ext O' a b :=
  ⟨h.os, h.tape, h.output, h.size, fun i hi hn => h.block i hi (fun h' => hn (ho i hi h')), h.row⟩
theorem Ext.cell {O : Nat → Prop} {w w' : World} (h : Ext O w w') {a : Addr} {v : Value} (hc : w.cell? a = some v) (ho : ¬ O a.block) : w'.cell? a = some v :=
  (World.cell?_of_block (h.block a.block (World.block_lt_of_cell? w a hc) ho)).trans hc
theorem Ext.drew (O : Nat → Prop) (w : World) : Ext O w w.drew := ⟨rfl, rfl, rfl, Nat.le_refl _, fun _ _ _ => rfl, fun _ _ => Nat.le_refl _⟩
theorem rowSize_of_block {w w' : World} {k : Nat} (h : w'.heap[k]? = w.heap[k]?) : rowSize w' k = rowSize w k := by simp [rowSize, h]
theorem Ext.alloc (O : Nat → Prop) (w : World) (o : Obj) : Ext O w (w.alloc o) := by
  have hb : ∀ k, k < w.heap.size → (w.alloc o).heap[k]? = w.heap[k]? := fun k hk => heap_alloc_old w o k hk
  exact ⟨rfl, rfl, rfl, by simp, fun k hk _ => hb k hk, fun k hk => Nat.le_of_eq (rowSize_of_block (hb k hk)).symm⟩
theorem Ext.setRow {O : Nat → Prop} {w : World} {g : Nat} {old cs : Array Value} {t : TypeId} {fr : Nat × Nat} (hg : w.heap[g]? = some (.cells old t fr)) (ho : O g) (hs : old.size ≤ cs.size) :
    Ext O w (w.setRow g cs) := by
  refine ⟨rfl, rfl, rfl, by simp, fun k _ hn => setRow_other w g k _ (fun e => hn (e ▸ ho)), fun k _ => ?_⟩
  by_cases e : k = g
  · subst e
    simp only [rowSize, setRow_heap w k old cs t fr hg, hg]
    exact hs
  · exact Nat.le_of_eq (rowSize_of_block (setRow_other w g k _ e)).symm

/-- What becomes of a local block's number: another number; nothing; or the block is read only from now on. -/
inductive R where
  | to (j : Nat)
  | kill
  | frz (cs : List V)

def ren (f : Nat → R) : Nat → V → V
  | _, .osl id off n w => match f id with
    | .to j => .osl j off n w
    | .kill => .undef
    | .frz cs => .sl n w ((cs.drop off).take (n * w))
  | _, .ptr id off => match f id with
    | .to j => .ptr j off
    | .kill => .undef
    | .frz cs => .pt (cs.drop off)
  | _, .mp id => match f id with
    | .to j => .mp j
    | .kill => .undef
    | .frz _ => .undef
  | _, .mb es => .mb es
  | d + 1, .agg cs => .agg (cs.map (ren f d))
  | d + 1, .tup cs => .tup (cs.map (ren f d))
  | d + 1, .fn g a c => .fn g (a.map (ren f d)) (c.map (ren f d))
  | 0, .agg _ => .undef
  | 0, .tup _ => .undef
  | 0, .fn _ _ _ => .undef
  | _, .undef => .undef
  | _, .skip => .skip
  | _, .bool b => .bool b
  | _, .int k n => .int k n
  | _, .str s => .str s
  | _, .nilsl => .nilsl
  | _, .sl n w cs => .sl n w cs
  | _, .pt cs => .pt cs
  | _, .lit v => .lit v

theorem isMb_ren (f : Nat → R) (d : Nat) (l : List V) : isMb (l.map (ren f d)) = isMb l := by
  match l with
  | [] => rfl
  | _ :: _ :: _ => rfl
  | [x] =>
    cases x with
    | osl a b c e => cases d <;> (simp only [List.map_cons, List.map_nil, ren]; cases f a <;> rfl)
    | ptr a b => cases d <;> (simp only [List.map_cons, List.map_nil, ren]; cases f a <;> rfl)
    | mp a => cases d <;> (simp only [List.map_cons, List.map_nil, ren]; cases f a <;> rfl)
    | _ => cases d <;> rfl

/-- The conditions under which values may be read anew under other numbers, blocks and worlds. -/
structure Ren (w w' : World) (m m' : Nat → Nat) (h h' : Hp) (av av' : Nat → Prop) (f : Nat → R) : Prop where
  ro : ∀ b off v, ¬ av b → w.cell? ⟨b, off, none⟩ = some v → ¬ av' b ∧ w'.cell? ⟨b, off, none⟩ = some v
  to : ∀ id cs j, h[id]? = some (some cs) → f id = .to j → ∃ cs', h'[j]? = some (some cs') ∧ cs.length ≤ cs'.length ∧ m' j = m id ∧ rowSize w (m id) ≤ rowSize w' (m id) ∧ isMb cs' = isMb cs
  frz : ∀ id cs cs', h[id]? = some (some cs) → f id = .frz cs' → isMb cs = false → cs'.length = cs.length ∧ ¬ av' (m id) ∧
    ∀ i (hi : i < cs'.length), ∃ v, w'.cell? ⟨m id, i, none⟩ = some v ∧ RV w' m' h' av' false v cs'[i]

theorem RV.weak {w : World} {m : Nat → Nat} {h : Hp} {av : Nat → Prop} {o : Bool} {v : Value} {x : V} (hx : RV w m h av o v x) : RV w m h av true v x := by
  induction hx with
  | undef v => exact .undef v
  | skip => exact .skip
  | bool b => exact .bool b
  | int k n => exact .int k n
  | str s => exact .str s
  | nilsl => exact .nilsl
  | slz a c wd => exact .slz a c wd
  | sl b off n cap wd cs vals hl ha hc hv hr _ => exact .sl b off n cap wd cs vals hl ha hc hv hr
  | pt b off cs vals ha hv hr _ => exact .pt b off cs vals ha hv hr
  | osl id off n cap wd cs hid hl hc hs => exact .osl id off n cap wd cs hid hl hc hs
  | ptr id off cs hid => exact .ptr id off cs hid
  | fn f a c a' c' ha hc hra hrc iha ihc => exact .fn f a c a' c' ha hc iha ihc
  | agg a a' ha hra iha => exact .agg a a' ha iha
  | tup a a' ha hra iha => exact .tup a a' ha iha
  | lit v => exact .lit v
  | mp id cs hid hm => exact .mp id cs hid hm

section
variable {w w' : World} {m m' : Nat → Nat} {h h' : Hp} {av av' : Nat → Prop} {f : Nat → R}

/-- A value without numbers of ours stays as it is. -/
theorem RV.ro_step (hR : ∀ b off v, ¬ av b → w.cell? ⟨b, off, none⟩ = some v → ¬ av' b ∧ w'.cell? ⟨b, off, none⟩ = some v)
    {o : Bool} {v : Value} {x : V} (hx : RV w m h av o v x) : o = false → RV w' m' h' av' false v x := by
  induction hx with
  | undef v => exact fun _ => .undef v
  | skip => exact fun _ => .skip
  | bool b => exact fun _ => .bool b
  | int k n => exact fun _ => .int k n
  | str s => exact fun _ => .str s
  | nilsl => exact fun _ => .nilsl
  | slz a c wd => exact fun _ => .slz a c wd
  | sl b off n cap wd cs vals hl ha hc hv hr ih =>
    refine fun _ => .sl b off n cap wd cs vals hl (fun hne => ?_) hc (fun i hi => (hR b _ _ (ha (by rintro rfl; simp at hi)) (hv i hi)).2) (fun i hi => ih i hi rfl)
    exact (hR b _ _ (ha hne) (hv 0 (List.length_pos_iff.2 hne))).1
  | pt b off cs vals ha hv hr ih =>
    refine fun _ => .pt b off cs vals (fun hne => ?_) (fun i hi => (hR b _ _ (ha (by rintro rfl; simp at hi)) (hv i hi)).2) (fun i hi => ih i hi rfl)
    exact (hR b _ _ (ha hne) (hv 0 (List.length_pos_iff.2 hne))).1
  | osl id off n cap wd cs hid hl hc hs => intro e; cases e
  | ptr id off cs hid => intro e; cases e
  | fn f a c a' c' ha hc hra hrc iha ihc => exact fun e => .fn f a c a' c' ha hc (fun i hi => iha i hi e) (fun i hi => ihc i hi e)
  | agg a a' ha hra iha => exact fun e => .agg a a' ha (fun i hi => iha i hi e)
  | tup a a' ha hra iha => exact fun e => .tup a a' ha (fun i hi => iha i hi e)
  | lit v => exact fun _ => .lit v
  | mp id cs hid hm => intro e; cases e

theorem getD_map {f : V → V} {l : List V} {i : Nat} (hi : i < (l.map f).length) : (l.map f)[i] = f (l[i]'(by simpa using hi)) := by simp

theorem RV.ren (hR : Ren w w' m m' h h' av av' f) {o : Bool} {v : Value} {x : V} (hx : RV w m h av o v x) :
    ∀ d, RV w' m' h' av' true v (ren f d x) := by
  induction hx with
  | undef v => intro d; cases d <;> exact .undef v
  | skip => intro d; cases d <;> exact .skip
  | bool b => intro d; cases d <;> exact .bool b
  | int k n => intro d; cases d <;> exact .int k n
  | str s => intro d; cases d <;> exact .str s
  | nilsl => intro d; cases d <;> exact .nilsl
  | slz a c wd => intro d; cases d <;> exact .slz a c wd
  | sl b off n cap wd cs vals hl ha hc hv hr ih =>
    have := (RV.sl (m := m) (h := h) (o := false) b off n cap wd cs vals hl ha hc hv hr).ro_step hR.ro (m' := m') (h' := h') rfl
    intro d; cases d <;> exact this.weak
  | pt b off cs vals ha hv hr ih =>
    have := (RV.pt (m := m) (h := h) (o := false) b off cs vals ha hv hr).ro_step hR.ro (m' := m') (h' := h') rfl
    intro d; cases d <;> exact this.weak
  | osl id off n cap wd cs hid hl hc hs =>
    have key : RV w' m' h' av' true (.slice (some ⟨m id, off, none⟩) n cap) (match f id with
        | .to j => .osl j off n wd
        | .kill => .undef
        | .frz cs => .sl n wd ((cs.drop off).take (n * wd))) := by
      cases hf : f id with
      | to j =>
        obtain ⟨cs', h1, h2, h3, h4, h5⟩ := hR.to id cs j hid.1 hf
        simp only []
        rw [← h3] at hs h4 ⊢
        exact .osl j off n cap wd cs' ⟨h1, by rw [h5]; exact hid.2⟩ (by omega) hc (by omega)
      | kill => exact .undef _
      | frz cs' =>
        obtain ⟨h1, h2, h3⟩ := hR.frz id cs cs' hid.1 hf hid.2
        have hlen : ((cs'.drop off).take (n * wd)).length = n * wd := by simp; omega
        have hget : ∀ i (hi : i < ((cs'.drop off).take (n * wd)).length), ((cs'.drop off).take (n * wd))[i] = cs'[off + i]'(by simp at hi; omega) := by
          intro i hi; simp
        have hc3 : ∀ i, i < ((cs'.drop off).take (n * wd)).length → off + i < cs'.length := fun i hi => by simp at hi; omega
        refine .sl (m id) off n cap wd _ (fun i => ((w'.cell? ⟨m id, off + i, none⟩).getD Go.undef)) hlen (fun _ => h2) hc (fun i hi => ?_) (fun i hi => ?_)
        · obtain ⟨v, hv, _⟩ := h3 (off + i) (hc3 i hi)
          simp [hv]
        · obtain ⟨v, hv, hrv⟩ := h3 (off + i) (hc3 i hi)
          rw [hget i hi]
          simpa [hv] using hrv
    intro d; cases d <;> exact key
  | ptr id off cs hid =>
    have key : RV w' m' h' av' true (.pointer (some ⟨m id, off, none⟩)) (match f id with
        | .to j => .ptr j off
        | .kill => .undef
        | .frz cs => .pt (cs.drop off)) := by
      cases hf : f id with
      | to j =>
        obtain ⟨cs', h1, h2, h3, h4, h5⟩ := hR.to id cs j hid.1 hf
        simp only []
        rw [← h3]
        exact .ptr j off cs' ⟨h1, by rw [h5]; exact hid.2⟩
      | kill => exact .undef _
      | frz cs' =>
        obtain ⟨h1, h2, h3⟩ := hR.frz id cs cs' hid.1 hf hid.2
        have hc3 : ∀ i, i < (cs'.drop off).length → off + i < cs'.length := fun i hi => by simp at hi; omega
        refine .pt (m id) off _ (fun i => ((w'.cell? ⟨m id, off + i, none⟩).getD Go.undef)) (fun _ => h2) (fun i hi => ?_) (fun i hi => ?_)
        · obtain ⟨v, hv, _⟩ := h3 (off + i) (hc3 i hi)
          simp [hv]
        · obtain ⟨v, hv, hrv⟩ := h3 (off + i) (hc3 i hi)
          rw [List.getElem_drop]
          simpa [hv] using hrv
    intro d; cases d <;> exact key
  | fn g a c a' c' ha hc hra hrc iha ihc =>
    intro d
    cases d with
    | zero => exact .undef _
    | succ d => exact .fn g a c _ _ (by simpa using ha) (by simpa using hc) (fun i hi => by rw [getD_map hi]; exact iha i _ d) (fun i hi => by rw [getD_map hi]; exact ihc i _ d)
  | agg a a' ha hra iha =>
    intro d
    cases d with
    | zero => exact .undef _
    | succ d => exact .agg a _ (by simpa using ha) (fun i hi => by rw [getD_map hi]; exact iha i _ d)
  | tup a a' ha hra iha =>
    intro d
    cases d with
    | zero => exact .undef _
    | succ d => exact .tup a _ (by simpa using ha) (fun i hi => by rw [getD_map hi]; exact iha i _ d)
  | lit v => intro d; cases d <;> exact .lit v
  | mp id cs hid hm =>
    have key : RV w' m' h' av' true (.map (some (m id))) (match f id with
        | .to j => .mp j
        | .kill => .undef
        | .frz _ => .undef) := by
      cases hf : f id with
      | to j =>
        obtain ⟨cs', h1, h2, h3, h4, h5⟩ := hR.to id cs j hid hf
        simp only []
        rw [← h3]
        exact .mp j cs' h1 (by rw [h5]; exact hm)
      | kill => exact .undef _
      | frz cs => exact .undef _
    intro d; cases d <;> exact key

/-- The plain step: the numbers stay, the world goes on. -/
theorem RV.step (hro : ∀ b off v, ¬ av b → w.cell? ⟨b, off, none⟩ = some v → ¬ av' b ∧ w'.cell? ⟨b, off, none⟩ = some v)
    (hto : ∀ id cs, h[id]? = some (some cs) → ∃ cs', h'[id]? = some (some cs') ∧ cs.length ≤ cs'.length ∧ m' id = m id ∧ rowSize w (m id) ≤ rowSize w' (m id) ∧ isMb cs' = isMb cs)
    {o : Bool} {v : Value} {x : V} (hx : RV w m h av o v x) : RV w' m' h' av' o v x := by
  induction hx with
  | undef v => exact .undef v
  | skip => exact .skip
  | bool b => exact .bool b
  | int k n => exact .int k n
  | str s => exact .str s
  | nilsl => exact .nilsl
  | slz a c wd => exact .slz a c wd
  | sl b off n cap wd cs vals hl ha hc hv hr ih =>
    refine .sl b off n cap wd cs vals hl (fun hne => ?_) hc (fun i hi => (hro b _ _ (ha (by rintro rfl; simp at hi)) (hv i hi)).2) (fun i hi => ih i hi)
    exact (hro b _ _ (ha hne) (hv 0 (List.length_pos_iff.2 hne))).1
  | pt b off cs vals ha hv hr ih =>
    refine .pt b off cs vals (fun hne => ?_) (fun i hi => (hro b _ _ (ha (by rintro rfl; simp at hi)) (hv i hi)).2) (fun i hi => ih i hi)
    exact (hro b _ _ (ha hne) (hv 0 (List.length_pos_iff.2 hne))).1
  | osl id off n cap wd cs hid hl hc hs =>
    obtain ⟨cs', h1, h2, h3, h4, h5⟩ := hto id cs hid.1
    rw [← h3] at hs h4 ⊢
    exact .osl id off n cap wd cs' ⟨h1, by rw [h5]; exact hid.2⟩ (by omega) hc (by omega)
  | ptr id off cs hid =>
    obtain ⟨cs', h1, h2, h3, h4, h5⟩ := hto id cs hid.1
    rw [← h3]
    exact .ptr id off cs' ⟨h1, by rw [h5]; exact hid.2⟩
  | fn g a c a' c' ha hc hra hrc iha ihc => exact .fn g a c a' c' ha hc iha ihc
  | agg a a' ha hra iha => exact .agg a a' ha iha
  | tup a a' ha hra iha => exact .tup a a' ha iha
  | lit v => exact .lit v
  | mp id cs hid hm =>
    obtain ⟨cs', h1, h2, h3, h4, h5⟩ := hto id cs hid
    rw [← h3]
    exact .mp id cs' h1 (by rw [h5]; exact hm)
end

/-- No cell of a row of so many cells is frozen. -/
def FrOk (fr : Nat × Nat) (n : Nat) : Prop := fr = (0, 0) ∨ n ≤ fr.1
theorem FrOk.zero (n : Nat) : FrOk (0, 0) n := .inl rfl
theorem FrOk.not {w : World} {b j : Nat} {C : Array Value} {T : TypeId} {fr : Nat × Nat} (hb : w.heap[b]? = some (.cells C T fr)) (h : FrOk fr C.size) (hj : j < C.size) : w.frozen? ⟨b, j, none⟩ = false := by
  obtain ⟨lo, hi⟩ := fr
  rcases h with h | h
  · cases h; simp [World.frozen?, hb]
  · simp only [World.frozen?, hb]
    have : ¬ lo ≤ j := by dsimp only at h; omega
    simp [this]

/-- What stands in the world for a block of our own: a row of cells, or a map. -/
def BlkOk (w : World) (m : Nat → Nat) (h : Hp) (av : Nat → Prop) (b : Nat) (cs : List V) : Prop :=
  (∃ C T fr, w.heap[b]? = some (.cells C T fr) ∧ FrOk fr C.size ∧ cs.length ≤ C.size ∧ ∀ i (hi : i < cs.length), RV w m h av true (C.getD i Go.undef) cs[i]) ∨
  (∃ E c es, w.heap[b]? = some (.map E c) ∧ cs = [.mb es] ∧ es = E.toList.map fun e => (e.key, e.val))

theorem notMb {w : World} {m : Nat → Nat} {h : Hp} {av : Nat → Prop} {C : Array Value} {cs : List V} (hr : ∀ i (hi : i < cs.length), RV w m h av true (C.getD i Go.undef) cs[i]) : isMb cs = false := by
  match cs, hr with
  | [], _ => rfl
  | _ :: _ :: _, _ => rfl
  | [x], hr =>
    have := hr 0 (by simp)
    generalize C.getD 0 Go.undef = v at this
    simp only [List.getElem_cons_zero] at this
    cases x <;> first | rfl | cases this

section
variable {w w' : World} {m m' : Nat → Nat} {h h' : Hp} {av av' : Nat → Prop} {b b' : Nat} {cs : List V}

theorem BlkOk.lt (H : BlkOk w m h av b cs) : b < w.heap.size := by
  rcases H with ⟨C, T, fr, h1, _⟩ | ⟨E, c, es, h1, _⟩ <;> exact (Array.getElem?_eq_some_iff.1 h1).1

theorem BlkOk.cells (H : BlkOk w m h av b cs) (hn : isMb cs = false) : ∃ C T fr, w.heap[b]? = some (.cells C T fr) ∧ FrOk fr C.size ∧ cs.length ≤ C.size ∧ ∀ i (hi : i < cs.length), RV w m h av true (C.getD i Go.undef) cs[i] := by
  rcases H with H | ⟨E, c, es, h1, rfl, _⟩
  · exact H
  · cases hn

theorem BlkOk.map (H : BlkOk w m h av b cs) (hb : w'.heap[b']? = w.heap[b]?) {f : V → V} (hf : ∀ es, f (.mb es) = .mb es) (hs : ∀ v x, RV w m h av true v x → RV w' m' h' av' true v (f x)) : BlkOk w' m' h' av' b' (cs.map f) := by
  rcases H with ⟨C, T, fr, h1, hfr, h2, h3⟩ | ⟨E, c, es, h1, rfl, h3⟩
  · exact .inl ⟨C, T, fr, hb.trans h1, hfr, by simpa using h2, fun i hi => by rw [List.getElem_map]; exact hs _ _ (h3 i (by simpa using hi))⟩
  · exact .inr ⟨E, c, es, hb.trans h1, by simp [hf], h3⟩

theorem BlkOk.step (H : BlkOk w m h av b cs) (hb : w'.heap[b']? = w.heap[b]?) (hs : ∀ v x, RV w m h av true v x → RV w' m' h' av' true v x) : BlkOk w' m' h' av' b' cs := by
  have := H.map (f := fun x => x) hb (fun _ => rfl) hs
  simpa using this
theorem ren_mb (f : Nat → R) (d : Nat) (es : List (Value × Value)) : ren f d (.mb es) = .mb es := by cases d <;> rfl
end

/-- The local blocks stand in the world: each in a block of its own, unfrozen, avoided by all that is only read. -/
structure RH (w : World) (m : Nat → Nat) (h : Hp) (av : Nat → Prop) : Prop where
  inj : ∀ i j ci cj, h[i]? = some (some ci) → h[j]? = some (some cj) → m i = m j → i = j
  avd : ∀ id cs, h[id]? = some (some cs) → av (m id)
  blk : ∀ id cs, h[id]? = some (some cs) → BlkOk w m h av (m id) cs

theorem RH.lt {w : World} {m : Nat → Nat} {h : Hp} {av : Nat → Prop} (H : RH w m h av) {id : Nat} {cs : List V} (hid : h[id]? = some (some cs)) : m id < w.heap.size := by
  exact (H.blk id cs hid).lt

theorem RH.cell {w : World} {m : Nat → Nat} {h : Hp} {av : Nat → Prop} (H : RH w m h av) {id : Nat} {cs : List V} (hid : Cl h id cs) {i : Nat} (hi : i < cs.length) :
    ∃ v, w.cell? ⟨m id, i, none⟩ = some v ∧ RV w m h av true v cs[i] := by
  obtain ⟨C, T, fr, hb, _, hl, hc⟩ := (H.blk id cs hid.1).cells hid.2
  refine ⟨C.getD i Go.undef, ?_, hc i hi⟩
  rw [cell_of_row w (m id) i C T fr hb]
  simp [Array.getD, show i < C.size from by omega]

end Go.Lv
