/-
  A part of the proof: texts put together by a program of the prover. Conditions: none.
-/
import Derived.Eval
import Derived.Orders
import Derived.Below
import Derived.Laws.AppendOwn
import Derived.Laws.MakeOwn
import Derived.Laws.Entries
import Derived.Laws.Small
import Derived.MapKept
import Derived.Laws.StructEq
import Derived.Laws.BytesArg
import Derived.Laws.Slices
import Derived.Tactics
set_option linter.unusedSimpArgs false
set_option linter.unusedVariables false
section
namespace Go.Lv

inductive V where
 | undef
 | skip
 | bool (b : Bool)
 | int (k : IntKind) (n : Int)
 | str (s : ByteArray)
 | nilsl
 | sl (n w : Nat) (cs : List V)
 | pt (cs : List V)
 | osl (id off n w : Nat)
 | ptr (id off : Nat)
 | fn (f : Fn) (first cap : List V)
 | agg (cs : List V)
 | tup (vs : List V)
 | lit (v : Value)
 | mp (id : Nat)
 | mb (es : List (Value × Value))

abbrev Hp := List (Option (List V))

def au4 : V → Bool
 | .mb _ => true
 | _ => false
def gr : List V → Bool
 | [] => false
 | [x] => au4 x
 | _ :: _ :: _ => false

def Cl (h : Hp) (id : Nat) (cs : List V) : Prop := h[id]? = some (some cs) ∧ gr cs = false

def cz (w : World) (b : Nat) : Nat :=
 match w.heap[b]? with
 | some (.cells c _ _) => c.size
 | _ => 0

inductive RV (w : World) (m : Nat → Nat) (h : Hp) (av : Nat → Prop) : Bool → Value → V → Prop
 | undef {o : Bool} (v : Value) : RV w m h av o v .undef
 | skip {o : Bool} : RV w m h av o Go.undef .skip
 | bool {o : Bool} (b : Bool) : RV w m h av o (.bool b) (.bool b)
 | int {o : Bool} (k : IntKind) (n : Int) : RV w m h av o (.int k n) (.int k n)
 | str {o : Bool} (s : ByteArray) : RV w m h av o (.string s) (.str s)
 | nilsl {o : Bool} : RV w m h av o (.slice none 0 0) .nilsl
 | slz {o : Bool} (a : Option Addr) (c wd : Nat) : RV w m h av o (.slice a 0 c) (.sl 0 wd [])
 | sl {o : Bool} (b off n cap wd : Nat) (cs : List V) (vals : Nat → Value) (hl : cs.length = n * wd) (ha : cs ≠ [] → ¬ av b) (hc : n ≤ cap)
     (hv : ∀ i, i < cs.length → w.cell? ⟨b, off + i, none⟩ = some (vals i)) (hr : ∀ i (hi : i < cs.length), RV w m h av false (vals i) cs[i]) :
     RV w m h av o (.slice (some ⟨b, off, none⟩) n cap) (.sl n wd cs)
 | pt {o : Bool} (b off : Nat) (cs : List V) (vals : Nat → Value) (ha : cs ≠ [] → ¬ av b)
     (hv : ∀ i, i < cs.length → w.cell? ⟨b, off + i, none⟩ = some (vals i)) (hr : ∀ i (hi : i < cs.length), RV w m h av false (vals i) cs[i]) :
     RV w m h av o (.pointer (some ⟨b, off, none⟩)) (.pt cs)
 | osl (id off n cap wd : Nat) (cs : List V) (hid : Cl h id cs) (hl : off + n * wd ≤ cs.length) (hc : n ≤ cap) (hs : off + cap * wd ≤ cz w (m id)) :
     RV w m h av true (.slice (some ⟨m id, off, none⟩) n cap) (.osl id off n wd)
 | ptr (id off : Nat) (cs : List V) (hid : Cl h id cs) : RV w m h av true (.pointer (some ⟨m id, off, none⟩)) (.ptr id off)
 | fn {o : Bool} (f : Fn) (a c : Array Value) (a' c' : List V) (ha : a.size = a'.length) (hc : c.size = c'.length)
     (hra : ∀ i (hi : i < a'.length), RV w m h av o (a.getD i Go.undef) a'[i]) (hrc : ∀ i (hi : i < c'.length), RV w m h av o (c.getD i Go.undef) c'[i]) :
     RV w m h av o (.func f a c) (.fn f a' c')
 | agg {o : Bool} (a : Array Value) (a' : List V) (ha : a.size = a'.length) (hra : ∀ i (hi : i < a'.length), RV w m h av o (a.getD i Go.undef) a'[i]) :
     RV w m h av o (.agg a) (.agg a')
 | tup {o : Bool} (a : Array Value) (a' : List V) (ha : a.size = a'.length) (hra : ∀ i (hi : i < a'.length), RV w m h av o (a.getD i Go.undef) a'[i]) :
     RV w m h av o (.tuple a) (.tup a')
 | lit {o : Bool} (v : Value) : RV w m h av o v (.lit v)
 | mp (id : Nat) (cs : List V) (hid : h[id]? = some (some cs)) (hm : gr cs = true) : RV w m h av true (.map (some (m id))) (.mp id)

structure Ext (O : Nat → Prop) (w w' : World) : Prop where
 os : w'.os = w.os
 tape : w'.tape = w.tape
 output : w'.output = w.output
 size : w.heap.size ≤ w'.heap.size
 block : ∀ k, k < w.heap.size → ¬ O k → w'.heap[k]? = w.heap[k]?
 row : ∀ k, k < w.heap.size → cz w k ≤ cz w' k

theorem Ext.refl (O : Nat → Prop) (w : World) : Ext O w w := ⟨rfl, rfl, rfl, Nat.le_refl _, fun _ _ _ => rfl, fun _ _ => Nat.le_refl _⟩
theorem Ext.trans {O : Nat → Prop} {a b c : World} (h : Ext O a b) (k : Ext O b c) : Ext O a c :=
 ⟨k.os.trans h.os, k.tape.trans h.tape, k.output.trans h.output, Nat.le_trans h.size k.size,
   fun i hi ho => (k.block i (Nat.lt_of_lt_of_le hi h.size) ho).trans (h.block i hi ho),
   fun i hi => Nat.le_trans (h.row i hi) (k.row i (Nat.lt_of_lt_of_le hi h.size))⟩
theorem Ext.trans' {O O' : Nat → Prop} {a b c : World} (h : Ext O a b) (k : Ext O' b c) (ho : ∀ i, i < a.heap.size → O' i → O i) : Ext O a c :=
 ⟨k.os.trans h.os, k.tape.trans h.tape, k.output.trans h.output, Nat.le_trans h.size k.size,
   fun i hi hn => (k.block i (Nat.lt_of_lt_of_le hi h.size) (fun h' => hn (ho i hi h'))).trans (h.block i hi hn),
   fun i hi => Nat.le_trans (h.row i hi) (k.row i (Nat.lt_of_lt_of_le hi h.size))⟩
theorem Ext.mono {O O' : Nat → Prop} {a b : World} (h : Ext O a b) (ho : ∀ i, i < a.heap.size → O i → O' i) : Ext O' a b :=
 ⟨h.os, h.tape, h.output, h.size, fun i hi hn => h.block i hi (fun h' => hn (ho i hi h')), h.row⟩
theorem Ext.cell {O : Nat → Prop} {w w' : World} (h : Ext O w w') {a : Addr} {v : Value} (hc : w.cell? a = some v) (ho : ¬ O a.block) : w'.cell? a = some v :=
 (World.cell?_of_block (h.block a.block (World.block_lt_of_cell? w a hc) ho)).trans hc
theorem Ext.drew (O : Nat → Prop) (w : World) : Ext O w w.drew := ⟨rfl, rfl, rfl, Nat.le_refl _, fun _ _ _ => rfl, fun _ _ => Nat.le_refl _⟩
theorem gk {w w' : World} {k : Nat} (h : w'.heap[k]? = w.heap[k]?) : cz w' k = cz w k := by simp [cz, h]
theorem Ext.alloc (O : Nat → Prop) (w : World) (o : Obj) : Ext O w (w.alloc o) := by
 have hb : ∀ k, k < w.heap.size → (w.alloc o).heap[k]? = w.heap[k]? := fun k hk => heap_alloc_old w o k hk
 exact ⟨rfl, rfl, rfl, by simp, fun k hk _ => hb k hk, fun k hk => Nat.le_of_eq (gk (hb k hk)).symm⟩
theorem Ext.setRow {O : Nat → Prop} {w : World} {g : Nat} {old cs : Array Value} {t : TypeId} {fr : Nat × Nat} (hg : w.heap[g]? = some (.cells old t fr)) (ho : O g) (hs : old.size ≤ cs.size) :
   Ext O w (w.setRow g cs) := by
 refine ⟨rfl, rfl, rfl, by simp, fun k _ hn => setRow_other w g k _ (fun e => hn (e ▸ ho)), fun k _ => ?_⟩
 by_cases e : k = g
 · subst e
   simp only [cz, setRow_heap w k old cs t fr hg, hg]
   exact hs
 · exact Nat.le_of_eq (gk (setRow_other w g k _ e)).symm

inductive R where
 | to (j : Nat)
 | kill
 | frz (cs : List V)

def ren (f : Nat → R) : Nat → V → V
 | _, .osl id off n w => match f id with
   | .to j => .osl j off n w
   | .kill => .undef
   | .frz cs => .sl n w ((cs.drop off).take (n * w))
 | _, .ptr id off => match f id with
   | .to j => .ptr j off
   | .kill => .undef
   | .frz cs => .pt (cs.drop off)
 | _, .mp id => match f id with
   | .to j => .mp j
   | .kill => .undef
   | .frz _ => .undef
 | _, .mb es => .mb es
 | d + 1, .agg cs => .agg (cs.map (ren f d))
 | d + 1, .tup cs => .tup (cs.map (ren f d))
 | d + 1, .fn g a c => .fn g (a.map (ren f d)) (c.map (ren f d))
 | 0, .agg _ => .undef
 | 0, .tup _ => .undef
 | 0, .fn _ _ _ => .undef
 | _, .undef => .undef
 | _, .skip => .skip
 | _, .bool b => .bool b
 | _, .int k n => .int k n
 | _, .str s => .str s
 | _, .nilsl => .nilsl
 | _, .sl n w cs => .sl n w cs
 | _, .pt cs => .pt cs
 | _, .lit v => .lit v

theorem du (f : Nat → R) (d : Nat) (l : List V) : gr (l.map (ren f d)) = gr l := by
 match l with
 | [] => rfl
 | _ :: _ :: _ => rfl
 | [x] =>
   cases x with
   | osl a b c e => cases d <;> (simp only [List.map_cons, List.map_nil, ren]; cases f a <;> rfl)
   | ptr a b => cases d <;> (simp only [List.map_cons, List.map_nil, ren]; cases f a <;> rfl)
   | mp a => cases d <;> (simp only [List.map_cons, List.map_nil, ren]; cases f a <;> rfl)
   | _ => cases d <;> rfl

structure Ren (w w' : World) (m m' : Nat → Nat) (h h' : Hp) (av av' : Nat → Prop) (f : Nat → R) : Prop where
 ro : ∀ b off v, ¬ av b → w.cell? ⟨b, off, none⟩ = some v → ¬ av' b ∧ w'.cell? ⟨b, off, none⟩ = some v
 to : ∀ id cs j, h[id]? = some (some cs) → f id = .to j → ∃ cs', h'[j]? = some (some cs') ∧ cs.length ≤ cs'.length ∧ m' j = m id ∧ cz w (m id) ≤ cz w' (m id) ∧ gr cs' = gr cs
 frz : ∀ id cs cs', h[id]? = some (some cs) → f id = .frz cs' → gr cs = false → cs'.length = cs.length ∧ ¬ av' (m id) ∧
   ∀ i (hi : i < cs'.length), ∃ v, w'.cell? ⟨m id, i, none⟩ = some v ∧ RV w' m' h' av' false v cs'[i]

theorem RV.rn {w : World} {m : Nat → Nat} {h : Hp} {av : Nat → Prop} {o : Bool} {v : Value} {x : V} (hx : RV w m h av o v x) : RV w m h av true v x := by
 induction hx with
 | undef v => exact .undef v
 | skip => exact .skip
 | bool b => exact .bool b
 | int k n => exact .int k n
 | str s => exact .str s
 | nilsl => exact .nilsl
 | slz a c wd => exact .slz a c wd
 | sl b off n cap wd cs vals hl ha hc hv hr _ => exact .sl b off n cap wd cs vals hl ha hc hv hr
 | pt b off cs vals ha hv hr _ => exact .pt b off cs vals ha hv hr
 | osl id off n cap wd cs hid hl hc hs => exact .osl id off n cap wd cs hid hl hc hs
 | ptr id off cs hid => exact .ptr id off cs hid
 | fn f a c a' c' ha hc hra hrc iha ihc => exact .fn f a c a' c' ha hc iha ihc
 | agg a a' ha hra iha => exact .agg a a' ha iha
 | tup a a' ha hra iha => exact .tup a a' ha iha
 | lit v => exact .lit v
 | mp id cs hid hm => exact .mp id cs hid hm

section
variable {w w' : World} {m m' : Nat → Nat} {h h' : Hp} {av av' : Nat → Prop} {f : Nat → R}

theorem RV.v7 (hR : ∀ b off v, ¬ av b → w.cell? ⟨b, off, none⟩ = some v → ¬ av' b ∧ w'.cell? ⟨b, off, none⟩ = some v)
   {o : Bool} {v : Value} {x : V} (hx : RV w m h av o v x) : o = false → RV w' m' h' av' false v x := by
 induction hx with
 | undef v => exact fun _ => .undef v
 | skip => exact fun _ => .skip
 | bool b => exact fun _ => .bool b
 | int k n => exact fun _ => .int k n
 | str s => exact fun _ => .str s
 | nilsl => exact fun _ => .nilsl
 | slz a c wd => exact fun _ => .slz a c wd
 | sl b off n cap wd cs vals hl ha hc hv hr ih =>
   refine fun _ => .sl b off n cap wd cs vals hl (fun hne => ?_) hc (fun i hi => (hR b _ _ (ha (by rintro rfl; simp at hi)) (hv i hi)).2) (fun i hi => ih i hi rfl)
   exact (hR b _ _ (ha hne) (hv 0 (List.length_pos_iff.2 hne))).1
 | pt b off cs vals ha hv hr ih =>
   refine fun _ => .pt b off cs vals (fun hne => ?_) (fun i hi => (hR b _ _ (ha (by rintro rfl; simp at hi)) (hv i hi)).2) (fun i hi => ih i hi rfl)
   exact (hR b _ _ (ha hne) (hv 0 (List.length_pos_iff.2 hne))).1
 | osl id off n cap wd cs hid hl hc hs => intro e; cases e
 | ptr id off cs hid => intro e; cases e
 | fn f a c a' c' ha hc hra hrc iha ihc => exact fun e => .fn f a c a' c' ha hc (fun i hi => iha i hi e) (fun i hi => ihc i hi e)
 | agg a a' ha hra iha => exact fun e => .agg a a' ha (fun i hi => iha i hi e)
 | tup a a' ha hra iha => exact fun e => .tup a a' ha (fun i hi => iha i hi e)
 | lit v => exact fun _ => .lit v
 | mp id cs hid hm => intro e; cases e

theorem getD_map {f : V → V} {l : List V} {i : Nat} (hi : i < (l.map f).length) : (l.map f)[i] = f (l[i]'(by simpa using hi)) := by simp

theorem RV.ren (hR : Ren w w' m m' h h' av av' f) {o : Bool} {v : Value} {x : V} (hx : RV w m h av o v x) :
   ∀ d, RV w' m' h' av' true v (ren f d x) := by
 induction hx with
 | undef v => intro d; cases d <;> exact .undef v
 | skip => intro d; cases d <;> exact .skip
 | bool b => intro d; cases d <;> exact .bool b
 | int k n => intro d; cases d <;> exact .int k n
 | str s => intro d; cases d <;> exact .str s
 | nilsl => intro d; cases d <;> exact .nilsl
 | slz a c wd => intro d; cases d <;> exact .slz a c wd
 | sl b off n cap wd cs vals hl ha hc hv hr ih =>
   have := (RV.sl (m := m) (h := h) (o := false) b off n cap wd cs vals hl ha hc hv hr).v7 hR.ro (m' := m') (h' := h') rfl
   intro d; cases d <;> exact this.rn
 | pt b off cs vals ha hv hr ih =>
   have := (RV.pt (m := m) (h := h) (o := false) b off cs vals ha hv hr).v7 hR.ro (m' := m') (h' := h') rfl
   intro d; cases d <;> exact this.rn
 | osl id off n cap wd cs hid hl hc hs =>
   have key : RV w' m' h' av' true (.slice (some ⟨m id, off, none⟩) n cap) (match f id with
       | .to j => .osl j off n wd
       | .kill => .undef
       | .frz cs => .sl n wd ((cs.drop off).take (n * wd))) := by
     cases hf : f id with
     | to j =>
       obtain ⟨cs', h1, h2, h3, h4, h5⟩ := hR.to id cs j hid.1 hf
       simp only []
       rw [← h3] at hs h4 ⊢
       exact .osl j off n cap wd cs' ⟨h1, by rw [h5]; exact hid.2⟩ (by omega) hc (by omega)
     | kill => exact .undef _
     | frz cs' =>
       obtain ⟨h1, h2, h3⟩ := hR.frz id cs cs' hid.1 hf hid.2
       have hlen : ((cs'.drop off).take (n * wd)).length = n * wd := by simp; omega
       have hget : ∀ i (hi : i < ((cs'.drop off).take (n * wd)).length), ((cs'.drop off).take (n * wd))[i] = cs'[off + i]'(by simp at hi; omega) := by
         intro i hi; simp
       have hc3 : ∀ i, i < ((cs'.drop off).take (n * wd)).length → off + i < cs'.length := fun i hi => by simp at hi; omega
       refine .sl (m id) off n cap wd _ (fun i => ((w'.cell? ⟨m id, off + i, none⟩).getD Go.undef)) hlen (fun _ => h2) hc (fun i hi => ?_) (fun i hi => ?_)
       · obtain ⟨v, hv, _⟩ := h3 (off + i) (hc3 i hi)
         simp [hv]
       · obtain ⟨v, hv, hrv⟩ := h3 (off + i) (hc3 i hi)
         rw [hget i hi]
         simpa [hv] using hrv
   intro d; cases d <;> exact key
 | ptr id off cs hid =>
   have key : RV w' m' h' av' true (.pointer (some ⟨m id, off, none⟩)) (match f id with
       | .to j => .ptr j off
       | .kill => .undef
       | .frz cs => .pt (cs.drop off)) := by
     cases hf : f id with
     | to j =>
       obtain ⟨cs', h1, h2, h3, h4, h5⟩ := hR.to id cs j hid.1 hf
       simp only []
       rw [← h3]
       exact .ptr j off cs' ⟨h1, by rw [h5]; exact hid.2⟩
     | kill => exact .undef _
     | frz cs' =>
       obtain ⟨h1, h2, h3⟩ := hR.frz id cs cs' hid.1 hf hid.2
       have hc3 : ∀ i, i < (cs'.drop off).length → off + i < cs'.length := fun i hi => by simp at hi; omega
       refine .pt (m id) off _ (fun i => ((w'.cell? ⟨m id, off + i, none⟩).getD Go.undef)) (fun _ => h2) (fun i hi => ?_) (fun i hi => ?_)
       · obtain ⟨v, hv, _⟩ := h3 (off + i) (hc3 i hi)
         simp [hv]
       · obtain ⟨v, hv, hrv⟩ := h3 (off + i) (hc3 i hi)
         rw [List.getElem_drop]
         simpa [hv] using hrv
   intro d; cases d <;> exact key
 | fn g a c a' c' ha hc hra hrc iha ihc =>
   intro d
   cases d with
   | zero => exact .undef _
   | succ d => exact .fn g a c _ _ (by simpa using ha) (by simpa using hc) (fun i hi => by rw [getD_map hi]; exact iha i _ d) (fun i hi => by rw [getD_map hi]; exact ihc i _ d)
 | agg a a' ha hra iha =>
   intro d
   cases d with
   | zero => exact .undef _
   | succ d => exact .agg a _ (by simpa using ha) (fun i hi => by rw [getD_map hi]; exact iha i _ d)
 | tup a a' ha hra iha =>
   intro d
   cases d with
   | zero => exact .undef _
   | succ d => exact .tup a _ (by simpa using ha) (fun i hi => by rw [getD_map hi]; exact iha i _ d)
 | lit v => intro d; cases d <;> exact .lit v
 | mp id cs hid hm =>
   have key : RV w' m' h' av' true (.map (some (m id))) (match f id with
       | .to j => .mp j
       | .kill => .undef
       | .frz _ => .undef) := by
     cases hf : f id with
     | to j =>
       obtain ⟨cs', h1, h2, h3, h4, h5⟩ := hR.to id cs j hid hf
       simp only []
       rw [← h3]
       exact .mp j cs' h1 (by rw [h5]; exact hm)
     | kill => exact .undef _
     | frz cs => exact .undef _
   intro d; cases d <;> exact key

theorem RV.step (hro : ∀ b off v, ¬ av b → w.cell? ⟨b, off, none⟩ = some v → ¬ av' b ∧ w'.cell? ⟨b, off, none⟩ = some v)
   (hto : ∀ id cs, h[id]? = some (some cs) → ∃ cs', h'[id]? = some (some cs') ∧ cs.length ≤ cs'.length ∧ m' id = m id ∧ cz w (m id) ≤ cz w' (m id) ∧ gr cs' = gr cs)
   {o : Bool} {v : Value} {x : V} (hx : RV w m h av o v x) : RV w' m' h' av' o v x := by
 induction hx with
 | undef v => exact .undef v
 | skip => exact .skip
 | bool b => exact .bool b
 | int k n => exact .int k n
 | str s => exact .str s
 | nilsl => exact .nilsl
 | slz a c wd => exact .slz a c wd
 | sl b off n cap wd cs vals hl ha hc hv hr ih =>
   refine .sl b off n cap wd cs vals hl (fun hne => ?_) hc (fun i hi => (hro b _ _ (ha (by rintro rfl; simp at hi)) (hv i hi)).2) (fun i hi => ih i hi)
   exact (hro b _ _ (ha hne) (hv 0 (List.length_pos_iff.2 hne))).1
 | pt b off cs vals ha hv hr ih =>
   refine .pt b off cs vals (fun hne => ?_) (fun i hi => (hro b _ _ (ha (by rintro rfl; simp at hi)) (hv i hi)).2) (fun i hi => ih i hi)
   exact (hro b _ _ (ha hne) (hv 0 (List.length_pos_iff.2 hne))).1
 | osl id off n cap wd cs hid hl hc hs =>
   obtain ⟨cs', h1, h2, h3, h4, h5⟩ := hto id cs hid.1
   rw [← h3] at hs h4 ⊢
   exact .osl id off n cap wd cs' ⟨h1, by rw [h5]; exact hid.2⟩ (by omega) hc (by omega)
 | ptr id off cs hid =>
   obtain ⟨cs', h1, h2, h3, h4, h5⟩ := hto id cs hid.1
   rw [← h3]
   exact .ptr id off cs' ⟨h1, by rw [h5]; exact hid.2⟩
 | fn g a c a' c' ha hc hra hrc iha ihc => exact .fn g a c a' c' ha hc iha ihc
 | agg a a' ha hra iha => exact .agg a a' ha iha
 | tup a a' ha hra iha => exact .tup a a' ha iha
 | lit v => exact .lit v
 | mp id cs hid hm =>
   obtain ⟨cs', h1, h2, h3, h4, h5⟩ := hto id cs hid
   rw [← h3]
   exact .mp id cs' h1 (by rw [h5]; exact hm)
end

def za (fr : Nat × Nat) (n : Nat) : Prop := fr = (0, 0) ∨ n ≤ fr.1
theorem za.zero (n : Nat) : za (0, 0) n := .inl rfl
theorem za.not {w : World} {b j : Nat} {C : Array Value} {T : TypeId} {fr : Nat × Nat} (hb : w.heap[b]? = some (.cells C T fr)) (h : za fr C.size) (hj : j < C.size) : w.frozen? ⟨b, j, none⟩ = false := by
 obtain ⟨lo, hi⟩ := fr
 rcases h with h | h
 · cases h; simp [World.frozen?, hb]
 · simp only [World.frozen?, hb]
   have : ¬ lo ≤ j := by dsimp only at h; omega
   simp [this]

def pj (w : World) (m : Nat → Nat) (h : Hp) (av : Nat → Prop) (b : Nat) (cs : List V) : Prop :=
 (∃ C T fr, w.heap[b]? = some (.cells C T fr) ∧ za fr C.size ∧ cs.length ≤ C.size ∧ ∀ i (hi : i < cs.length), RV w m h av true (C.getD i Go.undef) cs[i]) ∨
 (∃ E c es, w.heap[b]? = some (.map E c) ∧ cs = [.mb es] ∧ es = E.toList.map fun e => (e.key, e.val))

theorem nh {w : World} {m : Nat → Nat} {h : Hp} {av : Nat → Prop} {C : Array Value} {cs : List V} (hr : ∀ i (hi : i < cs.length), RV w m h av true (C.getD i Go.undef) cs[i]) : gr cs = false := by
 match cs, hr with
 | [], _ => rfl
 | _ :: _ :: _, _ => rfl
 | [x], hr =>
   have := hr 0 (by simp)
   generalize C.getD 0 Go.undef = v at this
   simp only [List.getElem_cons_zero] at this
   cases x <;> first | rfl | cases this

section
variable {w w' : World} {m m' : Nat → Nat} {h h' : Hp} {av av' : Nat → Prop} {b b' : Nat} {cs : List V}

theorem pj.lt (H : pj w m h av b cs) : b < w.heap.size := by
 rcases H with ⟨C, T, fr, h1, _⟩ | ⟨E, c, es, h1, _⟩ <;> exact (Array.getElem?_eq_some_iff.1 h1).1

theorem pj.cells (H : pj w m h av b cs) (hn : gr cs = false) : ∃ C T fr, w.heap[b]? = some (.cells C T fr) ∧ za fr C.size ∧ cs.length ≤ C.size ∧ ∀ i (hi : i < cs.length), RV w m h av true (C.getD i Go.undef) cs[i] := by
 rcases H with H | ⟨E, c, es, h1, rfl, _⟩
 · exact H
 · cases hn

theorem pj.map (H : pj w m h av b cs) (hb : w'.heap[b']? = w.heap[b]?) {f : V → V} (hf : ∀ es, f (.mb es) = .mb es) (hs : ∀ v x, RV w m h av true v x → RV w' m' h' av' true v (f x)) : pj w' m' h' av' b' (cs.map f) := by
 rcases H with ⟨C, T, fr, h1, hfr, h2, h3⟩ | ⟨E, c, es, h1, rfl, h3⟩
 · exact .inl ⟨C, T, fr, hb.trans h1, hfr, by simpa using h2, fun i hi => by rw [List.getElem_map]; exact hs _ _ (h3 i (by simpa using hi))⟩
 · exact .inr ⟨E, c, es, hb.trans h1, by simp [hf], h3⟩

theorem pj.step (H : pj w m h av b cs) (hb : w'.heap[b']? = w.heap[b]?) (hs : ∀ v x, RV w m h av true v x → RV w' m' h' av' true v x) : pj w' m' h' av' b' cs := by
 have := H.map (f := fun x => x) hb (fun _ => rfl) hs
 simpa using this
theorem j1 (f : Nat → R) (d : Nat) (es : List (Value × Value)) : ren f d (.mb es) = .mb es := by cases d <;> rfl
end

structure RH (w : World) (m : Nat → Nat) (h : Hp) (av : Nat → Prop) : Prop where
 inj : ∀ i j ci cj, h[i]? = some (some ci) → h[j]? = some (some cj) → m i = m j → i = j
 avd : ∀ id cs, h[id]? = some (some cs) → av (m id)
 blk : ∀ id cs, h[id]? = some (some cs) → pj w m h av (m id) cs

theorem RH.lt {w : World} {m : Nat → Nat} {h : Hp} {av : Nat → Prop} (H : RH w m h av) {id : Nat} {cs : List V} (hid : h[id]? = some (some cs)) : m id < w.heap.size := by
 exact (H.blk id cs hid).lt

theorem RH.cell {w : World} {m : Nat → Nat} {h : Hp} {av : Nat → Prop} (H : RH w m h av) {id : Nat} {cs : List V} (hid : Cl h id cs) {i : Nat} (hi : i < cs.length) :
   ∃ v, w.cell? ⟨m id, i, none⟩ = some v ∧ RV w m h av true v cs[i] := by
 obtain ⟨C, T, fr, hb, _, hl, hc⟩ := (H.blk id cs hid.1).cells hid.2
 refine ⟨C.getD i Go.undef, ?_, hc i hi⟩
 rw [cell_of_row w (m id) i C T fr hb]
 simp [Array.getD, show i < C.size from by omega]

end Go.Lv
end
section
namespace Go.Lv

def lf : Value → V
 | .bool b => .bool b
 | .int k n => .int k n
 | .string s => .str s
 | .slice none 0 0 => .nilsl
 | v => .lit v

def cv : Value → V
 | .agg cs => .agg (cs.toList.map lf)
 | v => lf v

theorem aa7 (w : World) (m : Nat → Nat) (h : Hp) (av : Nat → Prop) (o : Bool) (v : Value) : RV w m h av o v (lf v) := by
 unfold lf
 split <;> first | exact .bool _ | exact .int _ _ | exact .str _ | exact .nilsl | exact .lit _

theorem a2v (w : World) (m : Nat → Nat) (h : Hp) (av : Nat → Prop) (o : Bool) (v : Value) : RV w m h av o v (cv v) := by
 unfold cv
 split
 · rename_i cs
   refine .agg cs _ (by simp) (fun i hi => ?_)
   have hi' : i < cs.size := by simpa using hi
   simp only [List.getElem_map, Array.getElem_toList]
   have : cs.getD i Go.undef = cs[i] := by simp [Array.getD, hi']
   rw [this]
   exact aa7 w m h av o _
 · exact aa7 w m h av o v

def ev (t : List V) : Operand → V
 | .tmp i => t.getD i .undef
 | .const v => cv v
 | .global _ => .undef
 | .func f => .fn (.func f) [] []

def ji : TypeDesc → Bool
 | .struct _ => true
 | .array _ _ => true
 | _ => false

def gi (P : Program) (t : TypeId) : Option (Nat × Bool) :=
 match P.info? t, P.underlying t with
 | some i, some d => some (i.size, ji d)
 | _, _ => none

def ij (P : Program) (t : TypeId) : Option (TypeId × Nat × Nat) :=
 match P.underlying t with
 | some (.slice e) => match P.info? e with
   | some i => some (e, i.size, i.bytes)
   | none => none
 | _ => none

def gf (P : Program) (t : TypeId) (f : Nat) : Option (Nat × Nat × Bool) :=
 match P.underlying t with
 | some (.struct fs) => match fs[f]? with
   | some fd => match gi P fd.type with
     | some (sz, ag) => some (fd.offset, sz, ag)
     | none => none
   | none => none
 | _ => none

def ah9 (P : Program) (t : TypeId) : Option (Nat × Nat × Bool) :=
 match P.underlying t with
 | some (.array n e) => match gi P e with
   | some (sz, ag) => some (n, sz, ag)
   | none => none
 | _ => none

def zeroOf (P : Program) (t : TypeId) : Option (List V) :=
 match P.info? t with
 | some i => match i.zero with
   | some z => some (z.cells.toList.map lf)
   | none => none
 | none => none

def isStr (P : Program) (t : TypeId) : Bool :=
 match P.underlying t with
 | some .string => true
 | _ => false

def ye (P : Program) (t : TypeId) : Bool :=
 match P.underlying t with
 | some .bool => true
 | _ => false

def yo (P : Program) (t : TypeId) : Bool :=
 match P.underlying t with
 | some (.pointer _) => true
 | _ => false

def uk (P : Program) (t : TypeId) : Bool :=
 match P.underlying t with
 | some (.slice _) => true
 | _ => false

def uo (P : Program) (t : TypeId) : Option IntKind :=
 match P.underlying t with
 | some (.int k) => some k
 | _ => none

def mk : Bool → List V → V
 | true, l => .agg l
 | false, l => l.getD 0 .undef

def cells : V → List V
 | .agg cs => cs
 | v => [v]

def andI (k : IntKind) (a b : Int) : Int := k.wrap (((BitVec.ofInt k.bits a &&& BitVec.ofInt k.bits b).toNat : Nat) : Int)
def shrI (k : IntKind) (a b : Int) : Int := a.fdiv (2 ^ (min b.toNat k.bits))

def vh (op : BinOp) (k : IntKind) (a b : Int) (K : V → Prop) : Prop :=
 match op with
 | .add => K (.int k (k.wrap (a + b)))
 | .sub => K (.int k (k.wrap (a - b)))
 | .mul => K (.int k (k.wrap (a * b)))
 | .quo => b ≠ 0 ∧ K (.int k (k.wrap (a.tdiv b)))
 | .rem => b ≠ 0 ∧ K (.int k (a.tmod b))
 | .and => K (.int k (andI k a b))
 | .shr => 0 ≤ b ∧ K (.int k (shrI k a b))
 | .eql => K (.bool (a == b))
 | .neq => K (.bool (a != b))
 | .lss => K (.bool (decide (a < b)))
 | .leq => K (.bool (decide (a ≤ b)))
 | .gtr => K (.bool (decide (b < a)))
 | .geq => K (.bool (decide (b ≤ a)))
 | _ => False

def va (op : BinOp) (x y : ByteArray) (K : V → Prop) : Prop :=
 match op with
 | .add => x.size + y.size ≤ 9223372036854775807 ∧ K (.str (x ++ y))
 | .eql => K (.bool (x.toList == y.toList))
 | .neq => K (.bool (!(x.toList == y.toList)))
 | .lss => K (.bool (Op.bytesLess x.toList y.toList))
 | .leq => K (.bool (Op.bytesLess x.toList y.toList || x.toList == y.toList))
 | .gtr => K (.bool (!(Op.bytesLess x.toList y.toList || x.toList == y.toList)))
 | .geq => K (.bool (!(Op.bytesLess x.toList y.toList)))
 | _ => False

def eqV : TypeDesc → V → V → Option Bool
 | .int _, .int k a, .int k' b => if k = k' then some (a == b) else none
 | .bool, .bool a, .bool b => some (a == b)
 | .string, .str a, .str b => some (a.toList == b.toList)
 | _, _, _ => none
def eqL : List TypeDesc → List V → List V → Option Bool
 | [], [], [] => some true
 | d :: ds, a :: l, b :: l' => match eqV d a b, eqL ds l l' with
   | some x, some y => some (x && y)
   | _, _ => none
 | _, _, _ => none

def apf : TypeDesc → Bool
 | .int _ => true
 | .bool => true
 | .string => true
 | _ => false

def aad (P : Program) : List Field → Nat → Option (List TypeDesc)
 | [], _ => some []
 | f :: fs, i => if f.offset == i && f.name != "_" then match P.info? f.type, P.underlying f.type with
   | some inf, some d => if inf.size == 1 && apf d then (aad P fs (i + 1)).map (d :: ·) else none
   | _, _ => none else none

def ak3 (P : Program) (t : TypeId) : Option (List TypeDesc) :=
 match P.underlying t with
 | some (.struct fs) => if P.stoodInHeld t || P.eqGuardType P.depth t then none else aad P fs.toList 0
 | _ => none

def bin (P : Program) (op : BinOp) (t : TypeId) (x y : V) (K : V → Prop) : Prop :=
 match x, y with
 | .int k a, .int k' b => k = k' ∧ vh op k a b K
 | .str a, .str b => va op a b K
 | .bool a, .bool b => ye P t = true ∧ match op with
   | .eql => K (.bool (a == b))
   | .neq => K (.bool (!(a == b)))
   | _ => False
 | .agg a, .agg b => match ak3 P t with
   | some ds => match eqL ds a b with
     | some r => match op with
       | .eql => K (.bool r)
       | .neq => K (.bool (!r))
       | _ => False
     | none => False
   | none => False
 | _, _ => False

def n7 (P : Program) (h : Hp) (t : TypeId) (x : V) (K : V → Prop) : Prop :=
 match gi P t with
 | some (sz, ag) => match x with
   | .pt cs => sz ≤ cs.length ∧ (ag = true ∨ sz = 1) ∧ K (mk ag (cs.take sz))
   | .ptr id off => match h[id]? with
     | some (some cs) => off + sz ≤ cs.length ∧ (ag = true ∨ sz = 1) ∧ K (mk ag ((cs.drop off).take sz))
     | _ => False
   | _ => False
 | none => False

def ea (P : Program) (s : TypeId) (f : Nat) (x : V) (K : V → Prop) : Prop :=
 match gf P s f with
 | some (off, sz, _) => 0 < sz ∧ match x with
   | .pt cs => K (.pt (cs.drop off))
   | .ptr id o => K (.ptr id (o + off))
   | _ => False
 | none => False

def xu (P : Program) (s : TypeId) (f : Nat) (x : V) (K : V → Prop) : Prop :=
 match gf P s f with
 | some (off, sz, ag) => match x with
   | .agg cs => off + sz ≤ cs.length ∧ (ag = true ∨ sz = 1) ∧ K (mk ag ((cs.drop off).take sz))
   | _ => False
 | none => False

def dp (P : Program) (t : TypeId) (x : V) (z : Int) (K : V → Prop) : Prop :=
 match x with
 | .sl n w cs => match ij P t with
   | some (_, sz, _) => (0 ≤ z ∧ z < n) ∧ w = sz ∧ K (.pt ((cs.drop (z.toNat * w)).take w))
   | none => False
 | .osl id off n w => match ij P t with
   | some (_, sz, _) => (0 ≤ z ∧ z < n) ∧ w = sz ∧ K (.ptr id (off + z.toNat * w))
   | none => False
 | .ptr id off => match ah9 P t with
   | some (n, sz, _) => (0 ≤ z ∧ z < n) ∧ K (.ptr id (off + z.toNat * sz))
   | none => False
 | .pt cs => match ah9 P t with
   | some (n, sz, _) => (0 ≤ z ∧ z < n) ∧ K (.pt (cs.drop (z.toNat * sz)))
   | none => False
 | _ => False

def s6 (P : Program) (t : TypeId) (x : V) (z : Int) (K : V → Prop) : Prop :=
 match x with
 | .str s => isStr P t = true ∧ ∃ hi : 0 ≤ z ∧ z.toNat < s.size, K (.int .u8 ((s[z.toNat]'hi.2).toNat : Int))
 | .agg cs => match ah9 P t with
   | some (n, sz, ag) => (0 ≤ z ∧ z < n) ∧ z.toNat * sz + sz ≤ cs.length ∧ (ag = true ∨ sz = 1) ∧ K (mk ag ((cs.drop (z.toNat * sz)).take sz))
   | none => False
 | _ => False

def ub (ρ : Operand → V) : Option Operand → Option Int
 | none => some 0
 | some l => match ρ l with
   | .int _ l => some l
   | _ => none

def ll (P : Program) (ρ : Operand → V) (t : TypeId) (x : V) (l : Int) (hi : Option Operand) (K : V → Prop) : Prop :=
 match x with
 | .sl n w cs => match ij P t with
   | some (_, sz, _) => match hi with
     | none => (0 ≤ l ∧ l ≤ n) ∧ w = sz ∧ K (.sl (n - l.toNat) w (cs.drop (l.toNat * w)))
     | some hh => match ρ hh with
       | .int _ u => (0 ≤ l ∧ l ≤ u ∧ u ≤ n) ∧ w = sz ∧ K (.sl (u.toNat - l.toNat) w ((cs.drop (l.toNat * w)).take ((u.toNat - l.toNat) * w)))
       | _ => False
   | none => False
 | .osl id off n w => match ij P t with
   | some (_, sz, _) => match hi with
     | none => (0 ≤ l ∧ l ≤ n) ∧ w = sz ∧ K (if l = 0 ∨ l < n then .osl id (off + l.toNat * w) (n - l.toNat) w else .sl 0 w [])
     | some hh => match ρ hh with
       | .int _ u => (0 ≤ l ∧ l ≤ u ∧ u ≤ n) ∧ w = sz ∧ K (if l = 0 ∨ l < u then .osl id (off + l.toNat * w) (u.toNat - l.toNat) w else .sl 0 w [])
       | _ => False
   | none => False
 | .str s => isStr P t = true ∧ match hi with
   | none => (0 ≤ l ∧ l ≤ s.size) ∧ K (.str (s.extract l.toNat s.size))
   | some hh => match ρ hh with
     | .int _ u => (0 ≤ l ∧ l ≤ u ∧ u ≤ s.size) ∧ K (.str (s.extract l.toNat u.toNat))
     | _ => False
 | _ => False

def abm (P : Program) (t : TypeId) (x : V) (K : V → Prop) : Prop :=
 match x with
 | .sl n _ _ => uk P t = true ∧ K (.int .i64 n)
 | .osl _ _ n _ => uk P t = true ∧ K (.int .i64 n)
 | .nilsl => uk P t = true ∧ K (.int .i64 0)
 | .str s => isStr P t = true ∧ K (.int .i64 s.size)
 | _ => False

def aa2 (P : Program) (s d : TypeId) (x : V) (K : V → Prop) : Prop :=
 (P.underlying s).isSome = true ∧ match x with
 | .int _ n => match uo P d with
   | some k => K (.int k (k.wrap n))
   | none => isStr P d = true ∧ K (.str (Utf8.encode n))
 | .str b => isStr P d = true ∧ K (.str b)
 | _ => False

def nu : List V → Option (List Int)
 | [] => some []
 | .int .u8 n :: cs => (nu cs).map (n :: ·)
 | _ => none

def si (P : Program) (s : TypeId) : Bool :=
 match P.underlying s with
 | some (.slice e) => match P.underlying e with
   | some (.int .u8) => true
   | _ => false
 | _ => false

def kl (P : Program) (h : Hp) (s d : TypeId) (x : V) (K : V → Prop) : Prop :=
 match x with
 | .osl id off n wd => (si P s = true ∧ isStr P d = true ∧ wd = 1) ∧ match h[id]? with
   | some (some cs) => match nu ((cs.drop off).take n) with
     | some xs => K (.str (strOfNums xs))
     | none => False
   | _ => False
 | x => aa2 P s d x K

def strCells (b : ByteArray) : List V := b.data.toList.map fun c => .int .u8 c.toNat

def wm (x : V) (K : V → Prop) : Prop :=
 match x with
 | .ptr id off => K (.ptr id off)
 | .pt cs => K (.pt cs)
 | .fn (.func f) a c => K (.fn (.func f) a c)
 | _ => False

def ib (x : V) (K : IntKind → Int → Prop) : Prop :=
 match x with
 | .int k z => K k z
 | _ => False

def jv (x : V) (K : Bool → Prop) : Prop :=
 match x with
 | .bool b => K b
 | _ => False

def nr (x : V) (i : Nat) (K : V → Prop) : Prop :=
 match x with
 | .tup vs => match vs[i]? with
   | some v => K v
   | none => False
 | _ => False

def aeu : V → Option Value
 | .int k n => some (.int k n)
 | .str s => some (.string s)
 | .bool b => some (.bool b)
 | _ => none

def mapOf (P : Program) (t : TypeId) : Option (TypeDesc × V) :=
 match P.underlying t with
 | some (.map k e) => match P.underlying k, P.info? e with
   | some d, some i => match i.zero with
     | some z => some (d, lf z)
     | none => none
   | _, _ => none
 | _ => none

def wu : TypeDesc → Value → Bool
 | .int k, .int k' _ => decide (k = k')
 | .string, .string _ => true
 | _, _ => false

def jr (d : TypeDesc) (k : Value) : List (Value × Value) → Nat → Option (Option (Nat × Value))
 | [], _ => some none
 | e :: es, i =>
   match Instr.sameNow d k e.1 with
   | some true => some (some (i, e.2))
   | some false => jr d k es (i + 1)
   | none => none

def j5 (P : Program) (h : Hp) (t : TypeId) (x y : V) (ok : Bool) (K : V → Prop) : Prop :=
 match x with
 | .mp id => match h[id]? with
   | some (some [.mb es]) => match aeu y, mapOf P t with
     | some k, some (d, z) => wu d k = true ∧ match jr d k es 0 with
       | some (some (_, v)) => K (if ok then .tup [lf v, .bool true] else lf v)
       | some none => K (if ok then .tup [z, .bool false] else z)
       | none => False
     | _, _ => False
   | _ => False
 | _ => False

def qop (P : Program) (h : Hp) (ρ : Operand → V) (op : Op) (K : V → Prop) : Prop :=
 match op with
 | .move x => K (ρ x)
 | .assign x => K (ρ x)
 | .pick c a b => jv (ρ c) fun t => K (if t then ρ a else ρ b)
 | .load t a => n7 P h t (ρ a) K
 | .fieldAddr s a f => ea P s f (ρ a) K
 | .field s a f => xu P s f (ρ a) K
 | .indexAddr t x i => ib (ρ i) fun _ z => dp P t (ρ x) z K
 | .index t x i => ib (ρ i) fun _ z => s6 P t (ρ x) z K
 | .slice t x lo hi none => match ub ρ lo with
   | none => False
   | some l => ll P ρ t (ρ x) l hi K
 | .binOp op t x y _ => bin P op t (ρ x) (ρ y) K
 | .unOp .not _ x => jv (ρ x) fun b => K (.bool (!b))
 | .unOp .neg _ x => ib (ρ x) fun k n => K (.int k (k.wrap (0 - n)))
 | .convert s d x => kl P h s d (ρ x) K
 | .extract x i => nr (ρ x) i K
 | .nilCheck x => wm (ρ x) K
 | .lookup t x y ok => j5 P h t (ρ x) (ρ y) ok K
 | .makeFunc f a c => K (.fn f (a.toList.map ρ) (c.toList.map ρ))
 | .call { callee := .builtin .len, args := ⟨[x]⟩, argTypes := ⟨[t]⟩ } => abm P t (ρ x) K
 | .call { callee := .builtin .max, args := ⟨[x, y]⟩, .. } => ib (ρ x) fun k a => ib (ρ y) fun _ b => K (.int k (if b > a then b else a))
 | .call { callee := .builtin .min, args := ⟨[x, y]⟩, .. } => ib (ρ x) fun k a => ib (ρ y) fun _ b => K (.int k (if b < a then b else a))
 | _ => False

end Go.Lv
end
section
namespace Go.Lv

section
variable {P : Program} {w : World} {m : Nat → Nat} {h : Hp} {av : Nat → Prop}

theorem uy (t : TypeId) (i : TypeInfo) (d : TypeDesc) (hi : P.info? t = some i) (hd : P.underlying t = some d) (b off : Nat) (cs : List V) {o : Bool}
   (hc : ∀ j (hj : j < cs.length), ∃ v, w.cell? ⟨b, off + j, none⟩ = some v ∧ RV w m h av o v cs[j]) (hsz : i.size ≤ cs.length) (hag : ji d = true ∨ i.size = 1) :
   ∃ v, (loadVar t ⟨b, off, none⟩).run P w = .ok v w ∧ RV w m h av o v (mk (ji d) (cs.take i.size)) := by
 have hcell : ∀ j, j < i.size → w.cell? ((⟨b, off, none⟩ : Addr).add j) = some ((w.cell? ⟨b, off + j, none⟩).getD Go.undef) := by
   intro j hj
   obtain ⟨v, hv, _⟩ := hc j (by omega)
   rw [Addr.add_lit, hv]
   rfl
 have hrl := run_loadCells (P := P) w ⟨b, off, none⟩ i.size (fun j => (w.cell? ⟨b, off + j, none⟩).getD Go.undef) hcell
 by_cases hd' : ji d = true
 · have e : (isAgg t).run P w = .ok true w := by
     unfold isAgg
     simp only [Sem.run_bind, run_underlying hd, Result.andThen_ok]
     cases d <;> simp [ji] at hd' <;> rfl
   refine ⟨_, by simp only [loadVar, Sem.run_bind, e, Result.andThen_ok, if_true, sizeOf, typeInfo, run_program, hi, Sem.run_pure, hrl]; rfl, ?_⟩
   rw [hd']
   refine .agg _ _ (by simp; omega) (fun j hj => ?_)
   have hj' : j < i.size := by simp at hj; omega
   obtain ⟨v, hv, hr⟩ := hc j (by omega)
   simp only [List.getElem_take]
   have : (((List.range i.size).map fun j => (w.cell? ⟨b, off + j, none⟩).getD Go.undef).toArray).getD j Go.undef = v := by
     simp [Array.getD, hj', hv]
   rw [this]
   exact hr
 · have hs1 : i.size = 1 := hag.resolve_left hd'
   have hdf : ji d = false := by simpa using hd'
   have e : (isAgg t).run P w = .ok false w := by
     unfold isAgg
     simp only [Sem.run_bind, run_underlying hd, Result.andThen_ok]
     cases d <;> simp [ji] at hd' <;> rfl
   obtain ⟨v, hv, hr⟩ := hc 0 (by omega)
   refine ⟨v, by simp only [loadVar, Sem.run_bind, e, Result.andThen_ok]; simpa using (by rw [run_load, show (⟨b, off, none⟩ : Addr) = ⟨b, off + 0, none⟩ from rfl, hv] : (load ⟨b, off, none⟩).run P w = .ok v w), ?_⟩
   rw [hdf, hs1]
   have : mk false (cs.take 1) = cs[0] := by
     cases cs with
     | nil => simp at hsz; omega
     | cons c l => rfl
   rw [this]
   exact hr

theorem o8 (t : TypeId) (i : TypeInfo) (d : TypeDesc) (hi : P.info? t = some i) (hd : P.underlying t = some d) (off : Nat) (a : Array Value) (cs : List V) {o : Bool}
   (ha : a.size = cs.length) (hc : ∀ j (hj : j < cs.length), RV w m h av o (a.getD j Go.undef) cs[j]) (hsz : off + i.size ≤ cs.length) (hag : ji d = true ∨ i.size = 1) :
   ∃ v, (part t a off).run P w = .ok v w ∧ RV w m h av o v (mk (ji d) ((cs.drop off).take i.size)) := by
 by_cases hd' : ji d = true
 · have e : (isAgg t).run P w = .ok true w := by
     unfold isAgg
     simp only [Sem.run_bind, run_underlying hd, Result.andThen_ok]
     cases d <;> simp [ji] at hd' <;> rfl
   refine ⟨_, by simp only [part, Sem.run_bind, e, Result.andThen_ok, if_true, sizeOf, typeInfo, run_program, hi, Sem.run_pure]; rfl, ?_⟩
   rw [hd']
   refine .agg _ _ (by simp; omega) (fun j hj => ?_)
   have hj' : j < i.size := by simp at hj; omega
   simp only [List.getElem_take, List.getElem_drop]
   have := hc (off + j) (by omega)
   have e2 : (a.extract off (off + i.size)).getD j Go.undef = a.getD (off + j) Go.undef := by
     simp [Array.getD, show j < min (off + i.size) a.size - off from by omega, show off + j < a.size from by omega]
   rw [e2]
   exact this
 · have hs1 : i.size = 1 := hag.resolve_left hd'
   have hdf : ji d = false := by simpa using hd'
   have e : (isAgg t).run P w = .ok false w := by
     unfold isAgg
     simp only [Sem.run_bind, run_underlying hd, Result.andThen_ok]
     cases d <;> simp [ji] at hd' <;> rfl
   have hlt : off < a.size := by omega
   refine ⟨a[off], by simp only [part, Sem.run_bind, e, Result.andThen_ok]; simp [Array.getElem?_eq_getElem hlt], ?_⟩
   rw [hdf, hs1]
   have : mk false ((cs.drop off).take 1) = cs[off]'(by omega) := by
     have hlt' : off < cs.length := by omega
     rw [List.drop_eq_getElem_cons hlt']
     rfl
   rw [this]
   have := hc off (by omega)
   simpa [Array.getD, hlt] using this

theorem tg {t sz : Nat} {ag : Bool} (ht : gi P t = some (sz, ag)) : ∃ i d, P.info? t = some i ∧ P.underlying t = some d ∧ i.size = sz ∧ ji d = ag := by
 unfold gi at ht
 split at ht
 · rename_i i d h1 h2
   simp at ht
   exact ⟨i, d, h1, h2, ht.1, ht.2⟩
 · cases ht

theorem gy {t e sz by_ : Nat} (ht : ij P t = some (e, sz, by_)) : ∃ i, P.underlying t = some (.slice e) ∧ P.info? e = some i ∧ i.size = sz ∧ i.bytes = by_ := by
 unfold ij at ht
 split at ht
 · rename_i e' h1
   split at ht
   · rename_i i h2
     simp at ht
     obtain ⟨rfl, h3, h4⟩ := ht
     exact ⟨i, h1, h2, h3, h4⟩
   · cases ht
 · cases ht

theorem aae {t f off sz : Nat} {ag : Bool} (ht : gf P t f = some (off, sz, ag)) : ∃ fs fd i d, P.underlying t = some (.struct fs) ∧ fs[f]? = some fd ∧ fd.offset = off ∧
   P.info? fd.type = some i ∧ P.underlying fd.type = some d ∧ i.size = sz ∧ ji d = ag := by
 unfold gf at ht
 split at ht
 · rename_i fs h1
   split at ht
   · rename_i fd h2
     split at ht
     · rename_i sz' ag' h3
       obtain ⟨i, d, h4, h5, h6, h7⟩ := tg h3
       simp at ht
       obtain ⟨h8, rfl, rfl⟩ := ht
       exact ⟨fs, fd, i, d, h1, h2, h8, h4, h5, h6, h7⟩
     · cases ht
   · cases ht
 · cases ht

theorem r9 {t n sz : Nat} {ag : Bool} (ht : ah9 P t = some (n, sz, ag)) : ∃ e i d, P.underlying t = some (.array n e) ∧ P.info? e = some i ∧ P.underlying e = some d ∧ i.size = sz ∧ ji d = ag := by
 unfold ah9 at ht
 split at ht
 · rename_i n' e h1
   split at ht
   · rename_i sz' ag' h3
     obtain ⟨i, d, h4, h5, h6, h7⟩ := tg h3
     simp at ht
     obtain ⟨rfl, rfl, rfl⟩ := ht
     exact ⟨e, i, d, h1, h4, h5, h6, h7⟩
   · cases ht
 · cases ht

def nq (P : Program) (w : World) (m : Nat → Nat) (h : Hp) (av : Nat → Prop) (s : Sem Value) (K : V → Prop) : Prop :=
 ∃ v x, K x ∧ RV w m h av true v x ∧ s.run P w = .ok v w

theorem nq.mk' {s : Sem Value} {K : V → Prop} {v : Value} {x : V} (hk : K x) (hr : RV w m h av true v x) (he : s.run P w = .ok v w) : nq P w m h av s K := ⟨v, x, hk, hr, he⟩

theorem anv {op : BinOp} {k : IntKind} {a b : Int} {K : V → Prop} {t : TypeId} (hq : vh op k a b K) : nq P w m h av (binOp op t (.int k a) (.int k b)) K := by
 cases op <;> simp only [vh] at hq
 case add => exact .mk' hq (.int _ _) (by simp [binOp, Op.intArith])
 case sub => exact .mk' hq (.int _ _) (by simp [binOp, Op.intArith])
 case mul => exact .mk' hq (.int _ _) (by simp [binOp, Op.intArith])
 case quo => exact .mk' hq.2 (.int _ _) (by simp [binOp, Op.intDiv, hq.1])
 case rem => exact .mk' hq.2 (.int _ _) (by simp [binOp, Op.intDiv, hq.1])
 case and => exact .mk' hq (.int _ _) (by simp [binOp, Op.intBits, andI])
 case shr => exact .mk' hq.2 (.int _ _) (by simp [binOp, Op.shift, shrI, show ¬ b < 0 from Int.not_lt.2 hq.1])
 case eql => exact .mk' hq (.bool _) (by simp [binOp, Op.intCmp])
 case neq => exact .mk' hq (.bool _) (by simp [binOp, Op.intCmp])
 case lss => exact .mk' hq (.bool _) (by simp [binOp, Op.intCmp])
 case leq => exact .mk' hq (.bool _) (by simp [binOp, Op.intCmp])
 case gtr => exact .mk' hq (.bool _) (by simp [binOp, Op.intCmp])
 case geq => exact .mk' hq (.bool _) (by simp [binOp, Op.intCmp])

theorem an9 {op : BinOp} {a b : ByteArray} {K : V → Prop} {t : TypeId} (hq : va op a b K) : nq P w m h av (binOp op t (.string a) (.string b)) K := by
 cases op <;> simp only [va] at hq
 case add =>
   refine .mk' hq.2 (.str _) ?_
   have : ¬ (9223372036854775807 < ((a.size : Int) + (b.size : Int))) := by omega
   simp [binOp, Op.stringOp, this]
 case eql => exact .mk' hq (.bool _) (by simp [binOp, Op.stringOp])
 case neq => exact .mk' hq (.bool _) (by simp [binOp, Op.stringOp])
 case lss => exact .mk' hq (.bool _) (by simp [binOp, Op.stringOp])
 case leq => exact .mk' hq (.bool _) (by simp [binOp, Op.stringOp])
 case gtr => exact .mk' hq (.bool _) (by simp [binOp, Op.stringOp])
 case geq => exact .mk' hq (.bool _) (by simp [binOp, Op.stringOp])

theorem awz {t : TypeId} {d : TypeDesc} (hd : P.underlying t = some d) {u v : Value} {x y : V} {r : Bool} (hx : RV w m h av true u x) (hy : RV w m h av true v y) (he : eqV d x y = some r) (n : Nat) :
   (Op.equalIn (n + 1) t u v).run P w = .ok r w := by
 unfold eqV at he
 split at he
 · split at he
   · rename_i hk; subst hk
     simp at he; subst he
     cases hx; cases hy
     exact run_equalIn_int w n t _ _ _ _ hd
   · cases he
 · simp at he; subst he
   cases hx; cases hy
   exact run_equalIn_bool w n t _ _ hd
 · simp at he; subst he
   cases hx; cases hy
   exact run_equalIn_string w n t _ _ hd
 · cases he

theorem aa1 {xs ys : Array Value} {a b : List V} (hxs : xs.size = a.length) (hys : ys.size = b.length) (ha : ∀ i (hi : i < a.length), RV w m h av true (xs.getD i Go.undef) a[i])
   (hb : ∀ i (hi : i < b.length), RV w m h av true (ys.getD i Go.undef) b[i]) (n : Nat) : ∀ (fs : List Field) (i : Nat) (ds : List TypeDesc) (r : Bool), aad P fs i = some ds →
   eqL ds (a.drop i) (b.drop i) = some r → (Op.eqFields (n + 1) xs ys fs).run P w = .ok r w
 | [], i, ds, r, hf, he => by
   simp [aad] at hf; subst hf
   unfold eqL at he
   split at he
   · simp at he; subst he; rfl
   · rename_i heq _ _; cases heq
   · cases he
 | f :: fs, i, ds, r, hf, he => by
   simp only [aad] at hf
   split at hf
   · rename_i hc
     simp only [Bool.and_eq_true, beq_iff_eq, bne_iff_ne] at hc
     obtain ⟨hoff, hname⟩ := hc
     split at hf
     · rename_i inf d h1 h2
       split at hf
       · rename_i hty
         simp only [Bool.and_eq_true, beq_iff_eq] at hty
         cases hr : aad P fs (i + 1) with
         | none => simp [hr] at hf
         | some ds' =>
           simp [hr] at hf; subst hf
           have hia : i < a.length := by
             rcases Nat.lt_or_ge i a.length with h | h
             · exact h
             · rw [List.drop_of_length_le h] at he; simp [eqL] at he
           have hib : i < b.length := by
             rcases Nat.lt_or_ge i b.length with h | h
             · exact h
             · rw [List.drop_of_length_le h] at he; simp [eqL] at he
           rw [List.drop_eq_getElem_cons hia, List.drop_eq_getElem_cons hib] at he
           simp only [eqL] at he
           split at he
           · rename_i x y hx hy
             simp at he; subst he
             have hag : ji d = false := by
               have := hty.2
               cases d <;> simp_all [apf, ji]
             have one : ∀ {zs : Array Value} {c : List V} (hz : zs.size = c.length) (hc : ∀ i (hi : i < c.length), RV w m h av true (zs.getD i Go.undef) c[i]) (hi : i < c.length), ∃ v, (part f.type zs f.offset).run P w = .ok v w ∧ RV w m h av true v c[i] := by
               intro zs c hz hc hi
               obtain ⟨v, hv, hr⟩ := o8 (P := P) (w := w) (m := m) (h := h) (av := av) f.type inf d h1 h2 f.offset zs c hz hc (by rw [hoff, hty.1]; omega) (.inr hty.1)
               refine ⟨v, hv, ?_⟩
               rw [hag, hty.1, hoff] at hr
               rw [List.drop_eq_getElem_cons hi] at hr
               exact hr
             obtain ⟨u, hu, hru⟩ := one hxs ha hia
             obtain ⟨v, hv, hrv⟩ := one hys hb hib
             have heq := awz (P := P) h2 hru hrv hx n
             have ih := aa1 hxs hys ha hb n fs (i + 1) ds' y hr hy
             simp only [Op.eqFields]
             rw [if_pos hname]
             simp only [Sem.run_bind, hu, hv, heq, Result.andThen_ok]
             cases x
             · simp
             · simpa using ih
           · cases he
       · cases hf
     · cases hf
   · cases hf

theorem apl {op : BinOp} {x y : V} {u v : Value} {K : V → Prop} {t : TypeId} {ox oy : Operand} (hx : RV w m h av true u x) (hy : RV w m h av true v y) (hq : bin P op t x y K) :
   nq P w m h av (do eqGuard op t ox oy u v; binOp op t u v) K := by
 unfold bin at hq
 split at hq
 · obtain ⟨rfl, hq⟩ := hq
   cases hx; cases hy
   obtain ⟨v, x, h1, h2, h3⟩ := anv (P := P) (w := w) (m := m) (h := h) (av := av) (t := t) hq
   exact ⟨v, x, h1, h2, by simp [eqGuard_at_int, h3]⟩
 · cases hx; cases hy
   obtain ⟨v, x, h1, h2, h3⟩ := an9 (P := P) (w := w) (m := m) (h := h) (av := av) (t := t) hq
   exact ⟨v, x, h1, h2, by simp [eqGuard_at_string, h3]⟩
 · cases hx; cases hy
   obtain ⟨hb, hq⟩ := hq
   have hu : P.underlying t = some .bool := by
     unfold ye at hb
     split at hb
     · assumption
     · cases hb
   split at hq
   · exact .mk' hq (.bool _) (by simp [eqGuard_at_bool, run_eql_bool _ _ _ _ hu])
   · exact .mk' hq (.bool _) (by simp [eqGuard_at_bool, run_neq_bool _ _ _ _ hu])
   · exact hq.elim
 · cases hx with
   | agg xs a ha hra => cases hy with
     | agg ys b hb hrb =>
       split at hq
       · rename_i ds hfl
         split at hq
         · rename_i r heq
           unfold ak3 at hfl
           split at hfl
           · rename_i fs hu
             split at hfl
             · cases hfl
             · rename_i hc
               simp only [Bool.or_eq_true, not_or, Bool.not_eq_true] at hc
               have hfo : P.fieldsOf t = fs := by simp [Program.fieldsOf, hu]
               have hrun : (Op.equalIn 10000 t (.agg xs) (.agg ys)).run P w = .ok r w := by
                 rw [run_equalIn_struct w 9999 t xs ys (by rw [hfo]; exact hu) hc.1, hfo]
                 exact aa1 ha hb hra hrb 9998 fs.toList 0 ds r hfl (by simpa using heq)
               have hg : ∀ o, (eqGuard o t ox oy (.agg xs) (.agg ys)).run P w = .ok () w := fun o => run_eqGuard_agg w o t ox oy xs ys hc.2
               split at hq
               · exact .mk' hq (.bool _) (by simp only [Sem.run_bind, hg, Result.andThen_ok, run_eql_struct, hrun])
               · exact .mk' hq (.bool _) (by simp only [Sem.run_bind, hg, Result.andThen_ok, run_neq_struct, hrun])
               · exact hq.elim
           · cases hfl
         · exact hq.elim
       · exact hq.elim
 · exact hq.elim

theorem jn {t : TypeId} (hb : isStr P t = true) : P.underlying t = some .string := by
 unfold isStr at hb
 split at hb
 · assumption
 · cases hb
theorem sb {t : TypeId} (hb : uk P t = true) : ∃ e, P.underlying t = some (.slice e) := by
 unfold uk at hb
 split at hb
 · exact ⟨_, by assumption⟩
 · cases hb
theorem aiq {t : TypeId} {k : IntKind} (hb : uo P t = some k) : P.underlying t = some (.int k) := by
 unfold uo at hb
 split at hb
 · simp at hb; subst hb; assumption
 · cases hb

theorem alq {u : Value} {x : V} {t : TypeId} {K : V → Prop} (H : RH w m h av) (hx : RV w m h av true u x) (hq : n7 P h t x K) : nq P w m h av (Instr.loadAt t u) K := by
 unfold n7 at hq
 split at hq
 · rename_i sz ag ht
   obtain ⟨i, d, hi, hd, rfl, rfl⟩ := tg ht
   cases hx with
   | pt b off cs vals ha hv hr =>
     obtain ⟨h1, h2, h3⟩ := hq
     obtain ⟨v, hv, hr⟩ := uy (P := P) t i d hi hd b off cs (o := false) (fun j hj => ⟨_, hv j hj, hr j hj⟩) h1 h2
     exact .mk' h3 hr.rn (by simpa [Instr.loadAt, Instr.sureAddr] using hv)
   | ptr id off cs hid =>
     simp only [hid.1] at hq
     obtain ⟨h1, h2, h3⟩ := hq
     obtain ⟨v, hv, hr⟩ := uy (P := P) t i d hi hd (m id) off (cs.drop off) (o := true) (fun j hj => by
       obtain ⟨v, hv, hr⟩ := H.cell hid (i := off + j) (by simp at hj; omega)
       exact ⟨v, hv, by simpa using hr⟩) (by simp; omega) h2
     exact .mk' h3 hr (by simpa [Instr.loadAt, Instr.sureAddr] using hv)
   | _ => exact False.elim hq
 · exact hq.elim

theorem agq {u : Value} {x : V} {s : TypeId} {f : Nat} {K : V → Prop} (hx : RV w m h av true u x) (hq : ea P s f x K) : nq P w m h av (Instr.fieldAt s u f) K := by
 unfold ea at hq
 split at hq
 · rename_i off sz ag ht
   obtain ⟨fs, fd, i, d, h1, h2, rfl, h4, h5, rfl, h7⟩ := aae ht
   obtain ⟨hpos, hq⟩ := hq
   have hne : ¬ i.size = 0 := by omega
   have run : ∀ b o, (Instr.fieldAt s (.pointer (some ⟨b, o, none⟩)) f).run P w = .ok (.pointer (some ⟨b, o + fd.offset, none⟩)) w := by
     intro b o
     simp [Instr.fieldAt, run_underlying h1, h2, Instr.sureAddr, fieldPlace, sizeOf, typeInfo, h4, hne, Addr.add_lit]
   cases hx with
   | pt b o cs vals ha hv hr =>
     refine .mk' hq (.pt b (o + fd.offset) _ (fun j => vals (fd.offset + j)) (fun hne => ha (by rintro rfl; simp at hne)) (fun j hj => ?_) (fun j hj => ?_)) (run b o)
     · rw [Nat.add_assoc]; exact hv _ (by simp at hj; omega)
     · rw [List.getElem_drop]; exact hr _ _
   | ptr id o cs hid => exact .mk' hq (.ptr id _ cs hid) (run _ o)
   | _ => exact False.elim hq
 · exact hq.elim

theorem aq0 {u : Value} {x : V} {s : TypeId} {f : Nat} {K : V → Prop} (hx : RV w m h av true u x) (hq : xu P s f x K) : nq P w m h av (Instr.field s u f) K := by
 unfold xu at hq
 split at hq
 · rename_i off sz ag ht
   obtain ⟨fs, fd, i, d, h1, h2, rfl, h4, h5, rfl, rfl⟩ := aae ht
   cases hx with
   | agg a cs ha hra =>
     obtain ⟨h6, h7, hk⟩ := hq
     obtain ⟨v, hv, hr⟩ := o8 (P := P) (w := w) (m := m) (h := h) (av := av) fd.type i d h4 h5 fd.offset a cs ha hra h6 h7
     exact .mk' hk hr (by simp [Instr.field, run_underlying h1, h2, asAgg, hv])
   | _ => exact False.elim hq
 · exact hq.elim

theorem l3 (t e : TypeId) (i : TypeInfo) (ht : P.underlying t = some (.slice e)) (hi : P.info? e = some i) (b off n cap : Nat) (k : IntKind) (z : Int) (h0 : 0 ≤ z) (h1 : z < n) :
   (Instr.indexAt t (.slice (some ⟨b, off, none⟩) n cap) (.int k z)).run P w = .ok (.pointer (some ⟨b, off + z.toNat * i.size, none⟩)) w := by
 simp [Instr.indexAt, asIntOf, run_underlying ht, h0, h1, sizeOf, typeInfo, hi, Addr.add_lit]

theorem lq (t e l : TypeId) (i : TypeInfo) (ht : P.underlying t = some (.array l e)) (hi : P.info? e = some i) (b off : Nat) (k : IntKind) (z : Int) (h0 : 0 ≤ z) (h1 : z < l) :
   (Instr.indexAt t (.pointer (some ⟨b, off, none⟩)) (.int k z)).run P w = .ok (.pointer (some ⟨b, off + z.toNat * i.size, none⟩)) w := by
 simp [Instr.indexAt, Instr.sureAddr, asIntOf, run_underlying ht, h0, h1, sizeOf, typeInfo, hi, Addr.add_lit]

theorem ac8 {i n w L : Nat} (h : i < n) (hl : L = n * w) : i * w + w ≤ L := by
 subst hl
 calc i * w + w = (i + 1) * w := by rw [Nat.add_mul, Nat.one_mul]
   _ ≤ n * w := Nat.mul_le_mul_right _ h

theorem aha {u v : Value} {x : V} {k : IntKind} {z : Int} {t : TypeId} {K : V → Prop} (hx : RV w m h av true u x) (hv : v = .int k z) (hq : dp P t x z K) : nq P w m h av (Instr.indexAt t u v) K := by
 unfold dp at hq
 subst hv
 cases hx with
 | sl b off n cap wd cs vals hl ha hc hcell hr =>
   dsimp only at hq
   split at hq
   · rename_i e sz by_ he
     obtain ⟨i, h1, h2, rfl, h4⟩ := gy he
     obtain ⟨⟨h5, h6⟩, rfl, hk⟩ := hq
     have hzn : z.toNat < n := by omega
     have hroom : z.toNat * i.size + i.size ≤ cs.length := ac8 hzn hl
     refine .mk' hk (.pt b (off + z.toNat * i.size) _ (fun j => vals (z.toNat * i.size + j)) (fun hne => ha (by rintro rfl; simp at hne)) (fun j hj => ?_) (fun j hj => ?_)) (l3 t e i h1 h2 b off n cap k z h5 h6)
     · rw [Nat.add_assoc]; exact hcell _ (by simp at hj; omega)
     · simp only [List.getElem_take, List.getElem_drop]; exact hr _ _
   · exact hq.elim
 | slz a c wd =>
   dsimp only at hq
   split at hq
   · exact absurd hq.1 (by omega)
   · exact hq.elim
 | osl id off n cap wd cs hid hl hc hs =>
   dsimp only at hq
   split at hq
   · rename_i e sz by_ he
     obtain ⟨i, h1, h2, rfl, h4⟩ := gy he
     obtain ⟨⟨h5, h6⟩, rfl, hk⟩ := hq
     exact .mk' hk (.ptr id _ cs hid) (l3 t e i h1 h2 _ off n cap k z h5 h6)
   · exact hq.elim
 | ptr id off cs hid =>
   dsimp only at hq
   split at hq
   · rename_i n sz ag he
     obtain ⟨e, i, d, h1, h2, h3, rfl, rfl⟩ := r9 he
     obtain ⟨⟨h5, h6⟩, hk⟩ := hq
     exact .mk' hk (.ptr id _ cs hid) (lq t e n i h1 h2 _ off k z h5 h6)
   · exact hq.elim
 | pt b off cs vals ha hcell hr =>
   dsimp only at hq
   split at hq
   · rename_i n sz ag he
     obtain ⟨e, i, d, h1, h2, h3, rfl, rfl⟩ := r9 he
     obtain ⟨⟨h5, h6⟩, hk⟩ := hq
     refine .mk' hk (.pt b (off + z.toNat * i.size) _ (fun j => vals (z.toNat * i.size + j)) (fun hne => ha (by rintro rfl; simp at hne)) (fun j hj => ?_) (fun j hj => ?_)) (lq t e n i h1 h2 b off k z h5 h6)
     · rw [Nat.add_assoc]; exact hcell _ (by simp at hj; omega)
     · simp only [List.getElem_drop]; exact hr _ _
   · exact hq.elim
 | _ => exact False.elim hq

theorem apv {u v : Value} {x : V} {k : IntKind} {z : Int} {t : TypeId} {K : V → Prop} (hx : RV w m h av true u x) (hv : v = .int k z) (hq : s6 P t x z K) : nq P w m h av (Instr.index t u v) K := by
 unfold s6 at hq
 subst hv
 cases hx with
 | str s =>
   obtain ⟨hs, hi, hk⟩ := hq
   have hu := jn hs
   refine .mk' hk (.int _ _) ?_
   have hget : s[z.toNat]? = some (s[z.toNat]'hi.2) := by
     simp [getElem?_pos, hi.2]
   simp [Instr.index, asIntOf, run_underlying hu, hi.1, hget]
 | agg a cs ha hra =>
   dsimp only at hq
   split at hq
   · rename_i n sz ag he
     obtain ⟨e, i, d, h1, h2, h3, rfl, rfl⟩ := r9 he
     obtain ⟨⟨h5, h6⟩, h7, h8, hk⟩ := hq
     obtain ⟨v, hv, hr⟩ := o8 (P := P) (w := w) (m := m) (h := h) (av := av) e i d h2 h3 (z.toNat * i.size) a cs ha hra h7 h8
     exact .mk' hk hr (by simp [Instr.index, asIntOf, run_underlying h1, h5, h6, sizeOf, typeInfo, h2, hv])
   · exact hq.elim
 | _ => exact False.elim hq

end
end Go.Lv
end
section
open Go.MapKept (IsKey)
namespace Go.Lv

section
variable {P : Program} {w : World} {m : Nat → Nat} {h : Hp} {av : Nat → Prop}

theorem ahl {t e : TypeId} {i : TypeInfo} (ht : P.underlying t = some (.slice e)) (hi : P.info? e = some i) (b off n cap : Nat) (l u : Nat) (lo hi' : Option Value)
   (hb : (Instr.sliceBounds true n cap lo hi' none).run P w = .ok (l, u, cap) w) :
   (Instr.sliceAt t (.slice (some ⟨b, off, none⟩) n cap) lo hi' none).run P w = .ok (.slice (some (if cap = l then ⟨b, off, none⟩ else ⟨b, off + l * i.size, none⟩)) (u - l) (cap - l)) w := by
 simp only [Instr.sliceAt, Sem.run_bind, run_underlying ht, Result.andThen_ok, Instr.slice, hb, sizeOf, typeInfo, run_program, hi, Sem.run_pure]
 split <;> simp [Addr.add_lit]

theorem al3 {t e : TypeId} {i : TypeInfo} (ht : P.underlying t = some (.slice e)) (hi : P.info? e = some i) (a : Option Addr) (n cap : Nat) (l u : Nat) (lo hi' : Option Value)
   (hb : (Instr.sliceBounds true n cap lo hi' none).run P w = .ok (l, u, cap) w) :
   ∃ a', (Instr.sliceAt t (.slice a n cap) lo hi' none).run P w = .ok (.slice a' (u - l) (cap - l)) w := by
 refine ⟨if cap = l then a else a.map (·.add (l * i.size)), ?_⟩
 simp only [Instr.sliceAt, Sem.run_bind, run_underlying ht, Result.andThen_ok, Instr.slice, hb, sizeOf, typeInfo, run_program, hi, Sem.run_pure]

theorem al9 {t : TypeId} (ht : P.underlying t = some .string) (s : ByteArray) (l u : Nat) (lo hi' : Option Value) (x : Nat)
   (hb : (Instr.sliceBounds false s.size s.size lo hi' none).run P w = .ok (l, u, x) w) :
   (Instr.sliceAt t (.string s) lo hi' none).run P w = .ok (.string (s.extract l u)) w := by
 simp only [Instr.sliceAt, Sem.run_bind, run_underlying ht, Result.andThen_ok, Instr.slice]
 simp [hb]

theorem ko (b : Bool) (n cap : Nat) (lo : Option Value) (l : Int) (hlo : lo = none ∧ l = 0 ∨ ∃ k, lo = some (.int k l)) (h0 : 0 ≤ l) (h1 : l ≤ n) :
   (Instr.sliceBounds b n cap lo none none).run P w = .ok (l.toNat, n, cap) w := by
 rcases hlo with ⟨rfl, rfl⟩ | ⟨k, rfl⟩
 · simp [Instr.sliceBounds]
 · simp [Instr.sliceBounds, Instr.sliceBound, asIntOf, h0, h1]

theorem kp (b : Bool) (n cap : Nat) (lo : Option Value) (l : Int) (ku : IntKind) (u : Int) (hlo : lo = none ∧ l = 0 ∨ ∃ k, lo = some (.int k l)) (h0 : 0 ≤ l) (h1 : l ≤ u) (h2 : u ≤ cap) :
   (Instr.sliceBounds b n cap lo (some (.int ku u)) none).run P w = .ok (l.toNat, u.toNat, cap) w := by
 have h3 : 0 ≤ u := by omega
 rcases hlo with ⟨rfl, rfl⟩ | ⟨k, rfl⟩
 · simp [Instr.sliceBounds, Instr.sliceBound, asIntOf, h2, h3]
 · simp [Instr.sliceBounds, Instr.sliceBound, asIntOf, h0, h2, h3]
   intro h5
   omega

theorem rm {o : Bool} {v : Value} {k : IntKind} {z : Int} (hx : RV w m h av o v (.int k z)) : v = .int k z := by cases hx; rfl

theorem ayp {a : Operand → Value} {ρ : Operand → V} (hρ : ∀ x, RV w m h av true (a x) (ρ x)) {lo : Option Operand} {l : Int} (hl : ub ρ lo = some l) :
   lo.map a = none ∧ l = 0 ∨ ∃ k, lo.map a = some (.int k l) := by
 cases lo with
 | none => simp [ub] at hl; exact .inl ⟨rfl, hl.symm⟩
 | some x =>
   have hx := hρ x
   simp only [ub] at hl
   split at hl
   · rename_i k z he
     simp at hl; subst hl
     rw [he] at hx
     exact .inr ⟨k, by simp [rm hx]⟩
   · cases hl

theorem apt {a : Operand → Value} {ρ : Operand → V} (hρ : ∀ x, RV w m h av true (a x) (ρ x)) {x : Operand} {t : TypeId} {l : Int} {lo hi : Option Operand} {K : V → Prop}
   (hl : ub ρ lo = some l) (hq : ll P ρ t (ρ x) l hi K) : nq P w m h av (Instr.sliceAt t (a x) (lo.map a) (hi.map a) none) K := by
 have hx := hρ x
 have hlo := ayp hρ hl
 generalize ρ x = xv at hx hq
 generalize a x = u at hx
 unfold ll at hq
 cases hx with
 | sl b off n cap wd cs vals hl ha hc hcell hr =>
   dsimp only at hq
   split at hq
   · rename_i e sz by_ he
     obtain ⟨i, h1, h2, rfl, h4⟩ := gy he
     split at hq
     · obtain ⟨⟨h5, h6⟩, rfl, hk⟩ := hq
       have hrun := ahl (P := P) (w := w) h1 h2 b off n cap l.toNat n _ none (ko true n cap _ l hlo h5 h6)
       by_cases hz : n - l.toNat = 0
       · have hcs : cs.drop (l.toNat * i.size) = [] := by
           have : l.toNat = n := by omega
           rw [this, List.drop_eq_nil_iff, hl]
           exact Nat.le_refl _
         rw [hz] at hrun
         refine .mk' hk ?_ hrun
         rw [hcs, hz]
         exact .slz _ _ _
       · have hne : ¬ cap = l.toNat := by omega
         rw [if_neg hne] at hrun
         refine .mk' hk (.sl b (off + l.toNat * i.size) (n - l.toNat) (cap - l.toNat) i.size _ (fun j => vals (l.toNat * i.size + j)) (by simp [hl, Nat.sub_mul]) (fun hne => ha (by rintro rfl; simp at hne)) (by omega) (fun j hj => ?_) (fun j hj => ?_)) hrun
         · rw [Nat.add_assoc]; exact hcell _ (by simp at hj; omega)
         · rw [List.getElem_drop]; exact hr _ _
     · rename_i hh
       split at hq
       · rename_i ku u he2
         obtain ⟨⟨h5, h6, h7⟩, rfl, hk⟩ := hq
         have hu := hρ hh
         rw [he2] at hu
         have hrun := ahl (P := P) (w := w) h1 h2 b off n cap l.toNat u.toNat _ (some (.int ku u)) (kp true n cap _ l ku u hlo h5 h6 (by omega))
         have hmul : (u.toNat - l.toNat) * i.size + l.toNat * i.size ≤ cs.length := by
           rw [hl, ← Nat.add_mul]
           exact Nat.mul_le_mul_right _ (by omega)
         by_cases hz : u.toNat - l.toNat = 0
         · rw [hz] at hrun
           refine .mk' hk ?_ (by simpa [rm hu] using hrun)
           rw [hz, Nat.zero_mul, List.take_zero]
           exact .slz _ _ _
         · have hne : ¬ cap = l.toNat := by omega
           rw [if_neg hne] at hrun
           refine .mk' hk (.sl b (off + l.toNat * i.size) (u.toNat - l.toNat) (cap - l.toNat) i.size _ (fun j => vals (l.toNat * i.size + j)) (by simp; omega) (fun hne => ha (by rintro rfl; simp at hne)) (by omega) (fun j hj => ?_) (fun j hj => ?_)) (by simpa [rm hu] using hrun)
           · rw [Nat.add_assoc]; exact hcell _ (by simp at hj; omega)
           · simp only [List.getElem_take, List.getElem_drop]; exact hr _ _
       · exact hq.elim
   · exact hq.elim
 | slz ad c wd =>
   dsimp only at hq
   split at hq
   · rename_i e sz by_ he
     obtain ⟨i, h1, h2, rfl, h4⟩ := gy he
     split at hq
     · obtain ⟨⟨h5, h6⟩, rfl, hk⟩ := hq
       obtain ⟨a', hrun⟩ := al3 (P := P) (w := w) h1 h2 ad 0 c l.toNat 0 _ none (ko true 0 c _ l hlo h5 h6)
       refine .mk' hk ?_ hrun
       simp only [Nat.zero_sub, List.drop_nil]
       exact .slz _ _ _
     · rename_i hh
       split at hq
       · rename_i ku u he2
         obtain ⟨⟨h5, h6, h7⟩, rfl, hk⟩ := hq
         have hu := hρ hh
         rw [he2] at hu
         obtain ⟨a', hrun⟩ := al3 (P := P) (w := w) h1 h2 ad 0 c l.toNat u.toNat _ (some (.int ku u)) (kp true 0 c _ l ku u hlo h5 h6 (by omega))
         have hz : u.toNat - l.toNat = 0 := by omega
         rw [hz] at hrun
         refine .mk' hk ?_ (by simpa [rm hu] using hrun)
         rw [hz]
         simp only [Nat.zero_mul, List.take_zero]
         exact .slz _ _ _
       · exact hq.elim
   · exact hq.elim
 | osl id off n cap wd cs hid hl hc hs =>
   dsimp only at hq
   split at hq
   · rename_i e sz by_ he
     obtain ⟨i, h1, h2, rfl, h4⟩ := gy he
     split at hq
     · obtain ⟨⟨h5, h6⟩, rfl, hk⟩ := hq
       have hrun := ahl (P := P) (w := w) h1 h2 (m id) off n cap l.toNat n _ none (ko true n cap _ l hlo h5 (by omega))
       have e1 : l.toNat * i.size + (n - l.toNat) * i.size = n * i.size := by rw [← Nat.add_mul]; congr 1; omega
       have e2 : l.toNat * i.size + (cap - l.toNat) * i.size = cap * i.size := by rw [← Nat.add_mul]; congr 1; omega
       by_cases hlt : l = 0 ∨ l < n
       · rw [if_pos hlt] at hk
         have hrun' : (Instr.sliceAt t (.slice (some ⟨m id, off, none⟩) n cap) (lo.map a) (none.map a) none).run P w = .ok (.slice (some ⟨m id, off + l.toNat * i.size, none⟩) (n - l.toNat) (cap - l.toNat)) w := by
           show (Instr.sliceAt t (.slice (some ⟨m id, off, none⟩) n cap) (lo.map a) none none).run P w = _
           rw [hrun]
           by_cases hz : cap = l.toNat
           · have : l.toNat = 0 := by omega
             simp [hz, this]
           · rw [if_neg hz]
         exact .mk' hk (.osl id _ _ (cap - l.toNat) _ cs hid (by omega) (by omega) (by omega)) hrun'
       · rw [if_neg hlt] at hk
         have hz : n - l.toNat = 0 := by omega
         rw [hz] at hrun
         exact .mk' hk (.slz _ _ _) hrun
     · rename_i hh
       split at hq
       · rename_i ku u he2
         obtain ⟨⟨h5, h6, h7⟩, rfl, hk⟩ := hq
         have hu := hρ hh
         rw [he2] at hu
         have hrun := ahl (P := P) (w := w) h1 h2 (m id) off n cap l.toNat u.toNat _ (some (.int ku u)) (kp true n cap _ l ku u hlo h5 (by omega) (by omega))
         have e1 : l.toNat * i.size + (u.toNat - l.toNat) * i.size ≤ n * i.size := by rw [← Nat.add_mul]; exact Nat.mul_le_mul_right _ (by omega)
         have e2 : l.toNat * i.size + (cap - l.toNat) * i.size = cap * i.size := by rw [← Nat.add_mul]; congr 1; omega
         have hsome : (some hh).map a = some (.int ku u) := by simp [rm hu]
         by_cases hlt : l = 0 ∨ l < u
         · rw [if_pos hlt] at hk
           have hrun' : (Instr.sliceAt t (.slice (some ⟨m id, off, none⟩) n cap) (lo.map a) ((some hh).map a) none).run P w = .ok (.slice (some ⟨m id, off + l.toNat * i.size, none⟩) (u.toNat - l.toNat) (cap - l.toNat)) w := by
             rw [hsome, hrun]
             by_cases hz : cap = l.toNat
             · have : l.toNat = 0 := by omega
               simp [hz, this]
             · rw [if_neg hz]
           exact .mk' hk (.osl id _ _ (cap - l.toNat) _ cs hid (by omega) (by omega) (by omega)) hrun'
         · rw [if_neg hlt] at hk
           have hz : u.toNat - l.toNat = 0 := by omega
           rw [hz] at hrun
           exact .mk' hk (.slz _ _ _) (by rw [hsome]; exact hrun)
       · exact hq.elim
   · exact hq.elim
 | str s =>
   obtain ⟨hs, hq⟩ := hq
   have hu := jn hs
   split at hq
   · obtain ⟨⟨h5, h6⟩, hk⟩ := hq
     exact .mk' hk (.str _) (al9 hu s _ _ _ none _ (ko false s.size s.size _ l hlo h5 h6))
   · rename_i hh
     split at hq
     · rename_i ku u he2
       obtain ⟨⟨h5, h6, h7⟩, hk⟩ := hq
       have hu2 := hρ hh
       rw [he2] at hu2
       exact .mk' hk (.str _) (by simpa [rm hu2] using al9 (P := P) (w := w) hu s _ _ _ (some (.int ku u)) _ (kp false s.size s.size _ l ku u hlo h5 h6 h7))
     · exact hq.elim
 | _ => exact False.elim hq

theorem rj {a : Operand → Value} {ρ : Operand → V} (hρ : ∀ x, RV w m h av true (a x) (ρ x)) (xs : Array Operand) :
   (xs.map a).size = (xs.toList.map ρ).length ∧ ∀ i (hi : i < (xs.toList.map ρ).length), RV w m h av true ((xs.map a).getD i Go.undef) (xs.toList.map ρ)[i] := by
 refine ⟨by simp, fun i hi => ?_⟩
 have hi' : i < xs.size := by simpa using hi
 have : (xs.map a).getD i Go.undef = a xs[i] := by simp [Array.getD, hi']
 rw [this]
 simpa using hρ xs[i]

theorem kx {a : Value} {x : V} {K : IntKind → Int → Prop} (hx : RV w m h av true a x) (hq : ib x K) : ∃ k z, a = .int k z ∧ x = .int k z ∧ K k z := by
 cases hx with
 | int k n => exact ⟨k, n, rfl, rfl, hq⟩
 | _ => exact False.elim hq

theorem lh {a : Value} {x : V} {K : Bool → Prop} (hx : RV w m h av true a x) (hq : jv x K) : ∃ b, a = .bool b ∧ x = .bool b ∧ K b := by
 cases hx with
 | bool b => exact ⟨b, rfl, rfl, hq⟩
 | _ => exact False.elim hq

theorem axr {u : Value} {x : V} {t ty : TypeId} {K : V → Prop} (hx : RV w m h av true u x) (hq : abm P t x K) : nq P w m h av (Builtin.len_ #[t] ty #[u]) K := by
 unfold abm at hq
 cases hx with
 | sl b off n cap wd cs vals hl ha hc hv hr =>
   obtain ⟨e, he⟩ := sb hq.1
   exact .mk' hq.2 (.int _ _) (by simp [Builtin.len_, run_underlying he, goInt])
 | slz ad c wd =>
   obtain ⟨e, he⟩ := sb hq.1
   exact .mk' hq.2 (.int _ _) (by simp [Builtin.len_, run_underlying he, goInt])
 | osl id off n cap wd cs hid hl hc hs =>
   obtain ⟨e, he⟩ := sb hq.1
   exact .mk' hq.2 (.int _ _) (by simp [Builtin.len_, run_underlying he, goInt])
 | nilsl =>
   obtain ⟨e, he⟩ := sb hq.1
   exact .mk' hq.2 (.int _ _) (by simp [Builtin.len_, run_underlying he, goInt])
 | str s =>
   have he := jn hq.1
   exact .mk' hq.2 (.int _ _) (by simp [Builtin.len_, run_underlying he, goInt])
 | _ => exact False.elim hq

theorem zk {u : Value} {x : V} {s d : TypeId} {K : V → Prop} (hx : RV w m h av true u x) (hq : aa2 P s d x K) : nq P w m h av (convert s d u) K := by
 unfold aa2 at hq
 obtain ⟨h1, hq⟩ := hq
 obtain ⟨ds, hs⟩ := Option.isSome_iff_exists.1 h1
 cases hx with
 | int k n =>
   dsimp only at hq
   split at hq
   · rename_i k' h2
     have hd := aiq h2
     exact .mk' hq (.int _ _) (by cases ds <;> simp [convert, run_underlying hs, run_underlying hd, Conv.intToInt])
   · have hd := jn hq.1
     exact .mk' hq.2 (.str _) (by cases ds <;> simp [convert, run_underlying hs, run_underlying hd, Conv.intToString])
 | str b =>
   obtain ⟨h2, hq⟩ := hq
   have hd := jn h2
   exact .mk' hq (.str _) (by cases ds <;> simp [convert, run_underlying hs, run_underlying hd])
 | _ => exact False.elim hq

theorem aa9 : ∀ (cs : List V) (xs : List Int), nu cs = some xs → cs = xs.map (V.int .u8)
 | [], xs, h => by simp [nu] at h; subst h; rfl
 | c :: cs, xs, h => by
   cases c <;> try (simp [nu] at h; done)
   rename_i k n
   cases k <;> try (simp [nu] at h; done)
   simp only [nu, Option.map_eq_some_iff] at h
   obtain ⟨ys, h1, rfl⟩ := h
   rw [aa9 cs ys h1, List.map_cons]

theorem xj {s : TypeId} (h : si P s = true) : ∃ e, P.underlying s = some (.slice e) ∧ P.underlying e = some (.int .u8) := by
 unfold si at h
 split at h
 · rename_i e h1
   split at h
   · rename_i h2; exact ⟨e, h1, h2⟩
   · cases h
 · cases h

theorem aih (H : RH w m h av) {u : Value} {x : V} {s d : TypeId} {K : V → Prop} (hx : RV w m h av true u x) (hq : kl P h s d x K) : nq P w m h av (convert s d u) K := by
 cases hx with
 | osl id off n cap wd cs hid hl hc hs =>
   obtain ⟨⟨h1, h2, rfl⟩, hq⟩ := hq
   simp only [hid.1] at hq
   split at hq
   · rename_i xs hb
     obtain ⟨e, g1, g2⟩ := xj h1
     have hd := jn h2
     have hcs := aa9 _ _ hb
     have hlen : xs.length = n := by
       have := congrArg List.length hcs
       simp at this
       omega
     refine .mk' hq (.str _) (run_convert_bytes_arg w s e g1 g2 (m id) off n cap xs hlen (fun i hi => ?_) d hd)
     obtain ⟨v, h3, h4⟩ := H.cell hid (i := off + i) (by omega)
     rw [h3]
     have hg : cs[off + i]'(by omega) = .int .u8 (xs.getD i 0) := by
       have h5 : ((cs.drop off).take n)[i]? = (xs.map (V.int .u8))[i]? := by rw [hcs]
       rw [List.getElem?_take_of_lt hi, List.getElem?_drop, List.getElem?_eq_getElem (by omega), List.getElem?_map, List.getElem?_eq_getElem (by omega)] at h5
       simp only [Option.map_some, Option.some.injEq] at h5
       rw [h5, List.getD, List.getElem?_eq_getElem (by omega)]
       rfl
     rw [hg] at h4
     rw [rm h4]
   · exact hq.elim
 | undef => exact zk (.undef _) hq
 | skip => exact zk .skip hq
 | bool b => exact zk (.bool b) hq
 | int k n => exact zk (.int k n) hq
 | str b => exact zk (.str b) hq
 | _ => exact hq.2.elim

theorem s4 (d : TypeDesc) (k : Value) : ∀ (E : List MapEntry) (i : Nat), Instr.findNow d k E i = jr d k (E.map fun e => (e.key, e.val)) i
 | [], _ => rfl
 | e :: E, i => by
   simp only [Instr.findNow, List.map_cons, jr]
   rw [s4 d k E (i + 1)]
   cases Instr.sameNow d k e.key with
   | none => rfl
   | some b => cases b <;> rfl

theorem agj {v : Value} {y : V} {k : Value} (hy : RV w m h av true v y) (hk : aeu y = some k) : v = k := by
 cases hy <;> simp [aeu] at hk <;> exact hk

theorem ae9 {d : TypeDesc} {k : Value} (hk : wu d k = true) : IsKey d k := by
 cases d <;> cases k <;> simp_all [wu, IsKey]

theorem adw {t : TypeId} {d : TypeDesc} {z : V} (hm : mapOf P t = some (d, z)) : ∃ k e i zv, P.underlying t = some (.map k e) ∧ P.underlying k = some d ∧ P.info? e = some i ∧ i.zero = some zv ∧ z = lf zv := by
 unfold mapOf at hm
 split at hm
 · rename_i k e h1
   split at hm
   · rename_i d' i h2 h3
     split at hm
     · rename_i zv h4
       simp at hm
       obtain ⟨rfl, rfl⟩ := hm
       exact ⟨k, e, i, zv, h1, h2, h3, h4, rfl⟩
     · cases hm
   · cases hm
 · cases hm

theorem aok (H : RH w m h av) {u : Value} {id : Nat} (hx : RV w m h av true u (.mp id)) {es : List (Value × Value)} (hid : h[id]? = some (some [.mb es])) :
   u = .map (some (m id)) ∧ ∃ E c, w.heap[m id]? = some (.map E c) ∧ es = E.toList.map fun e => (e.key, e.val) := by
 cases hx with
 | mp id cs hid' hm =>
   refine ⟨rfl, ?_⟩
   rcases H.blk id _ hid with ⟨C, T, fr, h1, _, h2, h3⟩ | ⟨E, c, es', h1, h2, h3⟩
   · have := nh h3
     cases this
   · simp at h2; subst h2
     exact ⟨E, c, h1, h3⟩

theorem anw (H : RH w m h av) {t : TypeId} {x y : V} {u v : Value} {ok : Bool} {K : V → Prop} (hx : RV w m h av true u x) (hy : RV w m h av true v y) (hq : j5 P h t x y ok K) : nq P w m h av (Instr.lookup t u v ok) K := by
 unfold j5 at hq
 split at hq
 · rename_i id
   split at hq
   · rename_i es hid
     obtain ⟨rfl, E, c, hb, he⟩ := aok H hx hid
     split at hq
     · rename_i k d z hk hm
       obtain ⟨hko, hq⟩ := hq
       have := agj hy hk
       subst this
       obtain ⟨kt, e, i, zv, h1, h2, h3, h4, rfl⟩ := adw hm
       have hck := MapKept.run_checkKey (P := P) (w := w) h2 (ae9 hko) E.isEmpty 9999
       split at hq
       · rename_i j val hf
         rw [he, ← s4] at hf
         refine .mk' hq ?_ (v := if ok then .tuple #[val, .bool true] else val) ?_
         · cases ok
           · exact aa7 ..
           · refine .tup _ _ rfl (fun i hi => ?_)
             match i, hi with
             | 0, _ => exact aa7 ..
             | 1, _ => exact .bool _
         · simp [Instr.lookup, run_underlying h1, MapKept.run_getObj_map hb, hck, MapKept.run_findKey h2 hf]
       · rename_i hf
         rw [he, ← s4] at hf
         refine .mk' hq ?_ (v := if ok then .tuple #[zv, .bool false] else zv) ?_
         · cases ok
           · exact aa7 ..
           · refine .tup _ _ rfl (fun i hi => ?_)
             match i, hi with
             | 0, _ => exact aa7 ..
             | 1, _ => exact .bool _
         · simp [Instr.lookup, run_underlying h1, MapKept.run_getObj_map hb, hck, MapKept.run_findKey h2 hf, zeroValue, typeInfo, h3, h4]
       · exact hq.elim
     · exact hq.elim
   · exact hq.elim
 · exact hq.elim

theorem ak8 (H : RH w m h av) {a : Operand → Value} {ρ : Operand → V} (hρ : ∀ x, RV w m h av true (a x) (ρ x)) (o : Oper) {K : V → Prop} (hq : qop P h ρ o.op K) :
   ∃ v x, K x ∧ RV w m h av true v x ∧ (execOp a o).run P w = .ok (.value v) w := by
 have fin : ∀ {s : Sem Value}, nq P w m h av s K → (∀ v, s.run P w = .ok v w → (execOp a o).run P w = .ok (.value v) w) → ∃ v x, K x ∧ RV w m h av true v x ∧ (execOp a o).run P w = .ok (.value v) w :=
   fun ⟨v, x, h1, h2, h3⟩ h4 => ⟨v, x, h1, h2, h4 v h3⟩
 obtain ⟨dst, op, ty, pos, after, guard⟩ := o
 dsimp only at hq fin ⊢
 unfold qop at hq
 split at hq
 · rename_i x
   exact ⟨a x, _, hq, hρ x, rfl⟩
 · rename_i x
   exact ⟨a x, _, hq, hρ x, rfl⟩
 · rename_i c x y
   obtain ⟨t, h1, h2, hq⟩ := lh (hρ c) hq
   cases t
   · exact ⟨a y, _, hq, by simpa using hρ y, by simp [execOp, asBool, h1]⟩
   · exact ⟨a x, _, hq, by simpa using hρ x, by simp [execOp, asBool, h1]⟩
 · rename_i t x
   exact fin (alq H (hρ x) hq) (fun v hv => by simp [execOp, hv])
 · rename_i s x f
   exact fin (agq (hρ x) hq) (fun v hv => by simp [execOp, hv])
 · rename_i s x f
   exact fin (aq0 (hρ x) hq) (fun v hv => by simp [execOp, hv])
 · rename_i t x i
   obtain ⟨k, z, h1, h2, hq⟩ := kx (hρ i) hq
   exact fin (aha (hρ x) h1 hq) (fun v hv => by simp [execOp, hv])
 · rename_i t x i
   obtain ⟨k, z, h1, h2, hq⟩ := kx (hρ i) hq
   exact fin (apv (hρ x) h1 hq) (fun v hv => by simp [execOp, hv])
 · rename_i t x lo hi
   split at hq
   · exact hq.elim
   · rename_i l hl
     exact fin (apt hρ hl hq) (fun v hv => by simp [execOp, hv])
 · rename_i op t x y ty'
   exact fin (apl (ox := x) (oy := y) (hρ x) (hρ y) hq) (fun v hv => by simp only [execOp, Sem.run_bind, hv, Result.andThen_ok, Sem.run_pure])
 · rename_i t x
   obtain ⟨b, h1, h2, hq⟩ := lh (hρ x) hq
   exact ⟨.bool (!b), _, hq, .bool _, by simp [execOp, Op.unary, h1]⟩
 · rename_i t x
   obtain ⟨k, n, h1, h2, hq⟩ := kx (hρ x) hq
   exact ⟨.int k (k.wrap (0 - n)), _, hq, .int _ _, by simp [execOp, h1, Op.unary, Op.intArith]⟩
 · rename_i s d x
   exact fin (aih H (hρ x) hq) (fun v hv => by simp [execOp, hv])
 · rename_i x i
   have hx := hρ x
   generalize hu : a x = u at hx
   generalize ρ x = xv at hx hq
   cases hx with
   | tup ar vs ha hra =>
     unfold nr at hq
     dsimp only at hq
     split at hq
     · rename_i v hv
       have hlt : i < vs.length := (List.getElem?_eq_some_iff.1 hv).1
       have hr := hra i hlt
       rw [(List.getElem?_eq_some_iff.1 hv).2] at hr
       refine ⟨_, v, hq, hr, ?_⟩
       have hlt' : i < ar.size := by omega
       simp [execOp, hu, Instr.extract, Array.getD, hlt']
     · exact hq.elim
   | _ => exact False.elim hq
 · rename_i x
   have hx := hρ x
   generalize hu : a x = u at hx
   generalize ρ x = xv at hx hq
   cases hx with
   | ptr id off cs hid => exact ⟨_, _, hq, .ptr id off cs hid, by simp [execOp, hu]⟩
   | pt b off cs vals ha hv hr => exact ⟨_, _, hq, .pt b off cs vals ha hv hr, by simp [execOp, hu]⟩
   | fn f a1 c1 a' c' ha hc hra hrc =>
     cases f with
     | func f => exact ⟨_, _, hq, .fn _ a1 c1 _ _ ha hc hra hrc, by simp [execOp, hu]⟩
     | _ => exact False.elim hq
   | _ => exact False.elim hq
 · rename_i t x y ok
   exact fin (anw H (hρ x) (hρ y) hq) (fun v hv => by simp [execOp, hv])
 · rename_i f b c
   have hb := rj hρ b
   have hc := rj hρ c
   exact ⟨_, _, hq, .fn f _ _ _ _ hb.1 hc.1 hb.2 hc.2, by simp [execOp, Instr.makeFunc]⟩
 · rename_i x t
   exact fin (axr (ty := ty) (hρ x) hq) (fun v hv => by simp [execOp, resolve, invoke, builtin, hv])
 · rename_i x y _
   obtain ⟨k, p, h1, h2, hq⟩ := kx (hρ x) hq
   obtain ⟨k', q, h3, h4, hq⟩ := kx (hρ y) hq
   exact ⟨_, _, hq, .int _ _, by simp [execOp, resolve, invoke, builtin, h1, h3, run_max_int2]⟩
 · rename_i x y _
   obtain ⟨k, p, h1, h2, hq⟩ := kx (hρ x) hq
   obtain ⟨k', q, h3, h4, hq⟩ := kx (hρ y) hq
   exact ⟨_, _, hq, .int _ _, by simp [execOp, resolve, invoke, builtin, h1, h3, run_min_int2]⟩
 · exact hq.elim

end
end Go.Lv
end
section
namespace Go.Lv

structure St where
 t : List V
 h : Hp
 k : Nat

def St.put (s : St) (dst : Option Tmp) (v : V) : St :=
 match dst with
 | some d => { s with t := s.t.set d v }
 | none => s

def own (m : Nat → Nat) (h : Hp) (b : Nat) : Prop := ∃ id cs, h[id]? = some (some cs) ∧ m id = b

def avm (av0 : Nat → Prop) (m : Nat → Nat) (h : Hp) (b : Nat) : Prop := av0 b ∨ own m h b

def tabs : List (Nat × Array Value) := [(5, #[.int .u64 1, .int .u64 10, .int .u64 100, .int .u64 1000, .int .u64 10000, .int .u64 100000, .int .u64 1000000, .int .u64 10000000, .int .u64 100000000, .int .u64 1000000000, .int .u64 10000000000, .int .u64 100000000000, .int .u64 1000000000000, .int .u64 10000000000000, .int .u64 100000000000000, .int .u64 1000000000000000, .int .u64 10000000000000000, .int .u64 100000000000000000, .int .u64 1000000000000000000, .int .u64 10000000000000000000])]

def afo : List (Nat × Bool) := [(3, true), (0, false)]
def awt (e : Bool) (v : Value) : Prop := match e with
 | true => v = .nilIface ∨ ∃ t p, v = .iface t p
 | false => ∃ m, v = .int .i64 m

def GL (w : World) (av : Nat → Prop) : Prop := (∀ p ∈ tabs, ¬ av p.1 ∧ ∃ T fr, w.heap[p.1]? = some (.cells p.2 T fr)) ∧
 ∀ p ∈ afo, ¬ av p.1 ∧ ∃ C T fr v, w.heap[p.1]? = some (.cells C T fr) ∧ C[0]? = some v ∧ awt p.2 v
theorem GL.mono {w : World} {av av' : Nat → Prop} (h : GL w av) (ha : ∀ b, av' b → av b) : GL w av' :=
 ⟨fun p hp => ⟨fun h' => (h.1 p hp).1 (ha _ h'), (h.1 p hp).2⟩, fun p hp => ⟨fun h' => (h.2 p hp).1 (ha _ h'), (h.2 p hp).2⟩⟩
theorem GL.var {w : World} {av : Nat → Prop} (h : GL w av) {g : Nat} {e : Bool} (hg : (g, e) ∈ afo) : ∃ v, w.cell? ⟨g, 0, none⟩ = some v ∧ awt e v := by
 obtain ⟨_, C, T, fr, v, h1, h2, h3⟩ := h.2 _ hg
 refine ⟨v, ?_, h3⟩
 simp only at h1
 rw [cell_of_row w g 0 C T fr h1]
 exact h2

def okF (P : Program) (f : FuncId) : Bool :=
 match P.funcs[f]? with
 | some fn => !(fn.name == "runtime.NumGoroutine") && fn.body.isSome
 | none => false

abbrev IdOk (n : Nat) (m0 : Nat → Nat) (h0 : Hp) (id mid l : Nat) : Prop :=
 (id < h0.length ∧ ∃ c0, h0[id]? = some (some c0) ∧ c0.length ≤ l ∧ (mid = m0 id ∨ (c0.length < l ∧ n ≤ mid))) ∨ (h0.length ≤ id ∧ n ≤ mid)
def Ids (n : Nat) (m0 m : Nat → Nat) (h0 h : Hp) : Prop :=
 ∀ id cs, h[id]? = some (some cs) → IdOk n m0 h0 id (m id) cs.length

def Ctr (P : Program) (f : FuncId) (args : List V) (hin : Hp) (r : V) (hout : Hp) : Prop :=
 okF P f = true ∧ ∀ (w : World) (vs : Array Value) (m : Nat → Nat) (av : Nat → Prop),
   RH w m hin av → (∀ b, av b → b < w.heap.size) → GL w av → vs.size = args.length → (∀ i (hi : i < args.length), RV w m hin av true (vs.getD i Go.undef) args[i]) →
   Calls P f vs w fun e w' => ∃ v m', e = .returned v ∧ Ext (own m hin) w w' ∧ RH w' m' hout (avm av m' hout) ∧ RV w' m' hout (avm av m' hout) true v r ∧ Ids w.heap.size m m' hin hout

structure Inv (w0 : World) (m0 : Nat → Nat) (h0 : Hp) (av0 : Nat → Prop) (s : St) (a : Act) (w : World) (m : Nat → Nat) : Prop where
 rh : RH w m s.h (avm av0 m s.h)
 size : a.tmps.size = s.t.length
 slots : ∀ i (hi : i < s.t.length), RV w m s.h (avm av0 m s.h) true (a.tmps.getD i Go.undef) s.t[i]
 defers : a.defers = []
 ext : Ext (own m0 h0) w0 w
 ids : Ids w0.heap.size m0 m h0 s.h
 lt : ∀ b, av0 b → b < w0.heap.size
 lent : ∀ b, own m0 h0 b → av0 b
 gl : GL w0 av0
 k : s.k = h0.length
 len : h0.length ≤ s.h.length

section
variable {w0 : World} {m0 : Nat → Nat} {h0 : Hp} {av0 : Nat → Prop} {s : St} {a : Act} {w : World} {m : Nat → Nat}

theorem Inv.ev (I : Inv w0 m0 h0 av0 s a w m) (x : Operand) : RV w m s.h (avm av0 m s.h) true (a.eval x) (ev s.t x) := by
 cases x with
 | tmp t =>
   show RV w m s.h _ true (a.tmps.getD t Go.undef) (s.t.getD t .undef)
   by_cases ht : t < s.t.length
   · have := I.slots t ht
     rw [show s.t.getD t .undef = s.t[t] by simp [List.getD, ht]]
     exact this
   · rw [show s.t.getD t .undef = .undef by simp [List.getD, List.getElem?_eq_none (Nat.le_of_not_lt ht)]]
     exact .undef _
 | const v => exact a2v ..
 | global g => exact .undef _
 | func f => exact .fn _ _ _ _ _ rfl rfl (fun i hi => by simp at hi) (fun i hi => by simp at hi)

theorem aqg (a : Act) (d : Tmp) (v : Value) (i : Nat) : (a.put (some d) v).tmps.getD i Go.undef = if d = i ∧ i < a.tmps.size then v else a.tmps.getD i Go.undef := by
 show (a.tmps.setIfInBounds d v).getD i Go.undef = _
 rw [Array.getD_eq_getD_getElem?, Array.getD_eq_getD_getElem?, Array.getElem?_setIfInBounds]
 by_cases h1 : d = i
 · subst h1
   by_cases h2 : d < a.tmps.size
   · simp [h2]
   · simp [h2]
 · simp [h1]

theorem Inv.put (I : Inv w0 m0 h0 av0 s a w m) {dst : Option Tmp} {v : Value} {x : V} (hx : RV w m s.h (avm av0 m s.h) true v x) : Inv w0 m0 h0 av0 (s.put dst x) (a.put dst v) w m := by
 cases dst with
 | none => exact I
 | some d =>
   refine ⟨I.rh, ?_, ?_, I.defers, I.ext, I.ids, I.lt, I.lent, I.gl, I.k, I.len⟩
   · simp [St.put, Act.put, I.size]
   · intro i hi
     have hi' : i < s.t.length := by simpa [St.put] using hi
     rw [aqg]
     show RV w m s.h _ true _ ((s.t.set d x)[i]'(by simpa using hi'))
     rw [List.getElem_set]
     by_cases e : d = i
     · rw [if_pos ⟨e, by rw [I.size]; exact hi'⟩, if_pos e]
       exact hx
     · rw [if_neg (fun h => e h.1), if_neg e]
       exact I.slots i hi'

theorem ayh {w : World} {av : Nat → Prop} {m : Nat → Nat} {h : Hp} (H : RH w m h av) {b : Nat} (hb : own m h b) : b < w.heap.size := by
 obtain ⟨id, cs, h1, rfl⟩ := hb
 exact H.lt h1

theorem Inv.glw (I : Inv w0 m0 h0 av0 s a w m) : GL w (avm av0 m s.h) := by
 have key : ∀ (g : Nat), ¬ av0 g → g < w0.heap.size → ¬ avm av0 m s.h g ∧ w.heap[g]? = w0.heap[g]? := by
   intro g h1 hlt
   refine ⟨fun h => ?_, I.ext.block _ hlt (fun h => h1 (I.lent _ h))⟩
   rcases h with h | ⟨id, cs, h3, e⟩
   · exact h1 h
   · rcases I.ids id cs h3 with ⟨_, c0, h5, _, h4 | ⟨_, h4⟩⟩ | ⟨_, h4⟩
     · exact h1 (I.lent _ ⟨id, c0, h5, by rw [← h4, e]⟩)
     · omega
     · omega
 refine ⟨fun p hp => ?_, fun p hp => ?_⟩
 · obtain ⟨h1, T, fr, h2⟩ := I.gl.1 p hp
   obtain ⟨k1, k2⟩ := key p.1 h1 (Array.getElem?_eq_some_iff.1 h2).1
   exact ⟨k1, T, fr, by rw [k2]; exact h2⟩
 · obtain ⟨h1, C, T, fr, v, h2, h3⟩ := I.gl.2 p hp
   obtain ⟨k1, k2⟩ := key p.1 h1 (Array.getElem?_eq_some_iff.1 h2).1
   exact ⟨k1, C, T, fr, v, by rw [k2]; exact h2, h3⟩

theorem Inv.acd (I : Inv w0 m0 h0 av0 s a w m) {b : Nat} (hb : avm av0 m s.h b) : b < w.heap.size := by
 rcases hb with hb | hb
 · exact Nat.lt_of_lt_of_le (I.lt b hb) I.ext.size
 · exact ayh I.rh hb

theorem Inv.world (I : Inv w0 m0 h0 av0 s a w m) {w' : World} (hE : Ext (fun _ => False) w w') : Inv w0 m0 h0 av0 s a w' m := by
 have hstep : ∀ {o : Bool} {v : Value} {x : V}, RV w m s.h (avm av0 m s.h) o v x → RV w' m s.h (avm av0 m s.h) o v x :=
   fun hx => hx.step (fun b off v hb hc => ⟨hb, hE.cell hc (fun h => h)⟩) (fun id cs hid => ⟨cs, hid, Nat.le_refl _, rfl, hE.row _ (I.rh.lt hid), rfl⟩)
 refine ⟨⟨I.rh.inj, I.rh.avd, fun id cs hid => ?_⟩, I.size, fun i hi => hstep (I.slots i hi), I.defers, I.ext.trans' hE (fun _ _ h => h.elim), I.ids, I.lt, I.lent, I.gl, I.k, I.len⟩
 exact (I.rh.blk id cs hid).step (hE.block _ (I.rh.lt hid) (fun h => h)) (fun v x => hstep)

theorem nb {h : Hp} {b : Option (List V)} {id : Nat} {cs : List V} (hid : (h ++ [b])[id]? = some (some cs)) : h[id]? = some (some cs) ∨ (id = h.length ∧ b = some cs) := by
 rw [List.getElem?_append] at hid
 split at hid
 · exact .inl hid
 · rename_i hlt
   have : id - h.length = 0 := by
     rcases Nat.eq_zero_or_pos (id - h.length) with e | e
     · exact e
     · rw [List.getElem?_eq_none (by simp; omega)] at hid; cases hid
   rw [this] at hid
   simp at hid
   exact .inr ⟨by omega, hid⟩

def ew (m : Nat → Nat) (n b : Nat) : Nat → Nat := fun id => if id = n then b else m id

theorem ai8 {m : Nat → Nat} {n b id : Nat} (h : id < n) : ew m n b id = m id := if_neg (by omega)
theorem ec {m : Nat → Nat} {n b : Nat} : ew m n b n = b := if_pos rfl

theorem dy {h : Hp} {id : Nat} {x : Option (List V)} (hid : h[id]? = some x) : id < h.length := (List.getElem?_eq_some_iff.1 hid).1

theorem Inv.aqj (fr : Nat × Nat) (I : Inv w0 m0 h0 av0 s a w m) (C : Array Value) (T : TypeId) (cs : List V) (hfr : za fr C.size) (hl : cs.length ≤ C.size)
   (hc : ∀ i (hi : i < cs.length), RV w m s.h (avm av0 m s.h) true (C.getD i Go.undef) cs[i]) :
   Inv w0 m0 h0 av0 { s with h := s.h ++ [some cs] } a (w.alloc (.cells C T fr)) (ew m s.h.length w.heap.size) ∧
   (∀ {o : Bool} {v : Value} {x : V}, RV w m s.h (avm av0 m s.h) o v x → RV (w.alloc (.cells C T fr)) (ew m s.h.length w.heap.size) (s.h ++ [some cs]) (avm av0 (ew m s.h.length w.heap.size) (s.h ++ [some cs])) o v x) := by
 have hE : Ext (fun _ => False) w (w.alloc (.cells C T fr)) := Ext.alloc _ w _
 have hid0 : ∀ id c, s.h[id]? = some (some c) → ew m s.h.length w.heap.size id = m id := fun id c hid => ai8 (dy hid)
 have hown : ∀ b, own (ew m s.h.length w.heap.size) (s.h ++ [some cs]) b → own m s.h b ∨ b = w.heap.size := by
   rintro b ⟨id, c, h1, rfl⟩
   rcases nb h1 with h1 | ⟨rfl, _⟩
   · exact .inl ⟨id, c, h1, (hid0 id c h1).symm⟩
   · exact .inr ec
 have hav : ∀ b, b < w.heap.size → avm av0 (ew m s.h.length w.heap.size) (s.h ++ [some cs]) b → avm av0 m s.h b := by
   rintro b hb (h1 | h1)
   · exact .inl h1
   · rcases hown b h1 with h2 | h2
     · exact .inr h2
     · omega
 have hold : ∀ id c, s.h[id]? = some (some c) → (s.h ++ [some cs])[id]? = some (some c) := fun id c hid => by rw [List.getElem?_append_left (dy hid)]; exact hid
 have hstep : ∀ {o : Bool} {v : Value} {x : V}, RV w m s.h (avm av0 m s.h) o v x → RV (w.alloc (.cells C T fr)) (ew m s.h.length w.heap.size) (s.h ++ [some cs]) (avm av0 (ew m s.h.length w.heap.size) (s.h ++ [some cs])) o v x :=
   fun hx => hx.step (fun b off v hb hcell => ⟨fun h => hb (hav b (World.block_lt_of_cell? w _ hcell) h), hE.cell hcell (fun h => h)⟩)
     (fun id c hid => ⟨c, hold id c hid, Nat.le_refl _, hid0 id c hid, hE.row _ (I.rh.lt hid), rfl⟩)
 refine ⟨⟨⟨?_, ?_, ?_⟩, I.size, fun i hi => hstep (I.slots i hi), I.defers, I.ext.trans' hE (fun _ _ h => h.elim), ?_, I.lt, I.lent, I.gl, I.k, by simp; have := I.len; omega⟩, hstep⟩
 · intro i j ci cj h1 h2 he
   rcases nb h1 with h1 | ⟨rfl, _⟩ <;> rcases nb h2 with h2 | ⟨rfl, _⟩
   · rw [hid0 i ci h1, hid0 j cj h2] at he
     exact I.rh.inj i j ci cj h1 h2 he
   · rw [hid0 i ci h1, ec] at he
     have := I.rh.lt h1; omega
   · rw [hid0 j cj h2, ec] at he
     have := I.rh.lt h2; omega
   · rfl
 · intro id c h1
   exact .inr ⟨id, c, h1, rfl⟩
 · intro id c h1
   rcases nb h1 with h1 | ⟨rfl, h3⟩
   · rw [hid0 id c h1]
     exact (I.rh.blk id c h1).step (hE.block _ (I.rh.lt h1) (fun h => h)) (fun v x => hstep)
   · simp at h3; subst h3
     refine .inl ⟨C, T, fr, ?_, hfr, hl, fun i hi => hstep (hc i hi)⟩
     rw [ec]
     exact heap_alloc_new w _
 · intro id c h1
   rcases nb h1 with h1 | ⟨rfl, _⟩
   · rw [hid0 id c h1]
     exact I.ids id c h1
   · exact .inr ⟨I.len, by rw [ec]; exact I.ext.size⟩

theorem Inv.alloc (I : Inv w0 m0 h0 av0 s a w m) (C : Array Value) (T : TypeId) (cs : List V) (hl : cs.length ≤ C.size)
   (hc : ∀ i (hi : i < cs.length), RV w m s.h (avm av0 m s.h) true (C.getD i Go.undef) cs[i]) :
   Inv w0 m0 h0 av0 { s with h := s.h ++ [some cs] } a (w.alloc (.cells C T)) (ew m s.h.length w.heap.size) ∧
   (∀ {o : Bool} {v : Value} {x : V}, RV w m s.h (avm av0 m s.h) o v x → RV (w.alloc (.cells C T)) (ew m s.h.length w.heap.size) (s.h ++ [some cs]) (avm av0 (ew m s.h.length w.heap.size) (s.h ++ [some cs])) o v x) :=
 I.aqj (0, 0) C T cs (.inl rfl) hl hc

end
end Go.Lv
end
