/-
  A part of the proof: texts put together by a program of the prover. Conditions: none.
-/
import Derived.Eval
import Derived.Orders
import Derived.Below
import Derived.Laws.AppendOwn
import Derived.Laws.MakeOwn
import Derived.Laws.Entries
import Derived.Laws.Small
import Derived.MapKept
import Derived.Laws.StructEq
import Derived.Laws.BytesArg
import Derived.Laws.Slices
import Derived.Tactics
import Derived.Laws.Tables
set_option linter.unusedSimpArgs false
set_option linter.unusedVariables false
section
namespace Go.Lv

inductive V where
 | undef
 | skip
 | bool (b : Bool)
 | int (k : IntKind) (n : Int)
 | str (s : ByteArray)
 | nilsl
 | sl (n w : Nat) (cs : List V)
 | pt (cs : List V)
 | osl (id off n w : Nat)
 | ptr (id off : Nat)
 | fn (f : Fn) (first cap : List V)
 | agg (cs : List V)
 | tup (vs : List V)
 | lit (v : Value)
 | mp (id : Nat)
 | mb (es : List (Value × Value))

abbrev Hp := List (Option (List V))

def axl : V → Bool
 | .mb _ => true
 | _ => false
def ix : List V → Bool
 | [] => false
 | [x] => axl x
 | _ :: _ :: _ => false

def Cl (h : Hp) (id : Nat) (cs : List V) : Prop := h[id]? = some (some cs) ∧ ix cs = false

def dh (w : World) (b : Nat) : Nat :=
 match w.heap[b]? with
 | some (.cells c _ _) => c.size
 | _ => 0

inductive RV (w : World) (m : Nat → Nat) (h : Hp) (av : Nat → Prop) : Bool → Value → V → Prop
 | undef {o : Bool} (v : Value) : RV w m h av o v .undef
 | skip {o : Bool} : RV w m h av o Go.undef .skip
 | bool {o : Bool} (b : Bool) : RV w m h av o (.bool b) (.bool b)
 | int {o : Bool} (k : IntKind) (n : Int) : RV w m h av o (.int k n) (.int k n)
 | str {o : Bool} (s : ByteArray) : RV w m h av o (.string s) (.str s)
 | nilsl {o : Bool} : RV w m h av o (.slice none 0 0) .nilsl
 | slz {o : Bool} (a : Option Addr) (c wd : Nat) : RV w m h av o (.slice a 0 c) (.sl 0 wd [])
 | sl {o : Bool} (b off n cap wd : Nat) (cs : List V) (vals : Nat → Value) (hl : cs.length = n * wd) (ha : cs ≠ [] → ¬ av b) (hc : n ≤ cap)
  (hv : ∀ i, i < cs.length → w.cell? ⟨b, off + i, none⟩ = some (vals i)) (hr : ∀ i (hi : i < cs.length), RV w m h av false (vals i) cs[i]) :
  RV w m h av o (.slice (some ⟨b, off, none⟩) n cap) (.sl n wd cs)
 | pt {o : Bool} (b off : Nat) (cs : List V) (vals : Nat → Value) (ha : cs ≠ [] → ¬ av b)
  (hv : ∀ i, i < cs.length → w.cell? ⟨b, off + i, none⟩ = some (vals i)) (hr : ∀ i (hi : i < cs.length), RV w m h av false (vals i) cs[i]) :
  RV w m h av o (.pointer (some ⟨b, off, none⟩)) (.pt cs)
 | osl (id off n cap wd : Nat) (cs : List V) (hid : Cl h id cs) (hl : off + n * wd ≤ cs.length) (hc : n ≤ cap) (hs : off + cap * wd ≤ dh w (m id)) :
  RV w m h av true (.slice (some ⟨m id, off, none⟩) n cap) (.osl id off n wd)
 | ptr (id off : Nat) (cs : List V) (hid : Cl h id cs) : RV w m h av true (.pointer (some ⟨m id, off, none⟩)) (.ptr id off)
 | fn {o : Bool} (f : Fn) (a c : Array Value) (a' c' : List V) (ha : a.size = a'.length) (hc : c.size = c'.length)
  (hra : ∀ i (hi : i < a'.length), RV w m h av o (a.getD i Go.undef) a'[i]) (hrc : ∀ i (hi : i < c'.length), RV w m h av o (c.getD i Go.undef) c'[i]) :
  RV w m h av o (.func f a c) (.fn f a' c')
 | agg {o : Bool} (a : Array Value) (a' : List V) (ha : a.size = a'.length) (hra : ∀ i (hi : i < a'.length), RV w m h av o (a.getD i Go.undef) a'[i]) :
  RV w m h av o (.agg a) (.agg a')
 | tup {o : Bool} (a : Array Value) (a' : List V) (ha : a.size = a'.length) (hra : ∀ i (hi : i < a'.length), RV w m h av o (a.getD i Go.undef) a'[i]) :
  RV w m h av o (.tuple a) (.tup a')
 | lit {o : Bool} (v : Value) : RV w m h av o v (.lit v)
 | mp (id : Nat) (cs : List V) (hid : h[id]? = some (some cs)) (hm : ix cs = true) : RV w m h av true (.map (some (m id))) (.mp id)

structure Ext (O : Nat → Prop) (w w' : World) : Prop where
 os : w'.os = w.os
 tape : w'.tape = w.tape
 output : w'.output = w.output
 size : w.heap.size ≤ w'.heap.size
 block : ∀ k, k < w.heap.size → ¬ O k → w'.heap[k]? = w.heap[k]?
 row : ∀ k, k < w.heap.size → dh w k ≤ dh w' k

theorem Ext.refl (O : Nat → Prop) (w : World) : Ext O w w := ⟨rfl, rfl, rfl, Nat.le_refl _, fun _ _ _ => rfl, fun _ _ => Nat.le_refl _⟩
theorem Ext.trans {O : Nat → Prop} {a b c : World} (h : Ext O a b) (k : Ext O b c) : Ext O a c :=
 ⟨k.os.trans h.os, k.tape.trans h.tape, k.output.trans h.output, Nat.le_trans h.size k.size,
  fun i hi ho => (k.block i (Nat.lt_of_lt_of_le hi h.size) ho).trans (h.block i hi ho),
  fun i hi => Nat.le_trans (h.row i hi) (k.row i (Nat.lt_of_lt_of_le hi h.size))⟩
theorem Ext.trans' {O O' : Nat → Prop} {a b c : World} (h : Ext O a b) (k : Ext O' b c) (ho : ∀ i, i < a.heap.size → O' i → O i) : Ext O a c :=
 ⟨k.os.trans h.os, k.tape.trans h.tape, k.output.trans h.output, Nat.le_trans h.size k.size,
  fun i hi hn => (k.block i (Nat.lt_of_lt_of_le hi h.size) (fun h' => hn (ho i hi h'))).trans (h.block i hi hn),
  fun i hi => Nat.le_trans (h.row i hi) (k.row i (Nat.lt_of_lt_of_le hi h.size))⟩
theorem Ext.mono {O O' : Nat → Prop} {a b : World} (h : Ext O a b) (ho : ∀ i, i < a.heap.size → O i → O' i) : Ext O' a b :=
 ⟨h.os, h.tape, h.output, h.size, fun i hi hn => h.block i hi (fun h' => hn (ho i hi h')), h.row⟩
theorem Ext.cell {O : Nat → Prop} {w w' : World} (h : Ext O w w') {a : Addr} {v : Value} (hc : w.cell? a = some v) (ho : ¬ O a.block) : w'.cell? a = some v :=
 (World.cell?_of_block (h.block a.block (World.block_lt_of_cell? w a hc) ho)).trans hc
theorem Ext.drew (O : Nat → Prop) (w : World) : Ext O w w.drew := ⟨rfl, rfl, rfl, Nat.le_refl _, fun _ _ _ => rfl, fun _ _ => Nat.le_refl _⟩
theorem iw {w w' : World} {k : Nat} (h : w'.heap[k]? = w.heap[k]?) : dh w' k = dh w k := by simp [dh, h]
theorem Ext.alloc (O : Nat → Prop) (w : World) (o : Obj) : Ext O w (w.alloc o) := by
 have hb : ∀ k, k < w.heap.size → (w.alloc o).heap[k]? = w.heap[k]? := fun k hk => heap_alloc_old w o k hk
 exact ⟨rfl, rfl, rfl, by simp, fun k hk _ => hb k hk, fun k hk => Nat.le_of_eq (iw (hb k hk)).symm⟩
theorem Ext.setRow {O : Nat → Prop} {w : World} {g : Nat} {old cs : Array Value} {t : TypeId} {fr : Nat × Nat} (hg : w.heap[g]? = some (.cells old t fr)) (ho : O g) (hs : old.size ≤ cs.size) :
 Ext O w (w.setRow g cs) := by
 refine ⟨rfl, rfl, rfl, by simp, fun k _ hn => setRow_other w g k _ (fun e => hn (e ▸ ho)), fun k _ => ?_⟩
 by_cases e : k = g
 · subst e
   simp only [dh, setRow_heap w k old cs t fr hg, hg]
   exact hs
 · exact Nat.le_of_eq (iw (setRow_other w g k _ e)).symm

inductive R where
 | to (j : Nat)
 | kill
 | frz (cs : List V)

def ren (f : Nat → R) : Nat → V → V
 | _, .osl id off n w => match f id with
  | .to j => .osl j off n w
  | .kill => .undef
  | .frz cs => .sl n w ((cs.drop off).take (n * w))
 | _, .ptr id off => match f id with
  | .to j => .ptr j off
  | .kill => .undef
  | .frz cs => .pt (cs.drop off)
 | _, .mp id => match f id with
  | .to j => .mp j
  | .kill => .undef
  | .frz _ => .undef
 | _, .mb es => .mb es
 | d + 1, .agg cs => .agg (cs.map (ren f d))
 | d + 1, .tup cs => .tup (cs.map (ren f d))
 | d + 1, .fn g a c => .fn g (a.map (ren f d)) (c.map (ren f d))
 | 0, .agg _ => .undef
 | 0, .tup _ => .undef
 | 0, .fn _ _ _ => .undef
 | _, .undef => .undef
 | _, .skip => .skip
 | _, .bool b => .bool b
 | _, .int k n => .int k n
 | _, .str s => .str s
 | _, .nilsl => .nilsl
 | _, .sl n w cs => .sl n w cs
 | _, .pt cs => .pt cs
 | _, .lit v => .lit v

theorem er (f : Nat → R) (d : Nat) (l : List V) : ix (l.map (ren f d)) = ix l := by
 match l with
 | [] => rfl
 | _ :: _ :: _ => rfl
 | [x] =>
  cases x with
  | osl a b c e => cases d <;> (simp only [List.map_cons, List.map_nil, ren]; cases f a <;> rfl)
  | ptr a b => cases d <;> (simp only [List.map_cons, List.map_nil, ren]; cases f a <;> rfl)
  | mp a => cases d <;> (simp only [List.map_cons, List.map_nil, ren]; cases f a <;> rfl)
  | _ => cases d <;> rfl

structure Ren (w w' : World) (m m' : Nat → Nat) (h h' : Hp) (av av' : Nat → Prop) (f : Nat → R) : Prop where
 ro : ∀ b off v, ¬ av b → w.cell? ⟨b, off, none⟩ = some v → ¬ av' b ∧ w'.cell? ⟨b, off, none⟩ = some v
 to : ∀ id cs j, h[id]? = some (some cs) → f id = .to j → ∃ cs', h'[j]? = some (some cs') ∧ cs.length ≤ cs'.length ∧ m' j = m id ∧ dh w (m id) ≤ dh w' (m id) ∧ ix cs' = ix cs
 frz : ∀ id cs cs', h[id]? = some (some cs) → f id = .frz cs' → ix cs = false → cs'.length = cs.length ∧ ¬ av' (m id) ∧
  ∀ i (hi : i < cs'.length), ∃ v, w'.cell? ⟨m id, i, none⟩ = some v ∧ RV w' m' h' av' false v cs'[i]

theorem RV.se {w : World} {m : Nat → Nat} {h : Hp} {av : Nat → Prop} {o : Bool} {v : Value} {x : V} (hx : RV w m h av o v x) : RV w m h av true v x := by
 induction hx with
 | undef v => exact .undef v
 | skip => exact .skip
 | bool b => exact .bool b
 | int k n => exact .int k n
 | str s => exact .str s
 | nilsl => exact .nilsl
 | slz a c wd => exact .slz a c wd
 | sl b off n cap wd cs vals hl ha hc hv hr _ => exact .sl b off n cap wd cs vals hl ha hc hv hr
 | pt b off cs vals ha hv hr _ => exact .pt b off cs vals ha hv hr
 | osl id off n cap wd cs hid hl hc hs => exact .osl id off n cap wd cs hid hl hc hs
 | ptr id off cs hid => exact .ptr id off cs hid
 | fn f a c a' c' ha hc hra hrc iha ihc => exact .fn f a c a' c' ha hc iha ihc
 | agg a a' ha hra iha => exact .agg a a' ha iha
 | tup a a' ha hra iha => exact .tup a a' ha iha
 | lit v => exact .lit v
 | mp id cs hid hm => exact .mp id cs hid hm

section
variable {w w' : World} {m m' : Nat → Nat} {h h' : Hp} {av av' : Nat → Prop} {f : Nat → R}

theorem RV.x6 (hR : ∀ b off v, ¬ av b → w.cell? ⟨b, off, none⟩ = some v → ¬ av' b ∧ w'.cell? ⟨b, off, none⟩ = some v)
 {o : Bool} {v : Value} {x : V} (hx : RV w m h av o v x) : o = false → RV w' m' h' av' false v x := by
 induction hx with
 | undef v => exact fun _ => .undef v
 | skip => exact fun _ => .skip
 | bool b => exact fun _ => .bool b
 | int k n => exact fun _ => .int k n
 | str s => exact fun _ => .str s
 | nilsl => exact fun _ => .nilsl
 | slz a c wd => exact fun _ => .slz a c wd
 | sl b off n cap wd cs vals hl ha hc hv hr ih =>
  refine fun _ => .sl b off n cap wd cs vals hl (fun hne => ?_) hc (fun i hi => (hR b _ _ (ha (by rintro rfl; simp at hi)) (hv i hi)).2) (fun i hi => ih i hi rfl)
  exact (hR b _ _ (ha hne) (hv 0 (List.length_pos_iff.2 hne))).1
 | pt b off cs vals ha hv hr ih =>
  refine fun _ => .pt b off cs vals (fun hne => ?_) (fun i hi => (hR b _ _ (ha (by rintro rfl; simp at hi)) (hv i hi)).2) (fun i hi => ih i hi rfl)
  exact (hR b _ _ (ha hne) (hv 0 (List.length_pos_iff.2 hne))).1
 | osl id off n cap wd cs hid hl hc hs => intro e; cases e
 | ptr id off cs hid => intro e; cases e
 | fn f a c a' c' ha hc hra hrc iha ihc => exact fun e => .fn f a c a' c' ha hc (fun i hi => iha i hi e) (fun i hi => ihc i hi e)
 | agg a a' ha hra iha => exact fun e => .agg a a' ha (fun i hi => iha i hi e)
 | tup a a' ha hra iha => exact fun e => .tup a a' ha (fun i hi => iha i hi e)
 | lit v => exact fun _ => .lit v
 | mp id cs hid hm => intro e; cases e

theorem getD_map {f : V → V} {l : List V} {i : Nat} (hi : i < (l.map f).length) : (l.map f)[i] = f (l[i]'(by simpa using hi)) := by simp

theorem RV.ren (hR : Ren w w' m m' h h' av av' f) {o : Bool} {v : Value} {x : V} (hx : RV w m h av o v x) :
 ∀ d, RV w' m' h' av' true v (ren f d x) := by
 induction hx with
 | undef v => intro d; cases d <;> exact .undef v
 | skip => intro d; cases d <;> exact .skip
 | bool b => intro d; cases d <;> exact .bool b
 | int k n => intro d; cases d <;> exact .int k n
 | str s => intro d; cases d <;> exact .str s
 | nilsl => intro d; cases d <;> exact .nilsl
 | slz a c wd => intro d; cases d <;> exact .slz a c wd
 | sl b off n cap wd cs vals hl ha hc hv hr ih =>
  have := (RV.sl (m := m) (h := h) (o := false) b off n cap wd cs vals hl ha hc hv hr).x6 hR.ro (m' := m') (h' := h') rfl
  intro d; cases d <;> exact this.se
 | pt b off cs vals ha hv hr ih =>
  have := (RV.pt (m := m) (h := h) (o := false) b off cs vals ha hv hr).x6 hR.ro (m' := m') (h' := h') rfl
  intro d; cases d <;> exact this.se
 | osl id off n cap wd cs hid hl hc hs =>
  have key : RV w' m' h' av' true (.slice (some ⟨m id, off, none⟩) n cap) (match f id with
   | .to j => .osl j off n wd
   | .kill => .undef
   | .frz cs => .sl n wd ((cs.drop off).take (n * wd))) := by
   cases hf : f id with
   | to j =>
    obtain ⟨cs', h1, h2, h3, h4, h5⟩ := hR.to id cs j hid.1 hf
    simp only []
    rw [← h3] at hs h4 ⊢
    exact .osl j off n cap wd cs' ⟨h1, by rw [h5]; exact hid.2⟩ (by omega) hc (by omega)
   | kill => exact .undef _
   | frz cs' =>
    obtain ⟨h1, h2, h3⟩ := hR.frz id cs cs' hid.1 hf hid.2
    have hlen : ((cs'.drop off).take (n * wd)).length = n * wd := by simp; omega
    have hget : ∀ i (hi : i < ((cs'.drop off).take (n * wd)).length), ((cs'.drop off).take (n * wd))[i] = cs'[off + i]'(by simp at hi; omega) := by
     intro i hi; simp
    have hc3 : ∀ i, i < ((cs'.drop off).take (n * wd)).length → off + i < cs'.length := fun i hi => by simp at hi; omega
    refine .sl (m id) off n cap wd _ (fun i => ((w'.cell? ⟨m id, off + i, none⟩).getD Go.undef)) hlen (fun _ => h2) hc (fun i hi => ?_) (fun i hi => ?_)
    · obtain ⟨v, hv, _⟩ := h3 (off + i) (hc3 i hi)
      simp [hv]
    · obtain ⟨v, hv, hrv⟩ := h3 (off + i) (hc3 i hi)
      rw [hget i hi]
      simpa [hv] using hrv
  intro d; cases d <;> exact key
 | ptr id off cs hid =>
  have key : RV w' m' h' av' true (.pointer (some ⟨m id, off, none⟩)) (match f id with
   | .to j => .ptr j off
   | .kill => .undef
   | .frz cs => .pt (cs.drop off)) := by
   cases hf : f id with
   | to j =>
    obtain ⟨cs', h1, h2, h3, h4, h5⟩ := hR.to id cs j hid.1 hf
    simp only []
    rw [← h3]
    exact .ptr j off cs' ⟨h1, by rw [h5]; exact hid.2⟩
   | kill => exact .undef _
   | frz cs' =>
    obtain ⟨h1, h2, h3⟩ := hR.frz id cs cs' hid.1 hf hid.2
    have hc3 : ∀ i, i < (cs'.drop off).length → off + i < cs'.length := fun i hi => by simp at hi; omega
    refine .pt (m id) off _ (fun i => ((w'.cell? ⟨m id, off + i, none⟩).getD Go.undef)) (fun _ => h2) (fun i hi => ?_) (fun i hi => ?_)
    · obtain ⟨v, hv, _⟩ := h3 (off + i) (hc3 i hi)
      simp [hv]
    · obtain ⟨v, hv, hrv⟩ := h3 (off + i) (hc3 i hi)
      rw [List.getElem_drop]
      simpa [hv] using hrv
  intro d; cases d <;> exact key
 | fn g a c a' c' ha hc hra hrc iha ihc =>
  intro d
  cases d with
  | zero => exact .undef _
  | succ d => exact .fn g a c _ _ (by simpa using ha) (by simpa using hc) (fun i hi => by rw [getD_map hi]; exact iha i _ d) (fun i hi => by rw [getD_map hi]; exact ihc i _ d)
 | agg a a' ha hra iha =>
  intro d
  cases d with
  | zero => exact .undef _
  | succ d => exact .agg a _ (by simpa using ha) (fun i hi => by rw [getD_map hi]; exact iha i _ d)
 | tup a a' ha hra iha =>
  intro d
  cases d with
  | zero => exact .undef _
  | succ d => exact .tup a _ (by simpa using ha) (fun i hi => by rw [getD_map hi]; exact iha i _ d)
 | lit v => intro d; cases d <;> exact .lit v
 | mp id cs hid hm =>
  have key : RV w' m' h' av' true (.map (some (m id))) (match f id with
   | .to j => .mp j
   | .kill => .undef
   | .frz _ => .undef) := by
   cases hf : f id with
   | to j =>
    obtain ⟨cs', h1, h2, h3, h4, h5⟩ := hR.to id cs j hid hf
    simp only []
    rw [← h3]
    exact .mp j cs' h1 (by rw [h5]; exact hm)
   | kill => exact .undef _
   | frz cs => exact .undef _
  intro d; cases d <;> exact key

theorem RV.step (hro : ∀ b off v, ¬ av b → w.cell? ⟨b, off, none⟩ = some v → ¬ av' b ∧ w'.cell? ⟨b, off, none⟩ = some v)
 (hto : ∀ id cs, h[id]? = some (some cs) → ∃ cs', h'[id]? = some (some cs') ∧ cs.length ≤ cs'.length ∧ m' id = m id ∧ dh w (m id) ≤ dh w' (m id) ∧ ix cs' = ix cs)
 {o : Bool} {v : Value} {x : V} (hx : RV w m h av o v x) : RV w' m' h' av' o v x := by
 induction hx with
 | undef v => exact .undef v
 | skip => exact .skip
 | bool b => exact .bool b
 | int k n => exact .int k n
 | str s => exact .str s
 | nilsl => exact .nilsl
 | slz a c wd => exact .slz a c wd
 | sl b off n cap wd cs vals hl ha hc hv hr ih =>
  refine .sl b off n cap wd cs vals hl (fun hne => ?_) hc (fun i hi => (hro b _ _ (ha (by rintro rfl; simp at hi)) (hv i hi)).2) (fun i hi => ih i hi)
  exact (hro b _ _ (ha hne) (hv 0 (List.length_pos_iff.2 hne))).1
 | pt b off cs vals ha hv hr ih =>
  refine .pt b off cs vals (fun hne => ?_) (fun i hi => (hro b _ _ (ha (by rintro rfl; simp at hi)) (hv i hi)).2) (fun i hi => ih i hi)
  exact (hro b _ _ (ha hne) (hv 0 (List.length_pos_iff.2 hne))).1
 | osl id off n cap wd cs hid hl hc hs =>
  obtain ⟨cs', h1, h2, h3, h4, h5⟩ := hto id cs hid.1
  rw [← h3] at hs h4 ⊢
  exact .osl id off n cap wd cs' ⟨h1, by rw [h5]; exact hid.2⟩ (by omega) hc (by omega)
 | ptr id off cs hid =>
  obtain ⟨cs', h1, h2, h3, h4, h5⟩ := hto id cs hid.1
  rw [← h3]
  exact .ptr id off cs' ⟨h1, by rw [h5]; exact hid.2⟩
 | fn g a c a' c' ha hc hra hrc iha ihc => exact .fn g a c a' c' ha hc iha ihc
 | agg a a' ha hra iha => exact .agg a a' ha iha
 | tup a a' ha hra iha => exact .tup a a' ha iha
 | lit v => exact .lit v
 | mp id cs hid hm =>
  obtain ⟨cs', h1, h2, h3, h4, h5⟩ := hto id cs hid
  rw [← h3]
  exact .mp id cs' h1 (by rw [h5]; exact hm)
end

def aa2 (fr : Nat × Nat) (n : Nat) : Prop := fr = (0, 0) ∨ n ≤ fr.1
theorem aa2.zero (n : Nat) : aa2 (0, 0) n := .inl rfl
theorem aa2.not {w : World} {b j : Nat} {C : Array Value} {T : TypeId} {fr : Nat × Nat} (hb : w.heap[b]? = some (.cells C T fr)) (h : aa2 fr C.size) (hj : j < C.size) : w.frozen? ⟨b, j, none⟩ = false := by
 obtain ⟨lo, hi⟩ := fr
 rcases h with h | h
 · cases h; simp [World.frozen?, hb]
 · simp only [World.frozen?, hb]
   have : ¬ lo ≤ j := by dsimp only at h; omega
   simp [this]

def rr (w : World) (m : Nat → Nat) (h : Hp) (av : Nat → Prop) (b : Nat) (cs : List V) : Prop :=
 (∃ C T fr, w.heap[b]? = some (.cells C T fr) ∧ aa2 fr C.size ∧ cs.length ≤ C.size ∧ ∀ i (hi : i < cs.length), RV w m h av true (C.getD i Go.undef) cs[i]) ∨
 (∃ E c es, w.heap[b]? = some (.map E c) ∧ cs = [.mb es] ∧ es = E.toList.map fun e => (e.key, e.val))

theorem o9 {w : World} {m : Nat → Nat} {h : Hp} {av : Nat → Prop} {C : Array Value} {cs : List V} (hr : ∀ i (hi : i < cs.length), RV w m h av true (C.getD i Go.undef) cs[i]) : ix cs = false := by
 match cs, hr with
 | [], _ => rfl
 | _ :: _ :: _, _ => rfl
 | [x], hr =>
  have := hr 0 (by simp)
  generalize C.getD 0 Go.undef = v at this
  simp only [List.getElem_cons_zero] at this
  cases x <;> first | rfl | cases this

section
variable {w w' : World} {m m' : Nat → Nat} {h h' : Hp} {av av' : Nat → Prop} {b b' : Nat} {cs : List V}

theorem rr.lt (H : rr w m h av b cs) : b < w.heap.size := by
 rcases H with ⟨C, T, fr, h1, _⟩ | ⟨E, c, es, h1, _⟩ <;> exact (Array.getElem?_eq_some_iff.1 h1).1

theorem rr.cells (H : rr w m h av b cs) (hn : ix cs = false) : ∃ C T fr, w.heap[b]? = some (.cells C T fr) ∧ aa2 fr C.size ∧ cs.length ≤ C.size ∧ ∀ i (hi : i < cs.length), RV w m h av true (C.getD i Go.undef) cs[i] := by
 rcases H with H | ⟨E, c, es, h1, rfl, _⟩
 · exact H
 · cases hn

theorem rr.map (H : rr w m h av b cs) (hb : w'.heap[b']? = w.heap[b]?) {f : V → V} (hf : ∀ es, f (.mb es) = .mb es) (hs : ∀ v x, RV w m h av true v x → RV w' m' h' av' true v (f x)) : rr w' m' h' av' b' (cs.map f) := by
 rcases H with ⟨C, T, fr, h1, hfr, h2, h3⟩ | ⟨E, c, es, h1, rfl, h3⟩
 · exact .inl ⟨C, T, fr, hb.trans h1, hfr, by simpa using h2, fun i hi => by rw [List.getElem_map]; exact hs _ _ (h3 i (by simpa using hi))⟩
 · exact .inr ⟨E, c, es, hb.trans h1, by simp [hf], h3⟩

theorem rr.step (H : rr w m h av b cs) (hb : w'.heap[b']? = w.heap[b]?) (hs : ∀ v x, RV w m h av true v x → RV w' m' h' av' true v x) : rr w' m' h' av' b' cs := by
 have := H.map (f := fun x => x) hb (fun _ => rfl) hs
 simpa using this
theorem kh (f : Nat → R) (d : Nat) (es : List (Value × Value)) : ren f d (.mb es) = .mb es := by cases d <;> rfl
end

structure RH (w : World) (m : Nat → Nat) (h : Hp) (av : Nat → Prop) : Prop where
 inj : ∀ i j ci cj, h[i]? = some (some ci) → h[j]? = some (some cj) → m i = m j → i = j
 avd : ∀ id cs, h[id]? = some (some cs) → av (m id)
 blk : ∀ id cs, h[id]? = some (some cs) → rr w m h av (m id) cs

theorem RH.lt {w : World} {m : Nat → Nat} {h : Hp} {av : Nat → Prop} (H : RH w m h av) {id : Nat} {cs : List V} (hid : h[id]? = some (some cs)) : m id < w.heap.size := by
 exact (H.blk id cs hid).lt

theorem RH.cell {w : World} {m : Nat → Nat} {h : Hp} {av : Nat → Prop} (H : RH w m h av) {id : Nat} {cs : List V} (hid : Cl h id cs) {i : Nat} (hi : i < cs.length) :
 ∃ v, w.cell? ⟨m id, i, none⟩ = some v ∧ RV w m h av true v cs[i] := by
 obtain ⟨C, T, fr, hb, _, hl, hc⟩ := (H.blk id cs hid.1).cells hid.2
 refine ⟨C.getD i Go.undef, ?_, hc i hi⟩
 rw [cell_of_row w (m id) i C T fr hb]
 simp [Array.getD, show i < C.size from by omega]

end Go.Lv
end
section
namespace Go.Lv

def lf : Value → V
 | .bool b => .bool b
 | .int k n => .int k n
 | .string s => .str s
 | .slice none 0 0 => .nilsl
 | v => .lit v

def cv : Value → V
 | .agg cs => .agg (cs.toList.map lf)
 | v => lf v

theorem acn (w : World) (m : Nat → Nat) (h : Hp) (av : Nat → Prop) (o : Bool) (v : Value) : RV w m h av o v (lf v) := by
 unfold lf
 split <;> first | exact .bool _ | exact .int _ _ | exact .str _ | exact .nilsl | exact .lit _

theorem a4z (w : World) (m : Nat → Nat) (h : Hp) (av : Nat → Prop) (o : Bool) (v : Value) : RV w m h av o v (cv v) := by
 unfold cv
 split
 · rename_i cs
   refine .agg cs _ (by simp) (fun i hi => ?_)
   have hi' : i < cs.size := by simpa using hi
   simp only [List.getElem_map, Array.getElem_toList]
   have : cs.getD i Go.undef = cs[i] := by simp [Array.getD, hi']
   rw [this]
   exact acn w m h av o _
 · exact acn w m h av o v

def ev (t : List V) : Operand → V
 | .tmp i => t.getD i .undef
 | .const v => cv v
 | .global _ => .undef
 | .func f => .fn (.func f) [] []

def j2 : TypeDesc → Bool
 | .struct _ => true
 | .array _ _ => true
 | _ => false

def jl (P : Program) (t : TypeId) : Option (Nat × Bool) :=
 match P.info? t, P.underlying t with
 | some i, some d => some (i.size, j2 d)
 | _, _ => none

def jo (P : Program) (t : TypeId) : Option (TypeId × Nat × Nat) :=
 match P.underlying t with
 | some (.slice e) => match P.info? e with
  | some i => some (e, i.size, i.bytes)
  | none => none
 | _ => none

def kr (P : Program) (t : TypeId) (f : Nat) : Option (Nat × Nat × Bool) :=
 match P.underlying t with
 | some (.struct fs) => match fs[f]? with
  | some fd => match jl P fd.type with
   | some (sz, ag) => some (fd.offset, sz, ag)
   | none => none
  | none => none
 | _ => none

def alr (P : Program) (t : TypeId) : Option (Nat × Nat × Bool) :=
 match P.underlying t with
 | some (.array n e) => match jl P e with
  | some (sz, ag) => some (n, sz, ag)
  | none => none
 | _ => none

def zeroOf (P : Program) (t : TypeId) : Option (List V) :=
 match P.info? t with
 | some i => match i.zero with
  | some z => some (z.cells.toList.map lf)
  | none => none
 | none => none

def isStr (P : Program) (t : TypeId) : Bool :=
 match P.underlying t with
 | some .string => true
 | _ => false

def aav (P : Program) (t : TypeId) : Bool :=
 match P.underlying t with
 | some .bool => true
 | _ => false

def abe (P : Program) (t : TypeId) : Bool :=
 match P.underlying t with
 | some (.pointer _) => true
 | _ => false

def x8 (P : Program) (t : TypeId) : Bool :=
 match P.underlying t with
 | some (.slice _) => true
 | _ => false

def xf (P : Program) (t : TypeId) : Option IntKind :=
 match P.underlying t with
 | some (.int k) => some k
 | _ => none

def mk : Bool → List V → V
 | true, l => .agg l
 | false, l => l.getD 0 .undef

def cells : V → List V
 | .agg cs => cs
 | v => [v]

def ai9 (k : IntKind) (a b : Int) : Int := k.wrap (((BitVec.ofInt k.bits a &&& BitVec.ofInt k.bits b).toNat : Nat) : Int)
def aps (k : IntKind) (a b : Int) : Int := a.fdiv (2 ^ (min b.toNat k.bits))

def xl (op : BinOp) (k : IntKind) (a b : Int) (K : V → Prop) : Prop :=
 match op with
 | .add => K (.int k (k.wrap (a + b)))
 | .sub => K (.int k (k.wrap (a - b)))
 | .mul => K (.int k (k.wrap (a * b)))
 | .quo => b ≠ 0 ∧ K (.int k (k.wrap (a.tdiv b)))
 | .rem => b ≠ 0 ∧ K (.int k (a.tmod b))
 | .and => K (.int k (ai9 k a b))
 | .shr => 0 ≤ b ∧ K (.int k (aps k a b))
 | .eql => K (.bool (a == b))
 | .neq => K (.bool (a != b))
 | .lss => K (.bool (decide (a < b)))
 | .leq => K (.bool (decide (a ≤ b)))
 | .gtr => K (.bool (decide (b < a)))
 | .geq => K (.bool (decide (b ≤ a)))
 | _ => False

def xg (op : BinOp) (x y : ByteArray) (K : V → Prop) : Prop :=
 match op with
 | .add => x.size + y.size ≤ 9223372036854775807 ∧ K (.str (x ++ y))
 | .eql => K (.bool (x.toList == y.toList))
 | .neq => K (.bool (!(x.toList == y.toList)))
 | .lss => K (.bool (Op.bytesLess x.toList y.toList))
 | .leq => K (.bool (Op.bytesLess x.toList y.toList || x.toList == y.toList))
 | .gtr => K (.bool (!(Op.bytesLess x.toList y.toList || x.toList == y.toList)))
 | .geq => K (.bool (!(Op.bytesLess x.toList y.toList)))
 | _ => False

def eqV : TypeDesc → V → V → Option Bool
 | .int _, .int k a, .int k' b => if k = k' then some (a == b) else none
 | .bool, .bool a, .bool b => some (a == b)
 | .string, .str a, .str b => some (a.toList == b.toList)
 | _, _, _ => none
def eqL : List TypeDesc → List V → List V → Option Bool
 | [], [], [] => some true
 | d :: ds, a :: l, b :: l' => match eqV d a b, eqL ds l l' with
  | some x, some y => some (x && y)
  | _, _ => none
 | _, _, _ => none

def arw : TypeDesc → Bool
 | .int _ => true
 | .bool => true
 | .string => true
 | _ => false

def abv (P : Program) : List Field → Nat → Option (List TypeDesc)
 | [], _ => some []
 | f :: fs, i => if f.offset == i && f.name != "_" then match P.info? f.type, P.underlying f.type with
  | some inf, some d => if inf.size == 1 && arw d then (abv P fs (i + 1)).map (d :: ·) else none
  | _, _ => none else none

def xh (P : Program) (t : TypeId) : Option (List TypeDesc) :=
 match P.underlying t with
 | some (.struct fs) => if P.stoodInHeld t || P.eqGuardType P.depth t then none else abv P fs.toList 0
 | _ => none

def kO : Operand → Bool
 | .const _ => true
 | _ => false
def axj (P : Program) (t : TypeId) : Bool := match P.underlying t with
 | some (.interface _) => true
 | _ => false
def azk (c : Bool) : Value → Value → Option Bool
 | .nilIface, .nilIface => if c then some true else none
 | .iface _ _, .nilIface => some false
 | _, _ => none

def bin (P : Program) (op : BinOp) (t : TypeId) (c : Bool) (x y : V) (K : V → Prop) : Prop :=
 match x, y with
 | .lit a, .lit b => axj P t = true ∧ match azk c a b with
  | some r => match op with
   | .eql => K (.bool r)
   | .neq => K (.bool (!r))
   | _ => False
  | none => False
 | .int k a, .int k' b => k = k' ∧ xl op k a b K
 | .str a, .str b => xg op a b K
 | .bool a, .bool b => aav P t = true ∧ match op with
  | .eql => K (.bool (a == b))
  | .neq => K (.bool (!(a == b)))
  | _ => False
 | .agg a, .agg b => match xh P t with
  | some ds => match eqL ds a b with
   | some r => match op with
    | .eql => K (.bool r)
    | .neq => K (.bool (!r))
    | _ => False
   | none => False
  | none => False
 | _, _ => False

def pq (P : Program) (h : Hp) (t : TypeId) (x : V) (K : V → Prop) : Prop :=
 match jl P t with
 | some (sz, ag) => match x with
  | .pt cs => sz ≤ cs.length ∧ (ag = true ∨ sz = 1) ∧ K (mk ag (cs.take sz))
  | .ptr id off => match h[id]? with
   | some (some cs) => off + sz ≤ cs.length ∧ (ag = true ∨ sz = 1) ∧ K (mk ag ((cs.drop off).take sz))
   | _ => False
  | _ => False
 | none => False

def ff (P : Program) (s : TypeId) (f : Nat) (x : V) (K : V → Prop) : Prop :=
 match kr P s f with
 | some (off, sz, _) => 0 < sz ∧ match x with
  | .pt cs => K (.pt (cs.drop off))
  | .ptr id o => K (.ptr id (o + off))
  | _ => False
 | none => False

def yx (P : Program) (s : TypeId) (f : Nat) (x : V) (K : V → Prop) : Prop :=
 match kr P s f with
 | some (off, sz, ag) => match x with
  | .agg cs => off + sz ≤ cs.length ∧ (ag = true ∨ sz = 1) ∧ K (mk ag ((cs.drop off).take sz))
  | _ => False
 | none => False

def eo (P : Program) (t : TypeId) (x : V) (z : Int) (K : V → Prop) : Prop :=
 match x with
 | .sl n w cs => match jo P t with
  | some (_, sz, _) => (0 ≤ z ∧ z < n) ∧ w = sz ∧ K (.pt ((cs.drop (z.toNat * w)).take w))
  | none => False
 | .osl id off n w => match jo P t with
  | some (_, sz, _) => (0 ≤ z ∧ z < n) ∧ w = sz ∧ K (.ptr id (off + z.toNat * w))
  | none => False
 | .ptr id off => match alr P t with
  | some (n, sz, _) => (0 ≤ z ∧ z < n) ∧ K (.ptr id (off + z.toNat * sz))
  | none => False
 | .pt cs => match alr P t with
  | some (n, sz, _) => (0 ≤ z ∧ z < n) ∧ K (.pt (cs.drop (z.toNat * sz)))
  | none => False
 | _ => False

def u7 (P : Program) (t : TypeId) (x : V) (z : Int) (K : V → Prop) : Prop :=
 match x with
 | .str s => isStr P t = true ∧ ∃ hi : 0 ≤ z ∧ z.toNat < s.size, K (.int .u8 ((s[z.toNat]'hi.2).toNat : Int))
 | .agg cs => match alr P t with
  | some (n, sz, ag) => (0 ≤ z ∧ z < n) ∧ z.toNat * sz + sz ≤ cs.length ∧ (ag = true ∨ sz = 1) ∧ K (mk ag ((cs.drop (z.toNat * sz)).take sz))
  | none => False
 | _ => False

def vz (ρ : Operand → V) : Option Operand → Option Int
 | none => some 0
 | some l => match ρ l with
  | .int _ l => some l
  | _ => none

def nz (P : Program) (ρ : Operand → V) (t : TypeId) (x : V) (l : Int) (hi : Option Operand) (K : V → Prop) : Prop :=
 match x with
 | .sl n w cs => match jo P t with
  | some (_, sz, _) => match hi with
   | none => (0 ≤ l ∧ l ≤ n) ∧ w = sz ∧ K (.sl (n - l.toNat) w (cs.drop (l.toNat * w)))
   | some hh => match ρ hh with
    | .int _ u => (0 ≤ l ∧ l ≤ u ∧ u ≤ n) ∧ w = sz ∧ K (.sl (u.toNat - l.toNat) w ((cs.drop (l.toNat * w)).take ((u.toNat - l.toNat) * w)))
    | _ => False
  | none => False
 | .osl id off n w => match jo P t with
  | some (_, sz, _) => match hi with
   | none => (0 ≤ l ∧ l ≤ n) ∧ w = sz ∧ K (if l = 0 ∨ l < n then .osl id (off + l.toNat * w) (n - l.toNat) w else .sl 0 w [])
   | some hh => match ρ hh with
    | .int _ u => (0 ≤ l ∧ l ≤ u ∧ u ≤ n) ∧ w = sz ∧ K (if l = 0 ∨ l < u then .osl id (off + l.toNat * w) (u.toNat - l.toNat) w else .sl 0 w [])
    | _ => False
  | none => False
 | .str s => isStr P t = true ∧ match hi with
  | none => (0 ≤ l ∧ l ≤ s.size) ∧ K (.str (s.extract l.toNat s.size))
  | some hh => match ρ hh with
   | .int _ u => (0 ≤ l ∧ l ≤ u ∧ u ≤ s.size) ∧ K (.str (s.extract l.toNat u.toNat))
   | _ => False
 | _ => False

def ac5 (P : Program) (t : TypeId) (x : V) (K : V → Prop) : Prop :=
 match x with
 | .sl n _ _ => x8 P t = true ∧ K (.int .i64 n)
 | .osl _ _ n _ => x8 P t = true ∧ K (.int .i64 n)
 | .nilsl => x8 P t = true ∧ K (.int .i64 0)
 | .str s => isStr P t = true ∧ K (.int .i64 s.size)
 | _ => False

def acv (P : Program) (s d : TypeId) (x : V) (K : V → Prop) : Prop :=
 (P.underlying s).isSome = true ∧ match x with
 | .int _ n => match xf P d with
  | some k => K (.int k (k.wrap n))
  | none => isStr P d = true ∧ K (.str (Utf8.encode n))
 | .str b => isStr P d = true ∧ K (.str b)
 | _ => False

def oa : List V → Option (List Int)
 | [] => some []
 | .int .u8 n :: cs => (oa cs).map (n :: ·)
 | _ => none

def sr (P : Program) (s : TypeId) : Bool :=
 match P.underlying s with
 | some (.slice e) => match P.underlying e with
  | some (.int .u8) => true
  | _ => false
 | _ => false

def j5 (P : Program) (h : Hp) (s d : TypeId) (x : V) (K : V → Prop) : Prop :=
 match x with
 | .osl id off n wd => (sr P s = true ∧ isStr P d = true ∧ wd = 1) ∧ match h[id]? with
  | some (some cs) => match oa ((cs.drop off).take n) with
   | some xs => K (.str (strOfNums xs))
   | none => False
  | _ => False
 | x => acv P s d x K

def strCells (b : ByteArray) : List V := b.data.toList.map fun c => .int .u8 c.toNat

def ya (x : V) (K : V → Prop) : Prop :=
 match x with
 | .ptr id off => K (.ptr id off)
 | .pt cs => K (.pt cs)
 | .fn (.func f) a c => K (.fn (.func f) a c)
 | _ => False

def jg (x : V) (K : IntKind → Int → Prop) : Prop :=
 match x with
 | .int k z => K k z
 | _ => False

def km (x : V) (K : Bool → Prop) : Prop :=
 match x with
 | .bool b => K b
 | _ => False

def o2 (x : V) (i : Nat) (K : V → Prop) : Prop :=
 match x with
 | .tup vs => match vs[i]? with
  | some v => K v
  | none => False
 | _ => False

def af3 : V → Option Value
 | .int k n => some (.int k n)
 | .str s => some (.string s)
 | .bool b => some (.bool b)
 | _ => none

def mapOf (P : Program) (t : TypeId) : Option (TypeDesc × V) :=
 match P.underlying t with
 | some (.map k e) => match P.underlying k, P.info? e with
  | some d, some i => match i.zero with
   | some z => some (d, lf z)
   | none => none
  | _, _ => none
 | _ => none

def yh : TypeDesc → Value → Bool
 | .int k, .int k' _ => decide (k = k')
 | .string, .string _ => true
 | _, _ => false

def kn (d : TypeDesc) (k : Value) : List (Value × Value) → Nat → Option (Option (Nat × Value))
 | [], _ => some none
 | e :: es, i =>
  match Instr.sameNow d k e.1 with
  | some true => some (some (i, e.2))
  | some false => kn d k es (i + 1)
  | none => none

def ks (P : Program) (h : Hp) (t : TypeId) (x y : V) (ok : Bool) (K : V → Prop) : Prop :=
 match x with
 | .mp id => match h[id]? with
  | some (some [.mb es]) => match af3 y, mapOf P t with
   | some k, some (d, z) => yh d k = true ∧ match kn d k es 0 with
    | some (some (_, v)) => K (if ok then .tup [lf v, .bool true] else lf v)
    | some none => K (if ok then .tup [z, .bool false] else z)
    | none => False
   | _, _ => False
  | _ => False
 | _ => False

def qop (P : Program) (h : Hp) (ρ : Operand → V) (op : Op) (K : V → Prop) : Prop :=
 match op with
 | .move x => K (ρ x)
 | .assign x => K (ρ x)
 | .pick c a b => km (ρ c) fun t => K (if t then ρ a else ρ b)
 | .load t a => pq P h t (ρ a) K
 | .fieldAddr s a f => ff P s f (ρ a) K
 | .field s a f => yx P s f (ρ a) K
 | .indexAddr t x i => jg (ρ i) fun _ z => eo P t (ρ x) z K
 | .index t x i => jg (ρ i) fun _ z => u7 P t (ρ x) z K
 | .slice t x lo hi none => match vz ρ lo with
  | none => False
  | some l => nz P ρ t (ρ x) l hi K
 | .binOp op t x y _ => bin P op t (kO x || kO y) (ρ x) (ρ y) K
 | .unOp .not _ x => km (ρ x) fun b => K (.bool (!b))
 | .unOp .neg _ x => jg (ρ x) fun k n => K (.int k (k.wrap (0 - n)))
 | .convert s d x => j5 P h s d (ρ x) K
 | .extract x i => o2 (ρ x) i K
 | .nilCheck x => ya (ρ x) K
 | .lookup t x y ok => ks P h t (ρ x) (ρ y) ok K
 | .makeFunc f a c => K (.fn f (a.toList.map ρ) (c.toList.map ρ))
 | .call { callee := .builtin .len, args := ⟨[x]⟩, argTypes := ⟨[t]⟩ } => ac5 P t (ρ x) K
 | .call { callee := .builtin .max, args := ⟨[x, y]⟩, .. } => jg (ρ x) fun k a => jg (ρ y) fun _ b => K (.int k (if b > a then b else a))
 | .call { callee := .builtin .min, args := ⟨[x, y]⟩, .. } => jg (ρ x) fun k a => jg (ρ y) fun _ b => K (.int k (if b < a then b else a))
 | _ => False

end Go.Lv
end
section
namespace Go.Lv

section
variable {P : Program} {w : World} {m : Nat → Nat} {h : Hp} {av : Nat → Prop}

theorem w7 (t : TypeId) (i : TypeInfo) (d : TypeDesc) (hi : P.info? t = some i) (hd : P.underlying t = some d) (b off : Nat) (cs : List V) {o : Bool}
 (hc : ∀ j (hj : j < cs.length), ∃ v, w.cell? ⟨b, off + j, none⟩ = some v ∧ RV w m h av o v cs[j]) (hsz : i.size ≤ cs.length) (hag : j2 d = true ∨ i.size = 1) :
 ∃ v, (loadVar t ⟨b, off, none⟩).run P w = .ok v w ∧ RV w m h av o v (mk (j2 d) (cs.take i.size)) := by
 have hcell : ∀ j, j < i.size → w.cell? ((⟨b, off, none⟩ : Addr).add j) = some ((w.cell? ⟨b, off + j, none⟩).getD Go.undef) := by
  intro j hj
  obtain ⟨v, hv, _⟩ := hc j (by omega)
  rw [Addr.add_lit, hv]
  rfl
 have hrl := run_loadCells (P := P) w ⟨b, off, none⟩ i.size (fun j => (w.cell? ⟨b, off + j, none⟩).getD Go.undef) hcell
 by_cases hd' : j2 d = true
 · have e : (isAgg t).run P w = .ok true w := by
    unfold isAgg
    simp only [Sem.run_bind, run_underlying hd, Result.andThen_ok]
    cases d <;> simp [j2] at hd' <;> rfl
   refine ⟨_, by simp only [loadVar, Sem.run_bind, e, Result.andThen_ok, if_true, sizeOf, typeInfo, run_program, hi, Sem.run_pure, hrl]; rfl, ?_⟩
   rw [hd']
   refine .agg _ _ (by simp; omega) (fun j hj => ?_)
   have hj' : j < i.size := by simp at hj; omega
   obtain ⟨v, hv, hr⟩ := hc j (by omega)
   simp only [List.getElem_take]
   have : (((List.range i.size).map fun j => (w.cell? ⟨b, off + j, none⟩).getD Go.undef).toArray).getD j Go.undef = v := by
    simp [Array.getD, hj', hv]
   rw [this]
   exact hr
 · have hs1 : i.size = 1 := hag.resolve_left hd'
   have hdf : j2 d = false := by simpa using hd'
   have e : (isAgg t).run P w = .ok false w := by
    unfold isAgg
    simp only [Sem.run_bind, run_underlying hd, Result.andThen_ok]
    cases d <;> simp [j2] at hd' <;> rfl
   obtain ⟨v, hv, hr⟩ := hc 0 (by omega)
   refine ⟨v, by simp only [loadVar, Sem.run_bind, e, Result.andThen_ok]; simpa using (by rw [run_load, show (⟨b, off, none⟩ : Addr) = ⟨b, off + 0, none⟩ from rfl, hv] : (load ⟨b, off, none⟩).run P w = .ok v w), ?_⟩
   rw [hdf, hs1]
   have : mk false (cs.take 1) = cs[0] := by
    cases cs with
    | nil => simp at hsz; omega
    | cons c l => rfl
   rw [this]
   exact hr

theorem rb (t : TypeId) (i : TypeInfo) (d : TypeDesc) (hi : P.info? t = some i) (hd : P.underlying t = some d) (off : Nat) (a : Array Value) (cs : List V) {o : Bool}
 (ha : a.size = cs.length) (hc : ∀ j (hj : j < cs.length), RV w m h av o (a.getD j Go.undef) cs[j]) (hsz : off + i.size ≤ cs.length) (hag : j2 d = true ∨ i.size = 1) :
 ∃ v, (part t a off).run P w = .ok v w ∧ RV w m h av o v (mk (j2 d) ((cs.drop off).take i.size)) := by
 by_cases hd' : j2 d = true
 · have e : (isAgg t).run P w = .ok true w := by
    unfold isAgg
    simp only [Sem.run_bind, run_underlying hd, Result.andThen_ok]
    cases d <;> simp [j2] at hd' <;> rfl
   refine ⟨_, by simp only [part, Sem.run_bind, e, Result.andThen_ok, if_true, sizeOf, typeInfo, run_program, hi, Sem.run_pure]; rfl, ?_⟩
   rw [hd']
   refine .agg _ _ (by simp; omega) (fun j hj => ?_)
   have hj' : j < i.size := by simp at hj; omega
   simp only [List.getElem_take, List.getElem_drop]
   have := hc (off + j) (by omega)
   have e2 : (a.extract off (off + i.size)).getD j Go.undef = a.getD (off + j) Go.undef := by
    simp [Array.getD, show j < min (off + i.size) a.size - off from by omega, show off + j < a.size from by omega]
   rw [e2]
   exact this
 · have hs1 : i.size = 1 := hag.resolve_left hd'
   have hdf : j2 d = false := by simpa using hd'
   have e : (isAgg t).run P w = .ok false w := by
    unfold isAgg
    simp only [Sem.run_bind, run_underlying hd, Result.andThen_ok]
    cases d <;> simp [j2] at hd' <;> rfl
   have hlt : off < a.size := by omega
   refine ⟨a[off], by simp only [part, Sem.run_bind, e, Result.andThen_ok]; simp [Array.getElem?_eq_getElem hlt], ?_⟩
   rw [hdf, hs1]
   have : mk false ((cs.drop off).take 1) = cs[off]'(by omega) := by
    have hlt' : off < cs.length := by omega
    rw [List.drop_eq_getElem_cons hlt']
    rfl
   rw [this]
   have := hc off (by omega)
   simpa [Array.getD, hlt] using this

theorem vh {t sz : Nat} {ag : Bool} (ht : jl P t = some (sz, ag)) : ∃ i d, P.info? t = some i ∧ P.underlying t = some d ∧ i.size = sz ∧ j2 d = ag := by
 unfold jl at ht
 split at ht
 · rename_i i d h1 h2
   simp at ht
   exact ⟨i, d, h1, h2, ht.1, ht.2⟩
 · cases ht

theorem je {t e sz by_ : Nat} (ht : jo P t = some (e, sz, by_)) : ∃ i, P.underlying t = some (.slice e) ∧ P.info? e = some i ∧ i.size = sz ∧ i.bytes = by_ := by
 unfold jo at ht
 split at ht
 · rename_i e' h1
   split at ht
   · rename_i i h2
     simp at ht
     obtain ⟨rfl, h3, h4⟩ := ht
     exact ⟨i, h1, h2, h3, h4⟩
   · cases ht
 · cases ht

theorem aca {t f off sz : Nat} {ag : Bool} (ht : kr P t f = some (off, sz, ag)) : ∃ fs fd i d, P.underlying t = some (.struct fs) ∧ fs[f]? = some fd ∧ fd.offset = off ∧
 P.info? fd.type = some i ∧ P.underlying fd.type = some d ∧ i.size = sz ∧ j2 d = ag := by
 unfold kr at ht
 split at ht
 · rename_i fs h1
   split at ht
   · rename_i fd h2
     split at ht
     · rename_i sz' ag' h3
       obtain ⟨i, d, h4, h5, h6, h7⟩ := vh h3
       simp at ht
       obtain ⟨h8, rfl, rfl⟩ := ht
       exact ⟨fs, fd, i, d, h1, h2, h8, h4, h5, h6, h7⟩
     · cases ht
   · cases ht
 · cases ht

theorem tt {t n sz : Nat} {ag : Bool} (ht : alr P t = some (n, sz, ag)) : ∃ e i d, P.underlying t = some (.array n e) ∧ P.info? e = some i ∧ P.underlying e = some d ∧ i.size = sz ∧ j2 d = ag := by
 unfold alr at ht
 split at ht
 · rename_i n' e h1
   split at ht
   · rename_i sz' ag' h3
     obtain ⟨i, d, h4, h5, h6, h7⟩ := vh h3
     simp at ht
     obtain ⟨rfl, rfl, rfl⟩ := ht
     exact ⟨e, i, d, h1, h4, h5, h6, h7⟩
   · cases ht
 · cases ht

def o3 (P : Program) (w : World) (m : Nat → Nat) (h : Hp) (av : Nat → Prop) (s : Sem Value) (K : V → Prop) : Prop :=
 ∃ v x, K x ∧ RV w m h av true v x ∧ s.run P w = .ok v w

theorem o3.mk' {s : Sem Value} {K : V → Prop} {v : Value} {x : V} (hk : K x) (hr : RV w m h av true v x) (he : s.run P w = .ok v w) : o3 P w m h av s K := ⟨v, x, hk, hr, he⟩

theorem aov {op : BinOp} {k : IntKind} {a b : Int} {K : V → Prop} {t : TypeId} (hq : xl op k a b K) : o3 P w m h av (binOp op t (.int k a) (.int k b)) K := by
 cases op <;> simp only [xl] at hq
 case add => exact .mk' hq (.int _ _) (by simp [binOp, Op.intArith])
 case sub => exact .mk' hq (.int _ _) (by simp [binOp, Op.intArith])
 case mul => exact .mk' hq (.int _ _) (by simp [binOp, Op.intArith])
 case quo => exact .mk' hq.2 (.int _ _) (by simp [binOp, Op.intDiv, hq.1])
 case rem => exact .mk' hq.2 (.int _ _) (by simp [binOp, Op.intDiv, hq.1])
 case and => exact .mk' hq (.int _ _) (by simp [binOp, Op.intBits, ai9])
 case shr => exact .mk' hq.2 (.int _ _) (by simp [binOp, Op.shift, aps, show ¬ b < 0 from Int.not_lt.2 hq.1])
 case eql => exact .mk' hq (.bool _) (by simp [binOp, Op.intCmp])
 case neq => exact .mk' hq (.bool _) (by simp [binOp, Op.intCmp])
 case lss => exact .mk' hq (.bool _) (by simp [binOp, Op.intCmp])
 case leq => exact .mk' hq (.bool _) (by simp [binOp, Op.intCmp])
 case gtr => exact .mk' hq (.bool _) (by simp [binOp, Op.intCmp])
 case geq => exact .mk' hq (.bool _) (by simp [binOp, Op.intCmp])

theorem ao1 {op : BinOp} {a b : ByteArray} {K : V → Prop} {t : TypeId} (hq : xg op a b K) : o3 P w m h av (binOp op t (.string a) (.string b)) K := by
 cases op <;> simp only [xg] at hq
 case add =>
  refine .mk' hq.2 (.str _) ?_
  have : ¬ (9223372036854775807 < ((a.size : Int) + (b.size : Int))) := by omega
  simp [binOp, Op.stringOp, this]
 case eql => exact .mk' hq (.bool _) (by simp [binOp, Op.stringOp])
 case neq => exact .mk' hq (.bool _) (by simp [binOp, Op.stringOp])
 case lss => exact .mk' hq (.bool _) (by simp [binOp, Op.stringOp])
 case leq => exact .mk' hq (.bool _) (by simp [binOp, Op.stringOp])
 case gtr => exact .mk' hq (.bool _) (by simp [binOp, Op.stringOp])
 case geq => exact .mk' hq (.bool _) (by simp [binOp, Op.stringOp])

theorem azf {t : TypeId} {d : TypeDesc} (hd : P.underlying t = some d) {u v : Value} {x y : V} {r : Bool} (hx : RV w m h av true u x) (hy : RV w m h av true v y) (he : eqV d x y = some r) (n : Nat) :
 (Op.equalIn (n + 1) t u v).run P w = .ok r w := by
 unfold eqV at he
 split at he
 · split at he
   · rename_i hk; subst hk
     simp at he; subst he
     cases hx; cases hy
     exact run_equalIn_int w n t _ _ _ _ hd
   · cases he
 · simp at he; subst he
   cases hx; cases hy
   exact run_equalIn_bool w n t _ _ hd
 · simp at he; subst he
   cases hx; cases hy
   exact run_equalIn_string w n t _ _ hd
 · cases he

theorem acg {xs ys : Array Value} {a b : List V} (hxs : xs.size = a.length) (hys : ys.size = b.length) (ha : ∀ i (hi : i < a.length), RV w m h av true (xs.getD i Go.undef) a[i])
 (hb : ∀ i (hi : i < b.length), RV w m h av true (ys.getD i Go.undef) b[i]) (n : Nat) : ∀ (fs : List Field) (i : Nat) (ds : List TypeDesc) (r : Bool), abv P fs i = some ds →
 eqL ds (a.drop i) (b.drop i) = some r → (Op.eqFields (n + 1) xs ys fs).run P w = .ok r w
 | [], i, ds, r, hf, he => by
  simp [abv] at hf; subst hf
  unfold eqL at he
  split at he
  · simp at he; subst he; rfl
  · rename_i heq _ _; cases heq
  · cases he
 | f :: fs, i, ds, r, hf, he => by
  simp only [abv] at hf
  split at hf
  · rename_i hc
    simp only [Bool.and_eq_true, beq_iff_eq, bne_iff_ne] at hc
    obtain ⟨hoff, hname⟩ := hc
    split at hf
    · rename_i inf d h1 h2
      split at hf
      · rename_i hty
        simp only [Bool.and_eq_true, beq_iff_eq] at hty
        cases hr : abv P fs (i + 1) with
        | none => simp [hr] at hf
        | some ds' =>
         simp [hr] at hf; subst hf
         have hia : i < a.length := by
          rcases Nat.lt_or_ge i a.length with h | h
          · exact h
          · rw [List.drop_of_length_le h] at he; simp [eqL] at he
         have hib : i < b.length := by
          rcases Nat.lt_or_ge i b.length with h | h
          · exact h
          · rw [List.drop_of_length_le h] at he; simp [eqL] at he
         rw [List.drop_eq_getElem_cons hia, List.drop_eq_getElem_cons hib] at he
         simp only [eqL] at he
         split at he
         · rename_i x y hx hy
           simp at he; subst he
           have hag : j2 d = false := by
            have := hty.2
            cases d <;> simp_all [arw, j2]
           have one : ∀ {zs : Array Value} {c : List V} (hz : zs.size = c.length) (hc : ∀ i (hi : i < c.length), RV w m h av true (zs.getD i Go.undef) c[i]) (hi : i < c.length), ∃ v, (part f.type zs f.offset).run P w = .ok v w ∧ RV w m h av true v c[i] := by
            intro zs c hz hc hi
            obtain ⟨v, hv, hr⟩ := rb (P := P) (w := w) (m := m) (h := h) (av := av) f.type inf d h1 h2 f.offset zs c hz hc (by rw [hoff, hty.1]; omega) (.inr hty.1)
            refine ⟨v, hv, ?_⟩
            rw [hag, hty.1, hoff] at hr
            rw [List.drop_eq_getElem_cons hi] at hr
            exact hr
           obtain ⟨u, hu, hru⟩ := one hxs ha hia
           obtain ⟨v, hv, hrv⟩ := one hys hb hib
           have heq := azf (P := P) h2 hru hrv hx n
           have ih := acg hxs hys ha hb n fs (i + 1) ds' y hr hy
           simp only [Op.eqFields]
           rw [if_pos hname]
           simp only [Sem.run_bind, hu, hv, heq, Result.andThen_ok]
           cases x
           · simp
           · simpa using ih
         · cases he
      · cases hf
    · cases hf
  · cases hf

theorem ase {op : BinOp} {x y : V} {u v : Value} {K : V → Prop} {t : TypeId} {c : Bool} {ox oy : Operand} (hc : c = true → (kO ox || kO oy) = true) (hx : RV w m h av true u x) (hy : RV w m h av true v y) (hq : bin P op t c x y K) :
 o3 P w m h av (do eqGuard op t ox oy u v; binOp op t u v) K := by
 unfold bin at hq
 split at hq
 · obtain ⟨hi, hq⟩ := hq
   cases hx; cases hy
   have hu : P.underlying t = some (.interface (P.methodsAt t)) := by
    unfold axj at hi
    split at hi
    · rename_i ms hm; simp [Program.methodsAt, hm]
    · cases hi
   split at hq
   · rename_i r he
     unfold azk at he
     split at he
     · split at he
       · rename_i hcc
         simp only [Option.some.injEq] at he
         subst he
         have hg : eqGuard op t ox oy .nilIface .nilIface = pure () := by
          have := hc hcc
          cases oy with
          | const k => exact eqGuard_nil_constR (op := op) (t := t) (x := ox) (c := k)
          | _ => cases ox with
           | const k => exact eqGuard_nil_constL (op := op) (t := t) (y := _) (c := k)
           | _ => simp [kO] at this
         split at hq
         · exact .mk' hq (.bool _) (by simp [hg, run_eql_nil_nil _ _ hu])
         · exact .mk' hq (.bool _) (by simp [hg, run_neq_nil_nil _ _ hu])
         · exact hq.elim
       · cases he
     · simp only [Option.some.injEq] at he
       subst he
       split at hq
       · exact .mk' hq (.bool _) (by simp [eqGuard_at_iface, run_eql_held_nil _ _ _ _ hu])
       · exact .mk' hq (.bool _) (by simp [eqGuard_at_iface, run_neq_held_nil _ _ _ _ hu])
       · exact hq.elim
     · cases he
   · exact hq.elim
 · obtain ⟨rfl, hq⟩ := hq
   cases hx; cases hy
   obtain ⟨v, x, h1, h2, h3⟩ := aov (P := P) (w := w) (m := m) (h := h) (av := av) (t := t) hq
   exact ⟨v, x, h1, h2, by simp [eqGuard_at_int, h3]⟩
 · cases hx; cases hy
   obtain ⟨v, x, h1, h2, h3⟩ := ao1 (P := P) (w := w) (m := m) (h := h) (av := av) (t := t) hq
   exact ⟨v, x, h1, h2, by simp [eqGuard_at_string, h3]⟩
 · cases hx; cases hy
   obtain ⟨hb, hq⟩ := hq
   have hu : P.underlying t = some .bool := by
    unfold aav at hb
    split at hb
    · assumption
    · cases hb
   split at hq
   · exact .mk' hq (.bool _) (by simp [eqGuard_at_bool, run_eql_bool _ _ _ _ hu])
   · exact .mk' hq (.bool _) (by simp [eqGuard_at_bool, run_neq_bool _ _ _ _ hu])
   · exact hq.elim
 · cases hx with
   | agg xs a ha hra => cases hy with
    | agg ys b hb hrb =>
     split at hq
     · rename_i ds hfl
       split at hq
       · rename_i r heq
         unfold xh at hfl
         split at hfl
         · rename_i fs hu
           split at hfl
           · cases hfl
           · rename_i hc
             simp only [Bool.or_eq_true, not_or, Bool.not_eq_true] at hc
             have hfo : P.fieldsOf t = fs := by simp [Program.fieldsOf, hu]
             have hrun : (Op.equalIn 10000 t (.agg xs) (.agg ys)).run P w = .ok r w := by
              rw [run_equalIn_struct w 9999 t xs ys (by rw [hfo]; exact hu) hc.1, hfo]
              exact acg ha hb hra hrb 9998 fs.toList 0 ds r hfl (by simpa using heq)
             have hg : ∀ o, (eqGuard o t ox oy (.agg xs) (.agg ys)).run P w = .ok () w := fun o => run_eqGuard_agg w o t ox oy xs ys hc.2
             split at hq
             · exact .mk' hq (.bool _) (by simp only [Sem.run_bind, hg, Result.andThen_ok, run_eql_struct, hrun])
             · exact .mk' hq (.bool _) (by simp only [Sem.run_bind, hg, Result.andThen_ok, run_neq_struct, hrun])
             · exact hq.elim
         · cases hfl
       · exact hq.elim
     · exact hq.elim
 · exact hq.elim

theorem kl {t : TypeId} (hb : isStr P t = true) : P.underlying t = some .string := by
 unfold isStr at hb
 split at hb
 · assumption
 · cases hb
theorem tz {t : TypeId} (hb : x8 P t = true) : ∃ e, P.underlying t = some (.slice e) := by
 unfold x8 at hb
 split at hb
 · exact ⟨_, by assumption⟩
 · cases hb
theorem als {t : TypeId} {k : IntKind} (hb : xf P t = some k) : P.underlying t = some (.int k) := by
 unfold xf at hb
 split at hb
 · simp at hb; subst hb; assumption
 · cases hb

theorem anf {u : Value} {x : V} {t : TypeId} {K : V → Prop} (H : RH w m h av) (hx : RV w m h av true u x) (hq : pq P h t x K) : o3 P w m h av (Instr.loadAt t u) K := by
 unfold pq at hq
 split at hq
 · rename_i sz ag ht
   obtain ⟨i, d, hi, hd, rfl, rfl⟩ := vh ht
   cases hx with
   | pt b off cs vals ha hv hr =>
    obtain ⟨h1, h2, h3⟩ := hq
    obtain ⟨v, hv, hr⟩ := w7 (P := P) t i d hi hd b off cs (o := false) (fun j hj => ⟨_, hv j hj, hr j hj⟩) h1 h2
    exact .mk' h3 hr.se (by simpa [Instr.loadAt, Instr.sureAddr] using hv)
   | ptr id off cs hid =>
    simp only [hid.1] at hq
    obtain ⟨h1, h2, h3⟩ := hq
    obtain ⟨v, hv, hr⟩ := w7 (P := P) t i d hi hd (m id) off (cs.drop off) (o := true) (fun j hj => by
     obtain ⟨v, hv, hr⟩ := H.cell hid (i := off + j) (by simp at hj; omega)
     exact ⟨v, hv, by simpa using hr⟩) (by simp; omega) h2
    exact .mk' h3 hr (by simpa [Instr.loadAt, Instr.sureAddr] using hv)
   | _ => exact False.elim hq
 · exact hq.elim

theorem aii {u : Value} {x : V} {s : TypeId} {f : Nat} {K : V → Prop} (hx : RV w m h av true u x) (hq : ff P s f x K) : o3 P w m h av (Instr.fieldAt s u f) K := by
 unfold ff at hq
 split at hq
 · rename_i off sz ag ht
   obtain ⟨fs, fd, i, d, h1, h2, rfl, h4, h5, rfl, h7⟩ := aca ht
   obtain ⟨hpos, hq⟩ := hq
   have hne : ¬ i.size = 0 := by omega
   have run : ∀ b o, (Instr.fieldAt s (.pointer (some ⟨b, o, none⟩)) f).run P w = .ok (.pointer (some ⟨b, o + fd.offset, none⟩)) w := by
    intro b o
    simp [Instr.fieldAt, run_underlying h1, h2, Instr.sureAddr, fieldPlace, sizeOf, typeInfo, h4, hne, Addr.add_lit]
   cases hx with
   | pt b o cs vals ha hv hr =>
    refine .mk' hq (.pt b (o + fd.offset) _ (fun j => vals (fd.offset + j)) (fun hne => ha (by rintro rfl; simp at hne)) (fun j hj => ?_) (fun j hj => ?_)) (run b o)
    · rw [Nat.add_assoc]; exact hv _ (by simp at hj; omega)
    · rw [List.getElem_drop]; exact hr _ _
   | ptr id o cs hid => exact .mk' hq (.ptr id _ cs hid) (run _ o)
   | _ => exact False.elim hq
 · exact hq.elim

theorem asf {u : Value} {x : V} {s : TypeId} {f : Nat} {K : V → Prop} (hx : RV w m h av true u x) (hq : yx P s f x K) : o3 P w m h av (Instr.field s u f) K := by
 unfold yx at hq
 split at hq
 · rename_i off sz ag ht
   obtain ⟨fs, fd, i, d, h1, h2, rfl, h4, h5, rfl, rfl⟩ := aca ht
   cases hx with
   | agg a cs ha hra =>
    obtain ⟨h6, h7, hk⟩ := hq
    obtain ⟨v, hv, hr⟩ := rb (P := P) (w := w) (m := m) (h := h) (av := av) fd.type i d h4 h5 fd.offset a cs ha hra h6 h7
    exact .mk' hk hr (by simp [Instr.field, run_underlying h1, h2, asAgg, hv])
   | _ => exact False.elim hq
 · exact hq.elim

theorem nj (t e : TypeId) (i : TypeInfo) (ht : P.underlying t = some (.slice e)) (hi : P.info? e = some i) (b off n cap : Nat) (k : IntKind) (z : Int) (h0 : 0 ≤ z) (h1 : z < n) :
 (Instr.indexAt t (.slice (some ⟨b, off, none⟩) n cap) (.int k z)).run P w = .ok (.pointer (some ⟨b, off + z.toNat * i.size, none⟩)) w := by
 simp [Instr.indexAt, asIntOf, run_underlying ht, h0, h1, sizeOf, typeInfo, hi, Addr.add_lit]

theorem nu (t e l : TypeId) (i : TypeInfo) (ht : P.underlying t = some (.array l e)) (hi : P.info? e = some i) (b off : Nat) (k : IntKind) (z : Int) (h0 : 0 ≤ z) (h1 : z < l) :
 (Instr.indexAt t (.pointer (some ⟨b, off, none⟩)) (.int k z)).run P w = .ok (.pointer (some ⟨b, off + z.toNat * i.size, none⟩)) w := by
 simp [Instr.indexAt, Instr.sureAddr, asIntOf, run_underlying ht, h0, h1, sizeOf, typeInfo, hi, Addr.add_lit]

theorem adn {i n w L : Nat} (h : i < n) (hl : L = n * w) : i * w + w ≤ L := by
 subst hl
 calc i * w + w = (i + 1) * w := by rw [Nat.add_mul, Nat.one_mul]
  _ ≤ n * w := Nat.mul_le_mul_right _ h

theorem aia {u v : Value} {x : V} {k : IntKind} {z : Int} {t : TypeId} {K : V → Prop} (hx : RV w m h av true u x) (hv : v = .int k z) (hq : eo P t x z K) : o3 P w m h av (Instr.indexAt t u v) K := by
 unfold eo at hq
 subst hv
 cases hx with
 | sl b off n cap wd cs vals hl ha hc hcell hr =>
  dsimp only at hq
  split at hq
  · rename_i e sz by_ he
    obtain ⟨i, h1, h2, rfl, h4⟩ := je he
    obtain ⟨⟨h5, h6⟩, rfl, hk⟩ := hq
    have hzn : z.toNat < n := by omega
    have hroom : z.toNat * i.size + i.size ≤ cs.length := adn hzn hl
    refine .mk' hk (.pt b (off + z.toNat * i.size) _ (fun j => vals (z.toNat * i.size + j)) (fun hne => ha (by rintro rfl; simp at hne)) (fun j hj => ?_) (fun j hj => ?_)) (nj t e i h1 h2 b off n cap k z h5 h6)
    · rw [Nat.add_assoc]; exact hcell _ (by simp at hj; omega)
    · simp only [List.getElem_take, List.getElem_drop]; exact hr _ _
  · exact hq.elim
 | slz a c wd =>
  dsimp only at hq
  split at hq
  · exact absurd hq.1 (by omega)
  · exact hq.elim
 | osl id off n cap wd cs hid hl hc hs =>
  dsimp only at hq
  split at hq
  · rename_i e sz by_ he
    obtain ⟨i, h1, h2, rfl, h4⟩ := je he
    obtain ⟨⟨h5, h6⟩, rfl, hk⟩ := hq
    exact .mk' hk (.ptr id _ cs hid) (nj t e i h1 h2 _ off n cap k z h5 h6)
  · exact hq.elim
 | ptr id off cs hid =>
  dsimp only at hq
  split at hq
  · rename_i n sz ag he
    obtain ⟨e, i, d, h1, h2, h3, rfl, rfl⟩ := tt he
    obtain ⟨⟨h5, h6⟩, hk⟩ := hq
    exact .mk' hk (.ptr id _ cs hid) (nu t e n i h1 h2 _ off k z h5 h6)
  · exact hq.elim
 | pt b off cs vals ha hcell hr =>
  dsimp only at hq
  split at hq
  · rename_i n sz ag he
    obtain ⟨e, i, d, h1, h2, h3, rfl, rfl⟩ := tt he
    obtain ⟨⟨h5, h6⟩, hk⟩ := hq
    refine .mk' hk (.pt b (off + z.toNat * i.size) _ (fun j => vals (z.toNat * i.size + j)) (fun hne => ha (by rintro rfl; simp at hne)) (fun j hj => ?_) (fun j hj => ?_)) (nu t e n i h1 h2 b off k z h5 h6)
    · rw [Nat.add_assoc]; exact hcell _ (by simp at hj; omega)
    · simp only [List.getElem_drop]; exact hr _ _
  · exact hq.elim
 | _ => exact False.elim hq

theorem atd {u v : Value} {x : V} {k : IntKind} {z : Int} {t : TypeId} {K : V → Prop} (hx : RV w m h av true u x) (hv : v = .int k z) (hq : u7 P t x z K) : o3 P w m h av (Instr.index t u v) K := by
 unfold u7 at hq
 subst hv
 cases hx with
 | str s =>
  obtain ⟨hs, hi, hk⟩ := hq
  have hu := kl hs
  refine .mk' hk (.int _ _) ?_
  have hget : s[z.toNat]? = some (s[z.toNat]'hi.2) := by
   simp [getElem?_pos, hi.2]
  simp [Instr.index, asIntOf, run_underlying hu, hi.1, hget]
 | agg a cs ha hra =>
  dsimp only at hq
  split at hq
  · rename_i n sz ag he
    obtain ⟨e, i, d, h1, h2, h3, rfl, rfl⟩ := tt he
    obtain ⟨⟨h5, h6⟩, h7, h8, hk⟩ := hq
    obtain ⟨v, hv, hr⟩ := rb (P := P) (w := w) (m := m) (h := h) (av := av) e i d h2 h3 (z.toNat * i.size) a cs ha hra h7 h8
    exact .mk' hk hr (by simp [Instr.index, asIntOf, run_underlying h1, h5, h6, sizeOf, typeInfo, h2, hv])
  · exact hq.elim
 | _ => exact False.elim hq

end
end Go.Lv
end
section
open Go.MapKept (IsKey)
namespace Go.Lv

section
variable {P : Program} {w : World} {m : Nat → Nat} {h : Hp} {av : Nat → Prop}

theorem aid {t e : TypeId} {i : TypeInfo} (ht : P.underlying t = some (.slice e)) (hi : P.info? e = some i) (b off n cap : Nat) (l u : Nat) (lo hi' : Option Value)
 (hb : (Instr.sliceBounds true n cap lo hi' none).run P w = .ok (l, u, cap) w) :
 (Instr.sliceAt t (.slice (some ⟨b, off, none⟩) n cap) lo hi' none).run P w = .ok (.slice (some (if cap = l then ⟨b, off, none⟩ else ⟨b, off + l * i.size, none⟩)) (u - l) (cap - l)) w := by
 simp only [Instr.sliceAt, Sem.run_bind, run_underlying ht, Result.andThen_ok, Instr.slice, hb, sizeOf, typeInfo, run_program, hi, Sem.run_pure]
 split <;> simp [Addr.add_lit]

theorem ank {t e : TypeId} {i : TypeInfo} (ht : P.underlying t = some (.slice e)) (hi : P.info? e = some i) (a : Option Addr) (n cap : Nat) (l u : Nat) (lo hi' : Option Value)
 (hb : (Instr.sliceBounds true n cap lo hi' none).run P w = .ok (l, u, cap) w) :
 ∃ a', (Instr.sliceAt t (.slice a n cap) lo hi' none).run P w = .ok (.slice a' (u - l) (cap - l)) w := by
 refine ⟨if cap = l then a else a.map (·.add (l * i.size)), ?_⟩
 simp only [Instr.sliceAt, Sem.run_bind, run_underlying ht, Result.andThen_ok, Instr.slice, hb, sizeOf, typeInfo, run_program, hi, Sem.run_pure]

theorem aod {t : TypeId} (ht : P.underlying t = some .string) (s : ByteArray) (l u : Nat) (lo hi' : Option Value) (x : Nat)
 (hb : (Instr.sliceBounds false s.size s.size lo hi' none).run P w = .ok (l, u, x) w) :
 (Instr.sliceAt t (.string s) lo hi' none).run P w = .ok (.string (s.extract l u)) w := by
 simp only [Instr.sliceAt, Sem.run_bind, run_underlying ht, Result.andThen_ok, Instr.slice]
 simp [hb]

theorem lz (b : Bool) (n cap : Nat) (lo : Option Value) (l : Int) (hlo : lo = none ∧ l = 0 ∨ ∃ k, lo = some (.int k l)) (h0 : 0 ≤ l) (h1 : l ≤ n) :
 (Instr.sliceBounds b n cap lo none none).run P w = .ok (l.toNat, n, cap) w := by
 rcases hlo with ⟨rfl, rfl⟩ | ⟨k, rfl⟩
 · simp [Instr.sliceBounds]
 · simp [Instr.sliceBounds, Instr.sliceBound, asIntOf, h0, h1]

theorem l7 (b : Bool) (n cap : Nat) (lo : Option Value) (l : Int) (ku : IntKind) (u : Int) (hlo : lo = none ∧ l = 0 ∨ ∃ k, lo = some (.int k l)) (h0 : 0 ≤ l) (h1 : l ≤ u) (h2 : u ≤ cap) :
 (Instr.sliceBounds b n cap lo (some (.int ku u)) none).run P w = .ok (l.toNat, u.toNat, cap) w := by
 have h3 : 0 ≤ u := by omega
 rcases hlo with ⟨rfl, rfl⟩ | ⟨k, rfl⟩
 · simp [Instr.sliceBounds, Instr.sliceBound, asIntOf, h2, h3]
 · simp [Instr.sliceBounds, Instr.sliceBound, asIntOf, h0, h2, h3]
   intro h5
   omega

theorem tg {o : Bool} {v : Value} {k : IntKind} {z : Int} (hx : RV w m h av o v (.int k z)) : v = .int k z := by cases hx; rfl

theorem az0 {a : Operand → Value} {ρ : Operand → V} (hρ : ∀ x, RV w m h av true (a x) (ρ x)) {lo : Option Operand} {l : Int} (hl : vz ρ lo = some l) :
 lo.map a = none ∧ l = 0 ∨ ∃ k, lo.map a = some (.int k l) := by
 cases lo with
 | none => simp [vz] at hl; exact .inl ⟨rfl, hl.symm⟩
 | some x =>
  have hx := hρ x
  simp only [vz] at hl
  split at hl
  · rename_i k z he
    simp at hl; subst hl
    rw [he] at hx
    exact .inr ⟨k, by simp [tg hx]⟩
  · cases hl

theorem ar9 {a : Operand → Value} {ρ : Operand → V} (hρ : ∀ x, RV w m h av true (a x) (ρ x)) {x : Operand} {t : TypeId} {l : Int} {lo hi : Option Operand} {K : V → Prop}
 (hl : vz ρ lo = some l) (hq : nz P ρ t (ρ x) l hi K) : o3 P w m h av (Instr.sliceAt t (a x) (lo.map a) (hi.map a) none) K := by
 have hx := hρ x
 have hlo := az0 hρ hl
 generalize ρ x = xv at hx hq
 generalize a x = u at hx
 unfold nz at hq
 cases hx with
 | sl b off n cap wd cs vals hl ha hc hcell hr =>
  dsimp only at hq
  split at hq
  · rename_i e sz by_ he
    obtain ⟨i, h1, h2, rfl, h4⟩ := je he
    split at hq
    · obtain ⟨⟨h5, h6⟩, rfl, hk⟩ := hq
      have hrun := aid (P := P) (w := w) h1 h2 b off n cap l.toNat n _ none (lz true n cap _ l hlo h5 h6)
      by_cases hz : n - l.toNat = 0
      · have hcs : cs.drop (l.toNat * i.size) = [] := by
         have : l.toNat = n := by omega
         rw [this, List.drop_eq_nil_iff, hl]
         exact Nat.le_refl _
        rw [hz] at hrun
        refine .mk' hk ?_ hrun
        rw [hcs, hz]
        exact .slz _ _ _
      · have hne : ¬ cap = l.toNat := by omega
        rw [if_neg hne] at hrun
        refine .mk' hk (.sl b (off + l.toNat * i.size) (n - l.toNat) (cap - l.toNat) i.size _ (fun j => vals (l.toNat * i.size + j)) (by simp [hl, Nat.sub_mul]) (fun hne => ha (by rintro rfl; simp at hne)) (by omega) (fun j hj => ?_) (fun j hj => ?_)) hrun
        · rw [Nat.add_assoc]; exact hcell _ (by simp at hj; omega)
        · rw [List.getElem_drop]; exact hr _ _
    · rename_i hh
      split at hq
      · rename_i ku u he2
        obtain ⟨⟨h5, h6, h7⟩, rfl, hk⟩ := hq
        have hu := hρ hh
        rw [he2] at hu
        have hrun := aid (P := P) (w := w) h1 h2 b off n cap l.toNat u.toNat _ (some (.int ku u)) (l7 true n cap _ l ku u hlo h5 h6 (by omega))
        have hmul : (u.toNat - l.toNat) * i.size + l.toNat * i.size ≤ cs.length := by
         rw [hl, ← Nat.add_mul]
         exact Nat.mul_le_mul_right _ (by omega)
        by_cases hz : u.toNat - l.toNat = 0
        · rw [hz] at hrun
          refine .mk' hk ?_ (by simpa [tg hu] using hrun)
          rw [hz, Nat.zero_mul, List.take_zero]
          exact .slz _ _ _
        · have hne : ¬ cap = l.toNat := by omega
          rw [if_neg hne] at hrun
          refine .mk' hk (.sl b (off + l.toNat * i.size) (u.toNat - l.toNat) (cap - l.toNat) i.size _ (fun j => vals (l.toNat * i.size + j)) (by simp; omega) (fun hne => ha (by rintro rfl; simp at hne)) (by omega) (fun j hj => ?_) (fun j hj => ?_)) (by simpa [tg hu] using hrun)
          · rw [Nat.add_assoc]; exact hcell _ (by simp at hj; omega)
          · simp only [List.getElem_take, List.getElem_drop]; exact hr _ _
      · exact hq.elim
  · exact hq.elim
 | slz ad c wd =>
  dsimp only at hq
  split at hq
  · rename_i e sz by_ he
    obtain ⟨i, h1, h2, rfl, h4⟩ := je he
    split at hq
    · obtain ⟨⟨h5, h6⟩, rfl, hk⟩ := hq
      obtain ⟨a', hrun⟩ := ank (P := P) (w := w) h1 h2 ad 0 c l.toNat 0 _ none (lz true 0 c _ l hlo h5 h6)
      refine .mk' hk ?_ hrun
      simp only [Nat.zero_sub, List.drop_nil]
      exact .slz _ _ _
    · rename_i hh
      split at hq
      · rename_i ku u he2
        obtain ⟨⟨h5, h6, h7⟩, rfl, hk⟩ := hq
        have hu := hρ hh
        rw [he2] at hu
        obtain ⟨a', hrun⟩ := ank (P := P) (w := w) h1 h2 ad 0 c l.toNat u.toNat _ (some (.int ku u)) (l7 true 0 c _ l ku u hlo h5 h6 (by omega))
        have hz : u.toNat - l.toNat = 0 := by omega
        rw [hz] at hrun
        refine .mk' hk ?_ (by simpa [tg hu] using hrun)
        rw [hz]
        simp only [Nat.zero_mul, List.take_zero]
        exact .slz _ _ _
      · exact hq.elim
  · exact hq.elim
 | osl id off n cap wd cs hid hl hc hs =>
  dsimp only at hq
  split at hq
  · rename_i e sz by_ he
    obtain ⟨i, h1, h2, rfl, h4⟩ := je he
    split at hq
    · obtain ⟨⟨h5, h6⟩, rfl, hk⟩ := hq
      have hrun := aid (P := P) (w := w) h1 h2 (m id) off n cap l.toNat n _ none (lz true n cap _ l hlo h5 (by omega))
      have e1 : l.toNat * i.size + (n - l.toNat) * i.size = n * i.size := by rw [← Nat.add_mul]; congr 1; omega
      have e2 : l.toNat * i.size + (cap - l.toNat) * i.size = cap * i.size := by rw [← Nat.add_mul]; congr 1; omega
      by_cases hlt : l = 0 ∨ l < n
      · rw [if_pos hlt] at hk
        have hrun' : (Instr.sliceAt t (.slice (some ⟨m id, off, none⟩) n cap) (lo.map a) (none.map a) none).run P w = .ok (.slice (some ⟨m id, off + l.toNat * i.size, none⟩) (n - l.toNat) (cap - l.toNat)) w := by
         show (Instr.sliceAt t (.slice (some ⟨m id, off, none⟩) n cap) (lo.map a) none none).run P w = _
         rw [hrun]
         by_cases hz : cap = l.toNat
         · have : l.toNat = 0 := by omega
           simp [hz, this]
         · rw [if_neg hz]
        exact .mk' hk (.osl id _ _ (cap - l.toNat) _ cs hid (by omega) (by omega) (by omega)) hrun'
      · rw [if_neg hlt] at hk
        have hz : n - l.toNat = 0 := by omega
        rw [hz] at hrun
        exact .mk' hk (.slz _ _ _) hrun
    · rename_i hh
      split at hq
      · rename_i ku u he2
        obtain ⟨⟨h5, h6, h7⟩, rfl, hk⟩ := hq
        have hu := hρ hh
        rw [he2] at hu
        have hrun := aid (P := P) (w := w) h1 h2 (m id) off n cap l.toNat u.toNat _ (some (.int ku u)) (l7 true n cap _ l ku u hlo h5 (by omega) (by omega))
        have e1 : l.toNat * i.size + (u.toNat - l.toNat) * i.size ≤ n * i.size := by rw [← Nat.add_mul]; exact Nat.mul_le_mul_right _ (by omega)
        have e2 : l.toNat * i.size + (cap - l.toNat) * i.size = cap * i.size := by rw [← Nat.add_mul]; congr 1; omega
        have hsome : (some hh).map a = some (.int ku u) := by simp [tg hu]
        by_cases hlt : l = 0 ∨ l < u
        · rw [if_pos hlt] at hk
          have hrun' : (Instr.sliceAt t (.slice (some ⟨m id, off, none⟩) n cap) (lo.map a) ((some hh).map a) none).run P w = .ok (.slice (some ⟨m id, off + l.toNat * i.size, none⟩) (u.toNat - l.toNat) (cap - l.toNat)) w := by
           rw [hsome, hrun]
           by_cases hz : cap = l.toNat
           · have : l.toNat = 0 := by omega
             simp [hz, this]
           · rw [if_neg hz]
          exact .mk' hk (.osl id _ _ (cap - l.toNat) _ cs hid (by omega) (by omega) (by omega)) hrun'
        · rw [if_neg hlt] at hk
          have hz : u.toNat - l.toNat = 0 := by omega
          rw [hz] at hrun
          exact .mk' hk (.slz _ _ _) (by rw [hsome]; exact hrun)
      · exact hq.elim
  · exact hq.elim
 | str s =>
  obtain ⟨hs, hq⟩ := hq
  have hu := kl hs
  split at hq
  · obtain ⟨⟨h5, h6⟩, hk⟩ := hq
    exact .mk' hk (.str _) (aod hu s _ _ _ none _ (lz false s.size s.size _ l hlo h5 h6))
  · rename_i hh
    split at hq
    · rename_i ku u he2
      obtain ⟨⟨h5, h6, h7⟩, hk⟩ := hq
      have hu2 := hρ hh
      rw [he2] at hu2
      exact .mk' hk (.str _) (by simpa [tg hu2] using aod (P := P) (w := w) hu s _ _ _ (some (.int ku u)) _ (l7 false s.size s.size _ l ku u hlo h5 h6 h7))
    · exact hq.elim
 | _ => exact False.elim hq

theorem th {a : Operand → Value} {ρ : Operand → V} (hρ : ∀ x, RV w m h av true (a x) (ρ x)) (xs : Array Operand) :
 (xs.map a).size = (xs.toList.map ρ).length ∧ ∀ i (hi : i < (xs.toList.map ρ).length), RV w m h av true ((xs.map a).getD i Go.undef) (xs.toList.map ρ)[i] := by
 refine ⟨by simp, fun i hi => ?_⟩
 have hi' : i < xs.size := by simpa using hi
 have : (xs.map a).getD i Go.undef = a xs[i] := by simp [Array.getD, hi']
 rw [this]
 simpa using hρ xs[i]

theorem l9 {a : Value} {x : V} {K : IntKind → Int → Prop} (hx : RV w m h av true a x) (hq : jg x K) : ∃ k z, a = .int k z ∧ x = .int k z ∧ K k z := by
 cases hx with
 | int k n => exact ⟨k, n, rfl, rfl, hq⟩
 | _ => exact False.elim hq

theorem ng {a : Value} {x : V} {K : Bool → Prop} (hx : RV w m h av true a x) (hq : km x K) : ∃ b, a = .bool b ∧ x = .bool b ∧ K b := by
 cases hx with
 | bool b => exact ⟨b, rfl, rfl, hq⟩
 | _ => exact False.elim hq

theorem ayh {u : Value} {x : V} {t ty : TypeId} {K : V → Prop} (hx : RV w m h av true u x) (hq : ac5 P t x K) : o3 P w m h av (Builtin.len_ #[t] ty #[u]) K := by
 unfold ac5 at hq
 cases hx with
 | sl b off n cap wd cs vals hl ha hc hv hr =>
  obtain ⟨e, he⟩ := tz hq.1
  exact .mk' hq.2 (.int _ _) (by simp [Builtin.len_, run_underlying he, goInt])
 | slz ad c wd =>
  obtain ⟨e, he⟩ := tz hq.1
  exact .mk' hq.2 (.int _ _) (by simp [Builtin.len_, run_underlying he, goInt])
 | osl id off n cap wd cs hid hl hc hs =>
  obtain ⟨e, he⟩ := tz hq.1
  exact .mk' hq.2 (.int _ _) (by simp [Builtin.len_, run_underlying he, goInt])
 | nilsl =>
  obtain ⟨e, he⟩ := tz hq.1
  exact .mk' hq.2 (.int _ _) (by simp [Builtin.len_, run_underlying he, goInt])
 | str s =>
  have he := kl hq.1
  exact .mk' hq.2 (.int _ _) (by simp [Builtin.len_, run_underlying he, goInt])
 | _ => exact False.elim hq

theorem aam {u : Value} {x : V} {s d : TypeId} {K : V → Prop} (hx : RV w m h av true u x) (hq : acv P s d x K) : o3 P w m h av (convert s d u) K := by
 unfold acv at hq
 obtain ⟨h1, hq⟩ := hq
 obtain ⟨ds, hs⟩ := Option.isSome_iff_exists.1 h1
 cases hx with
 | int k n =>
  dsimp only at hq
  split at hq
  · rename_i k' h2
    have hd := als h2
    exact .mk' hq (.int _ _) (by cases ds <;> simp [convert, run_underlying hs, run_underlying hd, Conv.intToInt])
  · have hd := kl hq.1
    exact .mk' hq.2 (.str _) (by cases ds <;> simp [convert, run_underlying hs, run_underlying hd, Conv.intToString])
 | str b =>
  obtain ⟨h2, hq⟩ := hq
  have hd := kl h2
  exact .mk' hq (.str _) (by cases ds <;> simp [convert, run_underlying hs, run_underlying hd])
 | _ => exact False.elim hq

theorem ack : ∀ (cs : List V) (xs : List Int), oa cs = some xs → cs = xs.map (V.int .u8)
 | [], xs, h => by simp [oa] at h; subst h; rfl
 | c :: cs, xs, h => by
  cases c <;> try (simp [oa] at h; done)
  rename_i k n
  cases k <;> try (simp [oa] at h; done)
  simp only [oa, Option.map_eq_some_iff] at h
  obtain ⟨ys, h1, rfl⟩ := h
  rw [ack cs ys h1, List.map_cons]

theorem y0 {s : TypeId} (h : sr P s = true) : ∃ e, P.underlying s = some (.slice e) ∧ P.underlying e = some (.int .u8) := by
 unfold sr at h
 split at h
 · rename_i e h1
   split at h
   · rename_i h2; exact ⟨e, h1, h2⟩
   · cases h
 · cases h

theorem ak6 (H : RH w m h av) {u : Value} {x : V} {s d : TypeId} {K : V → Prop} (hx : RV w m h av true u x) (hq : j5 P h s d x K) : o3 P w m h av (convert s d u) K := by
 cases hx with
 | osl id off n cap wd cs hid hl hc hs =>
  obtain ⟨⟨h1, h2, rfl⟩, hq⟩ := hq
  simp only [hid.1] at hq
  split at hq
  · rename_i xs hb
    obtain ⟨e, g1, g2⟩ := y0 h1
    have hd := kl h2
    have hcs := ack _ _ hb
    have hlen : xs.length = n := by
     have := congrArg List.length hcs
     simp at this
     omega
    refine .mk' hq (.str _) (run_convert_bytes_arg w s e g1 g2 (m id) off n cap xs hlen (fun i hi => ?_) d hd)
    obtain ⟨v, h3, h4⟩ := H.cell hid (i := off + i) (by omega)
    rw [h3]
    have hg : cs[off + i]'(by omega) = .int .u8 (xs.getD i 0) := by
     have h5 : ((cs.drop off).take n)[i]? = (xs.map (V.int .u8))[i]? := by rw [hcs]
     rw [List.getElem?_take_of_lt hi, List.getElem?_drop, List.getElem?_eq_getElem (by omega), List.getElem?_map, List.getElem?_eq_getElem (by omega)] at h5
     simp only [Option.map_some, Option.some.injEq] at h5
     rw [h5, List.getD, List.getElem?_eq_getElem (by omega)]
     rfl
    rw [hg] at h4
    rw [tg h4]
  · exact hq.elim
 | undef => exact aam (.undef _) hq
 | skip => exact aam .skip hq
 | bool b => exact aam (.bool b) hq
 | int k n => exact aam (.int k n) hq
 | str b => exact aam (.str b) hq
 | _ => exact hq.2.elim

theorem uy (d : TypeDesc) (k : Value) : ∀ (E : List MapEntry) (i : Nat), Instr.findNow d k E i = kn d k (E.map fun e => (e.key, e.val)) i
 | [], _ => rfl
 | e :: E, i => by
  simp only [Instr.findNow, List.map_cons, kn]
  rw [uy d k E (i + 1)]
  cases Instr.sameNow d k e.key with
  | none => rfl
  | some b => cases b <;> rfl

theorem ahu {v : Value} {y : V} {k : Value} (hy : RV w m h av true v y) (hk : af3 y = some k) : v = k := by
 cases hy <;> simp [af3] at hk <;> exact hk

theorem ahq {d : TypeDesc} {k : Value} (hk : yh d k = true) : IsKey d k := by
 cases d <;> cases k <;> simp_all [yh, IsKey]

theorem aez {t : TypeId} {d : TypeDesc} {z : V} (hm : mapOf P t = some (d, z)) : ∃ k e i zv, P.underlying t = some (.map k e) ∧ P.underlying k = some d ∧ P.info? e = some i ∧ i.zero = some zv ∧ z = lf zv := by
 unfold mapOf at hm
 split at hm
 · rename_i k e h1
   split at hm
   · rename_i d' i h2 h3
     split at hm
     · rename_i zv h4
       simp at hm
       obtain ⟨rfl, rfl⟩ := hm
       exact ⟨k, e, i, zv, h1, h2, h3, h4, rfl⟩
     · cases hm
   · cases hm
 · cases hm

theorem asi (H : RH w m h av) {u : Value} {id : Nat} (hx : RV w m h av true u (.mp id)) {es : List (Value × Value)} (hid : h[id]? = some (some [.mb es])) :
 u = .map (some (m id)) ∧ ∃ E c, w.heap[m id]? = some (.map E c) ∧ es = E.toList.map fun e => (e.key, e.val) := by
 cases hx with
 | mp id cs hid' hm =>
  refine ⟨rfl, ?_⟩
  rcases H.blk id _ hid with ⟨C, T, fr, h1, _, h2, h3⟩ | ⟨E, c, es', h1, h2, h3⟩
  · have := o9 h3
    cases this
  · simp at h2; subst h2
    exact ⟨E, c, h1, h3⟩

theorem apl (H : RH w m h av) {t : TypeId} {x y : V} {u v : Value} {ok : Bool} {K : V → Prop} (hx : RV w m h av true u x) (hy : RV w m h av true v y) (hq : ks P h t x y ok K) : o3 P w m h av (Instr.lookup t u v ok) K := by
 unfold ks at hq
 split at hq
 · rename_i id
   split at hq
   · rename_i es hid
     obtain ⟨rfl, E, c, hb, he⟩ := asi H hx hid
     split at hq
     · rename_i k d z hk hm
       obtain ⟨hko, hq⟩ := hq
       have := ahu hy hk
       subst this
       obtain ⟨kt, e, i, zv, h1, h2, h3, h4, rfl⟩ := aez hm
       have hck := MapKept.run_checkKey (P := P) (w := w) h2 (ahq hko) E.isEmpty 9999
       split at hq
       · rename_i j val hf
         rw [he, ← uy] at hf
         refine .mk' hq ?_ (v := if ok then .tuple #[val, .bool true] else val) ?_
         · cases ok
           · exact acn ..
           · refine .tup _ _ rfl (fun i hi => ?_)
             match i, hi with
             | 0, _ => exact acn ..
             | 1, _ => exact .bool _
         · simp [Instr.lookup, run_underlying h1, MapKept.run_getObj_map hb, hck, MapKept.run_findKey h2 hf]
       · rename_i hf
         rw [he, ← uy] at hf
         refine .mk' hq ?_ (v := if ok then .tuple #[zv, .bool false] else zv) ?_
         · cases ok
           · exact acn ..
           · refine .tup _ _ rfl (fun i hi => ?_)
             match i, hi with
             | 0, _ => exact acn ..
             | 1, _ => exact .bool _
         · simp [Instr.lookup, run_underlying h1, MapKept.run_getObj_map hb, hck, MapKept.run_findKey h2 hf, zeroValue, typeInfo, h3, h4]
       · exact hq.elim
     · exact hq.elim
   · exact hq.elim
 · exact hq.elim

theorem amz (H : RH w m h av) {a : Operand → Value} {ρ : Operand → V} (hρ : ∀ x, RV w m h av true (a x) (ρ x)) (o : Oper) {K : V → Prop} (hq : qop P h ρ o.op K) :
 ∃ v x, K x ∧ RV w m h av true v x ∧ (execOp a o).run P w = .ok (.value v) w := by
 have fin : ∀ {s : Sem Value}, o3 P w m h av s K → (∀ v, s.run P w = .ok v w → (execOp a o).run P w = .ok (.value v) w) → ∃ v x, K x ∧ RV w m h av true v x ∧ (execOp a o).run P w = .ok (.value v) w :=
  fun ⟨v, x, h1, h2, h3⟩ h4 => ⟨v, x, h1, h2, h4 v h3⟩
 obtain ⟨dst, op, ty, pos, after, guard⟩ := o
 dsimp only at hq fin ⊢
 unfold qop at hq
 split at hq
 · rename_i x
   exact ⟨a x, _, hq, hρ x, rfl⟩
 · rename_i x
   exact ⟨a x, _, hq, hρ x, rfl⟩
 · rename_i c x y
   obtain ⟨t, h1, h2, hq⟩ := ng (hρ c) hq
   cases t
   · exact ⟨a y, _, hq, by simpa using hρ y, by simp [execOp, asBool, h1]⟩
   · exact ⟨a x, _, hq, by simpa using hρ x, by simp [execOp, asBool, h1]⟩
 · rename_i t x
   exact fin (anf H (hρ x) hq) (fun v hv => by simp [execOp, hv])
 · rename_i s x f
   exact fin (aii (hρ x) hq) (fun v hv => by simp [execOp, hv])
 · rename_i s x f
   exact fin (asf (hρ x) hq) (fun v hv => by simp [execOp, hv])
 · rename_i t x i
   obtain ⟨k, z, h1, h2, hq⟩ := l9 (hρ i) hq
   exact fin (aia (hρ x) h1 hq) (fun v hv => by simp [execOp, hv])
 · rename_i t x i
   obtain ⟨k, z, h1, h2, hq⟩ := l9 (hρ i) hq
   exact fin (atd (hρ x) h1 hq) (fun v hv => by simp [execOp, hv])
 · rename_i t x lo hi
   split at hq
   · exact hq.elim
   · rename_i l hl
     exact fin (ar9 hρ hl hq) (fun v hv => by simp [execOp, hv])
 · rename_i op t x y ty'
   exact fin (ase (ox := x) (oy := y) id (hρ x) (hρ y) hq) (fun v hv => by simp only [execOp, Sem.run_bind, hv, Result.andThen_ok, Sem.run_pure])
 · rename_i t x
   obtain ⟨b, h1, h2, hq⟩ := ng (hρ x) hq
   exact ⟨.bool (!b), _, hq, .bool _, by simp [execOp, Op.unary, h1]⟩
 · rename_i t x
   obtain ⟨k, n, h1, h2, hq⟩ := l9 (hρ x) hq
   exact ⟨.int k (k.wrap (0 - n)), _, hq, .int _ _, by simp [execOp, h1, Op.unary, Op.intArith]⟩
 · rename_i s d x
   exact fin (ak6 H (hρ x) hq) (fun v hv => by simp [execOp, hv])
 · rename_i x i
   have hx := hρ x
   generalize hu : a x = u at hx
   generalize ρ x = xv at hx hq
   cases hx with
   | tup ar vs ha hra =>
    unfold o2 at hq
    dsimp only at hq
    split at hq
    · rename_i v hv
      have hlt : i < vs.length := (List.getElem?_eq_some_iff.1 hv).1
      have hr := hra i hlt
      rw [(List.getElem?_eq_some_iff.1 hv).2] at hr
      refine ⟨_, v, hq, hr, ?_⟩
      have hlt' : i < ar.size := by omega
      simp [execOp, hu, Instr.extract, Array.getD, hlt']
    · exact hq.elim
   | _ => exact False.elim hq
 · rename_i x
   have hx := hρ x
   generalize hu : a x = u at hx
   generalize ρ x = xv at hx hq
   cases hx with
   | ptr id off cs hid => exact ⟨_, _, hq, .ptr id off cs hid, by simp [execOp, hu]⟩
   | pt b off cs vals ha hv hr => exact ⟨_, _, hq, .pt b off cs vals ha hv hr, by simp [execOp, hu]⟩
   | fn f a1 c1 a' c' ha hc hra hrc =>
    cases f with
    | func f => exact ⟨_, _, hq, .fn _ a1 c1 _ _ ha hc hra hrc, by simp [execOp, hu]⟩
    | _ => exact False.elim hq
   | _ => exact False.elim hq
 · rename_i t x y ok
   exact fin (apl H (hρ x) (hρ y) hq) (fun v hv => by simp [execOp, hv])
 · rename_i f b c
   have hb := th hρ b
   have hc := th hρ c
   exact ⟨_, _, hq, .fn f _ _ _ _ hb.1 hc.1 hb.2 hc.2, by simp [execOp, Instr.makeFunc]⟩
 · rename_i x t
   exact fin (ayh (ty := ty) (hρ x) hq) (fun v hv => by simp [execOp, resolve, invoke, builtin, hv])
 · rename_i x y _
   obtain ⟨k, p, h1, h2, hq⟩ := l9 (hρ x) hq
   obtain ⟨k', q, h3, h4, hq⟩ := l9 (hρ y) hq
   exact ⟨_, _, hq, .int _ _, by simp [execOp, resolve, invoke, builtin, h1, h3, run_max_int2]⟩
 · rename_i x y _
   obtain ⟨k, p, h1, h2, hq⟩ := l9 (hρ x) hq
   obtain ⟨k', q, h3, h4, hq⟩ := l9 (hρ y) hq
   exact ⟨_, _, hq, .int _ _, by simp [execOp, resolve, invoke, builtin, h1, h3, run_min_int2]⟩
 · exact hq.elim

end
end Go.Lv
end
section
namespace Go.Lv

structure St where
 t : List V
 h : Hp
 k : Nat

def St.put (s : St) (dst : Option Tmp) (v : V) : St :=
 match dst with
 | some d => { s with t := s.t.set d v }
 | none => s

def own (m : Nat → Nat) (h : Hp) (b : Nat) : Prop := ∃ id cs, h[id]? = some (some cs) ∧ m id = b

def avm (av0 : Nat → Prop) (m : Nat → Nat) (h : Hp) (b : Nat) : Prop := av0 b ∨ own m h b

def tabs : List (Nat × Array Value) := [(5, #[.int .u64 1, .int .u64 10, .int .u64 100, .int .u64 1000, .int .u64 10000, .int .u64 100000, .int .u64 1000000, .int .u64 10000000, .int .u64 100000000, .int .u64 1000000000, .int .u64 10000000000, .int .u64 100000000000, .int .u64 1000000000000, .int .u64 10000000000000, .int .u64 100000000000000, .int .u64 1000000000000000, .int .u64 10000000000000000, .int .u64 100000000000000000, .int .u64 1000000000000000000, .int .u64 10000000000000000000])]

def aho : List (Nat × Bool) := [(1, true), (2, true), (0, false)]
def ayb (e : Bool) (v : Value) : Prop := match e with
 | true => v = .nilIface ∨ ∃ t p, v = .iface t p
 | false => ∃ m, v = .int .i64 m

def GL (w : World) (av : Nat → Prop) : Prop := (∀ p ∈ tabs, ¬ av p.1 ∧ ∃ T fr, w.heap[p.1]? = some (.cells p.2 T fr)) ∧
 ∀ p ∈ aho, ¬ av p.1 ∧ ∃ C T fr v, w.heap[p.1]? = some (.cells C T fr) ∧ C[0]? = some v ∧ ayb p.2 v
theorem GL.mono {w : World} {av av' : Nat → Prop} (h : GL w av) (ha : ∀ b, av' b → av b) : GL w av' :=
 ⟨fun p hp => ⟨fun h' => (h.1 p hp).1 (ha _ h'), (h.1 p hp).2⟩, fun p hp => ⟨fun h' => (h.2 p hp).1 (ha _ h'), (h.2 p hp).2⟩⟩
theorem GL.var {w : World} {av : Nat → Prop} (h : GL w av) {g : Nat} {e : Bool} (hg : (g, e) ∈ aho) : ∃ v, w.cell? ⟨g, 0, none⟩ = some v ∧ ayb e v := by
 obtain ⟨_, C, T, fr, v, h1, h2, h3⟩ := h.2 _ hg
 refine ⟨v, ?_, h3⟩
 simp only at h1
 rw [cell_of_row w g 0 C T fr h1]
 exact h2

def okF (P : Program) (f : FuncId) : Bool :=
 match P.funcs[f]? with
 | some fn => !(fn.name == "runtime.NumGoroutine") && fn.body.isSome
 | none => false

abbrev IdOk (n : Nat) (m0 : Nat → Nat) (h0 : Hp) (id mid l : Nat) : Prop :=
 (id < h0.length ∧ ∃ c0, h0[id]? = some (some c0) ∧ c0.length ≤ l ∧ (mid = m0 id ∨ (c0.length < l ∧ n ≤ mid))) ∨ (h0.length ≤ id ∧ n ≤ mid)
def Ids (n : Nat) (m0 m : Nat → Nat) (h0 h : Hp) : Prop :=
 ∀ id cs, h[id]? = some (some cs) → IdOk n m0 h0 id (m id) cs.length

def Ctr (P : Program) (f : FuncId) (args : List V) (hin : Hp) (r : V) (hout : Hp) : Prop :=
 okF P f = true ∧ ∀ (w : World) (vs : Array Value) (m : Nat → Nat) (av : Nat → Prop),
  RH w m hin av → (∀ b, av b → b < w.heap.size) → GL w av → vs.size = args.length → (∀ i (hi : i < args.length), RV w m hin av true (vs.getD i Go.undef) args[i]) →
  Calls P f vs w fun e w' => ∃ v m', e = .returned v ∧ Ext (own m hin) w w' ∧ RH w' m' hout (avm av m' hout) ∧ RV w' m' hout (avm av m' hout) true v r ∧ Ids w.heap.size m m' hin hout

structure Inv (w0 : World) (m0 : Nat → Nat) (h0 : Hp) (av0 : Nat → Prop) (s : St) (a : Act) (w : World) (m : Nat → Nat) : Prop where
 rh : RH w m s.h (avm av0 m s.h)
 size : a.tmps.size = s.t.length
 slots : ∀ i (hi : i < s.t.length), RV w m s.h (avm av0 m s.h) true (a.tmps.getD i Go.undef) s.t[i]
 defers : a.defers = []
 ext : Ext (own m0 h0) w0 w
 ids : Ids w0.heap.size m0 m h0 s.h
 lt : ∀ b, av0 b → b < w0.heap.size
 lent : ∀ b, own m0 h0 b → av0 b
 gl : GL w0 av0
 k : s.k = h0.length
 len : h0.length ≤ s.h.length

section
variable {w0 : World} {m0 : Nat → Nat} {h0 : Hp} {av0 : Nat → Prop} {s : St} {a : Act} {w : World} {m : Nat → Nat}

theorem Inv.ev (I : Inv w0 m0 h0 av0 s a w m) (x : Operand) : RV w m s.h (avm av0 m s.h) true (a.eval x) (ev s.t x) := by
 cases x with
 | tmp t =>
  show RV w m s.h _ true (a.tmps.getD t Go.undef) (s.t.getD t .undef)
  by_cases ht : t < s.t.length
  · have := I.slots t ht
    rw [show s.t.getD t .undef = s.t[t] by simp [List.getD, ht]]
    exact this
  · rw [show s.t.getD t .undef = .undef by simp [List.getD, List.getElem?_eq_none (Nat.le_of_not_lt ht)]]
    exact .undef _
 | const v => exact a4z ..
 | global g => exact .undef _
 | func f => exact .fn _ _ _ _ _ rfl rfl (fun i hi => by simp at hi) (fun i hi => by simp at hi)

theorem aq4 (a : Act) (d : Tmp) (v : Value) (i : Nat) : (a.put (some d) v).tmps.getD i Go.undef = if d = i ∧ i < a.tmps.size then v else a.tmps.getD i Go.undef := by
 show (a.tmps.setIfInBounds d v).getD i Go.undef = _
 rw [Array.getD_eq_getD_getElem?, Array.getD_eq_getD_getElem?, Array.getElem?_setIfInBounds]
 by_cases h1 : d = i
 · subst h1
   by_cases h2 : d < a.tmps.size
   · simp [h2]
   · simp [h2]
 · simp [h1]

theorem Inv.put (I : Inv w0 m0 h0 av0 s a w m) {dst : Option Tmp} {v : Value} {x : V} (hx : RV w m s.h (avm av0 m s.h) true v x) : Inv w0 m0 h0 av0 (s.put dst x) (a.put dst v) w m := by
 cases dst with
 | none => exact I
 | some d =>
  refine ⟨I.rh, ?_, ?_, I.defers, I.ext, I.ids, I.lt, I.lent, I.gl, I.k, I.len⟩
  · simp [St.put, Act.put, I.size]
  · intro i hi
    have hi' : i < s.t.length := by simpa [St.put] using hi
    rw [aq4]
    show RV w m s.h _ true _ ((s.t.set d x)[i]'(by simpa using hi'))
    rw [List.getElem_set]
    by_cases e : d = i
    · rw [if_pos ⟨e, by rw [I.size]; exact hi'⟩, if_pos e]
      exact hx
    · rw [if_neg (fun h => e h.1), if_neg e]
      exact I.slots i hi'

theorem ayi {w : World} {av : Nat → Prop} {m : Nat → Nat} {h : Hp} (H : RH w m h av) {b : Nat} (hb : own m h b) : b < w.heap.size := by
 obtain ⟨id, cs, h1, rfl⟩ := hb
 exact H.lt h1

theorem Inv.glw (I : Inv w0 m0 h0 av0 s a w m) : GL w (avm av0 m s.h) := by
 have key : ∀ (g : Nat), ¬ av0 g → g < w0.heap.size → ¬ avm av0 m s.h g ∧ w.heap[g]? = w0.heap[g]? := by
  intro g h1 hlt
  refine ⟨fun h => ?_, I.ext.block _ hlt (fun h => h1 (I.lent _ h))⟩
  rcases h with h | ⟨id, cs, h3, e⟩
  · exact h1 h
  · rcases I.ids id cs h3 with ⟨_, c0, h5, _, h4 | ⟨_, h4⟩⟩ | ⟨_, h4⟩
    · exact h1 (I.lent _ ⟨id, c0, h5, by rw [← h4, e]⟩)
    · omega
    · omega
 refine ⟨fun p hp => ?_, fun p hp => ?_⟩
 · obtain ⟨h1, T, fr, h2⟩ := I.gl.1 p hp
   obtain ⟨k1, k2⟩ := key p.1 h1 (Array.getElem?_eq_some_iff.1 h2).1
   exact ⟨k1, T, fr, by rw [k2]; exact h2⟩
 · obtain ⟨h1, C, T, fr, v, h2, h3⟩ := I.gl.2 p hp
   obtain ⟨k1, k2⟩ := key p.1 h1 (Array.getElem?_eq_some_iff.1 h2).1
   exact ⟨k1, C, T, fr, v, by rw [k2]; exact h2, h3⟩

theorem Inv.aed (I : Inv w0 m0 h0 av0 s a w m) {b : Nat} (hb : avm av0 m s.h b) : b < w.heap.size := by
 rcases hb with hb | hb
 · exact Nat.lt_of_lt_of_le (I.lt b hb) I.ext.size
 · exact ayi I.rh hb

theorem Inv.world (I : Inv w0 m0 h0 av0 s a w m) {w' : World} (hE : Ext (fun _ => False) w w') : Inv w0 m0 h0 av0 s a w' m := by
 have hstep : ∀ {o : Bool} {v : Value} {x : V}, RV w m s.h (avm av0 m s.h) o v x → RV w' m s.h (avm av0 m s.h) o v x :=
  fun hx => hx.step (fun b off v hb hc => ⟨hb, hE.cell hc (fun h => h)⟩) (fun id cs hid => ⟨cs, hid, Nat.le_refl _, rfl, hE.row _ (I.rh.lt hid), rfl⟩)
 refine ⟨⟨I.rh.inj, I.rh.avd, fun id cs hid => ?_⟩, I.size, fun i hi => hstep (I.slots i hi), I.defers, I.ext.trans' hE (fun _ _ h => h.elim), I.ids, I.lt, I.lent, I.gl, I.k, I.len⟩
 exact (I.rh.blk id cs hid).step (hE.block _ (I.rh.lt hid) (fun h => h)) (fun v x => hstep)

theorem ow {h : Hp} {b : Option (List V)} {id : Nat} {cs : List V} (hid : (h ++ [b])[id]? = some (some cs)) : h[id]? = some (some cs) ∨ (id = h.length ∧ b = some cs) := by
 rw [List.getElem?_append] at hid
 split at hid
 · exact .inl hid
 · rename_i hlt
   have : id - h.length = 0 := by
    rcases Nat.eq_zero_or_pos (id - h.length) with e | e
    · exact e
    · rw [List.getElem?_eq_none (by simp; omega)] at hid; cases hid
   rw [this] at hid
   simp at hid
   exact .inr ⟨by omega, hid⟩

def gb (m : Nat → Nat) (n b : Nat) : Nat → Nat := fun id => if id = n then b else m id

theorem akg {m : Nat → Nat} {n b id : Nat} (h : id < n) : gb m n b id = m id := if_neg (by omega)
theorem fg {m : Nat → Nat} {n b : Nat} : gb m n b n = b := if_pos rfl

theorem e8 {h : Hp} {id : Nat} {x : Option (List V)} (hid : h[id]? = some x) : id < h.length := (List.getElem?_eq_some_iff.1 hid).1

theorem Inv.as4 (fr : Nat × Nat) (I : Inv w0 m0 h0 av0 s a w m) (C : Array Value) (T : TypeId) (cs : List V) (hfr : aa2 fr C.size) (hl : cs.length ≤ C.size)
 (hc : ∀ i (hi : i < cs.length), RV w m s.h (avm av0 m s.h) true (C.getD i Go.undef) cs[i]) :
 Inv w0 m0 h0 av0 { s with h := s.h ++ [some cs] } a (w.alloc (.cells C T fr)) (gb m s.h.length w.heap.size) ∧
 (∀ {o : Bool} {v : Value} {x : V}, RV w m s.h (avm av0 m s.h) o v x → RV (w.alloc (.cells C T fr)) (gb m s.h.length w.heap.size) (s.h ++ [some cs]) (avm av0 (gb m s.h.length w.heap.size) (s.h ++ [some cs])) o v x) := by
 have hE : Ext (fun _ => False) w (w.alloc (.cells C T fr)) := Ext.alloc _ w _
 have hid0 : ∀ id c, s.h[id]? = some (some c) → gb m s.h.length w.heap.size id = m id := fun id c hid => akg (e8 hid)
 have hown : ∀ b, own (gb m s.h.length w.heap.size) (s.h ++ [some cs]) b → own m s.h b ∨ b = w.heap.size := by
  rintro b ⟨id, c, h1, rfl⟩
  rcases ow h1 with h1 | ⟨rfl, _⟩
  · exact .inl ⟨id, c, h1, (hid0 id c h1).symm⟩
  · exact .inr fg
 have hav : ∀ b, b < w.heap.size → avm av0 (gb m s.h.length w.heap.size) (s.h ++ [some cs]) b → avm av0 m s.h b := by
  rintro b hb (h1 | h1)
  · exact .inl h1
  · rcases hown b h1 with h2 | h2
    · exact .inr h2
    · omega
 have hold : ∀ id c, s.h[id]? = some (some c) → (s.h ++ [some cs])[id]? = some (some c) := fun id c hid => by rw [List.getElem?_append_left (e8 hid)]; exact hid
 have hstep : ∀ {o : Bool} {v : Value} {x : V}, RV w m s.h (avm av0 m s.h) o v x → RV (w.alloc (.cells C T fr)) (gb m s.h.length w.heap.size) (s.h ++ [some cs]) (avm av0 (gb m s.h.length w.heap.size) (s.h ++ [some cs])) o v x :=
  fun hx => hx.step (fun b off v hb hcell => ⟨fun h => hb (hav b (World.block_lt_of_cell? w _ hcell) h), hE.cell hcell (fun h => h)⟩)
   (fun id c hid => ⟨c, hold id c hid, Nat.le_refl _, hid0 id c hid, hE.row _ (I.rh.lt hid), rfl⟩)
 refine ⟨⟨⟨?_, ?_, ?_⟩, I.size, fun i hi => hstep (I.slots i hi), I.defers, I.ext.trans' hE (fun _ _ h => h.elim), ?_, I.lt, I.lent, I.gl, I.k, by simp; have := I.len; omega⟩, hstep⟩
 · intro i j ci cj h1 h2 he
   rcases ow h1 with h1 | ⟨rfl, _⟩ <;> rcases ow h2 with h2 | ⟨rfl, _⟩
   · rw [hid0 i ci h1, hid0 j cj h2] at he
     exact I.rh.inj i j ci cj h1 h2 he
   · rw [hid0 i ci h1, fg] at he
     have := I.rh.lt h1; omega
   · rw [hid0 j cj h2, fg] at he
     have := I.rh.lt h2; omega
   · rfl
 · intro id c h1
   exact .inr ⟨id, c, h1, rfl⟩
 · intro id c h1
   rcases ow h1 with h1 | ⟨rfl, h3⟩
   · rw [hid0 id c h1]
     exact (I.rh.blk id c h1).step (hE.block _ (I.rh.lt h1) (fun h => h)) (fun v x => hstep)
   · simp at h3; subst h3
     refine .inl ⟨C, T, fr, ?_, hfr, hl, fun i hi => hstep (hc i hi)⟩
     rw [fg]
     exact heap_alloc_new w _
 · intro id c h1
   rcases ow h1 with h1 | ⟨rfl, _⟩
   · rw [hid0 id c h1]
     exact I.ids id c h1
   · exact .inr ⟨I.len, by rw [fg]; exact I.ext.size⟩

theorem Inv.alloc (I : Inv w0 m0 h0 av0 s a w m) (C : Array Value) (T : TypeId) (cs : List V) (hl : cs.length ≤ C.size)
 (hc : ∀ i (hi : i < cs.length), RV w m s.h (avm av0 m s.h) true (C.getD i Go.undef) cs[i]) :
 Inv w0 m0 h0 av0 { s with h := s.h ++ [some cs] } a (w.alloc (.cells C T)) (gb m s.h.length w.heap.size) ∧
 (∀ {o : Bool} {v : Value} {x : V}, RV w m s.h (avm av0 m s.h) o v x → RV (w.alloc (.cells C T)) (gb m s.h.length w.heap.size) (s.h ++ [some cs]) (avm av0 (gb m s.h.length w.heap.size) (s.h ++ [some cs])) o v x) :=
 I.as4 (0, 0) C T cs (.inl rfl) hl hc

end
end Go.Lv
end
section
namespace Go.Lv

def ch : V → Bool
 | .bool _ | .int _ _ | .str _ | .nilsl | .sl _ _ _ | .pt _ | .osl _ _ _ _ | .ptr _ _ | .fn _ _ _ => true
 | _ => false

def cellsOf : V → Option (List V)
 | .agg cs => if cs.all ch then some cs else none
 | .bool b => some [.bool b]
 | .int k n => some [.int k n]
 | .str s => some [.str s]
 | .nilsl => some [.nilsl]
 | .sl n w cs => some [.sl n w cs]
 | .pt cs => some [.pt cs]
 | .osl a b c d => some [.osl a b c d]
 | .ptr a b => some [.ptr a b]
 | .fn a b c => some [.fn a b c]
 | _ => none

section
variable {P : Program} {w : World} {m : Nat → Nat} {h : Hp} {av : Nat → Prop}

theorem ahr {o : Bool} {v : Value} {x : V} (hx : RV w m h av o v x) (hc : ch x = true) : v.oneCell' = true ∧ v.cells = #[v] := by
 cases hx <;> first | exact ⟨rfl, rfl⟩ | cases hc

theorem va {o : Bool} {v : Value} {x : V} {cs : List V} (hx : RV w m h av o v x) (hc : cellsOf x = some cs) :
 v.cells.size = cs.length ∧ (∀ i (hi : i < cs.length), RV w m h av o (v.cells.getD i Go.undef) cs[i]) ∧ ∀ u ∈ v.cells.toList, u.oneCell' = true := by
 have one : ∀ (y : V), ch y = true → RV w m h av o v y → cs = [y] →
  v.cells.size = cs.length ∧ (∀ i (hi : i < cs.length), RV w m h av o (v.cells.getD i Go.undef) cs[i]) ∧ ∀ u ∈ v.cells.toList, u.oneCell' = true := by
  intro y hy hx he
  obtain ⟨h1, h2⟩ := ahr hx hy
  subst he
  rw [h2]
  refine ⟨rfl, fun i hi => ?_, fun u hu => ?_⟩
  · have : i = 0 := by simp at hi; omega
    subst this
    exact hx
  · simp at hu; subst hu; exact h1
 cases hx with
 | agg a a' ha hra =>
  change (if a'.all ch then some a' else none) = some cs at hc
  split at hc
  · rename_i hall
    simp at hc; subst hc
    refine ⟨ha, hra, fun u hu => ?_⟩
    obtain ⟨i, hi, rfl⟩ := List.getElem_of_mem hu
    have hi' : i < a.size := by simpa [Value.cells] using hi
    have h1 := hra i (by omega)
    rw [Array.getD_eq_getD_getElem?, Array.getElem?_eq_getElem hi'] at h1
    exact (ahr h1 (List.all_eq_true.1 hall _ (List.getElem_mem _))).1
  · cases hc
 | undef => cases hc
 | skip => cases hc
 | tup => cases hc
 | lit => cases hc
 | mp => cases hc
 | bool b => simp [cellsOf] at hc; exact one _ rfl (.bool b) hc.symm
 | int k n => simp [cellsOf] at hc; exact one _ rfl (.int k n) hc.symm
 | str s => simp [cellsOf] at hc; exact one _ rfl (.str s) hc.symm
 | nilsl => simp [cellsOf] at hc; exact one _ rfl .nilsl hc.symm
 | slz a c wd => simp [cellsOf] at hc; exact one _ rfl (.slz a c wd) hc.symm
 | sl b off n cap wd cs' vals hl ha hcp hv hr => simp [cellsOf] at hc; exact one _ rfl (.sl b off n cap wd cs' vals hl ha hcp hv hr) hc.symm
 | pt b off cs' vals ha hv hr => simp [cellsOf] at hc; exact one _ rfl (.pt b off cs' vals ha hv hr) hc.symm
 | osl id off n cap wd cs' hid hl hcp hs => simp [cellsOf] at hc; exact one _ rfl (.osl id off n cap wd cs' hid hl hcp hs) hc.symm
 | ptr id off cs' hid => simp [cellsOf] at hc; exact one _ rfl (.ptr id off cs' hid) hc.symm
 | fn f a c a' c' ha hcp hra hrc => simp [cellsOf] at hc; exact one _ rfl (.fn f a c a' c' ha hcp hra hrc) hc.symm
end

section
variable {w0 : World} {m0 : Nat → Nat} {h0 : Hp} {av0 : Nat → Prop} {s : St} {a : Act} {w : World} {m : Nat → Nat}

theorem oe {h : Hp} {id id' : Nat} {cs cs' : List V} {old : Option (List V)} (hid : h[id]? = some old) (hj : (h.set id (some cs'))[id']? = some (some cs)) :
 (id' = id ∧ cs = cs') ∨ (id' ≠ id ∧ h[id']? = some (some cs)) := by
 by_cases e : id' = id
 · subst e
   rw [List.getElem?_set_self (e8 hid)] at hj
   simp at hj
   exact .inl ⟨rfl, hj.symm⟩
 · rw [List.getElem?_set_ne (Ne.symm e)] at hj
   exact .inr ⟨e, hj⟩

theorem Inv.setRow (I : Inv w0 m0 h0 av0 s a w m) {id : Nat} {cs cs' : List V} {C C' : Array Value} {T : TypeId} {fr : Nat × Nat} (hcl : Cl s.h id cs)
 (hC : w.heap[m id]? = some (.cells C T fr)) (hfr : aa2 fr C.size) (hsz : C'.size = C.size) (hl : cs.length ≤ cs'.length) (hl' : cs'.length ≤ C'.size)
 (hr : ∀ i (hi : i < cs'.length), RV w m s.h (avm av0 m s.h) true (C'.getD i Go.undef) cs'[i]) :
 Inv w0 m0 h0 av0 { s with h := s.h.set id (some cs') } a (w.setRow (m id) C') m ∧
 (∀ {o : Bool} {v : Value} {x : V}, RV w m s.h (avm av0 m s.h) o v x → RV (w.setRow (m id) C') m (s.h.set id (some cs')) (avm av0 m (s.h.set id (some cs'))) o v x) := by
 have hid := hcl.1
 have hmb : ix cs' = ix cs := by rw [hcl.2]; exact o9 hr
 have hown : ∀ b, own m (s.h.set id (some cs')) b → own m s.h b := by
  rintro b ⟨j, c, h1, rfl⟩
  rcases oe hid h1 with ⟨rfl, _⟩ | ⟨_, h2⟩
  · exact ⟨j, cs, hid, rfl⟩
  · exact ⟨j, c, h2, rfl⟩
 have hav : ∀ b, avm av0 m (s.h.set id (some cs')) b → avm av0 m s.h b := fun b hb => hb.imp (fun x => x) (hown b)
 have hE : Ext (own m s.h) w (w.setRow (m id) C') := Ext.setRow hC ⟨id, cs, hid, rfl⟩ (Nat.le_of_eq hsz.symm)
 have hstep : ∀ {o : Bool} {v : Value} {x : V}, RV w m s.h (avm av0 m s.h) o v x → RV (w.setRow (m id) C') m (s.h.set id (some cs')) (avm av0 m (s.h.set id (some cs'))) o v x :=
  fun hx => hx.step (fun b off v hb hc => ⟨fun h => hb (hav b h), hE.cell hc (fun h => hb (.inr h))⟩) (fun j c hj => by
   by_cases e : j = id
   · subst e
     rw [hid] at hj
     simp at hj; subst hj
     exact ⟨cs', by rw [List.getElem?_set_self (e8 hid)], hl, rfl, hE.row _ (I.rh.lt hid), hmb⟩
   · exact ⟨c, by rw [List.getElem?_set_ne (Ne.symm e)]; exact hj, Nat.le_refl _, rfl, hE.row _ (I.rh.lt hj), rfl⟩)
 refine ⟨⟨⟨?_, ?_, ?_⟩, I.size, fun i hi => hstep (I.slots i hi), I.defers, I.ext.trans' hE ?_, ?_, I.lt, I.lent, I.gl, I.k, by simpa using I.len⟩, hstep⟩
 · intro i j ci cj h1 h2 he
   have g : ∀ (i : Nat) (ci : List V), (s.h.set id (some cs'))[i]? = some (some ci) → ∃ c, s.h[i]? = some (some c) := by
    intro i ci h1
    rcases oe hid h1 with ⟨rfl, _⟩ | ⟨_, h2⟩
    · exact ⟨cs, hid⟩
    · exact ⟨ci, h2⟩
   obtain ⟨c1, g1⟩ := g i ci h1
   obtain ⟨c2, g2⟩ := g j cj h2
   exact I.rh.inj i j c1 c2 g1 g2 he
 · intro j c h1
   exact .inr ⟨j, c, h1, rfl⟩
 · intro j c h1
   rcases oe hid h1 with ⟨rfl, rfl⟩ | ⟨e, h2⟩
   · exact .inl ⟨C', T, fr, setRow_heap w _ C C' T _ hC, by rw [hsz]; exact hfr, hl', fun i hi => hstep (hr i hi)⟩
   · exact (I.rh.blk j c h2).step (setRow_other w (m id) (m j) C' (fun e2 => e (I.rh.inj j id c cs h2 hid e2))) (fun v x => hstep)
 · rintro b hb ⟨j, c, h1, rfl⟩
   rcases I.ids j c h1 with ⟨h2, c0, h4, _, h3 | ⟨_, h3⟩⟩ | ⟨h2, h3⟩
   · exact ⟨j, c0, h4, h3.symm⟩
   · omega
   · omega
 · intro j c h1
   rcases oe hid h1 with ⟨rfl, rfl⟩ | ⟨_, h2⟩
   · rcases I.ids j cs hid with ⟨h2, c0, h4, h5, h3 | ⟨h6, h3⟩⟩ | h2
     · exact .inl ⟨h2, c0, h4, by omega, .inl h3⟩
     · exact .inl ⟨h2, c0, h4, by omega, .inr ⟨by omega, h3⟩⟩
     · exact .inr h2
   · exact I.ids j c h2

def k9 (id : Nat) (j : Nat) : R := if j = id then .kill else .to j

def xj (id : Nat) (l : List V) : List V := l.map (ren (k9 id) 3)
def dj (id : Nat) (l : List V) : List V := l.map (ren (k9 id) 2)
def kb (id : Nat) (b : Option (List V)) : Option (List V) := b.map (dj id)

theorem Inv.move (I : Inv w0 m0 h0 av0 s a w m) {id : Nat} {cs cs' : List V} {C : Array Value} {T : TypeId} (hid : s.h[id]? = some (some cs)) (hk : h0.length ≤ id ∨ cs.length < cs'.length)
 (hl : cs'.length ≤ C.size) (hr : ∀ i (hi : i < cs'.length), RV w m s.h (avm av0 m s.h) true (C.getD i Go.undef) cs'[i]) :
 Inv w0 m0 h0 av0 { s with t := xj id s.t, h := (s.h.map (kb id)).set id (some (dj id cs')) } a (w.alloc (.cells C T)) (fun j => if j = id then w.heap.size else m j) := by
 have hE : Ext (fun _ => False) w (w.alloc (.cells C T)) := Ext.alloc _ w _
 have hlt := e8 hid
 have hmap : ∀ (j : Nat) (c : List V), j ≠ id → ((s.h.map (kb id)).set id (some (dj id cs')))[j]? = some (some c) → ∃ c0, s.h[j]? = some (some c0) ∧ c = dj id c0 := by
  intro j c e h1
  rw [List.getElem?_set_ne (Ne.symm e), List.getElem?_map] at h1
  cases h2 : s.h[j]? with
  | none => simp [h2] at h1
  | some b =>
   cases b with
   | none => simp [h2, kb] at h1
   | some c0 => simp [h2, kb] at h1; exact ⟨c0, rfl, h1.symm⟩
 have hself : ((s.h.map (kb id)).set id (some (dj id cs')))[id]? = some (some (dj id cs')) := by rw [List.getElem?_set_self (by simpa using hlt)]
 have hown : ∀ b, own (fun j => if j = id then w.heap.size else m j) ((s.h.map (kb id)).set id (some (dj id cs'))) b → own m s.h b ∨ b = w.heap.size := by
  rintro b ⟨j, c, h1, rfl⟩
  by_cases e : j = id
  · subst e; exact .inr (by simp)
  · obtain ⟨c0, h2, _⟩ := hmap j c e h1
    exact .inl ⟨j, c0, h2, by simp [e]⟩
 have hR : Ren w (w.alloc (.cells C T)) m (fun j => if j = id then w.heap.size else m j) s.h ((s.h.map (kb id)).set id (some (dj id cs'))) (avm av0 m s.h)
  (avm av0 (fun j => if j = id then w.heap.size else m j) ((s.h.map (kb id)).set id (some (dj id cs')))) (k9 id) := by
  refine ⟨fun b off v hb hc => ⟨?_, hE.cell hc (fun h => h)⟩, fun j c j' hj hf => ?_, fun j c c' hj hf => ?_⟩
  · rintro (h1 | h1)
    · exact hb (.inl h1)
    · rcases hown b h1 with h2 | h2
      · exact hb (.inr h2)
      · have := World.block_lt_of_cell? w _ hc
        simp at this; omega
  · by_cases e : j = id
    · simp [k9, e] at hf
    · simp [k9, e] at hf; subst hf
      refine ⟨dj id c, ?_, by simp [dj], by simp [e], hE.row _ (I.rh.lt hj), er _ _ _⟩
      rw [List.getElem?_set_ne (Ne.symm e), List.getElem?_map, hj]
      rfl
  · by_cases e : j = id <;> simp [k9, e] at hf
 refine ⟨⟨?_, ?_, ?_⟩, by simpa [xj] using I.size, fun i hi => ?_, I.defers, I.ext.trans' hE (fun _ _ h => h.elim), ?_, I.lt, I.lent, I.gl, I.k, by simpa using I.len⟩
 · intro i j ci cj h1 h2 he
   by_cases e1 : i = id <;> by_cases e2 : j = id
   · rw [e1, e2]
   · obtain ⟨c0, h3, _⟩ := hmap j cj e2 h2
     simp [e1, e2] at he
     have := I.rh.lt h3; omega
   · obtain ⟨c0, h3, _⟩ := hmap i ci e1 h1
     simp [e1, e2] at he
     have := I.rh.lt h3; omega
   · obtain ⟨c0, h3, _⟩ := hmap i ci e1 h1
     obtain ⟨c1, h4, _⟩ := hmap j cj e2 h2
     simp [e1, e2] at he
     exact I.rh.inj i j c0 c1 h3 h4 he
 · intro j c h1
   exact .inr ⟨j, c, h1, rfl⟩
 · intro j c h1
   by_cases e : j = id
   · subst e
     rw [hself] at h1
     simp at h1; subst h1
     refine .inl ⟨C, T, (0, 0), by simpa using heap_alloc_new w _, .inl rfl, by simpa [dj] using hl, fun i hi => ?_⟩
     simp only [dj, List.getElem_map]
     exact (hr i (by simpa [dj] using hi)).ren hR 2
   · obtain ⟨c0, h2, rfl⟩ := hmap j c e h1
     simp only [e, if_false]
     exact (I.rh.blk j c0 h2).map (hE.block _ (I.rh.lt h2) (fun h => h)) (kh _ 2) (fun v x hx => hx.ren hR 2)
 · simp only [xj, List.getElem_map]
   exact (I.slots i (by simpa [xj] using hi)).ren hR 3
 · intro j c h1
   by_cases e : j = id
   · subst e
     rw [hself] at h1
     simp only [Option.some.injEq] at h1
     subst h1
     have hnew : w0.heap.size ≤ (if j = j then w.heap.size else m j) := by simp; exact I.ext.size
     have hlc : (dj j cs').length = cs'.length := by simp [dj]
     rcases hk with hk | hk
     · exact .inr ⟨hk, hnew⟩
     · rcases I.ids j cs hid with ⟨h2, c0, h4, h5, _⟩ | ⟨h2, _⟩
       · exact .inl ⟨h2, c0, h4, by omega, .inr ⟨by omega, hnew⟩⟩
       · exact .inr ⟨h2, hnew⟩
   · obtain ⟨c0, h2, rfl⟩ := hmap j c e h1
     have := I.ids j c0 h2
     simp only [e, if_false, dj, List.length_map]
     exact this

theorem Inv.kill (I : Inv w0 m0 h0 av0 s a w m) {id : Nat} {cs : List V} (hid : s.h[id]? = some (some cs)) :
 Inv w0 m0 h0 av0 { s with t := xj id s.t, h := (s.h.map (kb id)).set id (some (dj id cs)) } a w m := by
 have hlt := e8 hid
 have hmap : ∀ (j : Nat) (c : List V), ((s.h.map (kb id)).set id (some (dj id cs)))[j]? = some (some c) → ∃ c0, s.h[j]? = some (some c0) ∧ c = dj id c0 := by
  intro j c h1
  by_cases e : j = id
  · subst e
    rw [List.getElem?_set_self (by simpa using hlt)] at h1
    simp at h1
    exact ⟨cs, hid, h1.symm⟩
  · rw [List.getElem?_set_ne (Ne.symm e), List.getElem?_map] at h1
    cases h2 : s.h[j]? with
    | none => simp [h2] at h1
    | some b =>
     cases b with
     | none => simp [h2, kb] at h1
     | some c0 => simp [h2, kb] at h1; exact ⟨c0, rfl, h1.symm⟩
 have hmap2 : ∀ (j : Nat) (c : List V), s.h[j]? = some (some c) → ((s.h.map (kb id)).set id (some (dj id cs)))[j]? = some (some (dj id c)) := by
  intro j c h1
  by_cases e : j = id
  · subst e
    rw [hid] at h1; simp at h1; subst h1
    rw [List.getElem?_set_self (by simpa using hlt)]
  · rw [List.getElem?_set_ne (Ne.symm e), List.getElem?_map, h1]
    rfl
 have hown : ∀ b, own m ((s.h.map (kb id)).set id (some (dj id cs))) b → own m s.h b := by
  rintro b ⟨j, c, h1, rfl⟩
  obtain ⟨c0, h2, _⟩ := hmap j c h1
  exact ⟨j, c0, h2, rfl⟩
 have hR : Ren w w m m s.h ((s.h.map (kb id)).set id (some (dj id cs))) (avm av0 m s.h) (avm av0 m ((s.h.map (kb id)).set id (some (dj id cs)))) (k9 id) := by
  refine ⟨fun b off v hb hc => ⟨fun h => hb (h.imp (fun x => x) (hown b)), hc⟩, fun j c j' hj hf => ?_, fun j c c' hj hf => ?_⟩
  · by_cases e : j = id
    · simp [k9, e] at hf
    · simp [k9, e] at hf; subst hf
      exact ⟨dj id c, hmap2 j c hj, by simp [dj], rfl, Nat.le_refl _, er _ _ _⟩
  · by_cases e : j = id <;> simp [k9, e] at hf
 refine ⟨⟨?_, ?_, ?_⟩, by simpa [xj] using I.size, fun i hi => ?_, I.defers, I.ext, ?_, I.lt, I.lent, I.gl, I.k, by simpa using I.len⟩
 · intro i j ci cj h1 h2 he
   obtain ⟨c0, h3, _⟩ := hmap i ci h1
   obtain ⟨c1, h4, _⟩ := hmap j cj h2
   exact I.rh.inj i j c0 c1 h3 h4 he
 · intro j c h1
   exact .inr ⟨j, c, h1, rfl⟩
 · intro j c h1
   obtain ⟨c0, h2, rfl⟩ := hmap j c h1
   exact (I.rh.blk j c0 h2).map rfl (kh _ 2) (fun v x hx => hx.ren hR 2)
 · simp only [xj, List.getElem_map]
   exact (I.slots i (by simpa [xj] using hi)).ren hR 3
 · intro j c h1
   obtain ⟨c0, h2, rfl⟩ := hmap j c h1
   simp only [dj, List.length_map]
   exact I.ids j c0 h2

end
end Go.Lv
end
section
namespace Go.Lv

def fh (h : Hp) : Nat → Nat → R
 | 0, _ => .kill
 | d + 1, id => match h[id]? with
  | some (some cs) => .frz (cs.map (ren (fh h d) 2))
  | _ => .kill

def shf (n j : Nat) : R := .to (n + j)
def shB (n : Nat) (b : Option (List V)) : Option (List V) := b.map (List.map (ren (shf n) 2))
def shH (n : Nat) (h : Hp) : Hp := h.map (shB n)

def LeE (v v' : V) : Prop := v' = v ∨ v' = .undef ∨ (v = .nilsl ∧ ∃ wd, v' = .sl 0 wd [])
def LeA : List V → List V → Prop
 | [], [] => True
 | a :: l, b :: l' => LeE a b ∧ LeA l l'
 | _, _ => False
def LeV (v v' : V) : Prop := v' = v ∨ v' = .undef ∨ (v = .nilsl ∧ ∃ wd, v' = .sl 0 wd []) ∨ ∃ cs cs', v = .agg cs ∧ v' = .agg cs' ∧ LeA cs cs'
theorem LeE.nil {wd : Nat} : LeE .nilsl (.sl 0 wd []) := .inr (.inr ⟨rfl, wd, rfl⟩)
theorem LeE.refl (v : V) : LeE v v := .inl rfl
theorem LeV.agg {cs cs' : List V} (h : LeA cs cs') : LeV (.agg cs) (.agg cs') := .inr (.inr (.inr ⟨cs, cs', rfl, rfl, h⟩))
theorem LeA.get : ∀ {l l' : List V}, LeA l l' → l.length = l'.length ∧ ∀ i (hi : i < l.length) (hi' : i < l'.length), LeE l[i] l'[i]
 | [], [], _ => ⟨rfl, fun i hi => by simp at hi⟩
 | a :: l, b :: l', h => by
  obtain ⟨h1, h2⟩ := LeA.get h.2
  refine ⟨by simp [h1], fun i hi hi' => ?_⟩
  cases i with
  | zero => exact h.1
  | succ i => exact h2 i (by simpa using hi) (by simpa using hi')
 | [], _ :: _, h => h.elim
 | _ :: _, [], h => h.elim

def LeL : List V → List V → Prop
 | [], [] => True
 | a :: l, b :: l' => LeV a b ∧ LeL l l'
 | _, _ => False

def de : Nat → V → Bool
 | _, .osl _ _ _ _ => false
 | _, .ptr _ _ => false
 | _, .mp _ => false
 | d + 1, .agg cs => cs.all (de d)
 | d + 1, .tup cs => cs.all (de d)
 | d + 1, .fn _ a c => a.all (de d) && c.all (de d)
 | 0, .agg _ => false
 | 0, .tup _ => false
 | 0, .fn _ _ _ => false
 | _, _ => true

def wb (x : V) : Prop := ∀ w m h av v, RV w m h av true v x → RV w m h (fun _ => True) true v x

def my (h : Hp) : Prop := ∀ (id : Nat) (cs : List V), h[id]? = some (some cs) → ∀ x ∈ cs, wb x

section
variable {P : Program} {w w' : World} {m m' : Nat → Nat} {h h' : Hp} {av av' : Nat → Prop}

theorem RV.as8 {o : Bool} {v : Value} {x : V} (hx : RV w m [] av o v x) : RV w m [] av false v x := by
 generalize he : ([] : Hp) = h at hx
 induction hx with
 | undef v => exact .undef v
 | skip => exact .skip
 | bool b => exact .bool b
 | int k n => exact .int k n
 | str s => exact .str s
 | nilsl => exact .nilsl
 | slz a c wd => exact .slz a c wd
 | sl b off n cap wd cs vals hl ha hc hv hr _ => exact .sl b off n cap wd cs vals hl ha hc hv hr
 | pt b off cs vals ha hv hr _ => exact .pt b off cs vals ha hv hr
 | osl id off n cap wd cs hid hl hc hs => subst he; simp [Cl] at hid
 | ptr id off cs hid => subst he; simp [Cl] at hid
 | fn f a c a' c' ha hc hra hrc iha ihc => exact .fn f a c a' c' ha hc iha ihc
 | agg a a' ha hra iha => exact .agg a a' ha iha
 | tup a a' ha hra iha => exact .tup a a' ha iha
 | lit v => exact .lit v
 | mp id cs hid hm => subst he; simp at hid

theorem RV.free {v : Value} {x : V} (hx : RV w m h av false v x) : RV w m' h' av false v x :=
 hx.x6 (fun _ _ _ hb hc => ⟨hb, hc⟩) rfl

theorem RV.leE {v : Value} {x x' : V} {o : Bool} (hx : RV w m h av o v x) (hl : LeE x x') : RV w m h av o v x' := by
 rcases hl with rfl | rfl | ⟨rfl, wd, rfl⟩
 · exact hx
 · exact .undef v
 · cases hx; exact .slz _ _ _
theorem RV.le {v : Value} {x x' : V} {o : Bool} (hx : RV w m h av o v x) (hl : LeV x x') : RV w m h av o v x' := by
 rcases hl with rfl | rfl | ⟨rfl, wd, rfl⟩ | ⟨cs, cs', rfl, rfl, hA⟩
 · exact hx
 · exact .undef v
 · cases hx; exact .slz _ _ _
 · cases hx with
   | agg a a' ha hra =>
    obtain ⟨h1, h2⟩ := hA.get
    exact .agg a cs' (by rw [ha, h1]) (fun i hi => (hra i (by rw [h1]; exact hi)).leE (h2 i _ hi))

theorem RV.de : ∀ (d : Nat) (x : V), de d x = true → ∀ {v : Value}, RV w m h av true v x → RV w m h av false v x := by
 intro d
 induction d with
 | zero =>
  intro x hn v hx
  cases hx <;> first | (simp [Lv.de] at hn; done) | skip
  case undef => exact .undef _
  case skip => exact .skip
  case bool b => exact .bool b
  case int k n => exact .int k n
  case str s => exact .str s
  case nilsl => exact .nilsl
  case slz a c wd => exact .slz a c wd
  case sl b off n cap wd cs vals hl ha hc hv hr => exact .sl b off n cap wd cs vals hl ha hc hv hr
  case pt b off cs vals ha hv hr => exact .pt b off cs vals ha hv hr
  case lit => exact .lit v
 | succ d ih =>
  intro x hn v hx
  cases hx <;> first | (simp [Lv.de] at hn; done) | skip
  case undef => exact .undef _
  case skip => exact .skip
  case bool b => exact .bool b
  case int k n => exact .int k n
  case str s => exact .str s
  case nilsl => exact .nilsl
  case slz a c wd => exact .slz a c wd
  case sl b off n cap wd cs vals hl ha hc hv hr => exact .sl b off n cap wd cs vals hl ha hc hv hr
  case pt b off cs vals ha hv hr => exact .pt b off cs vals ha hv hr
  case lit => exact .lit v
  case fn f a c a' c' ha hc hra hrc =>
   simp only [Lv.de, Bool.and_eq_true, List.all_eq_true] at hn
   exact .fn f a c a' c' ha hc (fun i hi => ih _ (hn.1 _ (List.getElem_mem _)) (hra i hi)) (fun i hi => ih _ (hn.2 _ (List.getElem_mem _)) (hrc i hi))
  case agg a a' ha hra =>
   simp only [Lv.de, List.all_eq_true] at hn
   exact .agg a a' ha (fun i hi => ih _ (hn _ (List.getElem_mem _)) (hra i hi))
  case tup a a' ha hra =>
   simp only [Lv.de, List.all_eq_true] at hn
   exact .tup a a' ha (fun i hi => ih _ (hn _ (List.getElem_mem _)) (hra i hi))

theorem age (f : Nat → R) : ∀ (d : Nat) (x : V), de d x = true → ren f d x = x := by
 intro d
 induction d with
 | zero => intro x hn; cases x <;> simp [de] at hn <;> rfl
 | succ d ih =>
  intro x hn
  have hl : ∀ (l : List V), (∀ x ∈ l, de d x = true) → l.map (ren f d) = l := fun l hl => by
   conv => rhs; rw [← List.map_id l]
   exact List.map_congr_left fun x hx => ih x (hl x hx)
  cases x with
  | osl a b c e => simp [de] at hn
  | ptr a b => simp [de] at hn
  | mp a => simp [de] at hn
  | fn g a c =>
   simp only [de, List.all_eq_true, Bool.and_eq_true] at hn
   simp only [ren, hl a hn.1, hl c hn.2]
  | agg cs =>
   simp only [de, List.all_eq_true] at hn
   simp only [ren, hl cs hn]
  | tup cs =>
   simp only [de, List.all_eq_true] at hn
   simp only [ren, hl cs hn]
  | _ => rfl

theorem arx (H : RH w m h av) (m' : Nat → Nat) (d : Nat) : Ren w w m m' h [] av (fun _ => False) (fh h d) := by
 induction d with
 | zero => exact ⟨fun _ _ _ _ hc => ⟨fun h => h, hc⟩, fun _ _ _ _ hf => by simp [fh] at hf, fun _ _ _ _ hf => by simp [fh] at hf⟩
 | succ d ih =>
  refine ⟨fun _ _ _ _ hc => ⟨fun h => h, hc⟩, fun id cs j hid hf => ?_, fun id cs cs' hid hf hn => ?_⟩
  · simp [fh, hid] at hf
  · simp [fh, hid] at hf; subst hf
    refine ⟨by simp, fun h => h, fun i hi => ?_⟩
    obtain ⟨v, hv, hr⟩ := H.cell ⟨hid, hn⟩ (i := i) (by simpa using hi)
    refine ⟨v, hv, ?_⟩
    rw [getD_map hi]
    exact (hr.ren ih 2).as8

theorem aqu {f : FuncId} (ho : okF P f = true) : ∃ fn, P.funcs[f]? = some fn ∧ (fn.name == "runtime.NumGoroutine") = false ∧ fn.body.isNone = false := by
 unfold okF at ho
 split at ho
 · rename_i fn h1
   simp only [Bool.and_eq_true, Bool.not_eq_true'] at ho
   exact ⟨fn, h1, ho.1, by cases hb : fn.body <;> simp_all⟩
 · cases ho

theorem ap2 {g : FuncId} (ho : okF P g = true) (args : Array Value) : (callFunc g args).run P w = .ok (.enter g args) w := by
 obtain ⟨fn, h1, h2, h3⟩ := aqu ho
 have h4 : ¬ fn.name = "runtime.NumGoroutine" := by simpa using h2
 have h5 : ¬ fn.body = none := fun h => by simp [h] at h3
 simp [callFunc, h1, h4, h5]

theorem xx {a : Operand → Value} {g : FuncId} {f : Operand} {first cap : Array Value} (ho : okF P g = true) (hf : a f = .func (.func g) first cap) (args : Array Operand) (ts : Array TypeId) (dst : Option Tmp) (ty : TypeId) (pos : String) (after : Array Edge) (gd : Option (Nat × Bool)) :
 (execOp a ⟨dst, .call { callee := .value f, args, argTypes := ts }, ty, pos, after, gd⟩).run P w = .ok (.enter g (first ++ args.map a ++ cap)) w := by
 simp [execOp, resolve, hf, Deferred.ofValue, invoke, ap2 ho]

end

def w6 (P : Program) (h : Hp) (fv : V) (args : List V) (K : V → Hp → Prop) : Prop :=
 match fv with
 | .fn (.func g) a c => ∃ as' r hout, LeL ((a ++ args ++ c).map (ren (fh h 3) 3)) as' ∧ Ctr P g as' [] r hout ∧ ((a ++ args ++ c).all (de 3) = true ∨ wb r ∧ my hout) ∧ K r hout
 | _ => False

theorem LeL.get : ∀ {l l' : List V}, LeL l l' → l.length = l'.length ∧ ∀ i (hi : i < l.length) (hi' : i < l'.length), LeV l[i] l'[i]
 | [], [], _ => ⟨rfl, fun i hi => by simp at hi⟩
 | a :: l, b :: l', h => by
  obtain ⟨h1, h2⟩ := LeL.get h.2
  refine ⟨by simp [h1], fun i hi hi' => ?_⟩
  cases i with
  | zero => exact h.1
  | succ i => exact h2 i (by simpa using hi) (by simpa using hi')
 | [], _ :: _, h => h.elim
 | _ :: _, [], h => h.elim

section
variable {P : Program} {w0 : World} {m0 : Nat → Nat} {h0 : Hp} {av0 : Nat → Prop} {s : St} {a : Act} {w : World} {m : Nat → Nat}

theorem iq (x y : Array Value) {i : Nat} (hi : i < x.size) (d : Value) : (x ++ y).getD i d = x.getD i d := by
 simp [Array.getD_eq_getD_getElem?, Array.getElem?_append_left hi]
theorem s8 (x y : Array Value) {i : Nat} (hi : x.size ≤ i) (d : Value) : (x ++ y).getD i d = y.getD (i - x.size) d := by
 simp [Array.getD_eq_getD_getElem?, Array.getElem?_append_right hi]

theorem jr {o : Bool} {w : World} {m : Nat → Nat} {h : Hp} {av : Nat → Prop} {x y : Array Value} {x' y' : List V} (hx : x.size = x'.length) (hy : y.size = y'.length)
 (rx : ∀ i (hi : i < x'.length), RV w m h av o (x.getD i Go.undef) x'[i]) (ry : ∀ i (hi : i < y'.length), RV w m h av o (y.getD i Go.undef) y'[i]) :
 (x ++ y).size = (x' ++ y').length ∧ ∀ i (hi : i < (x' ++ y').length), RV w m h av o ((x ++ y).getD i Go.undef) (x' ++ y')[i] := by
 refine ⟨by simp [hx, hy], fun i hi => ?_⟩
 by_cases hlt : i < x'.length
 · rw [List.getElem_append_left hlt, iq x y (by omega)]
   exact rx i hlt
 · rw [List.getElem_append_right (by omega), s8 x y (by omega)]
   have hi' : i - x'.length < y'.length := by simp at hi; omega
   have := ry (i - x'.length) hi'
   rw [hx]
   exact this

structure Left (w0 : World) (m0 : Nat → Nat) (h0 : Hp) (av0 : Nat → Prop) (s : St) (a : Act) (w : World) (m : Nat → Nat) (w' : World) (v : Value) (r : V) (hout : Hp) (m' : Nat → Nat) (avX : Nat → Prop) : Prop where
 inv : Inv w0 m0 h0 av0 s a w m
 ext : Ext (fun _ => False) w w'
 inj : ∀ i j ci cj, hout[i]? = some (some ci) → hout[j]? = some (some cj) → m' i = m' j → i = j
 blk : ∀ id cs, hout[id]? = some (some cs) → rr w' m' hout avX (m' id) cs
 res : RV w' m' hout avX true v r
 new : ∀ id cs, hout[id]? = some (some cs) → w.heap.size ≤ m' id
 hX : ∀ b, avm av0 m s.h b ∨ own m' hout b → avX b
 aed : ∀ b, avm av0 m s.h b → b < w.heap.size

theorem aot (I : Inv w0 m0 h0 av0 s a w m) {fv : V} {u : Value} (hf : RV w m s.h (avm av0 m s.h) true u fv) {xs : Array Value} {xs' : List V} (hs : xs.size = xs'.length)
 (hx : ∀ i (hi : i < xs'.length), RV w m s.h (avm av0 m s.h) true (xs.getD i Go.undef) xs'[i]) {K : V → Hp → Prop} (hq : w6 P s.h fv xs' K) :
 ∃ g first cap r hout, u = .func (.func g) first cap ∧ okF P g = true ∧ K r hout ∧
  Calls P g (first ++ xs ++ cap) w fun e w' => ∃ v m' avX, e = .returned v ∧ Left w0 m0 h0 av0 s a w m w' v r hout m' avX := by
 cases hf with
 | fn f first cap a' c' ha hc hra hrc =>
  cases f with
  | func g =>
   obtain ⟨as', r, hout, hle, hspec, hro, hk⟩ := hq
   obtain ⟨hokf, hspec⟩ := hspec
   obtain ⟨hlen, hget⟩ := hle.get
   have h1 := jr ha hs hra hx
   have h2 := jr h1.1 hc h1.2 hrc
   refine ⟨g, first, cap, r, hout, rfl, hokf, hk, ?_⟩
   have hsz : (first ++ xs ++ cap).size = as'.length := by rw [h2.1, ← hlen]; simp
   rcases hro with hno | ⟨hr1, hr2⟩
   · have hargs : ∀ i (hi : i < as'.length), RV w m [] (avm av0 m s.h) true ((first ++ xs ++ cap).getD i Go.undef) as'[i] := by
      intro i hi
      have hi2 : i < (a' ++ xs' ++ c').length := by have := hi; rw [← hlen] at this; simpa using this
      have hno' : de 3 ((a' ++ xs' ++ c')[i]) = true := List.all_eq_true.1 hno _ (List.getElem_mem _)
      have hle := hget i (by simpa using hi2) hi
      rw [getD_map (f := ren (fh s.h 3) 3) (l := a' ++ xs' ++ c') (by simpa using hi2), age _ 3 _ hno'] at hle
      exact (((RV.de 3 _ hno' (h2.2 i hi2)).free (m' := m) (h' := [])).se).le hle
     refine (hspec w (first ++ xs ++ cap) m (avm av0 m s.h) ⟨fun i j ci cj h => by simp at h, fun id cs h => by simp at h, fun id cs h => by simp at h⟩ (fun b hb => I.aed hb) I.glw hsz hargs).mono ?_
     rintro e w' ⟨v, m', rfl, hE, hH, hR, hI⟩
     have hE' : Ext (fun _ => False) w w' := hE.mono (fun b _ ⟨id, cs, h, _⟩ => by simp at h)
     exact ⟨v, m', _, rfl, I, hE', hH.inj, hH.blk, hR, fun id cs hid => (by
      rcases hI id cs hid with ⟨h, _⟩ | ⟨_, h⟩
      · simp at h
      · exact h), fun b hb => hb, fun b hb => I.aed hb⟩
   · have hS := arx I.rh m 3
     have hargs : ∀ i (hi : i < as'.length), RV w m [] (fun _ => False) true ((first ++ xs ++ cap).getD i Go.undef) as'[i] := by
      intro i hi
      have hi2 : i < (a' ++ xs' ++ c').length := by have := hi; rw [← hlen] at this; simpa using this
      have hle := hget i (by simpa using hi2) hi
      rw [getD_map (f := ren (fh s.h 3) 3) (l := a' ++ xs' ++ c') (by simpa using hi2)] at hle
      exact ((h2.2 i hi2).ren hS 3).le hle
     refine (hspec w (first ++ xs ++ cap) m (fun _ => False) ⟨fun i j ci cj h => by simp at h, fun id cs h => by simp at h, fun id cs h => by simp at h⟩ (fun b hb => hb.elim) (I.glw.mono (fun b hb => hb.elim)) hsz hargs).mono ?_
     rintro e w' ⟨v, m', rfl, hE, hH, hR, hI⟩
     have hE' : Ext (fun _ => False) w w' := hE.mono (fun b _ ⟨id, cs, h, _⟩ => by simp at h)
     refine ⟨v, m', fun _ => True, rfl, I, hE', hH.inj, fun id cs hid => ?_, hr1 _ _ _ _ _ hR, fun id cs hid => (by
      rcases hI id cs hid with ⟨h, _⟩ | ⟨_, h⟩
      · simp at h
      · exact h), fun b hb => trivial, fun b hb => I.aed hb⟩
     rcases hH.blk id cs hid with ⟨C, T, fr, h3, hfr, h4, h5⟩ | h3
     · exact .inl ⟨C, T, fr, h3, hfr, h4, fun i hi => hr2 id cs hid _ (List.getElem_mem _) _ _ _ _ _ (h5 i hi)⟩
     · exact .inr h3
  | _ => exact False.elim hq
 | _ => exact False.elim hq

theorem Left.quiet {w' : World} {v : Value} {r : V} {hout : Hp} {m' : Nat → Nat} {avX : Nat → Prop} (L : Left w0 m0 h0 av0 s a w m w' v r hout m' avX) :
 RV w' m s.h (avm av0 m s.h) true v (ren (fh hout 3) 3 r) := by
 have base : ∀ d, Ren w' w' m' m hout [] avX (avm av0 m s.h) (fh hout d) := by
  intro d
  induction d with
  | zero => exact ⟨fun b off v hb hc => ⟨fun h => hb (L.hX b (.inl h)), hc⟩, fun _ _ _ _ hf => by simp [fh] at hf, fun _ _ _ _ hf => by simp [fh] at hf⟩
  | succ d ih =>
   refine ⟨fun b off v hb hc => ⟨fun h => hb (L.hX b (.inl h)), hc⟩, fun id cs j hid hf => ?_, fun id cs cs' hid hf hn => ?_⟩
   · simp [fh, hid] at hf
   · simp [fh, hid] at hf; subst hf
     refine ⟨by simp, fun h => ?_, fun i hi => ?_⟩
     · have h1 := L.aed _ h
       have h2 := L.new id cs hid
       omega
     · obtain ⟨C, T, fr, h1, _, h2, h3⟩ := (L.blk id cs hid).cells hn
       have hi' : i < cs.length := by simpa using hi
       refine ⟨C.getD i Go.undef, ?_, ?_⟩
       · rw [cell_of_row w' (m' id) i C T fr h1]
         simp [Array.getD, show i < C.size from by omega]
       · rw [getD_map hi]
         exact ((h3 i hi').ren ih 2).as8
 exact ((L.res.ren (base 3) 3).as8.free).se

def af2 (m m' : Nat → Nat) (n : Nat) : Nat → Nat := fun id => if id < n then m id else m' (id - n)

def qp (s : St) (dst : Option Tmp) (r : V) (hout : Hp) : St :=
 ({ s with h := s.h ++ shH s.h.length hout } : St).put dst (ren (shf s.h.length) 3 r)

theorem Left.full {w' : World} {v : Value} {r : V} {hout : Hp} {m' : Nat → Nat} {avX : Nat → Prop} (L : Left w0 m0 h0 av0 s a w m w' v r hout m' avX) (dst : Option Tmp) :
 Inv w0 m0 h0 av0 (qp s dst r hout) (a.put dst v) w' (af2 m m' s.h.length) := by
 have I : Inv w0 m0 h0 av0 s a w m := L.inv
 have hold : ∀ (j : Nat) (c : List V), s.h[j]? = some (some c) → (s.h ++ shH s.h.length hout)[j]? = some (some c) := fun j c h => by rw [List.getElem?_append_left (e8 h)]; exact h
 have hmo : ∀ (j : Nat) (c : List V), s.h[j]? = some (some c) → af2 m m' s.h.length j = m j := fun j c h => if_pos (e8 h)
 have hmn : ∀ j, af2 m m' s.h.length (s.h.length + j) = m' j := fun j => by simp only [af2]; rw [if_neg (by omega)]; congr 1; omega
 have hcase : ∀ (j : Nat) (c : List V), (s.h ++ shH s.h.length hout)[j]? = some (some c) → s.h[j]? = some (some c) ∨ ∃ j' c', j = s.h.length + j' ∧ hout[j']? = some (some c') ∧ c = c'.map (ren (shf s.h.length) 2) := by
  intro j c h
  rw [List.getElem?_append] at h
  split at h
  · exact .inl h
  · refine .inr ⟨j - s.h.length, ?_⟩
    simp only [shH, List.getElem?_map] at h
    cases h2 : hout[j - s.h.length]? with
    | none => simp [h2] at h
    | some b =>
     cases b with
     | none => simp [h2, shB] at h
     | some c' => simp [h2, shB] at h; exact ⟨c', by omega, rfl, h.symm⟩
 have hnew : ∀ (j : Nat) (c : List V), hout[j]? = some (some c) → (s.h ++ shH s.h.length hout)[s.h.length + j]? = some (some (c.map (ren (shf s.h.length) 2))) := by
  intro j c h
  rw [List.getElem?_append_right (by omega)]
  simp [shH, h, shB]
 have hown : ∀ b, own (af2 m m' s.h.length) (s.h ++ shH s.h.length hout) b → own m s.h b ∨ own m' hout b := by
  rintro b ⟨j, c, h1, rfl⟩
  rcases hcase j c h1 with h2 | ⟨j', c', rfl, h2, _⟩
  · exact .inl ⟨j, c, h2, (hmo j c h2).symm⟩
  · exact .inr ⟨j', c', h2, (hmn j').symm⟩
 have hnlt : ∀ b, own m' hout b → w.heap.size ≤ b := by
  rintro b ⟨j, c, h1, rfl⟩
  exact L.new j c h1
 have holdlt : ∀ b, avm av0 m s.h b → b < w.heap.size := L.aed
 -- what was there
 have hstep : ∀ {o : Bool} {v : Value} {x : V}, RV w m s.h (avm av0 m s.h) o v x → RV w' (af2 m m' s.h.length) (s.h ++ shH s.h.length hout) (avm av0 (af2 m m' s.h.length) (s.h ++ shH s.h.length hout)) o v x :=
  fun hx => hx.step (fun b off v hb hc => ⟨fun h => by
   rcases h with h | h
   · exact hb (.inl h)
   · rcases hown b h with h2 | h2
     · exact hb (.inr h2)
     · have := hnlt b h2
       have := World.block_lt_of_cell? w _ hc
       simp at this; omega, L.ext.cell hc (fun h => h)⟩)
   (fun id c hid => ⟨c, hold id c hid, Nat.le_refl _, hmo id c hid, L.ext.row _ (L.aed _ (.inr ⟨id, c, hid, rfl⟩)), rfl⟩)
 have hR : Ren w' w' m' (af2 m m' s.h.length) hout (s.h ++ shH s.h.length hout) avX (avm av0 (af2 m m' s.h.length) (s.h ++ shH s.h.length hout)) (shf s.h.length) := by
  refine ⟨fun b off v hb hc => ⟨fun h => hb (L.hX b ?_), hc⟩, fun id cs j hid hf => ?_, fun id cs cs' hid hf => by simp [shf] at hf⟩
  · rcases h with h | h
    · exact .inl (.inl h)
    · rcases hown b h with h2 | h2
      · exact .inl (.inr h2)
      · exact .inr h2
  · simp [shf] at hf; subst hf
    exact ⟨_, hnew id cs hid, by simp, hmn id, Nat.le_refl _, er _ _ _⟩
 have J : Inv w0 m0 h0 av0 { s with h := s.h ++ shH s.h.length hout } a w' (af2 m m' s.h.length) := by
  refine ⟨⟨?_, ?_, ?_⟩, I.size, fun i hi => hstep (I.slots i hi), I.defers, I.ext.trans' L.ext (fun _ _ h => h.elim), ?_, I.lt, I.lent, I.gl, I.k, by simp; have := I.len; omega⟩
  · intro i j ci cj h1 h2 he
    rcases hcase i ci h1 with h3 | ⟨i', c', rfl, h3, _⟩ <;> rcases hcase j cj h2 with h4 | ⟨j', d', rfl, h4, _⟩
    · rw [hmo i ci h3, hmo j cj h4] at he
      exact I.rh.inj i j ci cj h3 h4 he
    · rw [hmo i ci h3, hmn] at he
      have := I.rh.lt h3
      have := L.new j' d' h4
      omega
    · rw [hmn, hmo j cj h4] at he
      have := I.rh.lt h4
      have := L.new i' c' h3
      omega
    · rw [hmn, hmn] at he
      rw [L.inj i' j' c' d' h3 h4 he]
  · intro j c h1
    exact .inr ⟨j, c, h1, rfl⟩
  · intro j c h1
    rcases hcase j c h1 with h2 | ⟨j', c', rfl, h2, rfl⟩
    · rw [hmo j c h2]
      exact (I.rh.blk j c h2).step (L.ext.block _ (I.rh.lt h2) (fun h => h)) (fun v x => hstep)
    · rw [hmn]
      exact (L.blk j' c' h2).map rfl (kh _ 2) (fun v x hx => hx.ren hR 2)
  · intro j c h1
    rcases hcase j c h1 with h2 | ⟨j', c', rfl, h2, _⟩
    · rw [hmo j c h2]
      exact I.ids j c h2
    · refine .inr ⟨by have := I.len; omega, ?_⟩
      rw [hmn]
      exact Nat.le_trans I.ext.size (L.new j' c' h2)
 exact J.put (L.res.ren hR 3)

end
end Go.Lv
end
section
namespace Go.Lv

def yc : List Nat → Nat → Bool
 | [], _ => false
 | a :: l, t => decide (t = a) || yc l t
def posOf : List Nat → Nat → Option Nat
 | [], _ => none
 | i :: l, id => if id = i then some 0 else (posOf l id).map (· + 1)

theorem vj : ∀ {l : List Nat} {id p : Nat}, posOf l id = some p → l[p]? = some id
 | [], _, _, h => by simp [posOf] at h
 | i :: l, id, p, h => by
  unfold posOf at h
  split at h
  · rename_i e; simp at h; subst h; simp [e]
  · cases hp : posOf l id with
    | none => simp [hp] at h
    | some q => simp [hp] at h; subst h; simpa using vj hp

theorem n9 : ∀ {l : List Nat} {id p : Nat}, posOf l id = none → l[p]? ≠ some id
 | [], _, _, _ => by simp
 | i :: l, id, p, h => by
  unfold posOf at h
  split at h
  · simp at h
  · rename_i e
    simp at h
    cases p with
    | zero => simpa using fun h => e h.symm
    | succ p => simpa using n9 h

theorem oq : ∀ {l : List Nat} {p q id : Nat}, l.Nodup → l[p]? = some id → l[q]? = some id → p = q
 | [], _, _, _, _, h, _ => by simp at h
 | i :: l, p, q, id, hn, h1, h2 => by
  obtain ⟨h3, h4⟩ := List.nodup_cons.1 hn
  cases p with
  | zero => cases q with
   | zero => rfl
   | succ q =>
    simp at h1 h2; subst h1
    exact absurd (List.mem_of_getElem? h2) h3
  | succ p => cases q with
   | zero =>
    simp at h1 h2; subst h2
    exact absurd (List.mem_of_getElem? h1) h3
   | succ q => simp at h1 h2; rw [oq h4 h1 h2]

theorem apk {l : List Nat} {p id : Nat} (hn : l.Nodup) (h : l[p]? = some id) : posOf l id = some p := by
 cases hp : posOf l id with
 | none => exact absurd h (n9 hp)
 | some q => rw [oq hn h (vj hp)]

def ma (sel : List Nat) (h : Hp) : Nat → Nat → R
 | 0, _ => .kill
 | d + 1, id => if (posOf sel id).isSome then .kill else match h[id]? with
  | some (some cs) => .frz (cs.map (ren (ma sel h d) 2))
  | _ => .kill

def bb (sel : List Nat) (h : Hp) (fz : Bool) (id : Nat) : R :=
 match posOf sel id with
 | some p => .to p
 | none => if fz then ma sel h 2 id else .kill

def bg (sel : List Nat) (h : Hp) (fz : Bool) (id : Nat) : Option (List V) :=
 match h[id]? with
 | some (some cs) => some (cs.map (ren (bb sel h fz) 2))
 | _ => none
def az (sel : List Nat) (h : Hp) (fz : Bool) : Hp := sel.map (bg sel h fz)
def gn (sel : List Nat) (m : Nat → Nat) (p : Nat) : Nat := m (sel.getD p 0)

theorem dk {sel : List Nat} {m : Nat → Nat} {p id : Nat} (h : sel[p]? = some id) : gn sel m p = m id := by simp [gn, List.getD, h]

theorem da {sel : List Nat} {h : Hp} {fz : Bool} {p : Nat} {cs : List V} (hp : (az sel h fz)[p]? = some (some cs)) :
 ∃ id c0, sel[p]? = some id ∧ h[id]? = some (some c0) ∧ cs = c0.map (ren (bb sel h fz) 2) := by
 simp only [az, List.getElem?_map] at hp
 cases h1 : sel[p]? with
 | none => simp [h1] at hp
 | some id =>
  simp [h1, bg] at hp
  split at hp
  · rename_i c0 h2; simp at hp; exact ⟨id, c0, rfl, h2, hp.symm⟩
  · cases hp

theorem asu {sel : List Nat} {h : Hp} {fz : Bool} {p id : Nat} {c0 : List V} (h1 : sel[p]? = some id) (h2 : h[id]? = some (some c0)) :
 (az sel h fz)[p]? = some (some (c0.map (ren (bb sel h fz) 2))) := by
 simp [az, h1, bg, h2]

section
variable {w : World} {m : Nat → Nat} {h : Hp} {av av' : Nat → Prop} {sel : List Nat}

theorem avf (H : RH w m h av) (hro : ∀ b, ¬ av b → ¬ av' b) (hfz : ∀ id cs, h[id]? = some (some cs) → posOf sel id = none → ¬ av' (m id)) (d : Nat) : Ren w w m m h [] av av' (ma sel h d) := by
 induction d with
 | zero => exact ⟨fun _ _ _ hb hc => ⟨hro _ hb, hc⟩, fun _ _ _ _ hf => by simp [ma] at hf, fun _ _ _ _ hf => by simp [ma] at hf⟩
 | succ d ih =>
  refine ⟨fun _ _ _ hb hc => ⟨hro _ hb, hc⟩, fun id cs j hid hf => ?_, fun id cs cs' hid hf hn => ?_⟩
  · unfold ma at hf
    split at hf
    · cases hf
    · simp [hid] at hf
  · unfold ma at hf
    split at hf
    · cases hf
    · rename_i hp
      simp [hid] at hf; subst hf
      refine ⟨by simp, hfz id cs hid (by simpa using hp), fun i hi => ?_⟩
      obtain ⟨v, hv, hr⟩ := H.cell ⟨hid, hn⟩ (i := i) (by simpa using hi)
      refine ⟨v, hv, ?_⟩
      rw [getD_map hi]
      exact (hr.ren ih 2).as8

theorem ub (H : RH w m h av) {fz : Bool} (hro : ∀ b, ¬ av b → ¬ av' b) (hfz : fz = true → ∀ id cs, h[id]? = some (some cs) → posOf sel id = none → ¬ av' (m id)) :
 Ren w w m (gn sel m) h (az sel h fz) av av' (bb sel h fz) := by
 refine ⟨fun _ _ _ hb hc => ⟨hro _ hb, hc⟩, fun id cs j hid hf => ?_, fun id cs cs' hid hf hn => ?_⟩
 · unfold bb at hf
   split at hf
   · rename_i p hp
     simp at hf; subst hf
     have := vj hp
     exact ⟨_, asu this hid, by simp, dk this, Nat.le_refl _, er _ _ _⟩
   · split at hf
     · unfold ma at hf
       split at hf
       · cases hf
       · simp [hid] at hf
     · cases hf
 · unfold bb at hf
   split at hf
   · cases hf
   · split at hf
     · rename_i hf1 hfz1
       have hR := avf (sel := sel) H hro (hfz hfz1) 1
       have h2 : ma sel h 2 id = .frz (cs.map (ren (ma sel h 1) 2)) := by
        have : (posOf sel id).isSome = false := by simp [hf1]
        simp [ma, hid, this]
       rw [h2] at hf
       simp at hf; subst hf
       refine ⟨by simp, hfz hfz1 id cs hid hf1, fun i hi => ?_⟩
       obtain ⟨v, hv, hr⟩ := H.cell ⟨hid, hn⟩ (i := i) (by simpa using hi)
       refine ⟨v, hv, ?_⟩
       rw [getD_map hi]
       exact ((hr.ren hR 2).as8).free
     · cases hf

theorem agj {m0 : Nat → Nat} {h0 : Hp} {av0 : Nat → Prop} {n : Nat} (H : RH w m h (avm av0 m h)) (hI : Ids n m0 m h0 h) (hlt : ∀ b, av0 b → b < n) (hn : sel.Nodup) (hk : ∀ j, j < h0.length → sel[j]? = some j) :
 RH w (gn sel m) (az sel h true) (avm av0 (gn sel m) (az sel h true)) ∧ Ids n m0 (gn sel m) h0 (az sel h true) ∧
 ∀ d v x, RV w m h (avm av0 m h) true v x → RV w (gn sel m) (az sel h true) (avm av0 (gn sel m) (az sel h true)) true v (ren (bb sel h true) d x) := by
 have hown : ∀ b, own (gn sel m) (az sel h true) b → own m h b := by
  rintro b ⟨p, c, h1, rfl⟩
  obtain ⟨id, c0, h2, h3, _⟩ := da h1
  exact ⟨id, c0, h3, (dk h2).symm⟩
 have hro : ∀ b, ¬ avm av0 m h b → ¬ avm av0 (gn sel m) (az sel h true) b := fun b hb h => hb (h.imp (fun x => x) (hown b))
 have hfz : ∀ id cs, h[id]? = some (some cs) → posOf sel id = none → ¬ avm av0 (gn sel m) (az sel h true) (m id) := by
  intro id cs hid hp hav
  rcases hav with hav | ⟨p, c, h1, h2⟩
  · rcases hI id cs hid with ⟨h1, _⟩ | ⟨_, h1⟩
    · exact n9 hp (hk id h1)
    · have := hlt _ hav; omega
  · obtain ⟨id', c0, h3, h4, _⟩ := da h1
    rw [dk h3] at h2
    have := H.inj id' id c0 cs h4 hid h2
    subst this
    exact n9 hp h3
 have hR := ub (sel := sel) H (fz := true) hro (fun _ => hfz)
 refine ⟨⟨fun i j ci cj h1 h2 he => ?_, fun p c h1 => .inr ⟨p, c, h1, rfl⟩, fun p c h1 => ?_⟩, fun p c h1 => ?_, fun d v x hx => hx.ren hR d⟩
 · obtain ⟨i', c0, h3, h4, _⟩ := da h1
   obtain ⟨j', c1, h5, h6, _⟩ := da h2
   rw [dk h3, dk h5] at he
   have := H.inj i' j' c0 c1 h4 h6 he
   subst this
   exact oq hn h3 h5
 · obtain ⟨id, c0, h2, h3, rfl⟩ := da h1
   rw [dk h2]
   exact (H.blk id c0 h3).map rfl (kh _ 2) (fun v x hx => hx.ren hR 2)
 · obtain ⟨id, c0, h2, h3, rfl⟩ := da h1
   rw [dk h2, List.length_map]
   rcases hI id c0 h3 with ⟨h4, h5⟩ | ⟨h4, h5⟩
   · have := oq hn h2 (hk id h4)
     subst this
     exact .inl ⟨h4, h5⟩
   · refine .inr ⟨?_, h5⟩
     rcases Nat.lt_or_ge p h0.length with hp | hp
     · have := hk p hp
       rw [h2] at this; simp at this
       omega
     · exact hp
end

def ph : Hp → List Nat → Hp → Hp
 | h, id :: sel, b :: bs => ph (h.set id b) sel bs
 | h, _, _ => h

theorem si : ∀ (sel : List Nat) (h bs : Hp), (ph h sel bs).length = h.length
 | [], h, bs => by cases bs <;> rfl
 | id :: sel, h, [] => rfl
 | id :: sel, h, b :: bs => by
  show (ph (h.set id b) sel bs).length = _
  rw [si sel]; simp

theorem rp : ∀ (sel : List Nat) (h bs : Hp) (j : Nat), j ∉ sel → (ph h sel bs)[j]? = h[j]?
 | [], h, bs, j, _ => by cases bs <;> rfl
 | id :: sel, h, [], j, _ => rfl
 | id :: sel, h, b :: bs, j, hj => by
  show (ph (h.set id b) sel bs)[j]? = _
  simp at hj
  rw [rp sel _ _ j hj.2, List.getElem?_set_ne (Ne.symm hj.1)]

theorem aa0 : ∀ (sel : List Nat) (h bs : Hp) (p j : Nat) (b : Option (List V)), sel.Nodup → sel[p]? = some j → bs[p]? = some b → j < h.length → (ph h sel bs)[j]? = some b
 | [], h, bs, p, j, b, _, h1, _, _ => by simp at h1
 | id :: sel, h, [], p, j, b, _, _, h2, _ => by simp at h2
 | id :: sel, h, b' :: bs, p, j, b, hn, h1, h2, hlt => by
  obtain ⟨h3, h4⟩ := List.nodup_cons.1 hn
  show (ph (h.set id b') sel bs)[j]? = _
  cases p with
  | zero =>
   simp at h1 h2; subst h1 h2
   rw [rp sel _ _ _ h3, List.getElem?_set_self hlt]
  | succ p => exact aa0 sel _ bs p j b h4 (by simpa using h1) (by simpa using h2) (by simpa using hlt)

def grown : Hp → Hp → Prop
 | [], _ => True
 | some a :: l, some b :: l' => (a.length = b.length ∧ ix b = ix a) ∧ grown l l'
 | _, _ => False

theorem qo : ∀ {l l' : Hp}, grown l l' → ∀ p, p < l.length → ∃ a b, l[p]? = some (some a) ∧ l'[p]? = some (some b) ∧ a.length = b.length ∧ ix b = ix a
 | [], _, _, p, hp => by simp at hp
 | some a :: l, some b :: l', h, p, hp => by
  cases p with
  | zero => exact ⟨a, b, rfl, rfl, h.1.1, h.1.2⟩
  | succ p => simpa using qo h.2 p (by simpa using hp)
 | some a :: l, [], h, _, _ => h.elim
 | some a :: l, none :: _, h, _, _ => h.elim
 | none :: l, [], h, _, _ => h.elim
 | none :: l, _ :: _, h, _, _ => h.elim

def iz (sel : List Nat) (n : Nat) (p : Nat) : R :=
 match sel[p]? with
 | some id => .to id
 | none => .to (n + p - sel.length)
def qf (f : Nat → R) (b : Option (List V)) : Option (List V) := b.map (List.map (ren f 2))

def tj (s : St) (dst : Option Tmp) (sel : List Nat) (r : V) (hout : Hp) : St :=
 ({ s with h := ph s.h sel ((hout.take sel.length).map (qf (iz sel s.h.length))) ++ (hout.drop sel.length).map (qf (iz sel s.h.length)) } : St).put dst (ren (iz sel s.h.length) 3 r)

def ar3 (P : Program) (s : St) (dst : Option Tmp) (fv : V) (args : List V) (K : St → Prop) : Prop :=
 match fv with
 | .fn (.func g) a c => ∃ (sel : List Nat) (fz : Bool) (as' : List V) (r : V) (hout : Hp), sel.Nodup ∧ LeL ((a ++ args ++ c).map (ren (bb sel s.h fz) 3)) as' ∧ Ctr P g as' (az sel s.h fz) r hout ∧
  grown (az sel s.h fz) hout ∧ (fz = false ∨ wb r ∧ my hout) ∧ K (tj s dst sel r hout)
 | _ => False

section
variable {P : Program} {w0 : World} {m0 : Nat → Nat} {h0 : Hp} {av0 : Nat → Prop} {s : St} {a : Act} {w : World} {m : Nat → Nat}

theorem asy (I : Inv w0 m0 h0 av0 s a w m) {dst : Option Tmp} {fv : V} {u : Value} (hf : RV w m s.h (avm av0 m s.h) true u fv) {xs : Array Value} {xs' : List V} (hs : xs.size = xs'.length)
 (hx : ∀ i (hi : i < xs'.length), RV w m s.h (avm av0 m s.h) true (xs.getD i Go.undef) xs'[i]) {K : St → Prop} (hq : ar3 P s dst fv xs' K) :
 ∃ g first cap s', u = .func (.func g) first cap ∧ okF P g = true ∧ K s' ∧
  Calls P g (first ++ xs ++ cap) w fun e w' => ∃ v m', e = .returned v ∧ Inv w0 m0 h0 av0 s' (a.put dst v) w' m' := by
 cases hf with
 | fn f first cap a' c' ha hc hra hrc =>
  cases f with
  | func g =>
   obtain ⟨sel, fz, as', r, hout, hnd, hle, hspec, hgr, hro, hk⟩ := hq
   obtain ⟨hokf, hspec⟩ := hspec
   obtain ⟨hlen, hget⟩ := hle.get
   have h1 := jr ha hs hra hx
   have h2 := jr h1.1 hc h1.2 hrc
   refine ⟨g, first, cap, _, rfl, hokf, hk, ?_⟩
   have hsz : (first ++ xs ++ cap).size = as'.length := by rw [h2.1, ← hlen]; simp
   have H := I.rh
   have hplen : (az sel s.h fz).length = sel.length := by simp [az]
   have hsel : ∀ (p id : Nat), sel[p]? = some id → ∃ c0, s.h[id]? = some (some c0) := by
    intro p id hp
    have hlt : p < (az sel s.h fz).length := by rw [hplen]; exact (List.getElem?_eq_some_iff.1 hp).1
    obtain ⟨x, y, h3, _⟩ := qo hgr p hlt
    obtain ⟨id', c0, h4, h5, _⟩ := da h3
    rw [hp] at h4; simp at h4; subst h4
    exact ⟨c0, h5⟩
   have hownL : ∀ b, own (gn sel m) (az sel s.h fz) b → own m s.h b := by
    rintro b ⟨p, c, h1, rfl⟩
    obtain ⟨id, c0, h2, h3, _⟩ := da h1
    exact ⟨id, c0, h3, (dk h2).symm⟩
   have hnl : ∀ (id : Nat) (c : List V), s.h[id]? = some (some c) → id ∉ sel → ¬ own (gn sel m) (az sel s.h fz) (m id) := by
    rintro id c hid hns ⟨p, c', h1, h2⟩
    obtain ⟨id', c0, h3, h4, _⟩ := da h1
    rw [dk h3] at h2
    have := H.inj id' id c0 c h4 hid h2
    subst this
    exact hns (List.mem_of_getElem? h3)
   -- the common part: what the callee sees
   have main : ∀ avL : Nat → Prop, Ren w w m (gn sel m) s.h (az sel s.h fz) (avm av0 m s.h) avL (bb sel s.h fz) → (∀ b, own (gn sel m) (az sel s.h fz) b → avL b) → (∀ b, avL b → avm av0 m s.h b) →
    ((∀ b, avm av0 m s.h b → avL b) ∨ wb r ∧ my hout) →
    Calls P g (first ++ xs ++ cap) w fun e w' => ∃ v m', e = .returned v ∧ Inv w0 m0 h0 av0 (tj s dst sel r hout) (a.put dst v) w' m' := by
    intro avL hR hL1 hL2 hL3
    have hRH : RH w (gn sel m) (az sel s.h fz) avL := by
     refine ⟨fun i j ci cj h1 h2 he => ?_, fun p c h1 => hL1 _ ⟨p, c, h1, rfl⟩, fun p c h1 => ?_⟩
     · obtain ⟨i', c0, h3, h4, _⟩ := da h1
       obtain ⟨j', c1, h5, h6, _⟩ := da h2
       rw [dk h3, dk h5] at he
       have := H.inj i' j' c0 c1 h4 h6 he
       subst this
       exact oq hnd h3 h5
     · obtain ⟨id, c0, h2, h3, rfl⟩ := da h1
       rw [dk h2]
       exact (H.blk id c0 h3).map rfl (kh _ 2) (fun v x hx => hx.ren hR 2)
    have hargs : ∀ i (hi : i < as'.length), RV w (gn sel m) (az sel s.h fz) avL true ((first ++ xs ++ cap).getD i Go.undef) as'[i] := by
     intro i hi
     have hi2 : i < (a' ++ xs' ++ c').length := by have := hi; rw [← hlen] at this; simpa using this
     have hle := hget i (by simpa using hi2) hi
     rw [getD_map (f := ren (bb sel s.h fz) 3) (l := a' ++ xs' ++ c') (by simpa using hi2)] at hle
     exact ((h2.2 i hi2).ren hR 3).le hle
    refine (hspec w (first ++ xs ++ cap) (gn sel m) avL hRH (fun b hb => I.aed (hL2 b hb)) (I.glw.mono hL2) hsz hargs).mono ?_
    rintro e w' ⟨v, m1, rfl, hE, hH, hV, hI⟩
    -- what is avoided by the values that come back
    obtain ⟨avX, hX1, hXblk, hXres⟩ : ∃ avX : Nat → Prop, (∀ b, avm av0 m s.h b ∨ own m1 hout b → avX b) ∧
     (∀ id cs, hout[id]? = some (some cs) → rr w' m1 hout avX (m1 id) cs) ∧ RV w' m1 hout avX true v r := by
     rcases hL3 with hL3 | ⟨hn1, hn2⟩
     · exact ⟨avm avL m1 hout, fun b hb => hb.imp (hL3 b) (fun h => h), hH.blk, hV⟩
     · refine ⟨fun _ => True, fun b _ => trivial, fun id cs hid => ?_, hn1 _ _ _ _ _ hV⟩
       rcases hH.blk id cs hid with ⟨C, T, fr, h3, hfr, h4, h5⟩ | h3
       · exact .inl ⟨C, T, fr, h3, hfr, h4, fun i hi => hn2 id cs hid _ (List.getElem_mem _) _ _ _ _ _ (h5 i hi)⟩
       · exact .inr h3
    have hm1 : ∀ (p : Nat) (c : List V), hout[p]? = some (some c) → (∃ id, sel[p]? = some id ∧ m1 p = m id) ∨ (sel.length ≤ p ∧ w.heap.size ≤ m1 p) := by
     intro p c hp
     rcases hI p c hp with ⟨h3, c0, h5, h6, h4⟩ | ⟨h3, h4⟩
     · obtain ⟨x, y, g1, g2, g3, _⟩ := qo hgr p h3
       rw [h5] at g1; simp at g1; subst g1
       rw [hp] at g2; simp at g2; subst g2
       have h4 := h4.resolve_right (fun h => by omega)
       rw [hplen] at h3
       exact .inl ⟨sel[p], by simp [h3], by rw [h4]; exact dk (by simp [h3])⟩
     · rw [hplen] at h3
       exact .inr ⟨h3, h4⟩
    let n := s.h.length
    let f := iz sel n
    let h2 : Hp := ph s.h sel ((hout.take sel.length).map (qf f)) ++ (hout.drop sel.length).map (qf f)
    let m2 : Nat → Nat := fun id => if id < n then m id else m1 (id - n + sel.length)
    have hm2o : ∀ (id : Nat) (c : List V), s.h[id]? = some (some c) → m2 id = m id := fun id c hid => if_pos (e8 hid)
    have hm2n : ∀ p, sel.length ≤ p → m2 (n + p - sel.length) = m1 p := fun p hp => by
     show (if n + p - sel.length < n then _ else m1 (n + p - sel.length - n + sel.length)) = _
     rw [if_neg (by omega)]; congr 1; omega
    have hpl : (ph s.h sel ((hout.take sel.length).map (qf f))).length = n := si _ _ _
    have hlent : ∀ (p id : Nat), sel[p]? = some id → ∃ c c0, hout[p]? = some (some c) ∧ s.h[id]? = some (some c0) ∧ c0.length = c.length ∧ h2[id]? = some (some (c.map (ren f 2))) ∧ ix c = ix c0 := by
     intro p id hp
     have hlt : p < sel.length := (List.getElem?_eq_some_iff.1 hp).1
     obtain ⟨x, y, h3, h4, h5, hmb⟩ := qo hgr p (by rw [hplen]; exact hlt)
     obtain ⟨id', c0, h6, h7, rfl⟩ := da h3
     rw [hp] at h6; simp at h6; subst h6
     refine ⟨y, c0, h4, h7, by simpa using h5, ?_, by rw [hmb, er]⟩
     show (ph s.h sel _ ++ _)[id]? = _
     rw [List.getElem?_append_left (by rw [hpl]; exact e8 h7)]
     refine aa0 sel s.h _ p id _ hnd hp ?_ (e8 h7)
     simp [List.getElem?_take_of_lt hlt, h4, qf]
    have hother : ∀ id : Nat, id < n → id ∉ sel → h2[id]? = s.h[id]? := by
     intro id hid hns
     show (ph s.h sel _ ++ _)[id]? = _
     rw [List.getElem?_append_left (by rw [hpl]; exact hid), rp sel _ _ _ hns]
    have hnew : ∀ (p : Nat) (c : List V), sel.length ≤ p → hout[p]? = some (some c) → h2[n + p - sel.length]? = some (some (c.map (ren f 2))) := by
     intro p c hp h3
     show (ph s.h sel _ ++ _)[n + p - sel.length]? = _
     rw [List.getElem?_append_right (by rw [hpl]; omega), hpl]
     have : sel.length + (n + p - sel.length - n) = p := by omega
     simp [this, h3, qf]
    have hcase : ∀ (j : Nat) (c : List V), h2[j]? = some (some c) → (j ∉ sel ∧ s.h[j]? = some (some c)) ∨ (∃ p c1, sel[p]? = some j ∧ hout[p]? = some (some c1) ∧ c = c1.map (ren f 2) ∧ m2 j = m1 p) ∨
     (∃ p c1, sel.length ≤ p ∧ j = n + p - sel.length ∧ hout[p]? = some (some c1) ∧ c = c1.map (ren f 2) ∧ m2 j = m1 p ∧ w.heap.size ≤ m1 p) := by
     intro j c hj
     by_cases hlt : j < n
     · by_cases hs : j ∈ sel
       · obtain ⟨p, hp⟩ := List.getElem?_of_mem hs
         obtain ⟨c1, c0, h3, h4, _, h5, _⟩ := hlent p j hp
         rw [h5] at hj; simp at hj
         refine .inr (.inl ⟨p, c1, hp, h3, hj.symm, ?_⟩)
         rcases hm1 p c1 h3 with ⟨id, h6, h7⟩ | ⟨h6, _⟩
         · rw [hp] at h6; simp at h6; subst h6
           rw [h7]; exact hm2o _ _ h4
         · have := (List.getElem?_eq_some_iff.1 hp).1; omega
       · rw [hother j hlt hs] at hj
         exact .inl ⟨hs, hj⟩
     · have hj' := hj
       change (ph s.h sel _ ++ _)[j]? = _ at hj'
       rw [List.getElem?_append_right (by rw [hpl]; omega), hpl] at hj'
       simp only [List.getElem?_map, List.getElem?_drop] at hj'
       cases h3 : hout[sel.length + (j - n)]? with
       | none => simp [h3] at hj'
       | some b =>
        cases b with
        | none => simp [h3, qf] at hj'
        | some c1 =>
         simp [h3, qf] at hj'
         have hp : sel.length ≤ sel.length + (j - n) := by omega
         have e : j = n + (sel.length + (j - n)) - sel.length := by omega
         refine .inr (.inr ⟨sel.length + (j - n), c1, hp, e, h3, hj'.symm, ?_, ?_⟩)
         · have := hm2n _ hp; rw [← e] at this; exact this
         · rcases hm1 _ c1 h3 with ⟨id, h6, _⟩ | ⟨_, h6⟩
           · have := (List.getElem?_eq_some_iff.1 h6).1; omega
           · exact h6
    have hown2 : ∀ b, own m2 h2 b → own m s.h b ∨ own m1 hout b := by
     rintro b ⟨j, c, h3, rfl⟩
     rcases hcase j c h3 with ⟨_, h4⟩ | ⟨p, c1, h4, h5, _, h6⟩ | ⟨p, c1, _, _, h5, _, h6, _⟩
     · exact .inl ⟨j, c, h4, (hm2o j c h4).symm⟩
     · exact .inr ⟨p, c1, h5, h6.symm⟩
     · exact .inr ⟨p, c1, h5, h6.symm⟩
    have hown1 : ∀ b, own m1 hout b → b < w.heap.size → own m s.h b := by
     rintro b ⟨p, c, h3, rfl⟩ hb
     rcases hm1 p c h3 with ⟨id, h4, h5⟩ | ⟨_, h5⟩
     · obtain ⟨c0, h6⟩ := hsel p id h4
       exact ⟨id, c0, h6, h5.symm⟩
     · omega
    have hrow : ∀ k, k < w.heap.size → dh w k ≤ dh w' k := fun k hk => hE.row k hk
    have hstep : ∀ {o : Bool} {v : Value} {x : V}, RV w m s.h (avm av0 m s.h) o v x → RV w' m2 h2 (avm av0 m2 h2) o v x :=
     fun hx => hx.step (fun b off v hb hc => ⟨fun h => by
      rcases h with h | h
      · exact hb (.inl h)
      · rcases hown2 b h with h3 | h3
        · exact hb (.inr h3)
        · exact hb (.inr (hown1 b h3 (World.block_lt_of_cell? w _ hc))), hE.cell hc (fun h => hb (.inr (hownL b h)))⟩)
      (fun id c hid => by
       have hrw := hrow _ (H.lt hid)
       by_cases hs : id ∈ sel
       · obtain ⟨p, hp⟩ := List.getElem?_of_mem hs
         obtain ⟨c1, c0, h3, h4, h5, h6, h7⟩ := hlent p id hp
         rw [hid] at h4; simp at h4; subst h4
         exact ⟨_, h6, by simp [h5], hm2o id _ hid, hrw, by rw [er, h7]⟩
       · exact ⟨c, by rw [hother id (e8 hid) hs]; exact hid, Nat.le_refl _, hm2o id c hid, hrw, rfl⟩)
    have hR2 : Ren w' w' m1 m2 hout h2 avX (avm av0 m2 h2) f := by
     refine ⟨fun b off v hb hc => ⟨fun h => hb (hX1 b ?_), hc⟩, fun p c j hp hf => ?_, fun p c c' hp hf => ?_⟩
     · rcases h with h | h
       · exact .inl (.inl h)
       · rcases hown2 b h with h3 | h3
         · exact .inl (.inr h3)
         · exact .inr h3
     · rcases hm1 p c hp with ⟨id, h3, h4⟩ | ⟨h3, h4⟩
       · have : f p = .to id := by show iz sel n p = _; simp [iz, h3]
         rw [this] at hf; simp at hf; subst hf
         obtain ⟨c1, c0, h5, h6, h7, h8, h9⟩ := hlent p id h3
         rw [hp] at h5; simp at h5; subst h5
         exact ⟨_, h8, by simp, by rw [hm2o id c0 h6, h4], Nat.le_refl _, er _ _ _⟩
       · have h5 : sel[p]? = none := List.getElem?_eq_none h3
         have : f p = .to (n + p - sel.length) := by show iz sel n p = _; simp [iz, h5]
         rw [this] at hf; simp at hf; subst hf
         exact ⟨_, hnew p c h3 hp, by simp, hm2n p h3, Nat.le_refl _, er _ _ _⟩
     · have : f p = .frz c' := hf
       change iz sel n p = _ at this
       unfold iz at this
       split at this <;> cases this
    refine ⟨v, m2, rfl, ?_⟩
    have J : Inv w0 m0 h0 av0 { s with h := h2 } a w' m2 := by
     refine ⟨⟨?_, fun j c h3 => .inr ⟨j, c, h3, rfl⟩, ?_⟩, I.size, fun i hi => hstep (I.slots i hi), I.defers, I.ext.trans' hE ?_, ?_, I.lt, I.lent, I.gl, I.k, ?_⟩
     · -- the blocks are apart
       have key : ∀ (j : Nat) (c : List V), h2[j]? = some (some c) → (∃ c0, s.h[j]? = some (some c0) ∧ m2 j = m j) ∨ ∃ p c1, sel.length ≤ p ∧ j = n + p - sel.length ∧ hout[p]? = some (some c1) ∧ m2 j = m1 p ∧ w.heap.size ≤ m1 p := by
        intro j c hj
        rcases hcase j c hj with ⟨_, h4⟩ | ⟨p, c1, h4, h5, _, h6⟩ | ⟨p, c1, h3, h4, h5, _, h6, h7⟩
        · exact .inl ⟨c, h4, hm2o j c h4⟩
        · obtain ⟨c0, h7⟩ := hsel p j h4
          exact .inl ⟨c0, h7, hm2o j c0 h7⟩
        · exact .inr ⟨p, c1, h3, h4, h5, h6, h7⟩
       intro i j ci cj hi hj he
       rcases key i ci hi with ⟨c1, h3, h4⟩ | ⟨p, c1, h3, h4, h5, h6, h7⟩ <;> rcases key j cj hj with ⟨d1, g3, g4⟩ | ⟨q, d1, g3, g4, g5, g6, g7⟩
       · rw [h4, g4] at he
         exact H.inj i j c1 d1 h3 g3 he
       · rw [h4, g6] at he
         have := H.lt h3; omega
       · rw [h6, g4] at he
         have := H.lt g3; omega
       · rw [h6, g6] at he
         have := hH.inj p q c1 d1 h5 g5 he
         omega
     · intro j c hj
       rcases hcase j c hj with ⟨h3, h4⟩ | ⟨p, c1, h4, h5, rfl, h6⟩ | ⟨p, c1, h3, h4, h5, rfl, h6, h7⟩
       · rw [hm2o j c h4]
         exact (H.blk j c h4).step (hE.block _ (H.lt h4) (hnl j c h4 h3)) (fun v x => hstep)
       · rw [h6]
         exact (hXblk p c1 h5).map rfl (kh _ 2) (fun v x hx => hx.ren hR2 2)
       · rw [h6]
         exact (hXblk p c1 h5).map rfl (kh _ 2) (fun v x hx => hx.ren hR2 2)
     · intro b hb ho
       obtain ⟨id, c, h3, h4⟩ := hownL b ho
       rcases I.ids id c h3 with ⟨h5, c0, h7, _, h6 | ⟨_, h6⟩⟩ | ⟨h5, h6⟩
       · exact ⟨id, c0, h7, by rw [← h6]; exact h4⟩
       · omega
       · omega
     · intro j c hj
       rcases hcase j c hj with ⟨h3, h4⟩ | ⟨p, c1, h4, h5, rfl, h6⟩ | ⟨p, c1, h3, h4, h5, rfl, h6, h7⟩
       · rw [hm2o j c h4]; exact I.ids j c h4
       · obtain ⟨c2, c0, g1, h7, g2, _, _⟩ := hlent p j h4
         rw [h5] at g1; simp at g1; subst g1
         rw [hm2o j c0 h7, List.length_map, ← g2]; exact I.ids j c0 h7
       · rw [h6]
         exact .inr ⟨by have := I.len; omega, Nat.le_trans I.ext.size h7⟩
     · show h0.length ≤ h2.length
       have : n ≤ h2.length := by
        show n ≤ (ph s.h sel _ ++ _).length
        rw [List.length_append, hpl]; omega
       exact Nat.le_trans I.len this
    exact J.put (hXres.ren hR2 3)
   cases fz with
   | false =>
    exact main (avm av0 m s.h) (ub H (fun b hb => hb) (fun h => by cases h)) (fun b hb => .inr (hownL b hb)) (fun b hb => hb) (.inl fun b hb => hb)
   | true =>
    have hn := hro.resolve_left (by simp)
    refine main (own (gn sel m) (az sel s.h true)) (ub H (fun b hb h => hb (.inr (hownL b h))) (fun _ id cs hid hp => ?_)) (fun b hb => hb) (fun b hb => .inr (hownL b hb)) (.inr hn)
    refine hnl id cs hid (fun hm => ?_)
    obtain ⟨p, hp'⟩ := List.getElem?_of_mem hm
    exact n9 hp hp'
  | _ => exact False.elim hq
 | _ => exact False.elim hq
end

def lr (P : Program) (f : FuncId) (args : List V) (hin : Hp) (Φ : V → Hp → Prop) : Prop :=
 okF P f = true ∧ ∀ (w : World) (vs : Array Value) (m : Nat → Nat) (av : Nat → Prop),
  RH w m hin av → (∀ b, av b → b < w.heap.size) → GL w av → vs.size = args.length → (∀ i (hi : i < args.length), RV w m hin av true (vs.getD i Go.undef) args[i]) →
  Calls P f vs w fun e w' => ∃ v m' r hout, Φ r hout ∧ e = .returned v ∧ Ext (own m hin) w w' ∧ RH w' m' hout (avm av m' hout) ∧ RV w' m' hout (avm av m' hout) true v r ∧ Ids w.heap.size m m' hin hout

theorem Ctr.rel {P : Program} {f : FuncId} {args : List V} {hin : Hp} {r : V} {hout : Hp} (h : Ctr P f args hin r hout) {Φ : V → Hp → Prop} (hφ : Φ r hout) : lr P f args hin Φ :=
 ⟨h.1, fun w vs m av h1 h2 h3 h4 h5 => (h.2 w vs m av h1 h2 h3 h4 h5).mono fun e w' ⟨v, m', g1, g2, g3, g4, g5⟩ => ⟨v, m', r, hout, hφ, g1, g2, g3, g4, g5⟩⟩
theorem lr.mono {P : Program} {f : FuncId} {args : List V} {hin : Hp} {Φ Ψ : V → Hp → Prop} (h : lr P f args hin Φ) (hm : ∀ r hout, Φ r hout → Ψ r hout) : lr P f args hin Ψ :=
 ⟨h.1, fun w vs m av h1 h2 h3 h4 h5 => (h.2 w vs m av h1 h2 h3 h4 h5).mono fun e w' ⟨v, m', r, hout, g0, g1, g2, g3, g4, g5⟩ => ⟨v, m', r, hout, hm r hout g0, g1, g2, g3, g4, g5⟩⟩

def asx (P : Program) (s : St) (dst : Option Tmp) (fv : V) (args : List V) (K : St → Prop) : Prop :=
 match fv with
 | .fn (.func g) a c => ∃ (sel : List Nat) (as' : List V) (Φ : V → Hp → Prop), sel.Nodup ∧ LeL ((a ++ args ++ c).map (ren (bb sel s.h false) 3)) as' ∧ lr P g as' (az sel s.h false) Φ ∧
  (az sel s.h false).all Option.isSome = true ∧ ∀ r hout, Φ r hout → grown (az sel s.h false) hout ∧ K (tj s dst sel r hout)
 | _ => False

section
variable {P : Program} {w0 : World} {m0 : Nat → Nat} {h0 : Hp} {av0 : Nat → Prop} {s : St} {a : Act} {w : World} {m : Nat → Nat}

theorem aqq (I : Inv w0 m0 h0 av0 s a w m) {dst : Option Tmp} {fv : V} {u : Value} (hf : RV w m s.h (avm av0 m s.h) true u fv) {xs : Array Value} {xs' : List V} (hs : xs.size = xs'.length)
 (hx : ∀ i (hi : i < xs'.length), RV w m s.h (avm av0 m s.h) true (xs.getD i Go.undef) xs'[i]) {K : St → Prop} (hq : asx P s dst fv xs' K) :
 ∃ g first cap, u = .func (.func g) first cap ∧ okF P g = true ∧
  Calls P g (first ++ xs ++ cap) w fun e w' => ∃ v m' s', e = .returned v ∧ K s' ∧ Inv w0 m0 h0 av0 s' (a.put dst v) w' m' := by
 cases hf with
 | fn f first cap a' c' ha hc hra hrc =>
  cases f with
  | func g =>
   obtain ⟨sel, as', Φ, hnd, hle, hspec, hall, hk⟩ := hq
   obtain ⟨hokf, hspec⟩ := hspec
   obtain ⟨hlen, hget⟩ := hle.get
   have h1 := jr ha hs hra hx
   have h2 := jr h1.1 hc h1.2 hrc
   refine ⟨g, first, cap, rfl, hokf, ?_⟩
   have hsz : (first ++ xs ++ cap).size = as'.length := by rw [h2.1, ← hlen]; simp
   have H := I.rh
   have hplen : (az sel s.h false).length = sel.length := by simp [az]
   have hsel : ∀ (p id : Nat), sel[p]? = some id → ∃ c0, s.h[id]? = some (some c0) := by
    intro p id hp
    have hlt : p < (az sel s.h false).length := by rw [hplen]; exact (List.getElem?_eq_some_iff.1 hp).1
    have h8 := List.all_eq_true.1 hall _ (List.getElem_mem hlt)
    obtain ⟨x, h9⟩ := Option.isSome_iff_exists.1 h8
    have h3 : (az sel s.h false)[p]? = some (some x) := by rw [List.getElem?_eq_getElem hlt, h9]
    obtain ⟨id', c0, h4, h5, _⟩ := da h3
    rw [hp] at h4; simp at h4; subst h4
    exact ⟨c0, h5⟩
   have hownL : ∀ b, own (gn sel m) (az sel s.h false) b → own m s.h b := by
    rintro b ⟨p, c, h1, rfl⟩
    obtain ⟨id, c0, h2, h3, _⟩ := da h1
    exact ⟨id, c0, h3, (dk h2).symm⟩
   have hnl : ∀ (id : Nat) (c : List V), s.h[id]? = some (some c) → id ∉ sel → ¬ own (gn sel m) (az sel s.h false) (m id) := by
    rintro id c hid hns ⟨p, c', h1, h2⟩
    obtain ⟨id', c0, h3, h4, _⟩ := da h1
    rw [dk h3] at h2
    have := H.inj id' id c0 c h4 hid h2
    subst this
    exact hns (List.mem_of_getElem? h3)
   -- the common part: what the callee sees
   have main : ∀ avL : Nat → Prop, Ren w w m (gn sel m) s.h (az sel s.h false) (avm av0 m s.h) avL (bb sel s.h false) → (∀ b, own (gn sel m) (az sel s.h false) b → avL b) → (∀ b, avL b → avm av0 m s.h b) →
    (∀ b, avm av0 m s.h b → avL b) →
    Calls P g (first ++ xs ++ cap) w fun e w' => ∃ v m' s', e = .returned v ∧ K s' ∧ Inv w0 m0 h0 av0 s' (a.put dst v) w' m' := by
    intro avL hR hL1 hL2 hL3
    have hRH : RH w (gn sel m) (az sel s.h false) avL := by
     refine ⟨fun i j ci cj h1 h2 he => ?_, fun p c h1 => hL1 _ ⟨p, c, h1, rfl⟩, fun p c h1 => ?_⟩
     · obtain ⟨i', c0, h3, h4, _⟩ := da h1
       obtain ⟨j', c1, h5, h6, _⟩ := da h2
       rw [dk h3, dk h5] at he
       have := H.inj i' j' c0 c1 h4 h6 he
       subst this
       exact oq hnd h3 h5
     · obtain ⟨id, c0, h2, h3, rfl⟩ := da h1
       rw [dk h2]
       exact (H.blk id c0 h3).map rfl (kh _ 2) (fun v x hx => hx.ren hR 2)
    have hargs : ∀ i (hi : i < as'.length), RV w (gn sel m) (az sel s.h false) avL true ((first ++ xs ++ cap).getD i Go.undef) as'[i] := by
     intro i hi
     have hi2 : i < (a' ++ xs' ++ c').length := by have := hi; rw [← hlen] at this; simpa using this
     have hle := hget i (by simpa using hi2) hi
     rw [getD_map (f := ren (bb sel s.h false) 3) (l := a' ++ xs' ++ c') (by simpa using hi2)] at hle
     exact ((h2.2 i hi2).ren hR 3).le hle
    refine (hspec w (first ++ xs ++ cap) (gn sel m) avL hRH (fun b hb => I.aed (hL2 b hb)) (I.glw.mono hL2) hsz hargs).mono ?_
    rintro e w' ⟨v, m1, r, hout, hφ, rfl, hE, hH, hV, hI⟩
    obtain ⟨hgr, hk⟩ := hk r hout hφ
    -- what is avoided by the values that come back
    obtain ⟨avX, hX1, hXblk, hXres⟩ : ∃ avX : Nat → Prop, (∀ b, avm av0 m s.h b ∨ own m1 hout b → avX b) ∧
     (∀ id cs, hout[id]? = some (some cs) → rr w' m1 hout avX (m1 id) cs) ∧ RV w' m1 hout avX true v r := by
     exact ⟨avm avL m1 hout, fun b hb => hb.imp (hL3 b) (fun h => h), hH.blk, hV⟩
    have hm1 : ∀ (p : Nat) (c : List V), hout[p]? = some (some c) → (∃ id, sel[p]? = some id ∧ m1 p = m id) ∨ (sel.length ≤ p ∧ w.heap.size ≤ m1 p) := by
     intro p c hp
     rcases hI p c hp with ⟨h3, c0, h5, h6, h4⟩ | ⟨h3, h4⟩
     · obtain ⟨x, y, g1, g2, g3, _⟩ := qo hgr p h3
       rw [h5] at g1; simp at g1; subst g1
       rw [hp] at g2; simp at g2; subst g2
       have h4 := h4.resolve_right (fun h => by omega)
       rw [hplen] at h3
       exact .inl ⟨sel[p], by simp [h3], by rw [h4]; exact dk (by simp [h3])⟩
     · rw [hplen] at h3
       exact .inr ⟨h3, h4⟩
    let n := s.h.length
    let f := iz sel n
    let h2 : Hp := ph s.h sel ((hout.take sel.length).map (qf f)) ++ (hout.drop sel.length).map (qf f)
    let m2 : Nat → Nat := fun id => if id < n then m id else m1 (id - n + sel.length)
    have hm2o : ∀ (id : Nat) (c : List V), s.h[id]? = some (some c) → m2 id = m id := fun id c hid => if_pos (e8 hid)
    have hm2n : ∀ p, sel.length ≤ p → m2 (n + p - sel.length) = m1 p := fun p hp => by
     show (if n + p - sel.length < n then _ else m1 (n + p - sel.length - n + sel.length)) = _
     rw [if_neg (by omega)]; congr 1; omega
    have hpl : (ph s.h sel ((hout.take sel.length).map (qf f))).length = n := si _ _ _
    have hlent : ∀ (p id : Nat), sel[p]? = some id → ∃ c c0, hout[p]? = some (some c) ∧ s.h[id]? = some (some c0) ∧ c0.length = c.length ∧ h2[id]? = some (some (c.map (ren f 2))) ∧ ix c = ix c0 := by
     intro p id hp
     have hlt : p < sel.length := (List.getElem?_eq_some_iff.1 hp).1
     obtain ⟨x, y, h3, h4, h5, hmb⟩ := qo hgr p (by rw [hplen]; exact hlt)
     obtain ⟨id', c0, h6, h7, rfl⟩ := da h3
     rw [hp] at h6; simp at h6; subst h6
     refine ⟨y, c0, h4, h7, by simpa using h5, ?_, by rw [hmb, er]⟩
     show (ph s.h sel _ ++ _)[id]? = _
     rw [List.getElem?_append_left (by rw [hpl]; exact e8 h7)]
     refine aa0 sel s.h _ p id _ hnd hp ?_ (e8 h7)
     simp [List.getElem?_take_of_lt hlt, h4, qf]
    have hother : ∀ id : Nat, id < n → id ∉ sel → h2[id]? = s.h[id]? := by
     intro id hid hns
     show (ph s.h sel _ ++ _)[id]? = _
     rw [List.getElem?_append_left (by rw [hpl]; exact hid), rp sel _ _ _ hns]
    have hnew : ∀ (p : Nat) (c : List V), sel.length ≤ p → hout[p]? = some (some c) → h2[n + p - sel.length]? = some (some (c.map (ren f 2))) := by
     intro p c hp h3
     show (ph s.h sel _ ++ _)[n + p - sel.length]? = _
     rw [List.getElem?_append_right (by rw [hpl]; omega), hpl]
     have : sel.length + (n + p - sel.length - n) = p := by omega
     simp [this, h3, qf]
    have hcase : ∀ (j : Nat) (c : List V), h2[j]? = some (some c) → (j ∉ sel ∧ s.h[j]? = some (some c)) ∨ (∃ p c1, sel[p]? = some j ∧ hout[p]? = some (some c1) ∧ c = c1.map (ren f 2) ∧ m2 j = m1 p) ∨
     (∃ p c1, sel.length ≤ p ∧ j = n + p - sel.length ∧ hout[p]? = some (some c1) ∧ c = c1.map (ren f 2) ∧ m2 j = m1 p ∧ w.heap.size ≤ m1 p) := by
     intro j c hj
     by_cases hlt : j < n
     · by_cases hs : j ∈ sel
       · obtain ⟨p, hp⟩ := List.getElem?_of_mem hs
         obtain ⟨c1, c0, h3, h4, _, h5, _⟩ := hlent p j hp
         rw [h5] at hj; simp at hj
         refine .inr (.inl ⟨p, c1, hp, h3, hj.symm, ?_⟩)
         rcases hm1 p c1 h3 with ⟨id, h6, h7⟩ | ⟨h6, _⟩
         · rw [hp] at h6; simp at h6; subst h6
           rw [h7]; exact hm2o _ _ h4
         · have := (List.getElem?_eq_some_iff.1 hp).1; omega
       · rw [hother j hlt hs] at hj
         exact .inl ⟨hs, hj⟩
     · have hj' := hj
       change (ph s.h sel _ ++ _)[j]? = _ at hj'
       rw [List.getElem?_append_right (by rw [hpl]; omega), hpl] at hj'
       simp only [List.getElem?_map, List.getElem?_drop] at hj'
       cases h3 : hout[sel.length + (j - n)]? with
       | none => simp [h3] at hj'
       | some b =>
        cases b with
        | none => simp [h3, qf] at hj'
        | some c1 =>
         simp [h3, qf] at hj'
         have hp : sel.length ≤ sel.length + (j - n) := by omega
         have e : j = n + (sel.length + (j - n)) - sel.length := by omega
         refine .inr (.inr ⟨sel.length + (j - n), c1, hp, e, h3, hj'.symm, ?_, ?_⟩)
         · have := hm2n _ hp; rw [← e] at this; exact this
         · rcases hm1 _ c1 h3 with ⟨id, h6, _⟩ | ⟨_, h6⟩
           · have := (List.getElem?_eq_some_iff.1 h6).1; omega
           · exact h6
    have hown2 : ∀ b, own m2 h2 b → own m s.h b ∨ own m1 hout b := by
     rintro b ⟨j, c, h3, rfl⟩
     rcases hcase j c h3 with ⟨_, h4⟩ | ⟨p, c1, h4, h5, _, h6⟩ | ⟨p, c1, _, _, h5, _, h6, _⟩
     · exact .inl ⟨j, c, h4, (hm2o j c h4).symm⟩
     · exact .inr ⟨p, c1, h5, h6.symm⟩
     · exact .inr ⟨p, c1, h5, h6.symm⟩
    have hown1 : ∀ b, own m1 hout b → b < w.heap.size → own m s.h b := by
     rintro b ⟨p, c, h3, rfl⟩ hb
     rcases hm1 p c h3 with ⟨id, h4, h5⟩ | ⟨_, h5⟩
     · obtain ⟨c0, h6⟩ := hsel p id h4
       exact ⟨id, c0, h6, h5.symm⟩
     · omega
    have hrow : ∀ k, k < w.heap.size → dh w k ≤ dh w' k := fun k hk => hE.row k hk
    have hstep : ∀ {o : Bool} {v : Value} {x : V}, RV w m s.h (avm av0 m s.h) o v x → RV w' m2 h2 (avm av0 m2 h2) o v x :=
     fun hx => hx.step (fun b off v hb hc => ⟨fun h => by
      rcases h with h | h
      · exact hb (.inl h)
      · rcases hown2 b h with h3 | h3
        · exact hb (.inr h3)
        · exact hb (.inr (hown1 b h3 (World.block_lt_of_cell? w _ hc))), hE.cell hc (fun h => hb (.inr (hownL b h)))⟩)
      (fun id c hid => by
       have hrw := hrow _ (H.lt hid)
       by_cases hs : id ∈ sel
       · obtain ⟨p, hp⟩ := List.getElem?_of_mem hs
         obtain ⟨c1, c0, h3, h4, h5, h6, h7⟩ := hlent p id hp
         rw [hid] at h4; simp at h4; subst h4
         exact ⟨_, h6, by simp [h5], hm2o id _ hid, hrw, by rw [er, h7]⟩
       · exact ⟨c, by rw [hother id (e8 hid) hs]; exact hid, Nat.le_refl _, hm2o id c hid, hrw, rfl⟩)
    have hR2 : Ren w' w' m1 m2 hout h2 avX (avm av0 m2 h2) f := by
     refine ⟨fun b off v hb hc => ⟨fun h => hb (hX1 b ?_), hc⟩, fun p c j hp hf => ?_, fun p c c' hp hf => ?_⟩
     · rcases h with h | h
       · exact .inl (.inl h)
       · rcases hown2 b h with h3 | h3
         · exact .inl (.inr h3)
         · exact .inr h3
     · rcases hm1 p c hp with ⟨id, h3, h4⟩ | ⟨h3, h4⟩
       · have : f p = .to id := by show iz sel n p = _; simp [iz, h3]
         rw [this] at hf; simp at hf; subst hf
         obtain ⟨c1, c0, h5, h6, h7, h8, h9⟩ := hlent p id h3
         rw [hp] at h5; simp at h5; subst h5
         exact ⟨_, h8, by simp, by rw [hm2o id c0 h6, h4], Nat.le_refl _, er _ _ _⟩
       · have h5 : sel[p]? = none := List.getElem?_eq_none h3
         have : f p = .to (n + p - sel.length) := by show iz sel n p = _; simp [iz, h5]
         rw [this] at hf; simp at hf; subst hf
         exact ⟨_, hnew p c h3 hp, by simp, hm2n p h3, Nat.le_refl _, er _ _ _⟩
     · have : f p = .frz c' := hf
       change iz sel n p = _ at this
       unfold iz at this
       split at this <;> cases this
    refine ⟨v, m2, _, rfl, hk, ?_⟩
    have J : Inv w0 m0 h0 av0 { s with h := h2 } a w' m2 := by
     refine ⟨⟨?_, fun j c h3 => .inr ⟨j, c, h3, rfl⟩, ?_⟩, I.size, fun i hi => hstep (I.slots i hi), I.defers, I.ext.trans' hE ?_, ?_, I.lt, I.lent, I.gl, I.k, ?_⟩
     · -- the blocks are apart
       have key : ∀ (j : Nat) (c : List V), h2[j]? = some (some c) → (∃ c0, s.h[j]? = some (some c0) ∧ m2 j = m j) ∨ ∃ p c1, sel.length ≤ p ∧ j = n + p - sel.length ∧ hout[p]? = some (some c1) ∧ m2 j = m1 p ∧ w.heap.size ≤ m1 p := by
        intro j c hj
        rcases hcase j c hj with ⟨_, h4⟩ | ⟨p, c1, h4, h5, _, h6⟩ | ⟨p, c1, h3, h4, h5, _, h6, h7⟩
        · exact .inl ⟨c, h4, hm2o j c h4⟩
        · obtain ⟨c0, h7⟩ := hsel p j h4
          exact .inl ⟨c0, h7, hm2o j c0 h7⟩
        · exact .inr ⟨p, c1, h3, h4, h5, h6, h7⟩
       intro i j ci cj hi hj he
       rcases key i ci hi with ⟨c1, h3, h4⟩ | ⟨p, c1, h3, h4, h5, h6, h7⟩ <;> rcases key j cj hj with ⟨d1, g3, g4⟩ | ⟨q, d1, g3, g4, g5, g6, g7⟩
       · rw [h4, g4] at he
         exact H.inj i j c1 d1 h3 g3 he
       · rw [h4, g6] at he
         have := H.lt h3; omega
       · rw [h6, g4] at he
         have := H.lt g3; omega
       · rw [h6, g6] at he
         have := hH.inj p q c1 d1 h5 g5 he
         omega
     · intro j c hj
       rcases hcase j c hj with ⟨h3, h4⟩ | ⟨p, c1, h4, h5, rfl, h6⟩ | ⟨p, c1, h3, h4, h5, rfl, h6, h7⟩
       · rw [hm2o j c h4]
         exact (H.blk j c h4).step (hE.block _ (H.lt h4) (hnl j c h4 h3)) (fun v x => hstep)
       · rw [h6]
         exact (hXblk p c1 h5).map rfl (kh _ 2) (fun v x hx => hx.ren hR2 2)
       · rw [h6]
         exact (hXblk p c1 h5).map rfl (kh _ 2) (fun v x hx => hx.ren hR2 2)
     · intro b hb ho
       obtain ⟨id, c, h3, h4⟩ := hownL b ho
       rcases I.ids id c h3 with ⟨h5, c0, h7, _, h6 | ⟨_, h6⟩⟩ | ⟨h5, h6⟩
       · exact ⟨id, c0, h7, by rw [← h6]; exact h4⟩
       · omega
       · omega
     · intro j c hj
       rcases hcase j c hj with ⟨h3, h4⟩ | ⟨p, c1, h4, h5, rfl, h6⟩ | ⟨p, c1, h3, h4, h5, rfl, h6, h7⟩
       · rw [hm2o j c h4]; exact I.ids j c h4
       · obtain ⟨c2, c0, g1, h7, g2, _, _⟩ := hlent p j h4
         rw [h5] at g1; simp at g1; subst g1
         rw [hm2o j c0 h7, List.length_map, ← g2]; exact I.ids j c0 h7
       · rw [h6]
         exact .inr ⟨by have := I.len; omega, Nat.le_trans I.ext.size h7⟩
     · show h0.length ≤ h2.length
       have : n ≤ h2.length := by
        show n ≤ (ph s.h sel _ ++ _).length
        rw [List.length_append, hpl]; omega
       exact Nat.le_trans I.len this
    exact J.put (hXres.ren hR2 3)
   exact main (avm av0 m s.h) (ub H (fun b hb => hb) (fun h => by cases h)) (fun b hb => .inr (hownL b hb)) (fun b hb => hb) (fun b hb => hb)
  | _ => exact False.elim hq
 | _ => exact False.elim hq
end

def ve (mv : List Nat) (j : Nat) : R := if yc mv j then .kill else .to j
def y7 (mv : List Nat) (l : List V) : List V := l.map (ren (ve mv) 3)
def afr (mv : List Nat) (b : Option (List V)) : Option (List V) := b.map (List.map (ren (ve mv) 2))
def w5 (mv : List Nat) : List Nat → Hp → Hp → Prop
 | _, [], _ => True
 | id :: sel, some a :: l, some b :: l' => ((a.length = b.length ∨ (yc mv id = true ∧ a.length ≤ b.length)) ∧ ix b = ix a) ∧ w5 mv sel l l'
 | _, _, _ => False
theorem za {mv : List Nat} : ∀ {sel : List Nat} {l l' : Hp}, w5 mv sel l l' → ∀ p id, p < l.length → sel[p]? = some id → ∃ a b, l[p]? = some (some a) ∧ l'[p]? = some (some b) ∧ (a.length = b.length ∨ (yc mv id = true ∧ a.length ≤ b.length)) ∧ ix b = ix a
 | _, [], _, _, p, id, hp, _ => by simp at hp
 | i :: sel, some a :: l, some b :: l', h, p, id, hp, hs => by
  cases p with
  | zero =>
   simp at hs; subst hs
   exact ⟨a, b, rfl, rfl, h.1.1, h.1.2⟩
  | succ p => simpa using za h.2 p id (by simpa using hp) (by simpa using hs)
 | [], b :: _, l', h, _, _, _, _ => by cases b <;> simp [w5] at h
 | _ :: _, none :: _, l', h, _, _, _, _ => by simp [w5] at h
 | _ :: _, some _ :: _, [], h, _, _, _, _ => by simp [w5] at h
 | _ :: _, some _ :: _, none :: _, h, _, _, _, _ => by simp [w5] at h

def ah6 (s : St) (dst : Option Tmp) (mv sel : List Nat) (r : V) (hout : Hp) : St :=
 tj { s with t := y7 mv s.t, h := s.h.map (afr mv) } dst sel r hout

def aq8 (P : Program) (s : St) (dst : Option Tmp) (fv : V) (args : List V) (K : St → Prop) : Prop :=
 match fv with
 | .fn (.func g) a c => ∃ (mv sel : List Nat) (fz : Bool) (as' : List V) (r : V) (hout : Hp), sel.Nodup ∧ LeL ((a ++ args ++ c).map (ren (bb sel s.h fz) 3)) as' ∧ Ctr P g as' (az sel s.h fz) r hout ∧
  w5 mv sel (az sel s.h fz) hout ∧ (fz = false ∨ wb r ∧ my hout) ∧ K (ah6 s dst mv sel r hout)
 | _ => False

section
variable {P : Program} {w0 : World} {m0 : Nat → Nat} {h0 : Hp} {av0 : Nat → Prop} {s : St} {a : Act} {w : World} {m : Nat → Nat}

theorem arz (I : Inv w0 m0 h0 av0 s a w m) {dst : Option Tmp} {fv : V} {u : Value} (hf : RV w m s.h (avm av0 m s.h) true u fv) {xs : Array Value} {xs' : List V} (hs : xs.size = xs'.length)
 (hx : ∀ i (hi : i < xs'.length), RV w m s.h (avm av0 m s.h) true (xs.getD i Go.undef) xs'[i]) {K : St → Prop} (hq : aq8 P s dst fv xs' K) :
 ∃ g first cap s', u = .func (.func g) first cap ∧ okF P g = true ∧ K s' ∧
  Calls P g (first ++ xs ++ cap) w fun e w' => ∃ v m', e = .returned v ∧ Inv w0 m0 h0 av0 s' (a.put dst v) w' m' := by
 cases hf with
 | fn f first cap a' c' ha hc hra hrc =>
  cases f with
  | func g =>
   obtain ⟨mv, sel, fz, as', r, hout, hnd, hle, hspec, hgr, hro, hk⟩ := hq
   obtain ⟨hokf, hspec⟩ := hspec
   obtain ⟨hlen, hget⟩ := hle.get
   have h1 := jr ha hs hra hx
   have h2 := jr h1.1 hc h1.2 hrc
   refine ⟨g, first, cap, _, rfl, hokf, hk, ?_⟩
   have hsz : (first ++ xs ++ cap).size = as'.length := by rw [h2.1, ← hlen]; simp
   have H := I.rh
   have hplen : (az sel s.h fz).length = sel.length := by simp [az]
   have hsel : ∀ (p id : Nat), sel[p]? = some id → ∃ c0, s.h[id]? = some (some c0) := by
    intro p id hp
    have hlt : p < (az sel s.h fz).length := by rw [hplen]; exact (List.getElem?_eq_some_iff.1 hp).1
    obtain ⟨x, y, h3, _⟩ := za hgr p id hlt hp
    obtain ⟨id', c0, h4, h5, _⟩ := da h3
    rw [hp] at h4; simp at h4; subst h4
    exact ⟨c0, h5⟩
   have hownL : ∀ b, own (gn sel m) (az sel s.h fz) b → own m s.h b := by
    rintro b ⟨p, c, h1, rfl⟩
    obtain ⟨id, c0, h2, h3, _⟩ := da h1
    exact ⟨id, c0, h3, (dk h2).symm⟩
   have hnl : ∀ (id : Nat) (c : List V), s.h[id]? = some (some c) → id ∉ sel → ¬ own (gn sel m) (az sel s.h fz) (m id) := by
    rintro id c hid hns ⟨p, c', h1, h2⟩
    obtain ⟨id', c0, h3, h4, _⟩ := da h1
    rw [dk h3] at h2
    have := H.inj id' id c0 c h4 hid h2
    subst this
    exact hns (List.mem_of_getElem? h3)
   -- the common part: what the callee sees
   have main : ∀ avL : Nat → Prop, Ren w w m (gn sel m) s.h (az sel s.h fz) (avm av0 m s.h) avL (bb sel s.h fz) → (∀ b, own (gn sel m) (az sel s.h fz) b → avL b) → (∀ b, avL b → avm av0 m s.h b) →
    ((∀ b, avm av0 m s.h b → avL b) ∨ wb r ∧ my hout) →
    Calls P g (first ++ xs ++ cap) w fun e w' => ∃ v m', e = .returned v ∧ Inv w0 m0 h0 av0 (ah6 s dst mv sel r hout) (a.put dst v) w' m' := by
    intro avL hR hL1 hL2 hL3
    have hRH : RH w (gn sel m) (az sel s.h fz) avL := by
     refine ⟨fun i j ci cj h1 h2 he => ?_, fun p c h1 => hL1 _ ⟨p, c, h1, rfl⟩, fun p c h1 => ?_⟩
     · obtain ⟨i', c0, h3, h4, _⟩ := da h1
       obtain ⟨j', c1, h5, h6, _⟩ := da h2
       rw [dk h3, dk h5] at he
       have := H.inj i' j' c0 c1 h4 h6 he
       subst this
       exact oq hnd h3 h5
     · obtain ⟨id, c0, h2, h3, rfl⟩ := da h1
       rw [dk h2]
       exact (H.blk id c0 h3).map rfl (kh _ 2) (fun v x hx => hx.ren hR 2)
    have hargs : ∀ i (hi : i < as'.length), RV w (gn sel m) (az sel s.h fz) avL true ((first ++ xs ++ cap).getD i Go.undef) as'[i] := by
     intro i hi
     have hi2 : i < (a' ++ xs' ++ c').length := by have := hi; rw [← hlen] at this; simpa using this
     have hle := hget i (by simpa using hi2) hi
     rw [getD_map (f := ren (bb sel s.h fz) 3) (l := a' ++ xs' ++ c') (by simpa using hi2)] at hle
     exact ((h2.2 i hi2).ren hR 3).le hle
    refine (hspec w (first ++ xs ++ cap) (gn sel m) avL hRH (fun b hb => I.aed (hL2 b hb)) (I.glw.mono hL2) hsz hargs).mono ?_
    rintro e w' ⟨v, m1, rfl, hE, hH, hV, hI⟩
    -- what is avoided by the values that come back
    obtain ⟨avX, hX1, hXblk, hXres⟩ : ∃ avX : Nat → Prop, (∀ b, avm av0 m s.h b ∨ own m1 hout b → avX b) ∧
     (∀ id cs, hout[id]? = some (some cs) → rr w' m1 hout avX (m1 id) cs) ∧ RV w' m1 hout avX true v r := by
     rcases hL3 with hL3 | ⟨hn1, hn2⟩
     · exact ⟨avm avL m1 hout, fun b hb => hb.imp (hL3 b) (fun h => h), hH.blk, hV⟩
     · refine ⟨fun _ => True, fun b _ => trivial, fun id cs hid => ?_, hn1 _ _ _ _ _ hV⟩
       rcases hH.blk id cs hid with ⟨C, T, fr, h3, hfr, h4, h5⟩ | h3
       · exact .inl ⟨C, T, fr, h3, hfr, h4, fun i hi => hn2 id cs hid _ (List.getElem_mem _) _ _ _ _ _ (h5 i hi)⟩
       · exact .inr h3
    have hm1 : ∀ (p : Nat) (c : List V), hout[p]? = some (some c) → (∃ id c0, sel[p]? = some id ∧ s.h[id]? = some (some c0) ∧ c0.length ≤ c.length ∧ (m1 p = m id ∨ (c0.length < c.length ∧ w.heap.size ≤ m1 p))) ∨ (sel.length ≤ p ∧ w.heap.size ≤ m1 p) := by
     intro p c hp
     rcases hI p c hp with ⟨h3, cp, h5, h6, h4⟩ | ⟨h3, h4⟩
     · obtain ⟨id, c0, g1, g2, rfl⟩ := da h5
       rw [dk g1] at h4
       rw [List.length_map] at h4 h6
       exact .inl ⟨id, c0, g1, g2, h6, h4⟩
     · rw [hplen] at h3
       exact .inr ⟨h3, h4⟩
    obtain ⟨hq, hqe⟩ : ∃ hq : Hp, hq = s.h.map (afr mv) := ⟨_, rfl⟩
    have hql : hq.length = s.h.length := by rw [hqe, List.length_map]
    obtain ⟨n, hn⟩ : ∃ n, n = hq.length := ⟨_, rfl⟩
    have hns : n = s.h.length := hn.trans hql
    obtain ⟨f, hfe⟩ : ∃ f, f = iz sel n := ⟨_, rfl⟩
    have hqget : ∀ (id : Nat) (c : List V), hq[id]? = some (some c) → ∃ c0, s.h[id]? = some (some c0) ∧ c = c0.map (ren (ve mv) 2) := by
     intro id c h
     rw [hqe, List.getElem?_map] at h
     cases h2 : s.h[id]? with
     | none => simp [h2] at h
     | some b =>
      cases b with
      | none => simp [h2, afr] at h
      | some c0 => simp [h2, afr] at h; exact ⟨c0, rfl, h.symm⟩
    have hqput : ∀ (id : Nat) (c : List V), s.h[id]? = some (some c) → hq[id]? = some (some (c.map (ren (ve mv) 2))) := by
     intro id c h
     rw [hqe, List.getElem?_map, h]; rfl
    obtain ⟨h2, hh2⟩ : ∃ h2 : Hp, h2 = ph hq sel ((hout.take sel.length).map (qf f)) ++ (hout.drop sel.length).map (qf f) := ⟨_, rfl⟩
    obtain ⟨m2, hm2⟩ : ∃ m2 : Nat → Nat, m2 = fun id => if id < n then (match posOf sel id with | some p => m1 p | none => m id) else m1 (id - n + sel.length) := ⟨_, rfl⟩
    have hm2l : ∀ (p id : Nat), sel[p]? = some id → m2 id = m1 p := fun p id hp => by
     obtain ⟨c0, h5⟩ := hsel p id hp
     have := e8 h5
     rw [hm2]
     simp only [apk hnd hp]
     rw [if_pos (by omega)]
    have hm2o : ∀ (id : Nat) (c : List V), s.h[id]? = some (some c) → id ∉ sel → m2 id = m id := fun id c hid hns' => by
     have := e8 hid
     have hp : posOf sel id = none := by
      cases hp : posOf sel id with
      | none => rfl
      | some p => exact absurd (List.mem_of_getElem? (vj hp)) hns'
     rw [hm2]
     simp only [hp]
     rw [if_pos (by omega)]
    have hm2n : ∀ p, sel.length ≤ p → m2 (n + p - sel.length) = m1 p := fun p hp => by
     rw [hm2]
     simp only []
     rw [if_neg (by omega)]; congr 1; omega
    have hpl : (ph hq sel ((hout.take sel.length).map (qf f))).length = n := by rw [si, hn]
    have hlent : ∀ (p id : Nat), sel[p]? = some id → ∃ c c0, hout[p]? = some (some c) ∧ s.h[id]? = some (some c0) ∧ (c0.length = c.length ∨ (yc mv id = true ∧ c0.length ≤ c.length)) ∧ h2[id]? = some (some (c.map (ren f 2))) ∧ ix c = ix c0 := by
     intro p id hp
     have hlt : p < sel.length := (List.getElem?_eq_some_iff.1 hp).1
     obtain ⟨x, y, h3, h4, h5, hmb⟩ := za hgr p id (by rw [hplen]; exact hlt) hp
     obtain ⟨id', c0, h6, h7, rfl⟩ := da h3
     rw [hp] at h6; simp at h6; subst h6
     have := e8 h7
     refine ⟨y, c0, h4, h7, by simpa using h5, ?_, by rw [hmb, er]⟩
     rw [hh2, List.getElem?_append_left (by rw [hpl]; omega)]
     refine aa0 sel hq _ p id _ hnd hp ?_ (by omega)
     simp [List.getElem?_take_of_lt hlt, h4, qf]
    have hother : ∀ id : Nat, id < n → id ∉ sel → h2[id]? = hq[id]? := by
     intro id hid hns
     rw [hh2, List.getElem?_append_left (by rw [hpl]; exact hid), rp sel _ _ _ hns]
    have hnew : ∀ (p : Nat) (c : List V), sel.length ≤ p → hout[p]? = some (some c) → h2[n + p - sel.length]? = some (some (c.map (ren f 2))) := by
     intro p c hp h3
     rw [hh2, List.getElem?_append_right (by rw [hpl]; omega), hpl]
     have : sel.length + (n + p - sel.length - n) = p := by omega
     simp [this, h3, qf]
    have hcase : ∀ (j : Nat) (c : List V), h2[j]? = some (some c) → (j ∉ sel ∧ ∃ c0, s.h[j]? = some (some c0) ∧ c = c0.map (ren (ve mv) 2)) ∨ (∃ p c1, sel[p]? = some j ∧ hout[p]? = some (some c1) ∧ c = c1.map (ren f 2) ∧ m2 j = m1 p) ∨
     (∃ p c1, sel.length ≤ p ∧ j = n + p - sel.length ∧ hout[p]? = some (some c1) ∧ c = c1.map (ren f 2) ∧ m2 j = m1 p ∧ w.heap.size ≤ m1 p) := by
     intro j c hj
     by_cases hlt : j < n
     · by_cases hs : j ∈ sel
       · obtain ⟨p, hp⟩ := List.getElem?_of_mem hs
         obtain ⟨c1, c0, h3, h4, _, h5, _⟩ := hlent p j hp
         rw [h5] at hj; simp at hj
         exact .inr (.inl ⟨p, c1, hp, h3, hj.symm, hm2l p j hp⟩)
       · rw [hother j hlt hs] at hj
         exact .inl ⟨hs, hqget j c hj⟩
     · have hj' := hj
       rw [hh2, List.getElem?_append_right (by rw [hpl]; omega), hpl] at hj'
       simp only [List.getElem?_map, List.getElem?_drop] at hj'
       cases h3 : hout[sel.length + (j - n)]? with
       | none => simp [h3] at hj'
       | some b =>
        cases b with
        | none => simp [h3, qf] at hj'
        | some c1 =>
         simp [h3, qf] at hj'
         have hp : sel.length ≤ sel.length + (j - n) := by omega
         have e : j = n + (sel.length + (j - n)) - sel.length := by omega
         refine .inr (.inr ⟨sel.length + (j - n), c1, hp, e, h3, hj'.symm, ?_, ?_⟩)
         · have := hm2n _ hp; rw [← e] at this; exact this
         · rcases hm1 _ c1 h3 with ⟨id, _, h6, _⟩ | ⟨_, h6⟩
           · have := (List.getElem?_eq_some_iff.1 h6).1; omega
           · exact h6
    have hown2 : ∀ b, own m2 h2 b → own m s.h b ∨ own m1 hout b := by
     rintro b ⟨j, c, h3, rfl⟩
     rcases hcase j c h3 with ⟨h4, c0, h5, _⟩ | ⟨p, c1, h4, h5, _, h6⟩ | ⟨p, c1, _, _, h5, _, h6, _⟩
     · exact .inl ⟨j, c0, h5, (hm2o j c0 h5 h4).symm⟩
     · exact .inr ⟨p, c1, h5, h6.symm⟩
     · exact .inr ⟨p, c1, h5, h6.symm⟩
    have hown1 : ∀ b, own m1 hout b → b < w.heap.size → own m s.h b := by
     rintro b ⟨p, c, h3, rfl⟩ hb
     rcases hm1 p c h3 with ⟨id, c0, _, h6, _, h5 | ⟨_, h5⟩⟩ | ⟨_, h5⟩
     · exact ⟨id, c0, h6, h5.symm⟩
     · omega
     · omega
    have hrow : ∀ k, k < w.heap.size → dh w k ≤ dh w' k := fun k hk => hE.row k hk
    have hRk : Ren w w' m m2 s.h h2 (avm av0 m s.h) (avm av0 m2 h2) (ve mv) := by
     refine ⟨fun b off v hb hc => ⟨fun h => ?_, hE.cell hc (fun h => hb (.inr (hownL b h)))⟩, fun id c j hid hf => ?_, fun id c c' hid hf => ?_⟩
     · rcases h with h | h
       · exact hb (.inl h)
       · rcases hown2 b h with h3 | h3
         · exact hb (.inr h3)
         · exact hb (.inr (hown1 b h3 (World.block_lt_of_cell? w _ hc)))
     · unfold ve at hf
       split at hf
       · cases hf
       · rename_i hmv
         simp at hf; subst hf
         have hrw := hrow _ (H.lt hid)
         have hidl := e8 hid
         by_cases hs : id ∈ sel
         · obtain ⟨p, hp⟩ := List.getElem?_of_mem hs
           obtain ⟨c1, c0, h3, h4, h5, h6, h7⟩ := hlent p id hp
           rw [hid] at h4; simp at h4; subst h4
           have h5 := h5.resolve_right (fun h => hmv h.1)
           refine ⟨_, h6, by simp [h5], ?_, hrw, by rw [er, h7]⟩
           rw [hm2l p id hp]
           rcases hm1 p c1 h3 with ⟨id', c0', g1, g2, _, g4 | ⟨g4, _⟩⟩ | ⟨g1, _⟩
           · rw [hp] at g1; simp at g1; subst g1
             exact g4
           · rw [hp] at g1; simp at g1; subst g1
             rw [hid] at g2; simp at g2; subst g2
             omega
           · have := (List.getElem?_eq_some_iff.1 hp).1; omega
         · exact ⟨_, by rw [hother id (by omega) hs]; exact hqput id c hid, by simp, hm2o id c hid hs, hrw, er _ _ _⟩
     · unfold ve at hf
       split at hf <;> cases hf
    have hR2 : Ren w' w' m1 m2 hout h2 avX (avm av0 m2 h2) f := by
     refine ⟨fun b off v hb hc => ⟨fun h => hb (hX1 b ?_), hc⟩, fun p c j hp hf => ?_, fun p c c' hp hf => ?_⟩
     · rcases h with h | h
       · exact .inl (.inl h)
       · rcases hown2 b h with h3 | h3
         · exact .inl (.inr h3)
         · exact .inr h3
     · rcases hm1 p c hp with ⟨id, c0, h3, _⟩ | ⟨h3, h4⟩
       · have : f p = .to id := by rw [hfe]; simp [iz, h3]
         rw [this] at hf; simp at hf; subst hf
         obtain ⟨c1, c0, h5, h6, h7, h8, h9⟩ := hlent p id h3
         rw [hp] at h5; simp at h5; subst h5
         exact ⟨_, h8, by simp, hm2l p id h3, Nat.le_refl _, er _ _ _⟩
       · have h5 : sel[p]? = none := List.getElem?_eq_none h3
         have : f p = .to (n + p - sel.length) := by rw [hfe]; simp [iz, h5]
         rw [this] at hf; simp at hf; subst hf
         exact ⟨_, hnew p c h3 hp, by simp, hm2n p h3, Nat.le_refl _, er _ _ _⟩
     · rw [hfe] at hf
       unfold iz at hf
       split at hf <;> cases hf
    refine ⟨v, m2, rfl, ?_⟩
    have J : Inv w0 m0 h0 av0 { s with t := y7 mv s.t, h := h2 } a w' m2 := by
     refine ⟨⟨?_, fun j c h3 => .inr ⟨j, c, h3, rfl⟩, ?_⟩, by simpa [y7] using I.size, fun i hi => ?_, I.defers, I.ext.trans' hE ?_, ?_, I.lt, I.lent, I.gl, I.k, ?_⟩
     · -- the blocks are apart
       have key : ∀ (j : Nat) (c : List V), h2[j]? = some (some c) → (j ∉ sel ∧ ∃ c0, s.h[j]? = some (some c0) ∧ m2 j = m j) ∨ ∃ p c1, (sel[p]? = some j ∨ (sel.length ≤ p ∧ j = n + p - sel.length)) ∧ hout[p]? = some (some c1) ∧ m2 j = m1 p := by
        intro j c hj
        rcases hcase j c hj with ⟨h3, c0, h4, _⟩ | ⟨p, c1, h4, h5, _, h6⟩ | ⟨p, c1, h3, h4, h5, _, h6, h7⟩
        · exact .inl ⟨h3, c0, h4, hm2o j c0 h4 h3⟩
        · exact .inr ⟨p, c1, .inl h4, h5, h6⟩
        · exact .inr ⟨p, c1, .inr ⟨h3, h4⟩, h5, h6⟩
       have apart : ∀ (i j p : Nat) (ci c1 : List V), i ∉ sel → s.h[i]? = some (some ci) → hout[p]? = some (some c1) → m i ≠ m1 p := by
        intro i j p ci c1 hi h3 h4 he
        have hlt := H.lt h3
        rcases hm1 p c1 h4 with ⟨id, c0, g1, g2, _, g3 | ⟨_, g3⟩⟩ | ⟨_, g3⟩
        · rw [g3] at he
          have := H.inj i id ci c0 h3 g2 he
          subst this
          exact hi (List.mem_of_getElem? g1)
        · omega
        · omega
       intro i j ci cj hi hj he
       rcases key i ci hi with ⟨h3, c1, h4, h5⟩ | ⟨p, c1, h3, h4, h5⟩ <;> rcases key j cj hj with ⟨g3, d1, g4, g5⟩ | ⟨q, d1, g3, g4, g5⟩
       · rw [h5, g5] at he
         exact H.inj i j c1 d1 h4 g4 he
       · rw [h5, g5] at he
         exact absurd he (apart i j q c1 d1 h3 h4 g4)
       · rw [h5, g5] at he
         exact absurd he.symm (apart j i p d1 c1 g3 g4 h4)
       · rw [h5, g5] at he
         have := hH.inj p q c1 d1 h4 g4 he
         subst this
         rcases h3 with h3 | ⟨h3, h6⟩ <;> rcases g3 with g3 | ⟨g3, g6⟩
         · rw [h3] at g3; simpa using g3
         · have := (List.getElem?_eq_some_iff.1 h3).1; omega
         · have := (List.getElem?_eq_some_iff.1 g3).1; omega
         · omega
     · intro j c hj
       rcases hcase j c hj with ⟨h3, c0, h4, rfl⟩ | ⟨p, c1, h4, h5, rfl, h6⟩ | ⟨p, c1, h3, h4, h5, rfl, h6, h7⟩
       · rw [hm2o j c0 h4 h3]
         exact (H.blk j c0 h4).map (hE.block _ (H.lt h4) (hnl j c0 h4 h3)) (kh _ 2) (fun v x hx => hx.ren hRk 2)
       · rw [h6]
         exact (hXblk p c1 h5).map rfl (kh _ 2) (fun v x hx => hx.ren hR2 2)
       · rw [h6]
         exact (hXblk p c1 h5).map rfl (kh _ 2) (fun v x hx => hx.ren hR2 2)
     · simp only [y7, List.getElem_map]
       exact (I.slots i (by simpa [y7] using hi)).ren hRk 3
     · intro b hb ho
       obtain ⟨id, c, h3, h4⟩ := hownL b ho
       rcases I.ids id c h3 with ⟨h5, c0, h7, _, h6 | ⟨_, h6⟩⟩ | ⟨h5, h6⟩
       · exact ⟨id, c0, h7, by rw [← h6]; exact h4⟩
       · omega
       · omega
     · intro j c hj
       rcases hcase j c hj with ⟨h3, c0, h4, rfl⟩ | ⟨p, c1, h4, h5, rfl, h6⟩ | ⟨p, c1, h3, h4, h5, rfl, h6, h7⟩
       · rw [hm2o j c0 h4 h3, List.length_map]; exact I.ids j c0 h4
       · rw [h6, List.length_map]
         have hlt := (List.getElem?_eq_some_iff.1 h4).1
         have hsize := I.ext.size
         rcases hm1 p c1 h5 with ⟨id, c0, g1, g2, g3, g4⟩ | ⟨g1, _⟩
         · rw [h4] at g1; simp at g1; subst g1
           rcases I.ids j c0 g2 with ⟨q1, c00, q2, q3, q4⟩ | ⟨q1, q2⟩
           · refine .inl ⟨q1, c00, q2, by omega, ?_⟩
             rcases g4 with g4 | ⟨g4, g5⟩
             · rcases q4 with q4 | ⟨q4, q5⟩
               · exact .inl (g4.trans q4)
               · exact .inr ⟨by omega, by omega⟩
             · exact .inr ⟨by omega, by omega⟩
           · refine .inr ⟨q1, ?_⟩
             rcases g4 with g4 | ⟨g4, g5⟩ <;> omega
         · omega
       · rw [h6]
         exact .inr ⟨by have := I.len; omega, Nat.le_trans I.ext.size h7⟩
     · show h0.length ≤ h2.length
       have : n ≤ h2.length := by
        rw [hh2, List.length_append, hpl]; omega
       have := I.len
       omega
    have hfin : ah6 s dst mv sel r hout = ({ s with t := y7 mv s.t, h := h2 } : St).put dst (ren f 3 r) := by
     rw [hh2, hfe, hn, hqe]; rfl
    rw [hfin]
    exact J.put (hXres.ren hR2 3)
   cases fz with
   | false =>
    exact main (avm av0 m s.h) (ub H (fun b hb => hb) (fun h => by cases h)) (fun b hb => .inr (hownL b hb)) (fun b hb => hb) (.inl fun b hb => hb)
   | true =>
    have hn := hro.resolve_left (by simp)
    refine main (own (gn sel m) (az sel s.h true)) (ub H (fun b hb h => hb (.inr (hownL b h))) (fun _ id cs hid hp => ?_)) (fun b hb => hb) (fun b hb => .inr (hownL b hb)) (.inr hn)
    refine hnl id cs hid (fun hm => ?_)
    obtain ⟨p, hp'⟩ := List.getElem?_of_mem hm
    exact n9 hp hp'
  | _ => exact False.elim hq
 | _ => exact False.elim hq
end
end Go.Lv
end
section
namespace Go.Lv

def ac1 (P : Program) (t : TypeId) : Option (List (Nat × Nat)) :=
 match P.underlying t with
 | some (.struct fields) => fields.toList.mapM fun f => (P.info? f.type).map fun i => (f.offset, i.size)
 | some (.array n e) => match P.info? e with
  | some ie => some ((List.range n).map fun i => (i * ie.size, ie.size))
  | none => none
 | _ => none

def xo (pl : List (Nat × Nat)) : List (Nat × V) → List V → Option (List V)
 | [], cs => some cs
 | (i, v) :: rest, cs => match pl[i]?, cellsOf v with
  | some (off, sz), some ns => if ns.length = sz ∧ off + sz ≤ cs.length then xo pl rest (cs.take off ++ ns ++ cs.drop (off + sz)) else none
  | _, _ => none

def abh (sz : Nat) : Nat → List (Nat × V) → Option (List V)
 | _, [] => some []
 | k, (i, v) :: rest => match cellsOf v with
  | some ns => if i = k ∧ ns.length = sz then (abh sz (k + 1) rest).map (ns ++ ·) else none
  | none => none

def xn (n : Nat) (zs : List V) : List V := (List.range n).map fun i => zs.getD (i % zs.length) .undef

section
variable {P : Program} {w : World} {m : Nat → Nat} {h : Hp} {av : Nat → Prop}

def Row (w : World) (m : Nat → Nat) (h : Hp) (av : Nat → Prop) (C : Array Value) (cs : List V) : Prop :=
 C.size = cs.length ∧ ∀ i (hi : i < cs.length), RV w m h av true (C.getD i Go.undef) cs[i]

theorem aem (off : Nat) : ∀ (l : List Value) (k : Nat) (C : Array Value), off + k + l.length ≤ C.size →
 ((l.zipIdx k).foldl (fun cs (x : Value × Nat) => cs.setIfInBounds (off + x.2) x.1) C).size = C.size ∧
 ∀ i, ((l.zipIdx k).foldl (fun cs (x : Value × Nat) => cs.setIfInBounds (off + x.2) x.1) C).getD i Go.undef =
  if off + k ≤ i ∧ i < off + k + l.length then l.getD (i - (off + k)) Go.undef else C.getD i Go.undef
 | [], k, C, _ => ⟨rfl, fun i => by simp; omega⟩
 | v :: l, k, C, hl => by
  simp only [List.length_cons] at hl
  have ih := aem off l (k + 1) (C.setIfInBounds (off + k) v) (by simp; omega)
  simp only [List.zipIdx_cons, List.foldl_cons]
  refine ⟨by rw [ih.1]; simp, fun i => ?_⟩
  rw [ih.2 i]
  by_cases h1 : off + k = i
  · subst h1
    rw [if_neg (by omega), if_pos (by simp)]
    simp [Array.getD_eq_getD_getElem?, show off + k < C.size from by omega]
  · by_cases h2 : off + (k + 1) ≤ i ∧ i < off + (k + 1) + l.length
    · rw [if_pos h2, if_pos (by simp; omega)]
      obtain ⟨j, rfl⟩ : ∃ j, i = off + (k + 1) + j := ⟨i - (off + (k + 1)), by omega⟩
      rw [show off + (k + 1) + j - (off + (k + 1)) = j from by omega, show off + (k + 1) + j - (off + k) = j + 1 from by omega]
      simp
    · rw [if_neg h2, if_neg (by simp; omega)]
      simp [Array.getD_eq_getD_getElem?, Array.getElem?_setIfInBounds_ne h1]

theorem alv {C D : Array Value} {cs ns : List V} {off : Nat} (hC : Row w m h av C cs) {vs : Array Value} (hv : Row w m h av vs ns) (hroom : off + ns.length ≤ cs.length)
 (hD : D.size = C.size) (hg : ∀ i, D.getD i Go.undef = if off ≤ i ∧ i < off + vs.size then vs.getD (i - off) Go.undef else C.getD i Go.undef) :
 Row w m h av D (cs.take off ++ ns ++ cs.drop (off + ns.length)) := by
 obtain ⟨h1, h2⟩ := hC
 obtain ⟨h3, h4⟩ := hv
 refine ⟨by simp; omega, fun i hi => ?_⟩
 rw [hg i]
 have hi' : i < cs.length := by simp at hi; omega
 by_cases e1 : i < off
 · rw [if_neg (by omega), List.getElem_append_left (by simp; omega), List.getElem_append_left (by simp; omega), List.getElem_take]
   exact h2 i hi'
 · by_cases e2 : i < off + ns.length
   · rw [if_pos ⟨by omega, by omega⟩, List.getElem_append_left (by simp; omega), List.getElem_append_right (by simp; omega)]
     have : i - (List.take off cs).length = i - off := by simp; omega
     simp only [this]
     exact h4 (i - off) (by omega)
   · rw [if_neg (by omega), List.getElem_append_right (by simp; omega), List.getElem_drop]
     have : off + ns.length + (i - (List.take off cs ++ ns).length) = i := by simp; omega
     simp only [this]
     exact h2 i hi'

theorem aaa {pl : List (Nat × Nat)} {place : Nat → Option (Nat × Nat)} (hp : ∀ (i : Nat) p, pl[i]? = some p → place i = some p) {a : Operand → Value} {ρ : Operand → V}
 (hρ : ∀ x, RV w m h av true (a x) (ρ x)) : ∀ (parts : List (Nat × Operand)) (C : Array Value) (cs cs' : List V), Row w m h av C cs → xo pl (parts.map fun p => (p.1, ρ p.2)) cs = some cs' →
 ∃ D, Instr.fill place C (parts.map fun p => (p.1, a p.2)) = some D ∧ Row w m h av D cs'
 | [], C, cs, cs', hr, hf => by
  simp [xo] at hf; subst hf
  exact ⟨C, rfl, hr⟩
 | (i, x) :: parts, C, cs, cs', hr, hf => by
  simp only [List.map_cons, xo] at hf
  split at hf
  · rename_i off sz ns h1 h2
    split at hf
    · rename_i hc
      obtain ⟨hc1, hc2⟩ := hc
      obtain ⟨g1, g2, g3⟩ := va (hρ x) h2
      have hff := aem off (a x).cells.toList 0 C (by simp; have := hr.1; omega)
      have hrow := alv (D := ((a x).cells.toList.zipIdx 0).foldl (fun cs (x : Value × Nat) => cs.setIfInBounds (off + x.2) x.1) C) hr (vs := (a x).cells) ⟨g1, g2⟩ (by omega : off + ns.length ≤ cs.length) hff.1
       (fun i => by rw [hff.2 i]; simp [Array.getD_eq_getD_getElem?])
      rw [hc1] at hrow
      obtain ⟨D, hD1, hD2⟩ := aaa hp hρ parts _ _ cs' hrow hf
      refine ⟨D, ?_, hD2⟩
      simp only [List.map_cons, Instr.fill, hp i _ h1]
      rw [if_neg (by simp; have := hr.1; omega)]
      rw [← hD1]
      congr 1
      rw [← Array.foldl_toList]
      congr 1
      simp
    · cases hf
  · cases hf

theorem acb (n sz : Nat) : ∀ (i : Nat) (p : Nat × Nat), ((List.range n).map fun k => (k * sz, sz))[i]? = some p → some (i * sz, sz) = some p := by
 intro i p hi
 by_cases hlt : i < n
 · simpa [List.getElem?_range hlt] using hi
 · rw [List.getElem?_eq_none (by simp; omega)] at hi
   cases hi

theorem aa1 (z : Array Value) : Row w m h av z (z.toList.map lf) := by
 refine ⟨by simp, fun i hi => ?_⟩
 have hi' : i < z.size := by simpa using hi
 have : z.getD i Go.undef = z[i] := by simp [Array.getD, hi']
 rw [this]
 simp only [List.getElem_map, Array.getElem_toList]
 exact acn ..

theorem j9 {t : TypeId} {zs : List V} (hz : zeroOf P t = some zs) : ∃ i z, P.info? t = some i ∧ i.zero = some z ∧ zs = z.cells.toList.map lf := by
 unfold zeroOf at hz
 split at hz
 · rename_i i h1
   split at hz
   · rename_i z h2
     simp at hz
     exact ⟨i, z, h1, h2, hz.symm⟩
   · cases hz
 · cases hz

def ri (P : Program) (t : TypeId) (parts : List (Nat × V)) (K : V → Prop) : Prop :=
 match zeroOf P t, ac1 P t with
 | some zs, some pl => match xo pl parts zs with
  | some cs => K (.agg cs)
  | none => False
 | _, _ => False

theorem aka {a : Operand → Value} {ρ : Operand → V} (hρ : ∀ x, RV w m h av true (a x) (ρ x)) {t : TypeId} {parts : Array (Nat × Operand)} {K : V → Prop}
 (hq : ri P t (parts.toList.map fun p => (p.1, ρ p.2)) K) : o3 P w m h av (Instr.build t (parts.map fun (i, x) => (i, a x))) K := by
 unfold ri at hq
 split at hq
 · rename_i zs pl hz hp
   obtain ⟨it, z, h1, h2, rfl⟩ := j9 hz
   split at hq
   · rename_i cs hf
     have hl : (parts.map fun (i, x) => (i, a x)).toList = parts.toList.map fun p => (p.1, a p.2) := by simp
     unfold ac1 at hp
     split at hp
     · rename_i fields hu
       obtain ⟨D, hD1, hD2⟩ := aaa (place := (pl.toArray[·]?)) (fun i p hi => by simpa using hi) hρ parts.toList z.cells _ cs (aa1 z.cells) hf
       refine .mk' hq (.agg D cs hD2.1 hD2.2) (run_build w t _ D ?_)
       simp only [Program.built, h1, hu, h2, hp, hl]
       exact hD1
     · rename_i n e hu
       split at hp
       · rename_i ie hie
         simp at hp; subst hp
         obtain ⟨D, hD1, hD2⟩ := aaa (pl := (List.range n).map fun i => (i * ie.size, ie.size)) (place := fun i => some (i * ie.size, ie.size)) (acb n ie.size) hρ parts.toList z.cells _ cs (aa1 z.cells) hf
         refine .mk' hq (.agg D cs hD2.1 hD2.2) (run_build w t _ D ?_)
         simp only [Program.built, h1, hu, h2, hie, hl]
         exact hD1
       · cases hp
     · cases hp
   · exact hq.elim
 · exact hq.elim

theorem akj (sz n : Nat) : ∀ (parts : List (Nat × V)) (k : Nat) (pre suf cs : List V), pre.length = k * sz → suf.length = parts.length * sz → k + parts.length = n → abh sz k parts = some cs →
 xo ((List.range n).map fun i => (i * sz, sz)) parts (pre ++ suf) = some (pre ++ cs)
 | [], k, pre, suf, cs, h1, h2, h3, h4 => by
  simp [abh] at h4; subst h4
  have : suf = [] := List.eq_nil_of_length_eq_zero (by simpa using h2)
  subst this
  simp [xo]
 | (i, v) :: parts, k, pre, suf, cs, h1, h2, h3, h4 => by
  simp only [abh] at h4
  split at h4
  · rename_i ns hns
    split at h4
    · rename_i hc
      obtain ⟨rfl, hlen⟩ := hc
      cases hr : abh sz (i + 1) parts with
      | none => simp [hr] at h4
      | some rest =>
       simp [hr] at h4; subst h4
       simp only [List.length_cons] at h2 h3
       have e2 : suf.length = sz + parts.length * sz := by rw [h2, Nat.add_mul]; omega
       have hget : ((List.range n).map fun i => (i * sz, sz))[i]? = some (i * sz, sz) := by
        simp [List.getElem?_range (show i < n from by omega)]
       simp only [xo, hget, hns]
       rw [if_pos ⟨hlen, by simp; omega⟩]
       have ih := akj sz n parts (i + 1) (pre ++ ns) (suf.drop sz) rest (by simp [h1, hlen, Nat.add_mul]) (by simp; omega) (by omega) hr
       rw [← h1, List.take_left, show pre.length + sz = (pre ++ suf.take sz).length from by simp; omega]
       have : pre ++ suf = (pre ++ suf.take sz) ++ suf.drop sz := by simp
       rw [this, List.drop_left]
       simpa using ih
    · cases h4
  · cases h4

theorem agk (z : Array Value) (n : Nat) : Row w m h av ((Array.range n).map (z[· % z.size]!)) (xn n (z.toList.map lf)) := by
 refine ⟨by simp [xn], fun i hi => ?_⟩
 have hi' : i < n := by simpa [xn] using hi
 have e1 : ((Array.range n).map (z[· % z.size]!)).getD i Go.undef = z[i % z.size]! := by simp [Array.getD, hi']
 rw [e1]
 simp only [xn, List.getElem_map, List.getElem_range, List.length_map, Array.length_toList]
 by_cases hz : z.size = 0
 · have : z = #[] := Array.eq_empty_of_size_eq_zero hz
   subst this
   simp
   exact .undef _
 · have hlt : i % z.size < z.size := Nat.mod_lt _ (by omega)
   have : z[i % z.size]! = z[i % z.size] := by simp [getElem!_pos, hlt]
   rw [this]
   have e2 : (z.toList.map lf).getD (i % z.size) .undef = lf z[i % z.size] := by simp [List.getD, hlt]
   rw [e2]
   exact acn ..

theorem s9 {a : Operand → Value} {ρ : Operand → V} (hρ : ∀ x, RV w m h av true (a x) (ρ x)) {t e sz by_ : Nat} (he : jo P t = some (e, sz, by_)) {zs : List V} (hz : zeroOf P e = some zs) {n : Nat}
 {parts : Array (Nat × Operand)} {cs : List V} (hn : parts.size = n) (hbig : n * sz ≤ 16777216) (hs : abh sz 0 (parts.toList.map fun p => (p.1, ρ p.2)) = some cs) :
 ∃ D, Row w m h av D cs ∧ (Instr.buildSlice t n (parts.map fun (i, x) => (i, a x))).run P w = .ok (.slice (some ⟨w.heap.size, 0, none⟩) n n) (w.alloc (.cells D e)) := by
 obtain ⟨i, h1, h2, rfl, h4⟩ := je he
 obtain ⟨i', z, h5, h6, rfl⟩ := j9 hz
 rw [h2] at h5; simp at h5; subst h5
 have hl : (parts.map fun (i, x) => (i, a x)).toList = parts.toList.map fun p => (p.1, a p.2) := by simp
 have hrow0 := agk (w := w) (m := m) (h := h) (av := av) (if n * i.size = 0 then #[] else z.cells) (n * i.size)
 have hfill := akj i.size n (parts.toList.map fun p => (p.1, ρ p.2)) 0 [] (xn (n * i.size) ((if n * i.size = 0 then #[] else z.cells).toList.map lf)) cs (by simp) (by simp [xn, hn]) (by simp [hn]) hs
 simp only [List.nil_append] at hfill
 obtain ⟨D, hD1, hD2⟩ := aaa (pl := (List.range n).map fun k => (k * i.size, i.size)) (place := fun k => some (k * i.size, i.size)) (acb n i.size) hρ parts.toList _ _ cs hrow0 hfill
 refine ⟨D, hD2, ?_⟩
 have hb : ¬ (2 ^ 24 < n * i.size) := by omega
 by_cases h0 : n * i.size = 0
 · simp [h0] at hD1
   simp [Instr.buildSlice, run_underlying h1, sizeOf, typeInfo, h2, h0, hD1, newRow]
 · simp only [h0, if_false] at hD1
   have hb' : ¬ (16777216 < n * i.size) := by omega
   simp [Instr.buildSlice, run_underlying h1, sizeOf, typeInfo, zeroValue, h2, h6, h0, hb', hD1, newRow]

theorem aat {t e sz by_ : Nat} (he : jo P t = some (e, sz, by_)) {zs : List V} (hz : zeroOf P e = some zs) {k k' : IntKind} {n : Int} (h0 : 0 ≤ n) (hb : (by_ : Int) * n ≤ 281474976710656) (h63 : n ≤ 9223372036854775807) :
 ∃ D, Row w m h av D (xn (n.toNat * sz) zs) ∧ (Instr.makeSlice t (.int k n) (.int k' n)).run P w = .ok (.slice (some ⟨w.heap.size, 0, none⟩) n.toNat n.toNat) (w.alloc (.cells D e)) := by
 obtain ⟨i, h1, h2, rfl, rfl⟩ := je he
 obtain ⟨i', z, h5, h6, rfl⟩ := j9 hz
 rw [h2] at h5; simp at h5; subst h5
 exact ⟨_, agk z.cells (n.toNat * i.size), run_make w t e i z h1 h2 h6 k k' n n h0 (by omega) hb h63⟩

end
end Go.Lv
end
section
namespace Go.Lv

def dq (cs : List V) (off : Nat) (ns : List V) : List V := cs.take off ++ ns ++ cs.drop (off + ns.length)

def mi (P : Program) (h : Hp) (t : TypeId) (ad v : V) (K : Hp → Prop) : Prop :=
 match ad with
 | .ptr id off => match h[id]? with
  | some (some cs) => match cellsOf v with
   | some ns => match jl P t with
    | some (sz, _) => ns.length = sz ∧ off + sz ≤ cs.length ∧ K (h.set id (some (dq cs off ns)))
    | none => False
   | none => False
  | _ => False
 | _ => False

def n5 (h : Hp) (sz : Nat) (no : Option Nat) (y : V) (K : Nat → List V → Prop) : Prop :=
 match y with
 | .sl n w cs => w = sz ∧ cs.all ch = true ∧ K n cs
 | .osl id off n w => some id ≠ no ∧ match h[id]? with
  | some (some cs) => w = sz ∧ ((cs.drop off).take (n * sz)).all ch = true ∧ K n ((cs.drop off).take (n * sz))
  | _ => False
 | .nilsl => K 0 []
 | _ => False

def uz (P : Program) (s : St) (t u : TypeId) (x y : V) (K : St → V → Prop) : Prop :=
 x8 P u = true ∧
 match jo P t with
 | some (e, sz, by_) => match zeroOf P e with
  | some zs => zs.length = sz ∧ match x with
   | .nilsl => n5 s.h sz none y fun n2 cs2 => 0 < n2 ∧ n2 * by_ ≤ 140737488355328 ∧ n2 ≤ 4611686018427387904 ∧ K { s with h := s.h ++ [some cs2] } (.osl s.h.length 0 n2 sz)
   | .osl id off n wd => match s.h[id]? with
    | some (some cs) => off = 0 ∧ wd = sz ∧ n * sz = cs.length ∧ n5 s.h sz (some id) y fun n2 cs2 =>
     (s.k ≤ id ∨ cs2 ≠ []) ∧ (n + n2) * by_ ≤ 140737488355328 ∧ n + n2 ≤ 4611686018427387904 ∧
     K { s with t := xj id s.t, h := (s.h.map (kb id)).set id (some (dj id (cs ++ cs2))) } (.osl id 0 (n + n2) sz)
    | _ => False
   | _ => False
  | none => False
 | none => False

section
variable {P : Program}

theorem nf (g o : Nat) (t : TypeId) (fr : Nat × Nat) : ∀ (vs : List Value) (i : Nat) (cur : Array Value) (w : World), w.heap[g]? = some (.cells cur t fr) → aa2 fr cur.size → o + i + vs.length ≤ cur.size → (∀ v ∈ vs, v.oneCell' = true) →
 (storeCells ⟨g, o, none⟩ vs i).run P w = .ok () (w.setRow g (cur.toList.take (o + i) ++ vs ++ cur.toList.drop (o + i + vs.length)).toArray)
 | [], i, cur, w, hg, _, _, _ => by
  simp only [storeCells, List.append_nil, List.length_nil, Nat.add_zero, List.take_append_drop, Array.toArray_toList]
  rw [setRow_self w g cur t fr hg]
  rfl
 | v :: rest, i, cur, w, hg, hfr, hl, h1 => by
  have hi : o + i < cur.size := by simp at hl; omega
  have hadd : (⟨g, o, none⟩ : Addr).add i = ⟨g, o + i, none⟩ := by unfold Addr.add; split <;> simp_all
  have hcell : w.cell? ⟨g, o + i, none⟩ = some cur[o + i] := by simp [World.cell?, hg, hi]
  have hfro : w.frozen? ⟨g, o + i, none⟩ = false := hfr.not hg hi
  have hst : (store ((⟨g, o, none⟩ : Addr).add i) v).run P w = .ok () (w.setRow g (cur.setIfInBounds (o + i) v)) := by
   rw [hadd, run_store P w _ v _ (h1 v (by simp)), hcell]
   simp [hfro, setCell_eq_setRow w g (o + i) cur t fr v hg]
  have ih := nf g o t fr rest (i + 1) (cur.setIfInBounds (o + i) v) (w.setRow g (cur.setIfInBounds (o + i) v)) (setRow_heap w g cur _ t _ hg) (by simpa using hfr) (by simp at hl ⊢; omega) (fun x hx => h1 x (by simp [hx]))
  simp only [storeCells, Sem.run_bind, hst, Result.andThen_ok, ih, setRow_setRow]
  congr 3
  apply List.ext_getElem?
  intro k
  simp only [Array.toList_setIfInBounds, List.length_cons]
  rcases Nat.lt_trichotomy k (o + i) with h | h | h
  · rw [List.getElem?_append_left (by simp at hl ⊢; omega), List.getElem?_append_left (by simp at hl ⊢; omega), List.getElem?_append_left (by simp at hl ⊢; omega), List.getElem?_append_left (by simp at hl ⊢; omega), List.getElem?_take_of_lt (by omega), List.getElem?_take_of_lt (by omega), List.getElem?_set_ne (by omega)]
  · subst h
    rw [List.getElem?_append_left (by simp at hl ⊢; omega), List.getElem?_append_left (by simp at hl ⊢; omega), List.getElem?_append_left (by simp at hl ⊢; omega), List.getElem?_take_of_lt (by omega), List.getElem?_set_self (by simpa using hi), List.getElem?_append_right (by simp; omega)]
    simp [Nat.min_eq_left (Nat.le_of_lt hi)]
  · by_cases h2 : k < o + i + (rest.length + 1)
    · have hl2 : o + i + (rest.length + 1) ≤ cur.size := by simpa using hl
      rw [List.getElem?_append_left (by simp; omega), List.getElem?_append_right (by simp; omega), List.getElem?_append_left (by simp; omega), List.getElem?_append_right (by simp; omega)]
      have e1 : k - (List.take (o + (i + 1)) (cur.toList.set (o + i) v)).length = k - (o + i) - 1 := by simp; omega
      have e2 : k - (List.take (o + i) cur.toList).length = (k - (o + i) - 1) + 1 := by simp; omega
      rw [e1, e2, List.getElem?_cons_succ]
    · have hl2 : o + i + (rest.length + 1) ≤ cur.size := by simpa using hl
      rw [List.getElem?_append_right (by simp; omega), List.getElem?_append_right (by simp; omega), List.getElem?_drop, List.getElem?_drop]
      have e1 : o + (i + 1) + rest.length + (k - (List.take (o + (i + 1)) (cur.toList.set (o + i) v) ++ rest).length) = k := by simp; omega
      have e2 : o + i + (rest.length + 1) + (k - (List.take (o + i) cur.toList ++ v :: rest).length) = k := by simp; omega
      rw [e1, e2, List.getElem?_set_ne (by omega)]

theorem akc {w : World} {g off : Nat} {t sz : Nat} {ag : Bool} (ht : jl P t = some (sz, ag)) {v : Value} {cur : Array Value} {T : TypeId} {fr : Nat × Nat} (hg : w.heap[g]? = some (.cells cur T fr)) (hfr : aa2 fr cur.size)
 (hsz : v.cells.size = sz) (hl : off + sz ≤ cur.size) (h1 : ∀ u ∈ v.cells.toList, u.oneCell' = true) :
 (Instr.storeAt t (.pointer (some ⟨g, off, none⟩)) v).run P w = .ok () (w.setRow g (cur.toList.take off ++ v.cells.toList ++ cur.toList.drop (off + v.cells.size)).toArray) := by
 obtain ⟨i, d, hi, hd, rfl, _⟩ := vh ht
 have hst := nf (P := P) g off T fr v.cells.toList 0 cur w hg hfr (by simp; omega) h1
 have hne : ¬ v.cells.size ≠ i.size := by omega
 simp only [Instr.storeAt, Instr.sureAddr, Sem.run_bind, Sem.run_pure, Result.andThen_ok, storeVar, sizeOf, typeInfo, run_program, hi, if_neg hne, hst]
 simp

theorem pg {w : World} (a : Option Addr) (n c size : Nat) : (Builtin.firstCells size 0 (.slice a n c)).run P w = .ok #[] w := by
 cases a <;> simp [Builtin.firstCells, loadCells, loadCellsFrom]

theorem wq {w : World} (t u ty e : TypeId) (i : TypeInfo) (eu : TypeId) (ht : P.underlying t = some (.slice e)) (hu : P.underlying u = some (.slice eu)) (hi : P.info? e = some i)
 (g off sLen sCap : Nat) (cur : Array Value) (T : TypeId) {fr : Nat × Nat} (hg : w.heap[g]? = some (.cells cur T fr)) (hfr : aa2 fr cur.size) (x : Value) (n : Nat) (news : List Value)
 (hx : (Builtin.lenOf x).run P w = .ok n w) (hf : (Builtin.firstCells i.size n x).run P w = .ok news.toArray w) (h1 : ∀ u ∈ news, u.oneCell' = true)
 (hroom : sLen + n ≤ sCap) (hfit : off + sLen * i.size + news.length ≤ cur.size) :
 (Builtin.append_ #[t, u] ty #[.slice (some ⟨g, off, none⟩) sLen sCap, x]).run P w =
  .ok (.slice (some ⟨g, off, none⟩) (sLen + n) sCap) (w.setRow g (cur.toList.take (off + sLen * i.size) ++ news ++ cur.toList.drop (off + sLen * i.size + news.length)).toArray) := by
 have hst := nf (P := P) g (off + sLen * i.size) T fr news 0 cur w hg hfr (by simpa using hfit) h1
 simp only [Nat.add_zero] at hst
 simp [Builtin.append_, run_underlying ht, run_underlying hu, sizeOf, typeInfo, hi, hx, hroom, hf, Addr.add_lit, hst]

theorem pj {w : World} (t u ty e : TypeId) (i : TypeInfo) (z : Value) (eu : TypeId) (ht : P.underlying t = some (.slice e)) (hu : P.underlying u = some (.slice eu)) (hi : P.info? e = some i) (hz : i.zero = some z)
 (b : Option Addr) (sLen sCap : Nat) (olds : List Value) (x : Value) (n : Nat) (news : List Value)
 (hx : (Builtin.lenOf x).run P w = .ok n w) (hf : (Builtin.firstCells i.size n x).run P w.drew = .ok news.toArray w.drew) (ho : (Builtin.firstCells i.size sLen (.slice b sLen sCap)).run P w.drew = .ok olds.toArray w.drew)
 (hroom : sCap < sLen + n) (h63 : sLen + n ≤ 9223372036854775807) (hfit : Builtin.nextslicecap (sLen + n) sCap * i.bytes ≤ 281474976710656) :
 (Builtin.append_ #[t, u] ty #[.slice b sLen sCap, x]).run P w =
  .ok (.slice (some ⟨w.heap.size, 0, none⟩) (sLen + n) (grownCap w (sLen + n) sCap e))
   (w.drew.alloc (.cells (olds.toArray ++ news.toArray ++ Builtin.zeroCells z.cells (grownCap w (sLen + n) sCap e - (sLen + n))) e)) := by
 have hn : ¬ (sLen + n ≤ sCap) := by omega
 have h63' : ¬ (9223372036854775807 < ((sLen : Int) + (n : Int))) := by omega
 have h48' : ¬ (281474976710656 < Builtin.nextslicecap (sLen + n) sCap * i.bytes) := by omega
 simp [Builtin.append_, run_underlying ht, run_underlying hu, sizeOf, typeInfo, zeroValue, hi, hz, hx, hn, h63', h48', Question.forced, hf, ho, newRow, grownCap]
 congr 2
 apply Array.ext'
 simp [List.append_assoc]

end

section
variable {P : Program} {w0 : World} {m0 : Nat → Nat} {h0 : Hp} {av0 : Nat → Prop} {s : St} {a : Act} {w : World} {m : Nat → Nat}

theorem atp (I : Inv w0 m0 h0 av0 s a w m) {t : TypeId} {ad v : V} {u x : Value} (hu : RV w m s.h (avm av0 m s.h) true u ad) (hx : RV w m s.h (avm av0 m s.h) true x v) {K : Hp → Prop}
 (hq : mi P s.h t ad v K) : ∃ h' w', K h' ∧ (Instr.storeAt t u x).run P w = .ok () w' ∧ Inv w0 m0 h0 av0 { s with h := h' } a w' m := by
 unfold mi at hq
 cases hu with
 | ptr id off cs hid =>
  simp only [hid.1] at hq
  split at hq
  · rename_i ns hns
    split at hq
    · rename_i sz ag hsz
      obtain ⟨h1, h2, hk⟩ := hq
      obtain ⟨g1, g2, g3⟩ := va hx hns
      obtain ⟨C, T, fr, hC, hfr, hCl, hCr⟩ := (I.rh.blk id cs hid.1).cells hid.2
      have hrun := akc (P := P) (off := off) hsz hC hfr (v := x) (by omega) (by omega) g3
      refine ⟨_, _, hk, hrun, (I.setRow hid hC hfr (by simp; omega) (by simp [dq]; omega) (by simp [dq]; omega) (fun i hi => ?_)).1⟩
      have hsl : (dq cs off ns).length = cs.length := by simp [dq]; omega
      rw [hsl] at hi
      have hl : i < C.size := by omega
      by_cases e1 : i < off
      · have e2 : (dq cs off ns)[i]'(by omega) = cs[i] := by
         simp only [dq]
         rw [List.getElem_append_left (by simp; omega), List.getElem_append_left (by simp; omega), List.getElem_take]
        rw [e2]
        have e3 : (C.toList.take off ++ x.cells.toList ++ C.toList.drop (off + x.cells.size)).toArray.getD i Go.undef = C.getD i Go.undef := by
         simp only [Array.getD_eq_getD_getElem?, List.getElem?_toArray]
         rw [List.getElem?_append_left (by simp; omega), List.getElem?_append_left (by simp; omega), List.getElem?_take_of_lt e1]
         simp
        rw [e3]
        exact hCr i hi
      · by_cases e2 : i < off + ns.length
        · have e3 : (dq cs off ns)[i]'(by omega) = ns[i - off]'(by omega) := by
           simp only [dq]
           rw [List.getElem_append_left (by simp; omega), List.getElem_append_right (by simp; omega)]
           congr 1
           simp; omega
          rw [e3]
          have e4 : (C.toList.take off ++ x.cells.toList ++ C.toList.drop (off + x.cells.size)).toArray.getD i Go.undef = x.cells.getD (i - off) Go.undef := by
           simp only [Array.getD_eq_getD_getElem?, List.getElem?_toArray]
           rw [List.getElem?_append_left (by simp; omega), List.getElem?_append_right (by simp; omega)]
           have : i - (C.toList.take off).length = i - off := by simp; omega
           rw [this]
           simp
          rw [e4]
          exact g2 _ _
        · have e3 : (dq cs off ns)[i]'(by omega) = cs[i] := by
           simp only [dq]
           rw [List.getElem_append_right (by simp; omega), List.getElem_drop]
           congr 1
           simp; omega
          rw [e3]
          have e4 : (C.toList.take off ++ x.cells.toList ++ C.toList.drop (off + x.cells.size)).toArray.getD i Go.undef = C.getD i Go.undef := by
           simp only [Array.getD_eq_getD_getElem?, List.getElem?_toArray]
           rw [List.getElem?_append_right (by simp; omega), List.getElem?_drop]
           have : off + x.cells.size + (i - (C.toList.take off ++ x.cells.toList).length) = i := by simp; omega
           rw [this]
           simp
          rw [e4]
          exact hCr i hi
    · exact hq.elim
  · exact hq.elim
 | _ => exact False.elim hq

theorem ame (H : RH w m s.h (avm av0 m s.h)) {y : V} {u : Value} (hy : RV w m s.h (avm av0 m s.h) true u y) {sz : Nat} {no : Option Nat} {K : Nat → List V → Prop} (hq : n5 s.h sz no y K) :
 ∃ n cs news, K n cs ∧ (∀ w1 : World, (Builtin.lenOf u).run P w1 = .ok n w1) ∧ (∀ w1 : World, (∀ ad, w1.cell? ad = w.cell? ad) → (Builtin.firstCells sz n u).run P w1 = .ok (List.toArray news) w1) ∧
  news.length = n * sz ∧ cs.length = n * sz ∧ (∀ x ∈ news, x.oneCell' = true) ∧ ∀ i (hi : i < cs.length), RV w m s.h (avm av0 m s.h) true (news.getD i Go.undef) cs[i] := by
 unfold n5 at hq
 have key : ∀ (b off n cap : Nat) (cs : List V), cs.length = n * sz → cs.all ch = true → (∀ i (hi : i < cs.length), ∃ v, w.cell? ⟨b, off + i, none⟩ = some v ∧ RV w m s.h (avm av0 m s.h) true v cs[i]) → K n cs →
  ∃ n' cs' news, K n' cs' ∧ (∀ w1 : World, (Builtin.lenOf (.slice (some ⟨b, off, none⟩) n cap)).run P w1 = .ok n' w1) ∧ (∀ w1 : World, (∀ ad, w1.cell? ad = w.cell? ad) → (Builtin.firstCells sz n' (.slice (some ⟨b, off, none⟩) n cap)).run P w1 = .ok (List.toArray news) w1) ∧
  news.length = n' * sz ∧ cs'.length = n' * sz ∧ (∀ x ∈ news, x.oneCell' = true) ∧ ∀ i (hi : i < cs'.length), RV w m s.h (avm av0 m s.h) true (news.getD i Go.undef) cs'[i] := by
  intro b off n cap cs hl hall hc hk
  have hg : ∀ i (hi : i < cs.length), w.cell? ⟨b, off + i, none⟩ = some ((w.cell? ⟨b, off + i, none⟩).getD Go.undef) ∧ RV w m s.h (avm av0 m s.h) true ((w.cell? ⟨b, off + i, none⟩).getD Go.undef) cs[i] := by
   intro i hi
   obtain ⟨v, h1, h2⟩ := hc i hi
   rw [h1]
   exact ⟨rfl, h2⟩
  refine ⟨n, cs, (List.range cs.length).map fun i => (w.cell? ⟨b, off + i, none⟩).getD Go.undef, hk, fun w1 => by simp [Builtin.lenOf], fun w1 hw => ?_, by simp [hl], hl, fun x hx => ?_, fun i hi => ?_⟩
  · refine run_firstCells_some w1 sz n ⟨b, off, none⟩ n cap _ (by simp [hl]) (fun j v hj => ?_)
    have hlt : j < cs.length := by
     have := (List.getElem?_eq_some_iff.1 hj).1
     simpa using this
    rw [List.getElem?_map, List.getElem?_range hlt] at hj
    simp at hj
    rw [hw, Addr.add_lit, ← hj]
    exact (hg j hlt).1
  · obtain ⟨i, hi, rfl⟩ := List.mem_map.1 hx
    have hlt : i < cs.length := by simpa using hi
    exact (ahr (hg i hlt).2 (List.all_eq_true.1 hall _ (List.getElem_mem _))).1
  · have : ((List.range cs.length).map fun i => (w.cell? ⟨b, off + i, none⟩).getD Go.undef).getD i Go.undef = (w.cell? ⟨b, off + i, none⟩).getD Go.undef := by
     simp [List.getD, List.getElem?_range hi]
    rw [this]
    exact (hg i hi).2
 cases hy with
 | sl b off n cap wd cs vals hl ha hc hv hr =>
  obtain ⟨rfl, h2, hk⟩ := hq
  exact key b off n cap cs hl h2 (fun i hi => ⟨_, hv i hi, (hr i hi).se⟩) hk
 | slz ad c wd =>
  obtain ⟨rfl, h2, hk⟩ := hq
  exact ⟨0, [], [], hk, fun w1 => by simp [Builtin.lenOf], fun w1 _ => pg ad 0 c wd, by simp, by simp, fun x hx => by simp at hx, fun i hi => by simp at hi⟩
 | osl id off n cap wd cs hid hl hc hs =>
  simp only [hid.1] at hq
  obtain ⟨_, rfl, h2, hk⟩ := hq
  refine key (m id) off n cap _ (by simp; omega) h2 (fun i hi => ?_) hk
  have hi' : off + i < cs.length := by simp at hi; omega
  obtain ⟨v, h3, h4⟩ := H.cell hid hi'
  exact ⟨v, h3, by simpa using h4⟩
 | nilsl =>
  exact ⟨0, [], [], hq, fun w1 => by simp [Builtin.lenOf], fun w1 _ => pg none 0 0 sz, by simp, by simp, fun x hx => by simp at hx, fun i hi => by simp at hi⟩
 | _ => exact False.elim hq

theorem x7 (x y : List Value) (rest : Array Value) (i : Nat) (hi : i < x.length + y.length) :
 (x.toArray ++ y.toArray ++ rest).getD i Go.undef = if i < x.length then x.getD i Go.undef else y.getD (i - x.length) Go.undef := by
 rw [iq _ _ (by simpa using hi)]
 by_cases h : i < x.length
 · rw [if_pos h, iq _ _ (by simpa using h)]
   simp [Array.getD_eq_getD_getElem?, List.getD]
 · rw [if_neg h, s8 _ _ (by simpa using h)]
   simp [Array.getD_eq_getD_getElem?, List.getD]

theorem tv {cs cs2 : List V} {olds news : List Value} (h1 : olds.length = cs.length) (h2 : news.length = cs2.length)
 (r1 : ∀ i (hi : i < cs.length), RV w m s.h (avm av0 m s.h) true (olds.getD i Go.undef) cs[i]) (r2 : ∀ i (hi : i < cs2.length), RV w m s.h (avm av0 m s.h) true (news.getD i Go.undef) cs2[i]) (rest : Array Value) :
 ∀ i (hi : i < (cs ++ cs2).length), RV w m s.h (avm av0 m s.h) true ((olds.toArray ++ news.toArray ++ rest).getD i Go.undef) (cs ++ cs2)[i] := by
 intro i hi
 rw [x7 _ _ _ _ (by simp at hi; omega)]
 by_cases h : i < cs.length
 · rw [if_pos (by omega), List.getElem_append_left h]
   exact r1 i h
 · rw [if_neg (by omega), List.getElem_append_right (by omega)]
   have := r2 (i - cs.length) (by simp at hi; omega)
   rw [h1]
   exact this

theorem aou (I : Inv w0 m0 h0 av0 s a w m) {t u ty : TypeId} {x y : V} {xv yv : Value} (hx : RV w m s.h (avm av0 m s.h) true xv x) (hy : RV w m s.h (avm av0 m s.h) true yv y) {K : St → V → Prop}
 (hq : uz P s t u x y K) : ∃ s' r v w' m', K s' r ∧ (Builtin.append_ #[t, u] ty #[xv, yv]).run P w = .ok v w' ∧ Inv w0 m0 h0 av0 s' a w' m' ∧ RV w' m' s'.h (avm av0 m' s'.h) true v r := by
 obtain ⟨hsl, hq⟩ := hq
 obtain ⟨eu, hu⟩ := tz hsl
 split at hq
 · rename_i e sz by_ he
   obtain ⟨i, h1, h2, rfl, rfl⟩ := je he
   split at hq
   · rename_i zs hz
     obtain ⟨i', z, h5, h6, rfl⟩ := j9 hz
     rw [h2] at h5; simp at h5; subst h5
     obtain ⟨hzl, hq⟩ := hq
     have hzs : z.cells.size = i.size := by simpa using hzl
     cases hx with
     | nilsl =>
      obtain ⟨n, cs, news, ⟨hpos, hb, h63, hk⟩, hlen, hf, hl1, hl2, hone, hr⟩ := ame (P := P) I.rh hy hq
      have hfit : Builtin.nextslicecap (0 + n) 0 * i.bytes ≤ 281474976710656 := by
       rw [Nat.zero_add, nextslicecap_zero hpos]; omega
      have hrun := pj (P := P) (w := w) t u ty e i z eu h1 hu h2 h6 none 0 0 [] yv n news (hlen w) (hf w.drew (fun _ => rfl)) (pg none 0 0 i.size) (by omega) (by omega) hfit
      have ID := I.world (Ext.drew (fun _ => False) w)
      have hstep : ∀ {o : Bool} {v : Value} {x : V}, RV w m s.h (avm av0 m s.h) o v x → RV w.drew m s.h (avm av0 m s.h) o v x :=
       fun hx => RV.step (w := w) (w' := w.drew) (m := m) (m' := m) (h := s.h) (h' := s.h) (av := avm av0 m s.h) (av' := avm av0 m s.h) (fun b off v hb hc => ⟨hb, hc⟩) (fun id c hid => ⟨c, hid, Nat.le_refl _, rfl, Nat.le_refl _, rfl⟩) hx
      obtain ⟨J, _⟩ := ID.alloc (List.toArray [] ++ news.toArray ++ Builtin.zeroCells z.cells (grownCap w (0 + n) 0 e - (0 + n))) e cs (by simp; omega)
       (fun j hj => hstep (by simpa using tv (cs := []) (olds := []) rfl (by omega) (fun i hi => by simp at hi) hr _ j (by simpa using hj)))
      refine ⟨_, _, _, _, _, hk, hrun, J, ?_⟩
      have hmb : ix cs = false := o9 (w := w) (C := (List.toArray [] ++ news.toArray ++ #[])) (fun j hj => by simpa using tv (cs := []) (olds := []) rfl (by omega) (fun i hi => by simp at hi) hr #[] j (by simpa using hj))
      have hge := grownCap_ge w (0 + n) 0 e
      have hdrew : w.drew.heap.size = w.heap.size := rfl
      have := RV.osl (w := w.drew.alloc (.cells (List.toArray [] ++ news.toArray ++ Builtin.zeroCells z.cells (grownCap w (0 + n) 0 e - (0 + n))) e)) (m := gb m s.h.length w.drew.heap.size) (h := s.h ++ [some cs])
       (av := avm av0 (gb m s.h.length w.drew.heap.size) (s.h ++ [some cs])) s.h.length 0 n (grownCap w (0 + n) 0 e) i.size cs ⟨by simp, hmb⟩ (by simp [hl2]) (by omega) (by
        rw [fg]
        simp only [dh, heap_alloc_new, Array.size_append, List.size_toArray, List.length_nil, size_zeroCells, hzs, hl1]
        simp only [Nat.zero_add]
        rw [← Nat.add_mul]
        exact Nat.mul_le_mul_right _ (by omega))
      rw [fg] at this
      simpa using this
     | osl id off n cap wd cs hid hl hc hs =>
      simp only [hid.1] at hq
      obtain ⟨rfl, rfl, hlen0, hq⟩ := hq
      obtain ⟨n2, cs2, news, ⟨hk0, hb, h63, hk⟩, hlen, hf, hl1, hl2, hone, hr⟩ := ame (P := P) I.rh hy hq
      obtain ⟨C, T, fr, hC, hfr, hCl, hCr⟩ := (I.rh.blk id cs hid.1).cells hid.2
      have hrs : dh w (m id) = C.size := by simp [dh, hC]
      rw [hrs] at hs
      have hkk : h0.length ≤ id ∨ cs.length < (cs ++ cs2).length := by
       rw [← I.k]
       exact hk0.imp (fun h => h) (fun h => by have := List.length_pos_iff.2 h; simp; exact this)
      by_cases hroom : n + n2 ≤ cap
      · have hfit : 0 + n * i.size + news.length ≤ C.size := by
         rw [hl1]
         have : (n + n2) * i.size ≤ cap * i.size := Nat.mul_le_mul_right _ hroom
         rw [Nat.add_mul] at this
         omega
        have hrun := wq (P := P) (w := w) t u ty e i eu h1 hu h2 (m id) 0 n cap C T hC hfr yv n2 news (hlen w) (hf w (fun _ => rfl)) hone hroom hfit
        have hD : (C.toList.take (0 + n * i.size) ++ news ++ C.toList.drop (0 + n * i.size + news.length)).toArray.size = C.size := by simp; omega
        have hrow := tv (w := w) (m := m) (s := s) (av0 := av0) (cs := cs) (cs2 := cs2) (olds := C.toList.take (0 + n * i.size)) (news := news) (by simp; omega) (by omega)
         (fun j hj => by
          have hj' : j < C.size := by omega
          have := hCr j hj
          rw [Array.getD_eq_getD_getElem?] at this
          rw [List.getD, List.getElem?_take_of_lt (by omega), Array.getElem?_toList]
          exact this) hr (C.toList.drop (0 + n * i.size + news.length)).toArray
        obtain ⟨J, _⟩ := I.setRow (cs' := cs ++ cs2) hid hC hfr hD (by simp) (by simp; omega) (fun j hj => by simpa using hrow j hj)
        have hid2 : (s.h.set id (some (cs ++ cs2)))[id]? = some (some (cs ++ cs2)) := by rw [List.getElem?_set_self (e8 hid.1)]
        have hmb : ix (dj id (cs ++ cs2)) = false := by rw [dj, er]; exact o9 (C := (C.toList.take (0 + n * i.size) ++ news ++ C.toList.drop (0 + n * i.size + news.length)).toArray) (fun j hj => by simpa using hrow j hj)
        have J2 := J.kill hid2
        have hset : ((s.h.set id (some (cs ++ cs2))).map (kb id)).set id (some (dj id (cs ++ cs2))) = (s.h.map (kb id)).set id (some (dj id (cs ++ cs2))) := by
         rw [List.map_set, List.set_set]
        have J3 := J2
        simp only [hset] at J3
        refine ⟨_, _, _, _, _, hk, hrun, J3, ?_⟩
        refine .osl id 0 (n + n2) cap i.size (dj id (cs ++ cs2)) ⟨by rw [List.getElem?_set_self (by simpa using e8 hid.1)], hmb⟩ (by simp [dj]; rw [hl2, Nat.add_mul]; omega) hroom ?_
        simp only [dh, setRow_heap w (m id) C _ T _ hC]
        omega
      · have hfit : Builtin.nextslicecap (n + n2) cap * i.bytes ≤ 281474976710656 := growslice_fits (by omega) hb
        have holds : (Builtin.firstCells i.size n (.slice (some ⟨m id, 0, none⟩) n cap)).run P w.drew = .ok (C.toList.take (n * i.size)).toArray w.drew := by
         refine run_firstCells_some w.drew i.size n ⟨m id, 0, none⟩ n cap _ (by simp; omega) (fun j v hj => ?_)
         have hlt : j < n * i.size := by
          have := (List.getElem?_eq_some_iff.1 hj).1
          simp at this; omega
         rw [List.getElem?_take_of_lt hlt, Array.getElem?_toList] at hj
         rw [Addr.add_lit, Nat.zero_add]
         exact (cell_of_row w (m id) j C T fr hC).trans hj
        have hrun := pj (P := P) (w := w) t u ty e i z eu h1 hu h2 h6 (some ⟨m id, 0, none⟩) n cap (C.toList.take (n * i.size)) yv n2 news (hlen w) (hf w.drew (fun _ => rfl)) holds (by omega) (by omega) hfit
        have ID := I.world (Ext.drew (fun _ => False) w)
        have hstep : ∀ {o : Bool} {v : Value} {x : V}, RV w m s.h (avm av0 m s.h) o v x → RV w.drew m s.h (avm av0 m s.h) o v x :=
         fun hx => RV.step (w := w) (w' := w.drew) (m := m) (m' := m) (h := s.h) (h' := s.h) (av := avm av0 m s.h) (av' := avm av0 m s.h) (fun b off v hb hc => ⟨hb, hc⟩) (fun id c hid => ⟨c, hid, Nat.le_refl _, rfl, Nat.le_refl _, rfl⟩) hx
        have hrow := tv (w := w) (m := m) (s := s) (av0 := av0) (cs := cs) (cs2 := cs2) (olds := C.toList.take (n * i.size)) (news := news) (by simp; omega) (by omega)
         (fun j hj => by
          have hj' : j < C.size := by omega
          have := hCr j hj
          rw [Array.getD_eq_getD_getElem?] at this
          rw [List.getD, List.getElem?_take_of_lt (by omega), Array.getElem?_toList]
          exact this) hr (Builtin.zeroCells z.cells (grownCap w (n + n2) cap e - (n + n2)))
        have J := ID.move (C := (C.toList.take (n * i.size)).toArray ++ news.toArray ++ Builtin.zeroCells z.cells (grownCap w (n + n2) cap e - (n + n2))) (T := e) (cs' := cs ++ cs2) hid.1 hkk (by simp; omega) (fun j hj => hstep (hrow j hj))
        have hmb : ix (dj id (cs ++ cs2)) = false := by rw [dj, er]; exact o9 hrow
        refine ⟨_, _, _, _, _, hk, hrun, J, ?_⟩
        have hge := grownCap_ge w (n + n2) cap e
        have := RV.osl (w := w.drew.alloc (.cells ((C.toList.take (n * i.size)).toArray ++ news.toArray ++ Builtin.zeroCells z.cells (grownCap w (n + n2) cap e - (n + n2))) e)) (m := fun j => if j = id then w.drew.heap.size else m j)
         (h := (s.h.map (kb id)).set id (some (dj id (cs ++ cs2)))) (av := avm av0 (fun j => if j = id then w.drew.heap.size else m j) ((s.h.map (kb id)).set id (some (dj id (cs ++ cs2)))))
         id 0 (n + n2) (grownCap w (n + n2) cap e) i.size (dj id (cs ++ cs2)) ⟨by rw [List.getElem?_set_self (by simpa using e8 hid.1)], hmb⟩ (by simp [dj]; rw [hl2, Nat.add_mul]; omega) hge (by
          simp only [if_true, dh, heap_alloc_new, Array.size_append, List.size_toArray, List.length_take, Array.length_toList, size_zeroCells, hzs, hl1]
          have e1 : min (n * i.size) C.size = n * i.size := by omega
          rw [e1, ← Nat.add_mul, ← Nat.add_mul, Nat.zero_add]
          exact Nat.mul_le_mul_right _ (by omega))
        simpa using this
     | _ => exact False.elim hq
   · exact hq.elim
 · exact hq.elim

end
end Go.Lv
end
