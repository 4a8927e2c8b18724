/-
  A part of the proof: texts put together by a program of the prover. Conditions: none.
-/
import Derived.Test.YtfpkiomipjmabaaGreatDoorZC1
set_option linter.unusedSimpArgs false
set_option linter.unusedVariables false
section
namespace Go.Lv

def bq : V → Bool
 | .bool _ | .int _ _ | .str _ | .nilsl | .sl _ _ _ | .pt _ | .osl _ _ _ _ | .ptr _ _ | .fn _ _ _ => true
 | _ => false

def cellsOf : V → Option (List V)
 | .agg cs => if cs.all bq then some cs else none
 | .bool b => some [.bool b]
 | .int k n => some [.int k n]
 | .str s => some [.str s]
 | .nilsl => some [.nilsl]
 | .sl n w cs => some [.sl n w cs]
 | .pt cs => some [.pt cs]
 | .osl a b c d => some [.osl a b c d]
 | .ptr a b => some [.ptr a b]
 | .fn a b c => some [.fn a b c]
 | _ => none

section
variable {P : Program} {w : World} {m : Nat → Nat} {h : Hp} {av : Nat → Prop}

theorem ahy {o : Bool} {v : Value} {x : V} (hx : RV w m h av o v x) (hc : bq x = true) : v.oneCell' = true ∧ v.cells = #[v] := by
 cases hx <;> first | exact ⟨rfl, rfl⟩ | cases hc

theorem s8 {o : Bool} {v : Value} {x : V} {cs : List V} (hx : RV w m h av o v x) (hc : cellsOf x = some cs) :
   v.cells.size = cs.length ∧ (∀ i (hi : i < cs.length), RV w m h av o (v.cells.getD i Go.undef) cs[i]) ∧ ∀ u ∈ v.cells.toList, u.oneCell' = true := by
 have one : ∀ (y : V), bq y = true → RV w m h av o v y → cs = [y] →
     v.cells.size = cs.length ∧ (∀ i (hi : i < cs.length), RV w m h av o (v.cells.getD i Go.undef) cs[i]) ∧ ∀ u ∈ v.cells.toList, u.oneCell' = true := by
   intro y hy hx he
   obtain ⟨h1, h2⟩ := ahy hx hy
   subst he
   rw [h2]
   refine ⟨rfl, fun i hi => ?_, fun u hu => ?_⟩
   · have : i = 0 := by simp at hi; omega
     subst this
     exact hx
   · simp at hu; subst hu; exact h1
 cases hx with
 | agg a a' ha hra =>
   change (if a'.all bq then some a' else none) = some cs at hc
   split at hc
   · rename_i hall
     simp at hc; subst hc
     refine ⟨ha, hra, fun u hu => ?_⟩
     obtain ⟨i, hi, rfl⟩ := List.getElem_of_mem hu
     have hi' : i < a.size := by simpa [Value.cells] using hi
     have h1 := hra i (by omega)
     rw [Array.getD_eq_getD_getElem?, Array.getElem?_eq_getElem hi'] at h1
     exact (ahy h1 (List.all_eq_true.1 hall _ (List.getElem_mem _))).1
   · cases hc
 | undef => cases hc
 | skip => cases hc
 | tup => cases hc
 | lit => cases hc
 | mp => cases hc
 | bool b => simp [cellsOf] at hc; exact one _ rfl (.bool b) hc.symm
 | int k n => simp [cellsOf] at hc; exact one _ rfl (.int k n) hc.symm
 | str s => simp [cellsOf] at hc; exact one _ rfl (.str s) hc.symm
 | nilsl => simp [cellsOf] at hc; exact one _ rfl .nilsl hc.symm
 | slz a c wd => simp [cellsOf] at hc; exact one _ rfl (.slz a c wd) hc.symm
 | sl b off n cap wd cs' vals hl ha hcp hv hr => simp [cellsOf] at hc; exact one _ rfl (.sl b off n cap wd cs' vals hl ha hcp hv hr) hc.symm
 | pt b off cs' vals ha hv hr => simp [cellsOf] at hc; exact one _ rfl (.pt b off cs' vals ha hv hr) hc.symm
 | osl id off n cap wd cs' hid hl hcp hs => simp [cellsOf] at hc; exact one _ rfl (.osl id off n cap wd cs' hid hl hcp hs) hc.symm
 | ptr id off cs' hid => simp [cellsOf] at hc; exact one _ rfl (.ptr id off cs' hid) hc.symm
 | fn f a c a' c' ha hcp hra hrc => simp [cellsOf] at hc; exact one _ rfl (.fn f a c a' c' ha hcp hra hrc) hc.symm
end

section
variable {w0 : World} {m0 : Nat → Nat} {h0 : Hp} {av0 : Nat → Prop} {s : St} {a : Act} {w : World} {m : Nat → Nat}

theorem mj {h : Hp} {id id' : Nat} {cs cs' : List V} {old : Option (List V)} (hid : h[id]? = some old) (hj : (h.set id (some cs'))[id']? = some (some cs)) :
   (id' = id ∧ cs = cs') ∨ (id' ≠ id ∧ h[id']? = some (some cs)) := by
 by_cases e : id' = id
 · subst e
   rw [List.getElem?_set_self (dy hid)] at hj
   simp at hj
   exact .inl ⟨rfl, hj.symm⟩
 · rw [List.getElem?_set_ne (Ne.symm e)] at hj
   exact .inr ⟨e, hj⟩

theorem Inv.setRow (I : Inv w0 m0 h0 av0 s a w m) {id : Nat} {cs cs' : List V} {C C' : Array Value} {T : TypeId} {fr : Nat × Nat} (hcl : Cl s.h id cs)
   (hC : w.heap[m id]? = some (.cells C T fr)) (hfr : za fr C.size) (hsz : C'.size = C.size) (hl : cs.length ≤ cs'.length) (hl' : cs'.length ≤ C'.size)
   (hr : ∀ i (hi : i < cs'.length), RV w m s.h (avm av0 m s.h) true (C'.getD i Go.undef) cs'[i]) :
   Inv w0 m0 h0 av0 { s with h := s.h.set id (some cs') } a (w.setRow (m id) C') m ∧
   (∀ {o : Bool} {v : Value} {x : V}, RV w m s.h (avm av0 m s.h) o v x → RV (w.setRow (m id) C') m (s.h.set id (some cs')) (avm av0 m (s.h.set id (some cs'))) o v x) := by
 have hid := hcl.1
 have hmb : gr cs' = gr cs := by rw [hcl.2]; exact nh hr
 have hown : ∀ b, own m (s.h.set id (some cs')) b → own m s.h b := by
   rintro b ⟨j, c, h1, rfl⟩
   rcases mj hid h1 with ⟨rfl, _⟩ | ⟨_, h2⟩
   · exact ⟨j, cs, hid, rfl⟩
   · exact ⟨j, c, h2, rfl⟩
 have hav : ∀ b, avm av0 m (s.h.set id (some cs')) b → avm av0 m s.h b := fun b hb => hb.imp (fun x => x) (hown b)
 have hE : Ext (own m s.h) w (w.setRow (m id) C') := Ext.setRow hC ⟨id, cs, hid, rfl⟩ (Nat.le_of_eq hsz.symm)
 have hstep : ∀ {o : Bool} {v : Value} {x : V}, RV w m s.h (avm av0 m s.h) o v x → RV (w.setRow (m id) C') m (s.h.set id (some cs')) (avm av0 m (s.h.set id (some cs'))) o v x :=
   fun hx => hx.step (fun b off v hb hc => ⟨fun h => hb (hav b h), hE.cell hc (fun h => hb (.inr h))⟩) (fun j c hj => by
     by_cases e : j = id
     · subst e
       rw [hid] at hj
       simp at hj; subst hj
       exact ⟨cs', by rw [List.getElem?_set_self (dy hid)], hl, rfl, hE.row _ (I.rh.lt hid), hmb⟩
     · exact ⟨c, by rw [List.getElem?_set_ne (Ne.symm e)]; exact hj, Nat.le_refl _, rfl, hE.row _ (I.rh.lt hj), rfl⟩)
 refine ⟨⟨⟨?_, ?_, ?_⟩, I.size, fun i hi => hstep (I.slots i hi), I.defers, I.ext.trans' hE ?_, ?_, I.lt, I.lent, I.gl, I.k, by simpa using I.len⟩, hstep⟩
 · intro i j ci cj h1 h2 he
   have g : ∀ (i : Nat) (ci : List V), (s.h.set id (some cs'))[i]? = some (some ci) → ∃ c, s.h[i]? = some (some c) := by
     intro i ci h1
     rcases mj hid h1 with ⟨rfl, _⟩ | ⟨_, h2⟩
     · exact ⟨cs, hid⟩
     · exact ⟨ci, h2⟩
   obtain ⟨c1, g1⟩ := g i ci h1
   obtain ⟨c2, g2⟩ := g j cj h2
   exact I.rh.inj i j c1 c2 g1 g2 he
 · intro j c h1
   exact .inr ⟨j, c, h1, rfl⟩
 · intro j c h1
   rcases mj hid h1 with ⟨rfl, rfl⟩ | ⟨e, h2⟩
   · exact .inl ⟨C', T, fr, setRow_heap w _ C C' T _ hC, by rw [hsz]; exact hfr, hl', fun i hi => hstep (hr i hi)⟩
   · exact (I.rh.blk j c h2).step (setRow_other w (m id) (m j) C' (fun e2 => e (I.rh.inj j id c cs h2 hid e2))) (fun v x => hstep)
 · rintro b hb ⟨j, c, h1, rfl⟩
   rcases I.ids j c h1 with ⟨h2, c0, h4, _, h3 | ⟨_, h3⟩⟩ | ⟨h2, h3⟩
   · exact ⟨j, c0, h4, h3.symm⟩
   · omega
   · omega
 · intro j c h1
   rcases mj hid h1 with ⟨rfl, rfl⟩ | ⟨_, h2⟩
   · rcases I.ids j cs hid with ⟨h2, c0, h4, h5, h3 | ⟨h6, h3⟩⟩ | h2
     · exact .inl ⟨h2, c0, h4, by omega, .inl h3⟩
     · exact .inl ⟨h2, c0, h4, by omega, .inr ⟨by omega, h3⟩⟩
     · exact .inr h2
   · exact I.ids j c h2

def jk (id : Nat) (j : Nat) : R := if j = id then .kill else .to j

def vy (id : Nat) (l : List V) : List V := l.map (ren (jk id) 3)
def cx (id : Nat) (l : List V) : List V := l.map (ren (jk id) 2)
def j0 (id : Nat) (b : Option (List V)) : Option (List V) := b.map (cx id)

theorem Inv.move (I : Inv w0 m0 h0 av0 s a w m) {id : Nat} {cs cs' : List V} {C : Array Value} {T : TypeId} (hid : s.h[id]? = some (some cs)) (hk : h0.length ≤ id ∨ cs.length < cs'.length)
   (hl : cs'.length ≤ C.size) (hr : ∀ i (hi : i < cs'.length), RV w m s.h (avm av0 m s.h) true (C.getD i Go.undef) cs'[i]) :
   Inv w0 m0 h0 av0 { s with t := vy id s.t, h := (s.h.map (j0 id)).set id (some (cx id cs')) } a (w.alloc (.cells C T)) (fun j => if j = id then w.heap.size else m j) := by
 have hE : Ext (fun _ => False) w (w.alloc (.cells C T)) := Ext.alloc _ w _
 have hlt := dy hid
 have hmap : ∀ (j : Nat) (c : List V), j ≠ id → ((s.h.map (j0 id)).set id (some (cx id cs')))[j]? = some (some c) → ∃ c0, s.h[j]? = some (some c0) ∧ c = cx id c0 := by
   intro j c e h1
   rw [List.getElem?_set_ne (Ne.symm e), List.getElem?_map] at h1
   cases h2 : s.h[j]? with
   | none => simp [h2] at h1
   | some b =>
     cases b with
     | none => simp [h2, j0] at h1
     | some c0 => simp [h2, j0] at h1; exact ⟨c0, rfl, h1.symm⟩
 have hself : ((s.h.map (j0 id)).set id (some (cx id cs')))[id]? = some (some (cx id cs')) := by rw [List.getElem?_set_self (by simpa using hlt)]
 have hown : ∀ b, own (fun j => if j = id then w.heap.size else m j) ((s.h.map (j0 id)).set id (some (cx id cs'))) b → own m s.h b ∨ b = w.heap.size := by
   rintro b ⟨j, c, h1, rfl⟩
   by_cases e : j = id
   · subst e; exact .inr (by simp)
   · obtain ⟨c0, h2, _⟩ := hmap j c e h1
     exact .inl ⟨j, c0, h2, by simp [e]⟩
 have hR : Ren w (w.alloc (.cells C T)) m (fun j => if j = id then w.heap.size else m j) s.h ((s.h.map (j0 id)).set id (some (cx id cs'))) (avm av0 m s.h)
     (avm av0 (fun j => if j = id then w.heap.size else m j) ((s.h.map (j0 id)).set id (some (cx id cs')))) (jk id) := by
   refine ⟨fun b off v hb hc => ⟨?_, hE.cell hc (fun h => h)⟩, fun j c j' hj hf => ?_, fun j c c' hj hf => ?_⟩
   · rintro (h1 | h1)
     · exact hb (.inl h1)
     · rcases hown b h1 with h2 | h2
       · exact hb (.inr h2)
       · have := World.block_lt_of_cell? w _ hc
         simp at this; omega
   · by_cases e : j = id
     · simp [jk, e] at hf
     · simp [jk, e] at hf; subst hf
       refine ⟨cx id c, ?_, by simp [cx], by simp [e], hE.row _ (I.rh.lt hj), du _ _ _⟩
       rw [List.getElem?_set_ne (Ne.symm e), List.getElem?_map, hj]
       rfl
   · by_cases e : j = id <;> simp [jk, e] at hf
 refine ⟨⟨?_, ?_, ?_⟩, by simpa [vy] using I.size, fun i hi => ?_, I.defers, I.ext.trans' hE (fun _ _ h => h.elim), ?_, I.lt, I.lent, I.gl, I.k, by simpa using I.len⟩
 · intro i j ci cj h1 h2 he
   by_cases e1 : i = id <;> by_cases e2 : j = id
   · rw [e1, e2]
   · obtain ⟨c0, h3, _⟩ := hmap j cj e2 h2
     simp [e1, e2] at he
     have := I.rh.lt h3; omega
   · obtain ⟨c0, h3, _⟩ := hmap i ci e1 h1
     simp [e1, e2] at he
     have := I.rh.lt h3; omega
   · obtain ⟨c0, h3, _⟩ := hmap i ci e1 h1
     obtain ⟨c1, h4, _⟩ := hmap j cj e2 h2
     simp [e1, e2] at he
     exact I.rh.inj i j c0 c1 h3 h4 he
 · intro j c h1
   exact .inr ⟨j, c, h1, rfl⟩
 · intro j c h1
   by_cases e : j = id
   · subst e
     rw [hself] at h1
     simp at h1; subst h1
     refine .inl ⟨C, T, (0, 0), by simpa using heap_alloc_new w _, .inl rfl, by simpa [cx] using hl, fun i hi => ?_⟩
     simp only [cx, List.getElem_map]
     exact (hr i (by simpa [cx] using hi)).ren hR 2
   · obtain ⟨c0, h2, rfl⟩ := hmap j c e h1
     simp only [e, if_false]
     exact (I.rh.blk j c0 h2).map (hE.block _ (I.rh.lt h2) (fun h => h)) (j1 _ 2) (fun v x hx => hx.ren hR 2)
 · simp only [vy, List.getElem_map]
   exact (I.slots i (by simpa [vy] using hi)).ren hR 3
 · intro j c h1
   by_cases e : j = id
   · subst e
     rw [hself] at h1
     simp only [Option.some.injEq] at h1
     subst h1
     have hnew : w0.heap.size ≤ (if j = j then w.heap.size else m j) := by simp; exact I.ext.size
     have hlc : (cx j cs').length = cs'.length := by simp [cx]
     rcases hk with hk | hk
     · exact .inr ⟨hk, hnew⟩
     · rcases I.ids j cs hid with ⟨h2, c0, h4, h5, _⟩ | ⟨h2, _⟩
       · exact .inl ⟨h2, c0, h4, by omega, .inr ⟨by omega, hnew⟩⟩
       · exact .inr ⟨h2, hnew⟩
   · obtain ⟨c0, h2, rfl⟩ := hmap j c e h1
     have := I.ids j c0 h2
     simp only [e, if_false, cx, List.length_map]
     exact this

theorem Inv.kill (I : Inv w0 m0 h0 av0 s a w m) {id : Nat} {cs : List V} (hid : s.h[id]? = some (some cs)) :
   Inv w0 m0 h0 av0 { s with t := vy id s.t, h := (s.h.map (j0 id)).set id (some (cx id cs)) } a w m := by
 have hlt := dy hid
 have hmap : ∀ (j : Nat) (c : List V), ((s.h.map (j0 id)).set id (some (cx id cs)))[j]? = some (some c) → ∃ c0, s.h[j]? = some (some c0) ∧ c = cx id c0 := by
   intro j c h1
   by_cases e : j = id
   · subst e
     rw [List.getElem?_set_self (by simpa using hlt)] at h1
     simp at h1
     exact ⟨cs, hid, h1.symm⟩
   · rw [List.getElem?_set_ne (Ne.symm e), List.getElem?_map] at h1
     cases h2 : s.h[j]? with
     | none => simp [h2] at h1
     | some b =>
       cases b with
       | none => simp [h2, j0] at h1
       | some c0 => simp [h2, j0] at h1; exact ⟨c0, rfl, h1.symm⟩
 have hmap2 : ∀ (j : Nat) (c : List V), s.h[j]? = some (some c) → ((s.h.map (j0 id)).set id (some (cx id cs)))[j]? = some (some (cx id c)) := by
   intro j c h1
   by_cases e : j = id
   · subst e
     rw [hid] at h1; simp at h1; subst h1
     rw [List.getElem?_set_self (by simpa using hlt)]
   · rw [List.getElem?_set_ne (Ne.symm e), List.getElem?_map, h1]
     rfl
 have hown : ∀ b, own m ((s.h.map (j0 id)).set id (some (cx id cs))) b → own m s.h b := by
   rintro b ⟨j, c, h1, rfl⟩
   obtain ⟨c0, h2, _⟩ := hmap j c h1
   exact ⟨j, c0, h2, rfl⟩
 have hR : Ren w w m m s.h ((s.h.map (j0 id)).set id (some (cx id cs))) (avm av0 m s.h) (avm av0 m ((s.h.map (j0 id)).set id (some (cx id cs)))) (jk id) := by
   refine ⟨fun b off v hb hc => ⟨fun h => hb (h.imp (fun x => x) (hown b)), hc⟩, fun j c j' hj hf => ?_, fun j c c' hj hf => ?_⟩
   · by_cases e : j = id
     · simp [jk, e] at hf
     · simp [jk, e] at hf; subst hf
       exact ⟨cx id c, hmap2 j c hj, by simp [cx], rfl, Nat.le_refl _, du _ _ _⟩
   · by_cases e : j = id <;> simp [jk, e] at hf
 refine ⟨⟨?_, ?_, ?_⟩, by simpa [vy] using I.size, fun i hi => ?_, I.defers, I.ext, ?_, I.lt, I.lent, I.gl, I.k, by simpa using I.len⟩
 · intro i j ci cj h1 h2 he
   obtain ⟨c0, h3, _⟩ := hmap i ci h1
   obtain ⟨c1, h4, _⟩ := hmap j cj h2
   exact I.rh.inj i j c0 c1 h3 h4 he
 · intro j c h1
   exact .inr ⟨j, c, h1, rfl⟩
 · intro j c h1
   obtain ⟨c0, h2, rfl⟩ := hmap j c h1
   exact (I.rh.blk j c0 h2).map rfl (j1 _ 2) (fun v x hx => hx.ren hR 2)
 · simp only [vy, List.getElem_map]
   exact (I.slots i (by simpa [vy] using hi)).ren hR 3
 · intro j c h1
   obtain ⟨c0, h2, rfl⟩ := hmap j c h1
   simp only [cx, List.length_map]
   exact I.ids j c0 h2

end
end Go.Lv
end
section
namespace Go.Lv

def eh (h : Hp) : Nat → Nat → R
 | 0, _ => .kill
 | d + 1, id => match h[id]? with
   | some (some cs) => .frz (cs.map (ren (eh h d) 2))
   | _ => .kill

def shf (n j : Nat) : R := .to (n + j)
def shB (n : Nat) (b : Option (List V)) : Option (List V) := b.map (List.map (ren (shf n) 2))
def shH (n : Nat) (h : Hp) : Hp := h.map (shB n)

def LeE (v v' : V) : Prop := v' = v ∨ v' = .undef ∨ (v = .nilsl ∧ ∃ wd, v' = .sl 0 wd [])
def LeA : List V → List V → Prop
 | [], [] => True
 | a :: l, b :: l' => LeE a b ∧ LeA l l'
 | _, _ => False
def LeV (v v' : V) : Prop := v' = v ∨ v' = .undef ∨ (v = .nilsl ∧ ∃ wd, v' = .sl 0 wd []) ∨ ∃ cs cs', v = .agg cs ∧ v' = .agg cs' ∧ LeA cs cs'
theorem LeE.nil {wd : Nat} : LeE .nilsl (.sl 0 wd []) := .inr (.inr ⟨rfl, wd, rfl⟩)
theorem LeE.refl (v : V) : LeE v v := .inl rfl
theorem LeV.agg {cs cs' : List V} (h : LeA cs cs') : LeV (.agg cs) (.agg cs') := .inr (.inr (.inr ⟨cs, cs', rfl, rfl, h⟩))
theorem LeA.get : ∀ {l l' : List V}, LeA l l' → l.length = l'.length ∧ ∀ i (hi : i < l.length) (hi' : i < l'.length), LeE l[i] l'[i]
 | [], [], _ => ⟨rfl, fun i hi => by simp at hi⟩
 | a :: l, b :: l', h => by
   obtain ⟨h1, h2⟩ := LeA.get h.2
   refine ⟨by simp [h1], fun i hi hi' => ?_⟩
   cases i with
   | zero => exact h.1
   | succ i => exact h2 i (by simpa using hi) (by simpa using hi')
 | [], _ :: _, h => h.elim
 | _ :: _, [], h => h.elim

def LeL : List V → List V → Prop
 | [], [] => True
 | a :: l, b :: l' => LeV a b ∧ LeL l l'
 | _, _ => False

def cc : Nat → V → Bool
 | _, .osl _ _ _ _ => false
 | _, .ptr _ _ => false
 | _, .mp _ => false
 | d + 1, .agg cs => cs.all (cc d)
 | d + 1, .tup cs => cs.all (cc d)
 | d + 1, .fn _ a c => a.all (cc d) && c.all (cc d)
 | 0, .agg _ => false
 | 0, .tup _ => false
 | 0, .fn _ _ _ => false
 | _, _ => true

def uh (x : V) : Prop := ∀ w m h av v, RV w m h av true v x → RV w m h (fun _ => True) true v x

def lg (h : Hp) : Prop := ∀ (id : Nat) (cs : List V), h[id]? = some (some cs) → ∀ x ∈ cs, uh x

section
variable {P : Program} {w w' : World} {m m' : Nat → Nat} {h h' : Hp} {av av' : Nat → Prop}

theorem RV.aqf {o : Bool} {v : Value} {x : V} (hx : RV w m [] av o v x) : RV w m [] av false v x := by
 generalize he : ([] : Hp) = h at hx
 induction hx with
 | undef v => exact .undef v
 | skip => exact .skip
 | bool b => exact .bool b
 | int k n => exact .int k n
 | str s => exact .str s
 | nilsl => exact .nilsl
 | slz a c wd => exact .slz a c wd
 | sl b off n cap wd cs vals hl ha hc hv hr _ => exact .sl b off n cap wd cs vals hl ha hc hv hr
 | pt b off cs vals ha hv hr _ => exact .pt b off cs vals ha hv hr
 | osl id off n cap wd cs hid hl hc hs => subst he; simp [Cl] at hid
 | ptr id off cs hid => subst he; simp [Cl] at hid
 | fn f a c a' c' ha hc hra hrc iha ihc => exact .fn f a c a' c' ha hc iha ihc
 | agg a a' ha hra iha => exact .agg a a' ha iha
 | tup a a' ha hra iha => exact .tup a a' ha iha
 | lit v => exact .lit v
 | mp id cs hid hm => subst he; simp at hid

theorem RV.free {v : Value} {x : V} (hx : RV w m h av false v x) : RV w m' h' av false v x :=
 hx.v7 (fun _ _ _ hb hc => ⟨hb, hc⟩) rfl

theorem RV.leE {v : Value} {x x' : V} {o : Bool} (hx : RV w m h av o v x) (hl : LeE x x') : RV w m h av o v x' := by
 rcases hl with rfl | rfl | ⟨rfl, wd, rfl⟩
 · exact hx
 · exact .undef v
 · cases hx; exact .slz _ _ _
theorem RV.le {v : Value} {x x' : V} {o : Bool} (hx : RV w m h av o v x) (hl : LeV x x') : RV w m h av o v x' := by
 rcases hl with rfl | rfl | ⟨rfl, wd, rfl⟩ | ⟨cs, cs', rfl, rfl, hA⟩
 · exact hx
 · exact .undef v
 · cases hx; exact .slz _ _ _
 · cases hx with
   | agg a a' ha hra =>
     obtain ⟨h1, h2⟩ := hA.get
     exact .agg a cs' (by rw [ha, h1]) (fun i hi => (hra i (by rw [h1]; exact hi)).leE (h2 i _ hi))

theorem RV.cc : ∀ (d : Nat) (x : V), cc d x = true → ∀ {v : Value}, RV w m h av true v x → RV w m h av false v x := by
 intro d
 induction d with
 | zero =>
   intro x hn v hx
   cases hx <;> first | (simp [Lv.cc] at hn; done) | skip
   case undef => exact .undef _
   case skip => exact .skip
   case bool b => exact .bool b
   case int k n => exact .int k n
   case str s => exact .str s
   case nilsl => exact .nilsl
   case slz a c wd => exact .slz a c wd
   case sl b off n cap wd cs vals hl ha hc hv hr => exact .sl b off n cap wd cs vals hl ha hc hv hr
   case pt b off cs vals ha hv hr => exact .pt b off cs vals ha hv hr
   case lit => exact .lit v
 | succ d ih =>
   intro x hn v hx
   cases hx <;> first | (simp [Lv.cc] at hn; done) | skip
   case undef => exact .undef _
   case skip => exact .skip
   case bool b => exact .bool b
   case int k n => exact .int k n
   case str s => exact .str s
   case nilsl => exact .nilsl
   case slz a c wd => exact .slz a c wd
   case sl b off n cap wd cs vals hl ha hc hv hr => exact .sl b off n cap wd cs vals hl ha hc hv hr
   case pt b off cs vals ha hv hr => exact .pt b off cs vals ha hv hr
   case lit => exact .lit v
   case fn f a c a' c' ha hc hra hrc =>
     simp only [Lv.cc, Bool.and_eq_true, List.all_eq_true] at hn
     exact .fn f a c a' c' ha hc (fun i hi => ih _ (hn.1 _ (List.getElem_mem _)) (hra i hi)) (fun i hi => ih _ (hn.2 _ (List.getElem_mem _)) (hrc i hi))
   case agg a a' ha hra =>
     simp only [Lv.cc, List.all_eq_true] at hn
     exact .agg a a' ha (fun i hi => ih _ (hn _ (List.getElem_mem _)) (hra i hi))
   case tup a a' ha hra =>
     simp only [Lv.cc, List.all_eq_true] at hn
     exact .tup a a' ha (fun i hi => ih _ (hn _ (List.getElem_mem _)) (hra i hi))

theorem afe (f : Nat → R) : ∀ (d : Nat) (x : V), cc d x = true → ren f d x = x := by
 intro d
 induction d with
 | zero => intro x hn; cases x <;> simp [cc] at hn <;> rfl
 | succ d ih =>
   intro x hn
   have hl : ∀ (l : List V), (∀ x ∈ l, cc d x = true) → l.map (ren f d) = l := fun l hl => by
     conv => rhs; rw [← List.map_id l]
     exact List.map_congr_left fun x hx => ih x (hl x hx)
   cases x with
   | osl a b c e => simp [cc] at hn
   | ptr a b => simp [cc] at hn
   | mp a => simp [cc] at hn
   | fn g a c =>
     simp only [cc, List.all_eq_true, Bool.and_eq_true] at hn
     simp only [ren, hl a hn.1, hl c hn.2]
   | agg cs =>
     simp only [cc, List.all_eq_true] at hn
     simp only [ren, hl cs hn]
   | tup cs =>
     simp only [cc, List.all_eq_true] at hn
     simp only [ren, hl cs hn]
   | _ => rfl

theorem ao4 (H : RH w m h av) (m' : Nat → Nat) (d : Nat) : Ren w w m m' h [] av (fun _ => False) (eh h d) := by
 induction d with
 | zero => exact ⟨fun _ _ _ _ hc => ⟨fun h => h, hc⟩, fun _ _ _ _ hf => by simp [eh] at hf, fun _ _ _ _ hf => by simp [eh] at hf⟩
 | succ d ih =>
   refine ⟨fun _ _ _ _ hc => ⟨fun h => h, hc⟩, fun id cs j hid hf => ?_, fun id cs cs' hid hf hn => ?_⟩
   · simp [eh, hid] at hf
   · simp [eh, hid] at hf; subst hf
     refine ⟨by simp, fun h => h, fun i hi => ?_⟩
     obtain ⟨v, hv, hr⟩ := H.cell ⟨hid, hn⟩ (i := i) (by simpa using hi)
     refine ⟨v, hv, ?_⟩
     rw [getD_map hi]
     exact (hr.ren ih 2).aqf

theorem aqu {f : FuncId} (ho : okF P f = true) : ∃ fn, P.funcs[f]? = some fn ∧ (fn.name == "runtime.NumGoroutine") = false ∧ fn.body.isNone = false := by
 unfold okF at ho
 split at ho
 · rename_i fn h1
   simp only [Bool.and_eq_true, Bool.not_eq_true'] at ho
   exact ⟨fn, h1, ho.1, by cases hb : fn.body <;> simp_all⟩
 · cases ho

theorem anz {g : FuncId} (ho : okF P g = true) (args : Array Value) : (callFunc g args).run P w = .ok (.enter g args) w := by
 obtain ⟨fn, h1, h2, h3⟩ := aqu ho
 have h4 : ¬ fn.name = "runtime.NumGoroutine" := by simpa using h2
 have h5 : ¬ fn.body = none := fun h => by simp [h] at h3
 simp [callFunc, h1, h4, h5]

theorem we {a : Operand → Value} {g : FuncId} {f : Operand} {first cap : Array Value} (ho : okF P g = true) (hf : a f = .func (.func g) first cap) (args : Array Operand) (ts : Array TypeId) (dst : Option Tmp) (ty : TypeId) (pos : String) (after : Array Edge) (gd : Option (Nat × Bool)) :
   (execOp a ⟨dst, .call { callee := .value f, args, argTypes := ts }, ty, pos, after, gd⟩).run P w = .ok (.enter g (first ++ args.map a ++ cap)) w := by
 simp [execOp, resolve, hf, Deferred.ofValue, invoke, anz ho]

end

def u0 (P : Program) (h : Hp) (fv : V) (args : List V) (K : V → Hp → Prop) : Prop :=
 match fv with
 | .fn (.func g) a c => ∃ as' r hout, LeL ((a ++ args ++ c).map (ren (eh h 3) 3)) as' ∧ Ctr P g as' [] r hout ∧ ((a ++ args ++ c).all (cc 3) = true ∨ uh r ∧ lg hout) ∧ K r hout
 | _ => False

theorem LeL.get : ∀ {l l' : List V}, LeL l l' → l.length = l'.length ∧ ∀ i (hi : i < l.length) (hi' : i < l'.length), LeV l[i] l'[i]
 | [], [], _ => ⟨rfl, fun i hi => by simp at hi⟩
 | a :: l, b :: l', h => by
   obtain ⟨h1, h2⟩ := LeL.get h.2
   refine ⟨by simp [h1], fun i hi hi' => ?_⟩
   cases i with
   | zero => exact h.1
   | succ i => exact h2 i (by simpa using hi) (by simpa using hi')
 | [], _ :: _, h => h.elim
 | _ :: _, [], h => h.elim

section
variable {P : Program} {w0 : World} {m0 : Nat → Nat} {h0 : Hp} {av0 : Nat → Prop} {s : St} {a : Act} {w : World} {m : Nat → Nat}

theorem gj (x y : Array Value) {i : Nat} (hi : i < x.size) (d : Value) : (x ++ y).getD i d = x.getD i d := by
 simp [Array.getD_eq_getD_getElem?, Array.getElem?_append_left hi]
theorem qp (x y : Array Value) {i : Nat} (hi : x.size ≤ i) (d : Value) : (x ++ y).getD i d = y.getD (i - x.size) d := by
 simp [Array.getD_eq_getD_getElem?, Array.getElem?_append_right hi]

theorem jb {o : Bool} {w : World} {m : Nat → Nat} {h : Hp} {av : Nat → Prop} {x y : Array Value} {x' y' : List V} (hx : x.size = x'.length) (hy : y.size = y'.length)
   (rx : ∀ i (hi : i < x'.length), RV w m h av o (x.getD i Go.undef) x'[i]) (ry : ∀ i (hi : i < y'.length), RV w m h av o (y.getD i Go.undef) y'[i]) :
   (x ++ y).size = (x' ++ y').length ∧ ∀ i (hi : i < (x' ++ y').length), RV w m h av o ((x ++ y).getD i Go.undef) (x' ++ y')[i] := by
 refine ⟨by simp [hx, hy], fun i hi => ?_⟩
 by_cases hlt : i < x'.length
 · rw [List.getElem_append_left hlt, gj x y (by omega)]
   exact rx i hlt
 · rw [List.getElem_append_right (by omega), qp x y (by omega)]
   have hi' : i - x'.length < y'.length := by simp at hi; omega
   have := ry (i - x'.length) hi'
   rw [hx]
   exact this

structure Left (w0 : World) (m0 : Nat → Nat) (h0 : Hp) (av0 : Nat → Prop) (s : St) (a : Act) (w : World) (m : Nat → Nat) (w' : World) (v : Value) (r : V) (hout : Hp) (m' : Nat → Nat) (avX : Nat → Prop) : Prop where
 inv : Inv w0 m0 h0 av0 s a w m
 ext : Ext (fun _ => False) w w'
 inj : ∀ i j ci cj, hout[i]? = some (some ci) → hout[j]? = some (some cj) → m' i = m' j → i = j
 blk : ∀ id cs, hout[id]? = some (some cs) → pj w' m' hout avX (m' id) cs
 res : RV w' m' hout avX true v r
 new : ∀ id cs, hout[id]? = some (some cs) → w.heap.size ≤ m' id
 hX : ∀ b, avm av0 m s.h b ∨ own m' hout b → avX b
 acd : ∀ b, avm av0 m s.h b → b < w.heap.size

theorem anm (I : Inv w0 m0 h0 av0 s a w m) {fv : V} {u : Value} (hf : RV w m s.h (avm av0 m s.h) true u fv) {xs : Array Value} {xs' : List V} (hs : xs.size = xs'.length)
   (hx : ∀ i (hi : i < xs'.length), RV w m s.h (avm av0 m s.h) true (xs.getD i Go.undef) xs'[i]) {K : V → Hp → Prop} (hq : u0 P s.h fv xs' K) :
   ∃ g first cap r hout, u = .func (.func g) first cap ∧ okF P g = true ∧ K r hout ∧
     Calls P g (first ++ xs ++ cap) w fun e w' => ∃ v m' avX, e = .returned v ∧ Left w0 m0 h0 av0 s a w m w' v r hout m' avX := by
 cases hf with
 | fn f first cap a' c' ha hc hra hrc =>
   cases f with
   | func g =>
     obtain ⟨as', r, hout, hle, hspec, hro, hk⟩ := hq
     obtain ⟨hokf, hspec⟩ := hspec
     obtain ⟨hlen, hget⟩ := hle.get
     have h1 := jb ha hs hra hx
     have h2 := jb h1.1 hc h1.2 hrc
     refine ⟨g, first, cap, r, hout, rfl, hokf, hk, ?_⟩
     have hsz : (first ++ xs ++ cap).size = as'.length := by rw [h2.1, ← hlen]; simp
     rcases hro with hno | ⟨hr1, hr2⟩
     · have hargs : ∀ i (hi : i < as'.length), RV w m [] (avm av0 m s.h) true ((first ++ xs ++ cap).getD i Go.undef) as'[i] := by
         intro i hi
         have hi2 : i < (a' ++ xs' ++ c').length := by have := hi; rw [← hlen] at this; simpa using this
         have hno' : cc 3 ((a' ++ xs' ++ c')[i]) = true := List.all_eq_true.1 hno _ (List.getElem_mem _)
         have hle := hget i (by simpa using hi2) hi
         rw [getD_map (f := ren (eh s.h 3) 3) (l := a' ++ xs' ++ c') (by simpa using hi2), afe _ 3 _ hno'] at hle
         exact (((RV.cc 3 _ hno' (h2.2 i hi2)).free (m' := m) (h' := [])).rn).le hle
       refine (hspec w (first ++ xs ++ cap) m (avm av0 m s.h) ⟨fun i j ci cj h => by simp at h, fun id cs h => by simp at h, fun id cs h => by simp at h⟩ (fun b hb => I.acd hb) I.glw hsz hargs).mono ?_
       rintro e w' ⟨v, m', rfl, hE, hH, hR, hI⟩
       have hE' : Ext (fun _ => False) w w' := hE.mono (fun b _ ⟨id, cs, h, _⟩ => by simp at h)
       exact ⟨v, m', _, rfl, I, hE', hH.inj, hH.blk, hR, fun id cs hid => (by
         rcases hI id cs hid with ⟨h, _⟩ | ⟨_, h⟩
         · simp at h
         · exact h), fun b hb => hb, fun b hb => I.acd hb⟩
     · have hS := ao4 I.rh m 3
       have hargs : ∀ i (hi : i < as'.length), RV w m [] (fun _ => False) true ((first ++ xs ++ cap).getD i Go.undef) as'[i] := by
         intro i hi
         have hi2 : i < (a' ++ xs' ++ c').length := by have := hi; rw [← hlen] at this; simpa using this
         have hle := hget i (by simpa using hi2) hi
         rw [getD_map (f := ren (eh s.h 3) 3) (l := a' ++ xs' ++ c') (by simpa using hi2)] at hle
         exact ((h2.2 i hi2).ren hS 3).le hle
       refine (hspec w (first ++ xs ++ cap) m (fun _ => False) ⟨fun i j ci cj h => by simp at h, fun id cs h => by simp at h, fun id cs h => by simp at h⟩ (fun b hb => hb.elim) (I.glw.mono (fun b hb => hb.elim)) hsz hargs).mono ?_
       rintro e w' ⟨v, m', rfl, hE, hH, hR, hI⟩
       have hE' : Ext (fun _ => False) w w' := hE.mono (fun b _ ⟨id, cs, h, _⟩ => by simp at h)
       refine ⟨v, m', fun _ => True, rfl, I, hE', hH.inj, fun id cs hid => ?_, hr1 _ _ _ _ _ hR, fun id cs hid => (by
         rcases hI id cs hid with ⟨h, _⟩ | ⟨_, h⟩
         · simp at h
         · exact h), fun b hb => trivial, fun b hb => I.acd hb⟩
       rcases hH.blk id cs hid with ⟨C, T, fr, h3, hfr, h4, h5⟩ | h3
       · exact .inl ⟨C, T, fr, h3, hfr, h4, fun i hi => hr2 id cs hid _ (List.getElem_mem _) _ _ _ _ _ (h5 i hi)⟩
       · exact .inr h3
   | _ => exact False.elim hq
 | _ => exact False.elim hq

theorem Left.quiet {w' : World} {v : Value} {r : V} {hout : Hp} {m' : Nat → Nat} {avX : Nat → Prop} (L : Left w0 m0 h0 av0 s a w m w' v r hout m' avX) :
   RV w' m s.h (avm av0 m s.h) true v (ren (eh hout 3) 3 r) := by
 have base : ∀ d, Ren w' w' m' m hout [] avX (avm av0 m s.h) (eh hout d) := by
   intro d
   induction d with
   | zero => exact ⟨fun b off v hb hc => ⟨fun h => hb (L.hX b (.inl h)), hc⟩, fun _ _ _ _ hf => by simp [eh] at hf, fun _ _ _ _ hf => by simp [eh] at hf⟩
   | succ d ih =>
     refine ⟨fun b off v hb hc => ⟨fun h => hb (L.hX b (.inl h)), hc⟩, fun id cs j hid hf => ?_, fun id cs cs' hid hf hn => ?_⟩
     · simp [eh, hid] at hf
     · simp [eh, hid] at hf; subst hf
       refine ⟨by simp, fun h => ?_, fun i hi => ?_⟩
       · have h1 := L.acd _ h
         have h2 := L.new id cs hid
         omega
       · obtain ⟨C, T, fr, h1, _, h2, h3⟩ := (L.blk id cs hid).cells hn
         have hi' : i < cs.length := by simpa using hi
         refine ⟨C.getD i Go.undef, ?_, ?_⟩
         · rw [cell_of_row w' (m' id) i C T fr h1]
           simp [Array.getD, show i < C.size from by omega]
         · rw [getD_map hi]
           exact ((h3 i hi').ren ih 2).aqf
 exact ((L.res.ren (base 3) 3).aqf.free).rn

def ae3 (m m' : Nat → Nat) (n : Nat) : Nat → Nat := fun id => if id < n then m id else m' (id - n)

def oz (s : St) (dst : Option Tmp) (r : V) (hout : Hp) : St :=
 ({ s with h := s.h ++ shH s.h.length hout } : St).put dst (ren (shf s.h.length) 3 r)

theorem Left.full {w' : World} {v : Value} {r : V} {hout : Hp} {m' : Nat → Nat} {avX : Nat → Prop} (L : Left w0 m0 h0 av0 s a w m w' v r hout m' avX) (dst : Option Tmp) :
   Inv w0 m0 h0 av0 (oz s dst r hout) (a.put dst v) w' (ae3 m m' s.h.length) := by
 have I : Inv w0 m0 h0 av0 s a w m := L.inv
 have hold : ∀ (j : Nat) (c : List V), s.h[j]? = some (some c) → (s.h ++ shH s.h.length hout)[j]? = some (some c) := fun j c h => by rw [List.getElem?_append_left (dy h)]; exact h
 have hmo : ∀ (j : Nat) (c : List V), s.h[j]? = some (some c) → ae3 m m' s.h.length j = m j := fun j c h => if_pos (dy h)
 have hmn : ∀ j, ae3 m m' s.h.length (s.h.length + j) = m' j := fun j => by simp only [ae3]; rw [if_neg (by omega)]; congr 1; omega
 have hcase : ∀ (j : Nat) (c : List V), (s.h ++ shH s.h.length hout)[j]? = some (some c) → s.h[j]? = some (some c) ∨ ∃ j' c', j = s.h.length + j' ∧ hout[j']? = some (some c') ∧ c = c'.map (ren (shf s.h.length) 2) := by
   intro j c h
   rw [List.getElem?_append] at h
   split at h
   · exact .inl h
   · refine .inr ⟨j - s.h.length, ?_⟩
     simp only [shH, List.getElem?_map] at h
     cases h2 : hout[j - s.h.length]? with
     | none => simp [h2] at h
     | some b =>
       cases b with
       | none => simp [h2, shB] at h
       | some c' => simp [h2, shB] at h; exact ⟨c', by omega, rfl, h.symm⟩
 have hnew : ∀ (j : Nat) (c : List V), hout[j]? = some (some c) → (s.h ++ shH s.h.length hout)[s.h.length + j]? = some (some (c.map (ren (shf s.h.length) 2))) := by
   intro j c h
   rw [List.getElem?_append_right (by omega)]
   simp [shH, h, shB]
 have hown : ∀ b, own (ae3 m m' s.h.length) (s.h ++ shH s.h.length hout) b → own m s.h b ∨ own m' hout b := by
   rintro b ⟨j, c, h1, rfl⟩
   rcases hcase j c h1 with h2 | ⟨j', c', rfl, h2, _⟩
   · exact .inl ⟨j, c, h2, (hmo j c h2).symm⟩
   · exact .inr ⟨j', c', h2, (hmn j').symm⟩
 have hnlt : ∀ b, own m' hout b → w.heap.size ≤ b := by
   rintro b ⟨j, c, h1, rfl⟩
   exact L.new j c h1
 have holdlt : ∀ b, avm av0 m s.h b → b < w.heap.size := L.acd
 -- what was there
 have hstep : ∀ {o : Bool} {v : Value} {x : V}, RV w m s.h (avm av0 m s.h) o v x → RV w' (ae3 m m' s.h.length) (s.h ++ shH s.h.length hout) (avm av0 (ae3 m m' s.h.length) (s.h ++ shH s.h.length hout)) o v x :=
   fun hx => hx.step (fun b off v hb hc => ⟨fun h => by
       rcases h with h | h
       · exact hb (.inl h)
       · rcases hown b h with h2 | h2
         · exact hb (.inr h2)
         · have := hnlt b h2
           have := World.block_lt_of_cell? w _ hc
           simp at this; omega, L.ext.cell hc (fun h => h)⟩)
     (fun id c hid => ⟨c, hold id c hid, Nat.le_refl _, hmo id c hid, L.ext.row _ (L.acd _ (.inr ⟨id, c, hid, rfl⟩)), rfl⟩)
 have hR : Ren w' w' m' (ae3 m m' s.h.length) hout (s.h ++ shH s.h.length hout) avX (avm av0 (ae3 m m' s.h.length) (s.h ++ shH s.h.length hout)) (shf s.h.length) := by
   refine ⟨fun b off v hb hc => ⟨fun h => hb (L.hX b ?_), hc⟩, fun id cs j hid hf => ?_, fun id cs cs' hid hf => by simp [shf] at hf⟩
   · rcases h with h | h
     · exact .inl (.inl h)
     · rcases hown b h with h2 | h2
       · exact .inl (.inr h2)
       · exact .inr h2
   · simp [shf] at hf; subst hf
     exact ⟨_, hnew id cs hid, by simp, hmn id, Nat.le_refl _, du _ _ _⟩
 have J : Inv w0 m0 h0 av0 { s with h := s.h ++ shH s.h.length hout } a w' (ae3 m m' s.h.length) := by
   refine ⟨⟨?_, ?_, ?_⟩, I.size, fun i hi => hstep (I.slots i hi), I.defers, I.ext.trans' L.ext (fun _ _ h => h.elim), ?_, I.lt, I.lent, I.gl, I.k, by simp; have := I.len; omega⟩
   · intro i j ci cj h1 h2 he
     rcases hcase i ci h1 with h3 | ⟨i', c', rfl, h3, _⟩ <;> rcases hcase j cj h2 with h4 | ⟨j', d', rfl, h4, _⟩
     · rw [hmo i ci h3, hmo j cj h4] at he
       exact I.rh.inj i j ci cj h3 h4 he
     · rw [hmo i ci h3, hmn] at he
       have := I.rh.lt h3
       have := L.new j' d' h4
       omega
     · rw [hmn, hmo j cj h4] at he
       have := I.rh.lt h4
       have := L.new i' c' h3
       omega
     · rw [hmn, hmn] at he
       rw [L.inj i' j' c' d' h3 h4 he]
   · intro j c h1
     exact .inr ⟨j, c, h1, rfl⟩
   · intro j c h1
     rcases hcase j c h1 with h2 | ⟨j', c', rfl, h2, rfl⟩
     · rw [hmo j c h2]
       exact (I.rh.blk j c h2).step (L.ext.block _ (I.rh.lt h2) (fun h => h)) (fun v x => hstep)
     · rw [hmn]
       exact (L.blk j' c' h2).map rfl (j1 _ 2) (fun v x hx => hx.ren hR 2)
   · intro j c h1
     rcases hcase j c h1 with h2 | ⟨j', c', rfl, h2, _⟩
     · rw [hmo j c h2]
       exact I.ids j c h2
     · refine .inr ⟨by have := I.len; omega, ?_⟩
       rw [hmn]
       exact Nat.le_trans I.ext.size (L.new j' c' h2)
 exact J.put (L.res.ren hR 3)

end
end Go.Lv
end
