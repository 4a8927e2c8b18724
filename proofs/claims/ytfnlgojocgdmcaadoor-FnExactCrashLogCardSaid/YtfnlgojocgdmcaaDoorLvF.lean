/-
  Writing steps: a store into a block of our own, an append that moves a block, forgetting references. Conditions: none.
-/
import Derived.Test.YtfnlgojocgdmcaaDoorLvE
set_option linter.unusedSimpArgs false
set_option linter.unusedVariables false
namespace Go.Lv

def isCell : V → Bool
  | .bool _ | .int _ _ | .str _ | .nilsl | .sl _ _ _ | .pt _ | .osl _ _ _ _ | .ptr _ _ | .fn _ _ _ => true
  | _ => false

/-- The cells of a value that is known to the bottom. -/
def cellsOf : V → Option (List V)
  | .agg cs => if cs.all isCell then some cs else none
  | .bool b => some [.bool b]
  | .int k n => some [.int k n]
  | .str s => some [.str s]
  | .nilsl => some [.nilsl]
  | .sl n w cs => some [.sl n w cs]
  | .pt cs => some [.pt cs]
  | .osl a b c d => some [.osl a b c d]
  | .ptr a b => some [.ptr a b]
  | .fn a b c => some [.fn a b c]
  | _ => none

section
variable {P : Program} {w : World} {m : Nat → Nat} {h : Hp} {av : Nat → Prop}

theorem one_of {o : Bool} {v : Value} {x : V} (hx : RV w m h av o v x) (hc : isCell x = true) : v.oneCell' = true ∧ v.cells = #[v] := by
  cases hx <;> first | exact ⟨rfl, rfl⟩ | cases hc

theorem cellsOf_ok {o : Bool} {v : Value} {x : V} {cs : List V} (hx : RV w m h av o v x) (hc : cellsOf x = some cs) :
    v.cells.size = cs.length ∧ (∀ i (hi : i < cs.length), RV w m h av o (v.cells.getD i Go.undef) cs[i]) ∧ ∀ u ∈ v.cells.toList, u.oneCell' = true := by
  have one : ∀ (y : V), isCell y = true → RV w m h av o v y → cs = [y] →
      v.cells.size = cs.length ∧ (∀ i (hi : i < cs.length), RV w m h av o (v.cells.getD i Go.undef) cs[i]) ∧ ∀ u ∈ v.cells.toList, u.oneCell' = true := by
    intro y hy hx he
    obtain ⟨h1, h2⟩ := one_of hx hy
    subst he
    rw [h2]
    refine ⟨rfl, fun i hi => ?_, fun u hu => ?_⟩
    · have : i = 0 := by simp at hi; omega
      subst this
      exact hx
    · simp at hu; subst hu; exact h1
  cases hx with
  | agg a a' ha hra =>
    change (if a'.all isCell then some a' else none) = some cs at hc
    split at hc
    · rename_i hall
      simp at hc; subst hc
      refine ⟨ha, hra, fun u hu => ?_⟩
      obtain ⟨i, hi, rfl⟩ := List.getElem_of_mem hu
      have hi' : i < a.size := by simpa [Value.cells] using hi
      have h1 := hra i (by omega)
      rw [Array.getD_eq_getD_getElem?, Array.getElem?_eq_getElem hi'] at h1
      exact (one_of h1 (List.all_eq_true.1 hall _ (List.getElem_mem _))).1
    · cases hc
  | undef => cases hc
  | skip => cases hc
  | tup => cases hc
  | lit => cases hc
  | mp => cases hc
  | bool b => simp [cellsOf] at hc; exact one _ rfl (.bool b) hc.symm
  | int k n => simp [cellsOf] at hc; exact one _ rfl (.int k n) hc.symm
  | str s => simp [cellsOf] at hc; exact one _ rfl (.str s) hc.symm
  | nilsl => simp [cellsOf] at hc; exact one _ rfl .nilsl hc.symm
  | slz a c wd => simp [cellsOf] at hc; exact one _ rfl (.slz a c wd) hc.symm
  | sl b off n cap wd cs' vals hl ha hcp hv hr => simp [cellsOf] at hc; exact one _ rfl (.sl b off n cap wd cs' vals hl ha hcp hv hr) hc.symm
  | pt b off cs' vals ha hv hr => simp [cellsOf] at hc; exact one _ rfl (.pt b off cs' vals ha hv hr) hc.symm
  | osl id off n cap wd cs' hid hl hcp hs => simp [cellsOf] at hc; exact one _ rfl (.osl id off n cap wd cs' hid hl hcp hs) hc.symm
  | ptr id off cs' hid => simp [cellsOf] at hc; exact one _ rfl (.ptr id off cs' hid) hc.symm
  | fn f a c a' c' ha hcp hra hrc => simp [cellsOf] at hc; exact one _ rfl (.fn f a c a' c' ha hcp hra hrc) hc.symm
end

section
variable {w0 : World} {m0 : Nat → Nat} {h0 : Hp} {av0 : Nat → Prop} {s : St} {a : Act} {w : World} {m : Nat → Nat}

theorem hp_set {h : Hp} {id id' : Nat} {cs cs' : List V} {old : Option (List V)} (hid : h[id]? = some old) (hj : (h.set id (some cs'))[id']? = some (some cs)) :
    (id' = id ∧ cs = cs') ∨ (id' ≠ id ∧ h[id']? = some (some cs)) := by
  by_cases e : id' = id
  · subst e
    rw [List.getElem?_set_self (id_lt hid)] at hj
    simp at hj
    exact .inl ⟨rfl, hj.symm⟩
  · rw [List.getElem?_set_ne (Ne.symm e)] at hj
    exact .inr ⟨e, hj⟩

/-- A block of our own is written anew; it does not shrink. -/
theorem Inv.setRow (I : Inv w0 m0 h0 av0 s a w m) {id : Nat} {cs cs' : List V} {C C' : Array Value} {T : TypeId} {fr : Nat × Nat} (hcl : Cl s.h id cs)
    (hC : w.heap[m id]? = some (.cells C T fr)) (hfr : FrOk fr C.size) (hsz : C'.size = C.size) (hl : cs.length ≤ cs'.length) (hl' : cs'.length ≤ C'.size)
    (hr : ∀ i (hi : i < cs'.length), RV w m s.h (avm av0 m s.h) true (C'.getD i Go.undef) cs'[i]) :
    Inv w0 m0 h0 av0 { s with h := s.h.set id (some cs') } a (w.setRow (m id) C') m ∧
    (∀ {o : Bool} {v : Value} {x : V}, RV w m s.h (avm av0 m s.h) o v x → RV (w.setRow (m id) C') m (s.h.set id (some cs')) (avm av0 m (s.h.set id (some cs'))) o v x) := by
  have hid := hcl.1
  have hmb : isMb cs' = isMb cs := by rw [hcl.2]; exact notMb hr
  have hown : ∀ b, own m (s.h.set id (some cs')) b → own m s.h b := by
    rintro b ⟨j, c, h1, rfl⟩
    rcases hp_set hid h1 with ⟨rfl, _⟩ | ⟨_, h2⟩
    · exact ⟨j, cs, hid, rfl⟩
    · exact ⟨j, c, h2, rfl⟩
  have hav : ∀ b, avm av0 m (s.h.set id (some cs')) b → avm av0 m s.h b := fun b hb => hb.imp (fun x => x) (hown b)
  have hE : Ext (own m s.h) w (w.setRow (m id) C') := Ext.setRow hC ⟨id, cs, hid, rfl⟩ (Nat.le_of_eq hsz.symm)
  have hstep : ∀ {o : Bool} {v : Value} {x : V}, RV w m s.h (avm av0 m s.h) o v x → RV (w.setRow (m id) C') m (s.h.set id (some cs')) (avm av0 m (s.h.set id (some cs'))) o v x :=
    fun hx => hx.step (fun b off v hb hc => ⟨fun h => hb (hav b h), hE.cell hc (fun h => hb (.inr h))⟩) (fun j c hj => by
      by_cases e : j = id
      · subst e
        rw [hid] at hj
        simp at hj; subst hj
        exact ⟨cs', by rw [List.getElem?_set_self (id_lt hid)], hl, rfl, hE.row _ (I.rh.lt hid), hmb⟩
      · exact ⟨c, by rw [List.getElem?_set_ne (Ne.symm e)]; exact hj, Nat.le_refl _, rfl, hE.row _ (I.rh.lt hj), rfl⟩)
  refine ⟨⟨⟨?_, ?_, ?_⟩, I.size, fun i hi => hstep (I.slots i hi), I.defers, I.ext.trans' hE ?_, ?_, I.lt, I.lent, I.gl, I.k, by simpa using I.len⟩, hstep⟩
  · intro i j ci cj h1 h2 he
    have g : ∀ (i : Nat) (ci : List V), (s.h.set id (some cs'))[i]? = some (some ci) → ∃ c, s.h[i]? = some (some c) := by
      intro i ci h1
      rcases hp_set hid h1 with ⟨rfl, _⟩ | ⟨_, h2⟩
      · exact ⟨cs, hid⟩
      · exact ⟨ci, h2⟩
    obtain ⟨c1, g1⟩ := g i ci h1
    obtain ⟨c2, g2⟩ := g j cj h2
    exact I.rh.inj i j c1 c2 g1 g2 he
  · intro j c h1
    exact .inr ⟨j, c, h1, rfl⟩
  · intro j c h1
    rcases hp_set hid h1 with ⟨rfl, rfl⟩ | ⟨e, h2⟩
    · exact .inl ⟨C', T, fr, setRow_heap w _ C C' T _ hC, by rw [hsz]; exact hfr, hl', fun i hi => hstep (hr i hi)⟩
    · exact (I.rh.blk j c h2).step (setRow_other w (m id) (m j) C' (fun e2 => e (I.rh.inj j id c cs h2 hid e2))) (fun v x => hstep)
  · rintro b hb ⟨j, c, h1, rfl⟩
    rcases I.ids j c h1 with ⟨h2, c0, h4, _, h3 | ⟨_, h3⟩⟩ | ⟨h2, h3⟩
    · exact ⟨j, c0, h4, h3.symm⟩
    · omega
    · omega
  · intro j c h1
    rcases hp_set hid h1 with ⟨rfl, rfl⟩ | ⟨_, h2⟩
    · rcases I.ids j cs hid with ⟨h2, c0, h4, h5, h3 | ⟨h6, h3⟩⟩ | h2
      · exact .inl ⟨h2, c0, h4, by omega, .inl h3⟩
      · exact .inl ⟨h2, c0, h4, by omega, .inr ⟨by omega, h3⟩⟩
      · exact .inr h2
    · exact I.ids j c h2

def killF (id : Nat) (j : Nat) : R := if j = id then .kill else .to j

def killL (id : Nat) (l : List V) : List V := l.map (ren (killF id) 3)
def killC (id : Nat) (l : List V) : List V := l.map (ren (killF id) 2)
def killB (id : Nat) (b : Option (List V)) : Option (List V) := b.map (killC id)

/-- The block moves to a new place in memory; references to it are forgotten. -/
theorem Inv.move (I : Inv w0 m0 h0 av0 s a w m) {id : Nat} {cs cs' : List V} {C : Array Value} {T : TypeId} (hid : s.h[id]? = some (some cs)) (hk : h0.length ≤ id ∨ cs.length < cs'.length)
    (hl : cs'.length ≤ C.size) (hr : ∀ i (hi : i < cs'.length), RV w m s.h (avm av0 m s.h) true (C.getD i Go.undef) cs'[i]) :
    Inv w0 m0 h0 av0 { s with t := killL id s.t, h := (s.h.map (killB id)).set id (some (killC id cs')) } a (w.alloc (.cells C T)) (fun j => if j = id then w.heap.size else m j) := by
  have hE : Ext (fun _ => False) w (w.alloc (.cells C T)) := Ext.alloc _ w _
  have hlt := id_lt hid
  have hmap : ∀ (j : Nat) (c : List V), j ≠ id → ((s.h.map (killB id)).set id (some (killC id cs')))[j]? = some (some c) → ∃ c0, s.h[j]? = some (some c0) ∧ c = killC id c0 := by
    intro j c e h1
    rw [List.getElem?_set_ne (Ne.symm e), List.getElem?_map] at h1
    cases h2 : s.h[j]? with
    | none => simp [h2] at h1
    | some b =>
      cases b with
      | none => simp [h2, killB] at h1
      | some c0 => simp [h2, killB] at h1; exact ⟨c0, rfl, h1.symm⟩
  have hself : ((s.h.map (killB id)).set id (some (killC id cs')))[id]? = some (some (killC id cs')) := by rw [List.getElem?_set_self (by simpa using hlt)]
  have hown : ∀ b, own (fun j => if j = id then w.heap.size else m j) ((s.h.map (killB id)).set id (some (killC id cs'))) b → own m s.h b ∨ b = w.heap.size := by
    rintro b ⟨j, c, h1, rfl⟩
    by_cases e : j = id
    · subst e; exact .inr (by simp)
    · obtain ⟨c0, h2, _⟩ := hmap j c e h1
      exact .inl ⟨j, c0, h2, by simp [e]⟩
  have hR : Ren w (w.alloc (.cells C T)) m (fun j => if j = id then w.heap.size else m j) s.h ((s.h.map (killB id)).set id (some (killC id cs'))) (avm av0 m s.h)
      (avm av0 (fun j => if j = id then w.heap.size else m j) ((s.h.map (killB id)).set id (some (killC id cs')))) (killF id) := by
    refine ⟨fun b off v hb hc => ⟨?_, hE.cell hc (fun h => h)⟩, fun j c j' hj hf => ?_, fun j c c' hj hf => ?_⟩
    · rintro (h1 | h1)
      · exact hb (.inl h1)
      · rcases hown b h1 with h2 | h2
        · exact hb (.inr h2)
        · have := World.block_lt_of_cell? w _ hc
          simp at this; omega
    · by_cases e : j = id
      · simp [killF, e] at hf
      · simp [killF, e] at hf; subst hf
        refine ⟨killC id c, ?_, by simp [killC], by simp [e], hE.row _ (I.rh.lt hj), isMb_ren _ _ _⟩
        rw [List.getElem?_set_ne (Ne.symm e), List.getElem?_map, hj]
        rfl
    · by_cases e : j = id <;> simp [killF, e] at hf
  refine ⟨⟨?_, ?_, ?_⟩, by simpa [killL] using I.size, fun i hi => ?_, I.defers, I.ext.trans' hE (fun _ _ h => h.elim), ?_, I.lt, I.lent, I.gl, I.k, by simpa using I.len⟩
  · intro i j ci cj h1 h2 he
    by_cases e1 : i = id <;> by_cases e2 : j = id
    · rw [e1, e2]
    · obtain ⟨c0, h3, _⟩ := hmap j cj e2 h2
      simp [e1, e2] at he
      have := I.rh.lt h3; omega
    · obtain ⟨c0, h3, _⟩ := hmap i ci e1 h1
      simp [e1, e2] at he
      have := I.rh.lt h3; omega
    · obtain ⟨c0, h3, _⟩ := hmap i ci e1 h1
      obtain ⟨c1, h4, _⟩ := hmap j cj e2 h2
      simp [e1, e2] at he
      exact I.rh.inj i j c0 c1 h3 h4 he
  · intro j c h1
    exact .inr ⟨j, c, h1, rfl⟩
  · intro j c h1
    by_cases e : j = id
    · subst e
      rw [hself] at h1
      simp at h1; subst h1
      refine .inl ⟨C, T, (0, 0), by simpa using heap_alloc_new w _, .inl rfl, by simpa [killC] using hl, fun i hi => ?_⟩
      simp only [killC, List.getElem_map]
      exact (hr i (by simpa [killC] using hi)).ren hR 2
    · obtain ⟨c0, h2, rfl⟩ := hmap j c e h1
      simp only [e, if_false]
      exact (I.rh.blk j c0 h2).map (hE.block _ (I.rh.lt h2) (fun h => h)) (ren_mb _ 2) (fun v x hx => hx.ren hR 2)
  · simp only [killL, List.getElem_map]
    exact (I.slots i (by simpa [killL] using hi)).ren hR 3
  · intro j c h1
    by_cases e : j = id
    · subst e
      rw [hself] at h1
      simp only [Option.some.injEq] at h1
      subst h1
      have hnew : w0.heap.size ≤ (if j = j then w.heap.size else m j) := by simp; exact I.ext.size
      have hlc : (killC j cs').length = cs'.length := by simp [killC]
      rcases hk with hk | hk
      · exact .inr ⟨hk, hnew⟩
      · rcases I.ids j cs hid with ⟨h2, c0, h4, h5, _⟩ | ⟨h2, _⟩
        · exact .inl ⟨h2, c0, h4, by omega, .inr ⟨by omega, hnew⟩⟩
        · exact .inr ⟨h2, hnew⟩
    · obtain ⟨c0, h2, rfl⟩ := hmap j c e h1
      have := I.ids j c0 h2
      simp only [e, if_false, killC, List.length_map]
      exact this

/-- References to a block are forgotten; the block stays. -/
theorem Inv.kill (I : Inv w0 m0 h0 av0 s a w m) {id : Nat} {cs : List V} (hid : s.h[id]? = some (some cs)) :
    Inv w0 m0 h0 av0 { s with t := killL id s.t, h := (s.h.map (killB id)).set id (some (killC id cs)) } a w m := by
  have hlt := id_lt hid
  have hmap : ∀ (j : Nat) (c : List V), ((s.h.map (killB id)).set id (some (killC id cs)))[j]? = some (some c) → ∃ c0, s.h[j]? = some (some c0) ∧ c = killC id c0 := by
    intro j c h1
    by_cases e : j = id
    · subst e
      rw [List.getElem?_set_self (by simpa using hlt)] at h1
      simp at h1
      exact ⟨cs, hid, h1.symm⟩
    · rw [List.getElem?_set_ne (Ne.symm e), List.getElem?_map] at h1
      cases h2 : s.h[j]? with
      | none => simp [h2] at h1
      | some b =>
        cases b with
        | none => simp [h2, killB] at h1
        | some c0 => simp [h2, killB] at h1; exact ⟨c0, rfl, h1.symm⟩
  have hmap2 : ∀ (j : Nat) (c : List V), s.h[j]? = some (some c) → ((s.h.map (killB id)).set id (some (killC id cs)))[j]? = some (some (killC id c)) := by
    intro j c h1
    by_cases e : j = id
    · subst e
      rw [hid] at h1; simp at h1; subst h1
      rw [List.getElem?_set_self (by simpa using hlt)]
    · rw [List.getElem?_set_ne (Ne.symm e), List.getElem?_map, h1]
      rfl
  have hown : ∀ b, own m ((s.h.map (killB id)).set id (some (killC id cs))) b → own m s.h b := by
    rintro b ⟨j, c, h1, rfl⟩
    obtain ⟨c0, h2, _⟩ := hmap j c h1
    exact ⟨j, c0, h2, rfl⟩
  have hR : Ren w w m m s.h ((s.h.map (killB id)).set id (some (killC id cs))) (avm av0 m s.h) (avm av0 m ((s.h.map (killB id)).set id (some (killC id cs)))) (killF id) := by
    refine ⟨fun b off v hb hc => ⟨fun h => hb (h.imp (fun x => x) (hown b)), hc⟩, fun j c j' hj hf => ?_, fun j c c' hj hf => ?_⟩
    · by_cases e : j = id
      · simp [killF, e] at hf
      · simp [killF, e] at hf; subst hf
        exact ⟨killC id c, hmap2 j c hj, by simp [killC], rfl, Nat.le_refl _, isMb_ren _ _ _⟩
    · by_cases e : j = id <;> simp [killF, e] at hf
  refine ⟨⟨?_, ?_, ?_⟩, by simpa [killL] using I.size, fun i hi => ?_, I.defers, I.ext, ?_, I.lt, I.lent, I.gl, I.k, by simpa using I.len⟩
  · intro i j ci cj h1 h2 he
    obtain ⟨c0, h3, _⟩ := hmap i ci h1
    obtain ⟨c1, h4, _⟩ := hmap j cj h2
    exact I.rh.inj i j c0 c1 h3 h4 he
  · intro j c h1
    exact .inr ⟨j, c, h1, rfl⟩
  · intro j c h1
    obtain ⟨c0, h2, rfl⟩ := hmap j c h1
    exact (I.rh.blk j c0 h2).map rfl (ren_mb _ 2) (fun v x hx => hx.ren hR 2)
  · simp only [killL, List.getElem_map]
    exact (I.slots i (by simpa [killL] using hi)).ren hR 3
  · intro j c h1
    obtain ⟨c0, h2, rfl⟩ := hmap j c h1
    simp only [killC, List.length_map]
    exact I.ids j c0 h2

end
end Go.Lv
