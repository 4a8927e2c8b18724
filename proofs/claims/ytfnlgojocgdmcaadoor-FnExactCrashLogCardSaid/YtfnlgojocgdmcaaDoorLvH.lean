/-
  Composite values, made slices, appends. Conditions: none.
-/
import Derived.Test.YtfnlgojocgdmcaaDoorLvS
import Derived.Laws.Tables
set_option linter.unusedSimpArgs false
set_option linter.unusedVariables false
namespace Go.Lv

def plOf (P : Program) (t : TypeId) : Option (List (Nat × Nat)) :=
  match P.underlying t with
  | some (.struct fields) => fields.toList.mapM fun f => (P.info? f.type).map fun i => (f.offset, i.size)
  | some (.array n e) => match P.info? e with
    | some ie => some ((List.range n).map fun i => (i * ie.size, ie.size))
    | none => none
  | _ => none

def fillV (pl : List (Nat × Nat)) : List (Nat × V) → List V → Option (List V)
  | [], cs => some cs
  | (i, v) :: rest, cs => match pl[i]?, cellsOf v with
    | some (off, sz), some ns => if ns.length = sz ∧ off + sz ≤ cs.length then fillV pl rest (cs.take off ++ ns ++ cs.drop (off + sz)) else none
    | _, _ => none

/-- The parts of a slice literal, in order. -/
def seqV (sz : Nat) : Nat → List (Nat × V) → Option (List V)
  | _, [] => some []
  | k, (i, v) :: rest => match cellsOf v with
    | some ns => if i = k ∧ ns.length = sz then (seqV sz (k + 1) rest).map (ns ++ ·) else none
    | none => none

def zrow (n : Nat) (zs : List V) : List V := (List.range n).map fun i => zs.getD (i % zs.length) .undef

section
variable {P : Program} {w : World} {m : Nat → Nat} {h : Hp} {av : Nat → Prop}

/-- A row of cells that reads as a list. -/
def Row (w : World) (m : Nat → Nat) (h : Hp) (av : Nat → Prop) (C : Array Value) (cs : List V) : Prop :=
  C.size = cs.length ∧ ∀ i (hi : i < cs.length), RV w m h av true (C.getD i Go.undef) cs[i]

theorem foldl_fill (off : Nat) : ∀ (l : List Value) (k : Nat) (C : Array Value), off + k + l.length ≤ C.size →
    ((l.zipIdx k).foldl (fun cs (x : Value × Nat) => cs.setIfInBounds (off + x.2) x.1) C).size = C.size ∧
    ∀ i, ((l.zipIdx k).foldl (fun cs (x : Value × Nat) => cs.setIfInBounds (off + x.2) x.1) C).getD i Go.undef =
      if off + k ≤ i ∧ i < off + k + l.length then l.getD (i - (off + k)) Go.undef else C.getD i Go.undef
  | [], k, C, _ => ⟨rfl, fun i => by simp; omega⟩
  | v :: l, k, C, hl => by
    simp only [List.length_cons] at hl
    have ih := foldl_fill off l (k + 1) (C.setIfInBounds (off + k) v) (by simp; omega)
    simp only [List.zipIdx_cons, List.foldl_cons]
    refine ⟨by rw [ih.1]; simp, fun i => ?_⟩
    rw [ih.2 i]
    by_cases h1 : off + k = i
    · subst h1
      rw [if_neg (by omega), if_pos (by simp)]
      simp [Array.getD_eq_getD_getElem?, show off + k < C.size from by omega]
    · by_cases h2 : off + (k + 1) ≤ i ∧ i < off + (k + 1) + l.length
      · rw [if_pos h2, if_pos (by simp; omega)]
        obtain ⟨j, rfl⟩ : ∃ j, i = off + (k + 1) + j := ⟨i - (off + (k + 1)), by omega⟩
        rw [show off + (k + 1) + j - (off + (k + 1)) = j from by omega, show off + (k + 1) + j - (off + k) = j + 1 from by omega]
        simp
      · rw [if_neg h2, if_neg (by simp; omega)]
        simp [Array.getD_eq_getD_getElem?, Array.getElem?_setIfInBounds_ne h1]

theorem row_splice {C D : Array Value} {cs ns : List V} {off : Nat} (hC : Row w m h av C cs) {vs : Array Value} (hv : Row w m h av vs ns) (hroom : off + ns.length ≤ cs.length)
    (hD : D.size = C.size) (hg : ∀ i, D.getD i Go.undef = if off ≤ i ∧ i < off + vs.size then vs.getD (i - off) Go.undef else C.getD i Go.undef) :
    Row w m h av D (cs.take off ++ ns ++ cs.drop (off + ns.length)) := by
  obtain ⟨h1, h2⟩ := hC
  obtain ⟨h3, h4⟩ := hv
  refine ⟨by simp; omega, fun i hi => ?_⟩
  rw [hg i]
  have hi' : i < cs.length := by simp at hi; omega
  by_cases e1 : i < off
  · rw [if_neg (by omega), List.getElem_append_left (by simp; omega), List.getElem_append_left (by simp; omega), List.getElem_take]
    exact h2 i hi'
  · by_cases e2 : i < off + ns.length
    · rw [if_pos ⟨by omega, by omega⟩, List.getElem_append_left (by simp; omega), List.getElem_append_right (by simp; omega)]
      have : i - (List.take off cs).length = i - off := by simp; omega
      simp only [this]
      exact h4 (i - off) (by omega)
    · rw [if_neg (by omega), List.getElem_append_right (by simp; omega), List.getElem_drop]
      have : off + ns.length + (i - (List.take off cs ++ ns).length) = i := by simp; omega
      simp only [this]
      exact h2 i hi'

theorem fillV_ok {pl : List (Nat × Nat)} {place : Nat → Option (Nat × Nat)} (hp : ∀ (i : Nat) p, pl[i]? = some p → place i = some p) {a : Operand → Value} {ρ : Operand → V}
    (hρ : ∀ x, RV w m h av true (a x) (ρ x)) : ∀ (parts : List (Nat × Operand)) (C : Array Value) (cs cs' : List V), Row w m h av C cs → fillV pl (parts.map fun p => (p.1, ρ p.2)) cs = some cs' →
    ∃ D, Instr.fill place C (parts.map fun p => (p.1, a p.2)) = some D ∧ Row w m h av D cs'
  | [], C, cs, cs', hr, hf => by
    simp [fillV] at hf; subst hf
    exact ⟨C, rfl, hr⟩
  | (i, x) :: parts, C, cs, cs', hr, hf => by
    simp only [List.map_cons, fillV] at hf
    split at hf
    · rename_i off sz ns h1 h2
      split at hf
      · rename_i hc
        obtain ⟨hc1, hc2⟩ := hc
        obtain ⟨g1, g2, g3⟩ := cellsOf_ok (hρ x) h2
        have hff := foldl_fill off (a x).cells.toList 0 C (by simp; have := hr.1; omega)
        have hrow := row_splice (D := ((a x).cells.toList.zipIdx 0).foldl (fun cs (x : Value × Nat) => cs.setIfInBounds (off + x.2) x.1) C) hr (vs := (a x).cells) ⟨g1, g2⟩ (by omega : off + ns.length ≤ cs.length) hff.1
          (fun i => by rw [hff.2 i]; simp [Array.getD_eq_getD_getElem?])
        rw [hc1] at hrow
        obtain ⟨D, hD1, hD2⟩ := fillV_ok hp hρ parts _ _ cs' hrow hf
        refine ⟨D, ?_, hD2⟩
        simp only [List.map_cons, Instr.fill, hp i _ h1]
        rw [if_neg (by simp; have := hr.1; omega)]
        rw [← hD1]
        congr 1
        rw [← Array.foldl_toList]
        congr 1
        simp
      · cases hf
    · cases hf

theorem range_place (n sz : Nat) : ∀ (i : Nat) (p : Nat × Nat), ((List.range n).map fun k => (k * sz, sz))[i]? = some p → some (i * sz, sz) = some p := by
  intro i p hi
  by_cases hlt : i < n
  · simpa [List.getElem?_range hlt] using hi
  · rw [List.getElem?_eq_none (by simp; omega)] at hi
    cases hi

theorem row_zero (z : Array Value) : Row w m h av z (z.toList.map lf) := by
  refine ⟨by simp, fun i hi => ?_⟩
  have hi' : i < z.size := by simpa using hi
  have : z.getD i Go.undef = z[i] := by simp [Array.getD, hi']
  rw [this]
  simp only [List.getElem_map, Array.getElem_toList]
  exact rv_lf ..

theorem zeroOf_some {t : TypeId} {zs : List V} (hz : zeroOf P t = some zs) : ∃ i z, P.info? t = some i ∧ i.zero = some z ∧ zs = z.cells.toList.map lf := by
  unfold zeroOf at hz
  split at hz
  · rename_i i h1
    split at hz
    · rename_i z h2
      simp at hz
      exact ⟨i, z, h1, h2, hz.symm⟩
    · cases hz
  · cases hz

/-- A composite value of a struct's or an array's type. -/
def buildV (P : Program) (t : TypeId) (parts : List (Nat × V)) (K : V → Prop) : Prop :=
  match zeroOf P t, plOf P t with
  | some zs, some pl => match fillV pl parts zs with
    | some cs => K (.agg cs)
    | none => False
  | _, _ => False

theorem build_ok {a : Operand → Value} {ρ : Operand → V} (hρ : ∀ x, RV w m h av true (a x) (ρ x)) {t : TypeId} {parts : Array (Nat × Operand)} {K : V → Prop}
    (hq : buildV P t (parts.toList.map fun p => (p.1, ρ p.2)) K) : Gives P w m h av (Instr.build t (parts.map fun (i, x) => (i, a x))) K := by
  unfold buildV at hq
  split at hq
  · rename_i zs pl hz hp
    obtain ⟨it, z, h1, h2, rfl⟩ := zeroOf_some hz
    split at hq
    · rename_i cs hf
      have hl : (parts.map fun (i, x) => (i, a x)).toList = parts.toList.map fun p => (p.1, a p.2) := by simp
      unfold plOf at hp
      split at hp
      · rename_i fields hu
        obtain ⟨D, hD1, hD2⟩ := fillV_ok (place := (pl.toArray[·]?)) (fun i p hi => by simpa using hi) hρ parts.toList z.cells _ cs (row_zero z.cells) hf
        refine .mk' hq (.agg D cs hD2.1 hD2.2) (run_build w t _ D ?_)
        simp only [Program.built, h1, hu, h2, hp, hl]
        exact hD1
      · rename_i n e hu
        split at hp
        · rename_i ie hie
          simp at hp; subst hp
          obtain ⟨D, hD1, hD2⟩ := fillV_ok (pl := (List.range n).map fun i => (i * ie.size, ie.size)) (place := fun i => some (i * ie.size, ie.size)) (range_place n ie.size) hρ parts.toList z.cells _ cs (row_zero z.cells) hf
          refine .mk' hq (.agg D cs hD2.1 hD2.2) (run_build w t _ D ?_)
          simp only [Program.built, h1, hu, h2, hie, hl]
          exact hD1
        · cases hp
      · cases hp
    · exact hq.elim
  · exact hq.elim

theorem seq_fill (sz n : Nat) : ∀ (parts : List (Nat × V)) (k : Nat) (pre suf cs : List V), pre.length = k * sz → suf.length = parts.length * sz → k + parts.length = n → seqV sz k parts = some cs →
    fillV ((List.range n).map fun i => (i * sz, sz)) parts (pre ++ suf) = some (pre ++ cs)
  | [], k, pre, suf, cs, h1, h2, h3, h4 => by
    simp [seqV] at h4; subst h4
    have : suf = [] := List.eq_nil_of_length_eq_zero (by simpa using h2)
    subst this
    simp [fillV]
  | (i, v) :: parts, k, pre, suf, cs, h1, h2, h3, h4 => by
    simp only [seqV] at h4
    split at h4
    · rename_i ns hns
      split at h4
      · rename_i hc
        obtain ⟨rfl, hlen⟩ := hc
        cases hr : seqV sz (i + 1) parts with
        | none => simp [hr] at h4
        | some rest =>
          simp [hr] at h4; subst h4
          simp only [List.length_cons] at h2 h3
          have e2 : suf.length = sz + parts.length * sz := by rw [h2, Nat.add_mul]; omega
          have hget : ((List.range n).map fun i => (i * sz, sz))[i]? = some (i * sz, sz) := by
            simp [List.getElem?_range (show i < n from by omega)]
          simp only [fillV, hget, hns]
          rw [if_pos ⟨hlen, by simp; omega⟩]
          have ih := seq_fill sz n parts (i + 1) (pre ++ ns) (suf.drop sz) rest (by simp [h1, hlen, Nat.add_mul]) (by simp; omega) (by omega) hr
          rw [← h1, List.take_left, show pre.length + sz = (pre ++ suf.take sz).length from by simp; omega]
          have : pre ++ suf = (pre ++ suf.take sz) ++ suf.drop sz := by simp
          rw [this, List.drop_left]
          simpa using ih
      · cases h4
    · cases h4

theorem row_zeros (z : Array Value) (n : Nat) : Row w m h av ((Array.range n).map (z[· % z.size]!)) (zrow n (z.toList.map lf)) := by
  refine ⟨by simp [zrow], fun i hi => ?_⟩
  have hi' : i < n := by simpa [zrow] using hi
  have e1 : ((Array.range n).map (z[· % z.size]!)).getD i Go.undef = z[i % z.size]! := by simp [Array.getD, hi']
  rw [e1]
  simp only [zrow, List.getElem_map, List.getElem_range, List.length_map, Array.length_toList]
  by_cases hz : z.size = 0
  · have : z = #[] := Array.eq_empty_of_size_eq_zero hz
    subst this
    simp
    exact .undef _
  · have hlt : i % z.size < z.size := Nat.mod_lt _ (by omega)
    have : z[i % z.size]! = z[i % z.size] := by simp [getElem!_pos, hlt]
    rw [this]
    have e2 : (z.toList.map lf).getD (i % z.size) .undef = lf z[i % z.size] := by simp [List.getD, hlt]
    rw [e2]
    exact rv_lf ..

/-- A slice literal's run: a new block. -/
theorem buildSlice_ok {a : Operand → Value} {ρ : Operand → V} (hρ : ∀ x, RV w m h av true (a x) (ρ x)) {t e sz by_ : Nat} (he : elOf P t = some (e, sz, by_)) {zs : List V} (hz : zeroOf P e = some zs) {n : Nat}
    {parts : Array (Nat × Operand)} {cs : List V} (hn : parts.size = n) (hbig : n * sz ≤ 16777216) (hs : seqV sz 0 (parts.toList.map fun p => (p.1, ρ p.2)) = some cs) :
    ∃ D, Row w m h av D cs ∧ (Instr.buildSlice t n (parts.map fun (i, x) => (i, a x))).run P w = .ok (.slice (some ⟨w.heap.size, 0, none⟩) n n) (w.alloc (.cells D e)) := by
  obtain ⟨i, h1, h2, rfl, h4⟩ := elOf_some he
  obtain ⟨i', z, h5, h6, rfl⟩ := zeroOf_some hz
  rw [h2] at h5; simp at h5; subst h5
  have hl : (parts.map fun (i, x) => (i, a x)).toList = parts.toList.map fun p => (p.1, a p.2) := by simp
  have hrow0 := row_zeros (w := w) (m := m) (h := h) (av := av) (if n * i.size = 0 then #[] else z.cells) (n * i.size)
  have hfill := seq_fill i.size n (parts.toList.map fun p => (p.1, ρ p.2)) 0 [] (zrow (n * i.size) ((if n * i.size = 0 then #[] else z.cells).toList.map lf)) cs (by simp) (by simp [zrow, hn]) (by simp [hn]) hs
  simp only [List.nil_append] at hfill
  obtain ⟨D, hD1, hD2⟩ := fillV_ok (pl := (List.range n).map fun k => (k * i.size, i.size)) (place := fun k => some (k * i.size, i.size)) (range_place n i.size) hρ parts.toList _ _ cs hrow0 hfill
  refine ⟨D, hD2, ?_⟩
  have hb : ¬ (2 ^ 24 < n * i.size) := by omega
  by_cases h0 : n * i.size = 0
  · simp [h0] at hD1
    simp [Instr.buildSlice, run_underlying h1, sizeOf, typeInfo, h2, h0, hD1, newRow]
  · simp only [h0, if_false] at hD1
    have hb' : ¬ (16777216 < n * i.size) := by omega
    simp [Instr.buildSlice, run_underlying h1, sizeOf, typeInfo, zeroValue, h2, h6, h0, hb', hD1, newRow]

/-- make, the capacity the length. -/
theorem makeSlice_ok {t e sz by_ : Nat} (he : elOf P t = some (e, sz, by_)) {zs : List V} (hz : zeroOf P e = some zs) {k k' : IntKind} {n : Int} (h0 : 0 ≤ n) (hb : (by_ : Int) * n ≤ 281474976710656) (h63 : n ≤ 9223372036854775807) :
    ∃ D, Row w m h av D (zrow (n.toNat * sz) zs) ∧ (Instr.makeSlice t (.int k n) (.int k' n)).run P w = .ok (.slice (some ⟨w.heap.size, 0, none⟩) n.toNat n.toNat) (w.alloc (.cells D e)) := by
  obtain ⟨i, h1, h2, rfl, rfl⟩ := elOf_some he
  obtain ⟨i', z, h5, h6, rfl⟩ := zeroOf_some hz
  rw [h2] at h5; simp at h5; subst h5
  exact ⟨_, row_zeros z.cells (n.toNat * i.size), run_make w t e i z h1 h2 h6 k k' n n h0 (by omega) hb h63⟩

end
end Go.Lv
