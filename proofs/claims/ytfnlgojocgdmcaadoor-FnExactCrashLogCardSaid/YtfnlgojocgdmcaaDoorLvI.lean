/-
  Stores and appends over states. Conditions: none.
-/
import Derived.Test.YtfnlgojocgdmcaaDoorLvH
set_option linter.unusedSimpArgs false
set_option linter.unusedVariables false
namespace Go.Lv

def splice (cs : List V) (off : Nat) (ns : List V) : List V := cs.take off ++ ns ++ cs.drop (off + ns.length)

def storeV (P : Program) (h : Hp) (t : TypeId) (ad v : V) (K : Hp → Prop) : Prop :=
  match ad with
  | .ptr id off => match h[id]? with
    | some (some cs) => match cellsOf v with
      | some ns => match tszOf P t with
        | some (sz, _) => ns.length = sz ∧ off + sz ≤ cs.length ∧ K (h.set id (some (splice cs off ns)))
        | none => False
      | none => False
    | _ => False
  | _ => False

/-- What an append takes in: how many elements, their cells. -/
def srcV (h : Hp) (sz : Nat) (no : Option Nat) (y : V) (K : Nat → List V → Prop) : Prop :=
  match y with
  | .sl n w cs => w = sz ∧ cs.all isCell = true ∧ K n cs
  | .osl id off n w => some id ≠ no ∧ match h[id]? with
    | some (some cs) => w = sz ∧ ((cs.drop off).take (n * sz)).all isCell = true ∧ K n ((cs.drop off).take (n * sz))
    | _ => False
  | .nilsl => K 0 []
  | _ => False

def appendV (P : Program) (s : St) (t u : TypeId) (x y : V) (K : St → V → Prop) : Prop :=
  isSl P u = true ∧
  match elOf P t with
  | some (e, sz, by_) => match zeroOf P e with
    | some zs => zs.length = sz ∧ match x with
      | .nilsl => srcV s.h sz none y fun n2 cs2 => 0 < n2 ∧ n2 * by_ ≤ 140737488355328 ∧ n2 ≤ 4611686018427387904 ∧ K { s with h := s.h ++ [some cs2] } (.osl s.h.length 0 n2 sz)
      | .osl id off n wd => match s.h[id]? with
        | some (some cs) => off = 0 ∧ wd = sz ∧ n * sz = cs.length ∧ srcV s.h sz (some id) y fun n2 cs2 =>
            (s.k ≤ id ∨ cs2 ≠ []) ∧ (n + n2) * by_ ≤ 140737488355328 ∧ n + n2 ≤ 4611686018427387904 ∧
            K { s with t := killL id s.t, h := (s.h.map (killB id)).set id (some (killC id (cs ++ cs2))) } (.osl id 0 (n + n2) sz)
        | _ => False
      | _ => False
    | none => False
  | none => False

section
variable {P : Program}

theorem run_storeCells_fr (g o : Nat) (t : TypeId) (fr : Nat × Nat) : ∀ (vs : List Value) (i : Nat) (cur : Array Value) (w : World), w.heap[g]? = some (.cells cur t fr) → FrOk fr cur.size → o + i + vs.length ≤ cur.size → (∀ v ∈ vs, v.oneCell' = true) →
    (storeCells ⟨g, o, none⟩ vs i).run P w = .ok () (w.setRow g (cur.toList.take (o + i) ++ vs ++ cur.toList.drop (o + i + vs.length)).toArray)
  | [], i, cur, w, hg, _, _, _ => by
    simp only [storeCells, List.append_nil, List.length_nil, Nat.add_zero, List.take_append_drop, Array.toArray_toList]
    rw [setRow_self w g cur t fr hg]
    rfl
  | v :: rest, i, cur, w, hg, hfr, hl, h1 => by
    have hi : o + i < cur.size := by simp at hl; omega
    have hadd : (⟨g, o, none⟩ : Addr).add i = ⟨g, o + i, none⟩ := by unfold Addr.add; split <;> simp_all
    have hcell : w.cell? ⟨g, o + i, none⟩ = some cur[o + i] := by simp [World.cell?, hg, hi]
    have hfro : w.frozen? ⟨g, o + i, none⟩ = false := hfr.not hg hi
    have hst : (store ((⟨g, o, none⟩ : Addr).add i) v).run P w = .ok () (w.setRow g (cur.setIfInBounds (o + i) v)) := by
      rw [hadd, run_store P w _ v _ (h1 v (by simp)), hcell]
      simp [hfro, setCell_eq_setRow w g (o + i) cur t fr v hg]
    have ih := run_storeCells_fr g o t fr rest (i + 1) (cur.setIfInBounds (o + i) v) (w.setRow g (cur.setIfInBounds (o + i) v)) (setRow_heap w g cur _ t _ hg) (by simpa using hfr) (by simp at hl ⊢; omega) (fun x hx => h1 x (by simp [hx]))
    simp only [storeCells, Sem.run_bind, hst, Result.andThen_ok, ih, setRow_setRow]
    congr 3
    apply List.ext_getElem?
    intro k
    simp only [Array.toList_setIfInBounds, List.length_cons]
    rcases Nat.lt_trichotomy k (o + i) with h | h | h
    · rw [List.getElem?_append_left (by simp at hl ⊢; omega), List.getElem?_append_left (by simp at hl ⊢; omega), List.getElem?_append_left (by simp at hl ⊢; omega), List.getElem?_append_left (by simp at hl ⊢; omega), List.getElem?_take_of_lt (by omega), List.getElem?_take_of_lt (by omega), List.getElem?_set_ne (by omega)]
    · subst h
      rw [List.getElem?_append_left (by simp at hl ⊢; omega), List.getElem?_append_left (by simp at hl ⊢; omega), List.getElem?_append_left (by simp at hl ⊢; omega), List.getElem?_take_of_lt (by omega), List.getElem?_set_self (by simpa using hi), List.getElem?_append_right (by simp; omega)]
      simp [Nat.min_eq_left (Nat.le_of_lt hi)]
    · by_cases h2 : k < o + i + (rest.length + 1)
      · have hl2 : o + i + (rest.length + 1) ≤ cur.size := by simpa using hl
        rw [List.getElem?_append_left (by simp; omega), List.getElem?_append_right (by simp; omega), List.getElem?_append_left (by simp; omega), List.getElem?_append_right (by simp; omega)]
        have e1 : k - (List.take (o + (i + 1)) (cur.toList.set (o + i) v)).length = k - (o + i) - 1 := by simp; omega
        have e2 : k - (List.take (o + i) cur.toList).length = (k - (o + i) - 1) + 1 := by simp; omega
        rw [e1, e2, List.getElem?_cons_succ]
      · have hl2 : o + i + (rest.length + 1) ≤ cur.size := by simpa using hl
        rw [List.getElem?_append_right (by simp; omega), List.getElem?_append_right (by simp; omega), List.getElem?_drop, List.getElem?_drop]
        have e1 : o + (i + 1) + rest.length + (k - (List.take (o + (i + 1)) (cur.toList.set (o + i) v) ++ rest).length) = k := by simp; omega
        have e2 : o + i + (rest.length + 1) + (k - (List.take (o + i) cur.toList ++ v :: rest).length) = k := by simp; omega
        rw [e1, e2, List.getElem?_set_ne (by omega)]

theorem run_storeAt {w : World} {g off : Nat} {t sz : Nat} {ag : Bool} (ht : tszOf P t = some (sz, ag)) {v : Value} {cur : Array Value} {T : TypeId} {fr : Nat × Nat} (hg : w.heap[g]? = some (.cells cur T fr)) (hfr : FrOk fr cur.size)
    (hsz : v.cells.size = sz) (hl : off + sz ≤ cur.size) (h1 : ∀ u ∈ v.cells.toList, u.oneCell' = true) :
    (Instr.storeAt t (.pointer (some ⟨g, off, none⟩)) v).run P w = .ok () (w.setRow g (cur.toList.take off ++ v.cells.toList ++ cur.toList.drop (off + v.cells.size)).toArray) := by
  obtain ⟨i, d, hi, hd, rfl, _⟩ := tszOf_some ht
  have hst := run_storeCells_fr (P := P) g off T fr v.cells.toList 0 cur w hg hfr (by simp; omega) h1
  have hne : ¬ v.cells.size ≠ i.size := by omega
  simp only [Instr.storeAt, Instr.sureAddr, Sem.run_bind, Sem.run_pure, Result.andThen_ok, storeVar, sizeOf, typeInfo, run_program, hi, if_neg hne, hst]
  simp

theorem firstCells_zero {w : World} (a : Option Addr) (n c size : Nat) : (Builtin.firstCells size 0 (.slice a n c)).run P w = .ok #[] w := by
  cases a <;> simp [Builtin.firstCells, loadCells, loadCellsFrom]

theorem run_append_fit {w : World} (t u ty e : TypeId) (i : TypeInfo) (eu : TypeId) (ht : P.underlying t = some (.slice e)) (hu : P.underlying u = some (.slice eu)) (hi : P.info? e = some i)
    (g off sLen sCap : Nat) (cur : Array Value) (T : TypeId) {fr : Nat × Nat} (hg : w.heap[g]? = some (.cells cur T fr)) (hfr : FrOk fr cur.size) (x : Value) (n : Nat) (news : List Value)
    (hx : (Builtin.lenOf x).run P w = .ok n w) (hf : (Builtin.firstCells i.size n x).run P w = .ok news.toArray w) (h1 : ∀ u ∈ news, u.oneCell' = true)
    (hroom : sLen + n ≤ sCap) (hfit : off + sLen * i.size + news.length ≤ cur.size) :
    (Builtin.append_ #[t, u] ty #[.slice (some ⟨g, off, none⟩) sLen sCap, x]).run P w =
      .ok (.slice (some ⟨g, off, none⟩) (sLen + n) sCap) (w.setRow g (cur.toList.take (off + sLen * i.size) ++ news ++ cur.toList.drop (off + sLen * i.size + news.length)).toArray) := by
  have hst := run_storeCells_fr (P := P) g (off + sLen * i.size) T fr news 0 cur w hg hfr (by simpa using hfit) h1
  simp only [Nat.add_zero] at hst
  simp [Builtin.append_, run_underlying ht, run_underlying hu, sizeOf, typeInfo, hi, hx, hroom, hf, Addr.add_lit, hst]

theorem run_append_more {w : World} (t u ty e : TypeId) (i : TypeInfo) (z : Value) (eu : TypeId) (ht : P.underlying t = some (.slice e)) (hu : P.underlying u = some (.slice eu)) (hi : P.info? e = some i) (hz : i.zero = some z)
    (b : Option Addr) (sLen sCap : Nat) (olds : List Value) (x : Value) (n : Nat) (news : List Value)
    (hx : (Builtin.lenOf x).run P w = .ok n w) (hf : (Builtin.firstCells i.size n x).run P w.drew = .ok news.toArray w.drew) (ho : (Builtin.firstCells i.size sLen (.slice b sLen sCap)).run P w.drew = .ok olds.toArray w.drew)
    (hroom : sCap < sLen + n) (h63 : sLen + n ≤ 9223372036854775807) (hfit : Builtin.nextslicecap (sLen + n) sCap * i.bytes ≤ 281474976710656) :
    (Builtin.append_ #[t, u] ty #[.slice b sLen sCap, x]).run P w =
      .ok (.slice (some ⟨w.heap.size, 0, none⟩) (sLen + n) (grownCap w (sLen + n) sCap e))
        (w.drew.alloc (.cells (olds.toArray ++ news.toArray ++ Builtin.zeroCells z.cells (grownCap w (sLen + n) sCap e - (sLen + n))) e)) := by
  have hn : ¬ (sLen + n ≤ sCap) := by omega
  have h63' : ¬ (9223372036854775807 < ((sLen : Int) + (n : Int))) := by omega
  have h48' : ¬ (281474976710656 < Builtin.nextslicecap (sLen + n) sCap * i.bytes) := by omega
  simp [Builtin.append_, run_underlying ht, run_underlying hu, sizeOf, typeInfo, zeroValue, hi, hz, hx, hn, h63', h48', Question.forced, hf, ho, newRow, grownCap]
  congr 2
  apply Array.ext'
  simp [List.append_assoc]

end

section
variable {P : Program} {w0 : World} {m0 : Nat → Nat} {h0 : Hp} {av0 : Nat → Prop} {s : St} {a : Act} {w : World} {m : Nat → Nat}

theorem store_ok (I : Inv w0 m0 h0 av0 s a w m) {t : TypeId} {ad v : V} {u x : Value} (hu : RV w m s.h (avm av0 m s.h) true u ad) (hx : RV w m s.h (avm av0 m s.h) true x v) {K : Hp → Prop}
    (hq : storeV P s.h t ad v K) : ∃ h' w', K h' ∧ (Instr.storeAt t u x).run P w = .ok () w' ∧ Inv w0 m0 h0 av0 { s with h := h' } a w' m := by
  unfold storeV at hq
  cases hu with
  | ptr id off cs hid =>
    simp only [hid.1] at hq
    split at hq
    · rename_i ns hns
      split at hq
      · rename_i sz ag hsz
        obtain ⟨h1, h2, hk⟩ := hq
        obtain ⟨g1, g2, g3⟩ := cellsOf_ok hx hns
        obtain ⟨C, T, fr, hC, hfr, hCl, hCr⟩ := (I.rh.blk id cs hid.1).cells hid.2
        have hrun := run_storeAt (P := P) (off := off) hsz hC hfr (v := x) (by omega) (by omega) g3
        refine ⟨_, _, hk, hrun, (I.setRow hid hC hfr (by simp; omega) (by simp [splice]; omega) (by simp [splice]; omega) (fun i hi => ?_)).1⟩
        have hsl : (splice cs off ns).length = cs.length := by simp [splice]; omega
        rw [hsl] at hi
        have hl : i < C.size := by omega
        by_cases e1 : i < off
        · have e2 : (splice cs off ns)[i]'(by omega) = cs[i] := by
            simp only [splice]
            rw [List.getElem_append_left (by simp; omega), List.getElem_append_left (by simp; omega), List.getElem_take]
          rw [e2]
          have e3 : (C.toList.take off ++ x.cells.toList ++ C.toList.drop (off + x.cells.size)).toArray.getD i Go.undef = C.getD i Go.undef := by
            simp only [Array.getD_eq_getD_getElem?, List.getElem?_toArray]
            rw [List.getElem?_append_left (by simp; omega), List.getElem?_append_left (by simp; omega), List.getElem?_take_of_lt e1]
            simp
          rw [e3]
          exact hCr i hi
        · by_cases e2 : i < off + ns.length
          · have e3 : (splice cs off ns)[i]'(by omega) = ns[i - off]'(by omega) := by
              simp only [splice]
              rw [List.getElem_append_left (by simp; omega), List.getElem_append_right (by simp; omega)]
              congr 1
              simp; omega
            rw [e3]
            have e4 : (C.toList.take off ++ x.cells.toList ++ C.toList.drop (off + x.cells.size)).toArray.getD i Go.undef = x.cells.getD (i - off) Go.undef := by
              simp only [Array.getD_eq_getD_getElem?, List.getElem?_toArray]
              rw [List.getElem?_append_left (by simp; omega), List.getElem?_append_right (by simp; omega)]
              have : i - (C.toList.take off).length = i - off := by simp; omega
              rw [this]
              simp
            rw [e4]
            exact g2 _ _
          · have e3 : (splice cs off ns)[i]'(by omega) = cs[i] := by
              simp only [splice]
              rw [List.getElem_append_right (by simp; omega), List.getElem_drop]
              congr 1
              simp; omega
            rw [e3]
            have e4 : (C.toList.take off ++ x.cells.toList ++ C.toList.drop (off + x.cells.size)).toArray.getD i Go.undef = C.getD i Go.undef := by
              simp only [Array.getD_eq_getD_getElem?, List.getElem?_toArray]
              rw [List.getElem?_append_right (by simp; omega), List.getElem?_drop]
              have : off + x.cells.size + (i - (C.toList.take off ++ x.cells.toList).length) = i := by simp; omega
              rw [this]
              simp
            rw [e4]
            exact hCr i hi
      · exact hq.elim
    · exact hq.elim
  | _ => exact False.elim hq

/-- What is taken in, in the world. -/
theorem src_ok (H : RH w m s.h (avm av0 m s.h)) {y : V} {u : Value} (hy : RV w m s.h (avm av0 m s.h) true u y) {sz : Nat} {no : Option Nat} {K : Nat → List V → Prop} (hq : srcV s.h sz no y K) :
    ∃ n cs news, K n cs ∧ (∀ w1 : World, (Builtin.lenOf u).run P w1 = .ok n w1) ∧ (∀ w1 : World, (∀ ad, w1.cell? ad = w.cell? ad) → (Builtin.firstCells sz n u).run P w1 = .ok (List.toArray news) w1) ∧
      news.length = n * sz ∧ cs.length = n * sz ∧ (∀ x ∈ news, x.oneCell' = true) ∧ ∀ i (hi : i < cs.length), RV w m s.h (avm av0 m s.h) true (news.getD i Go.undef) cs[i] := by
  unfold srcV at hq
  have key : ∀ (b off n cap : Nat) (cs : List V), cs.length = n * sz → cs.all isCell = true → (∀ i (hi : i < cs.length), ∃ v, w.cell? ⟨b, off + i, none⟩ = some v ∧ RV w m s.h (avm av0 m s.h) true v cs[i]) → K n cs →
      ∃ n' cs' news, K n' cs' ∧ (∀ w1 : World, (Builtin.lenOf (.slice (some ⟨b, off, none⟩) n cap)).run P w1 = .ok n' w1) ∧ (∀ w1 : World, (∀ ad, w1.cell? ad = w.cell? ad) → (Builtin.firstCells sz n' (.slice (some ⟨b, off, none⟩) n cap)).run P w1 = .ok (List.toArray news) w1) ∧
      news.length = n' * sz ∧ cs'.length = n' * sz ∧ (∀ x ∈ news, x.oneCell' = true) ∧ ∀ i (hi : i < cs'.length), RV w m s.h (avm av0 m s.h) true (news.getD i Go.undef) cs'[i] := by
    intro b off n cap cs hl hall hc hk
    have hg : ∀ i (hi : i < cs.length), w.cell? ⟨b, off + i, none⟩ = some ((w.cell? ⟨b, off + i, none⟩).getD Go.undef) ∧ RV w m s.h (avm av0 m s.h) true ((w.cell? ⟨b, off + i, none⟩).getD Go.undef) cs[i] := by
      intro i hi
      obtain ⟨v, h1, h2⟩ := hc i hi
      rw [h1]
      exact ⟨rfl, h2⟩
    refine ⟨n, cs, (List.range cs.length).map fun i => (w.cell? ⟨b, off + i, none⟩).getD Go.undef, hk, fun w1 => by simp [Builtin.lenOf], fun w1 hw => ?_, by simp [hl], hl, fun x hx => ?_, fun i hi => ?_⟩
    · refine run_firstCells_some w1 sz n ⟨b, off, none⟩ n cap _ (by simp [hl]) (fun j v hj => ?_)
      have hlt : j < cs.length := by
        have := (List.getElem?_eq_some_iff.1 hj).1
        simpa using this
      rw [List.getElem?_map, List.getElem?_range hlt] at hj
      simp at hj
      rw [hw, Addr.add_lit, ← hj]
      exact (hg j hlt).1
    · obtain ⟨i, hi, rfl⟩ := List.mem_map.1 hx
      have hlt : i < cs.length := by simpa using hi
      exact (one_of (hg i hlt).2 (List.all_eq_true.1 hall _ (List.getElem_mem _))).1
    · have : ((List.range cs.length).map fun i => (w.cell? ⟨b, off + i, none⟩).getD Go.undef).getD i Go.undef = (w.cell? ⟨b, off + i, none⟩).getD Go.undef := by
        simp [List.getD, List.getElem?_range hi]
      rw [this]
      exact (hg i hi).2
  cases hy with
  | sl b off n cap wd cs vals hl ha hc hv hr =>
    obtain ⟨rfl, h2, hk⟩ := hq
    exact key b off n cap cs hl h2 (fun i hi => ⟨_, hv i hi, (hr i hi).weak⟩) hk
  | slz ad c wd =>
    obtain ⟨rfl, h2, hk⟩ := hq
    exact ⟨0, [], [], hk, fun w1 => by simp [Builtin.lenOf], fun w1 _ => firstCells_zero ad 0 c wd, by simp, by simp, fun x hx => by simp at hx, fun i hi => by simp at hi⟩
  | osl id off n cap wd cs hid hl hc hs =>
    simp only [hid.1] at hq
    obtain ⟨_, rfl, h2, hk⟩ := hq
    refine key (m id) off n cap _ (by simp; omega) h2 (fun i hi => ?_) hk
    have hi' : off + i < cs.length := by simp at hi; omega
    obtain ⟨v, h3, h4⟩ := H.cell hid hi'
    exact ⟨v, h3, by simpa using h4⟩
  | nilsl =>
    exact ⟨0, [], [], hq, fun w1 => by simp [Builtin.lenOf], fun w1 _ => firstCells_zero none 0 0 sz, by simp, by simp, fun x hx => by simp at hx, fun i hi => by simp at hi⟩
  | _ => exact False.elim hq

theorem getD_toArray_append (x y : List Value) (rest : Array Value) (i : Nat) (hi : i < x.length + y.length) :
    (x.toArray ++ y.toArray ++ rest).getD i Go.undef = if i < x.length then x.getD i Go.undef else y.getD (i - x.length) Go.undef := by
  rw [getD_append_left _ _ (by simpa using hi)]
  by_cases h : i < x.length
  · rw [if_pos h, getD_append_left _ _ (by simpa using h)]
    simp [Array.getD_eq_getD_getElem?, List.getD]
  · rw [if_neg h, getD_append_right _ _ (by simpa using h)]
    simp [Array.getD_eq_getD_getElem?, List.getD]

theorem row_both {cs cs2 : List V} {olds news : List Value} (h1 : olds.length = cs.length) (h2 : news.length = cs2.length)
    (r1 : ∀ i (hi : i < cs.length), RV w m s.h (avm av0 m s.h) true (olds.getD i Go.undef) cs[i]) (r2 : ∀ i (hi : i < cs2.length), RV w m s.h (avm av0 m s.h) true (news.getD i Go.undef) cs2[i]) (rest : Array Value) :
    ∀ i (hi : i < (cs ++ cs2).length), RV w m s.h (avm av0 m s.h) true ((olds.toArray ++ news.toArray ++ rest).getD i Go.undef) (cs ++ cs2)[i] := by
  intro i hi
  rw [getD_toArray_append _ _ _ _ (by simp at hi; omega)]
  by_cases h : i < cs.length
  · rw [if_pos (by omega), List.getElem_append_left h]
    exact r1 i h
  · rw [if_neg (by omega), List.getElem_append_right (by omega)]
    have := r2 (i - cs.length) (by simp at hi; omega)
    rw [h1]
    exact this

theorem append_ok (I : Inv w0 m0 h0 av0 s a w m) {t u ty : TypeId} {x y : V} {xv yv : Value} (hx : RV w m s.h (avm av0 m s.h) true xv x) (hy : RV w m s.h (avm av0 m s.h) true yv y) {K : St → V → Prop}
    (hq : appendV P s t u x y K) : ∃ s' r v w' m', K s' r ∧ (Builtin.append_ #[t, u] ty #[xv, yv]).run P w = .ok v w' ∧ Inv w0 m0 h0 av0 s' a w' m' ∧ RV w' m' s'.h (avm av0 m' s'.h) true v r := by
  obtain ⟨hsl, hq⟩ := hq
  obtain ⟨eu, hu⟩ := isSl_some hsl
  split at hq
  · rename_i e sz by_ he
    obtain ⟨i, h1, h2, rfl, rfl⟩ := elOf_some he
    split at hq
    · rename_i zs hz
      obtain ⟨i', z, h5, h6, rfl⟩ := zeroOf_some hz
      rw [h2] at h5; simp at h5; subst h5
      obtain ⟨hzl, hq⟩ := hq
      have hzs : z.cells.size = i.size := by simpa using hzl
      cases hx with
      | nilsl =>
        obtain ⟨n, cs, news, ⟨hpos, hb, h63, hk⟩, hlen, hf, hl1, hl2, hone, hr⟩ := src_ok (P := P) I.rh hy hq
        have hfit : Builtin.nextslicecap (0 + n) 0 * i.bytes ≤ 281474976710656 := by
          rw [Nat.zero_add, nextslicecap_zero hpos]; omega
        have hrun := run_append_more (P := P) (w := w) t u ty e i z eu h1 hu h2 h6 none 0 0 [] yv n news (hlen w) (hf w.drew (fun _ => rfl)) (firstCells_zero none 0 0 i.size) (by omega) (by omega) hfit
        have ID := I.world (Ext.drew (fun _ => False) w)
        have hstep : ∀ {o : Bool} {v : Value} {x : V}, RV w m s.h (avm av0 m s.h) o v x → RV w.drew m s.h (avm av0 m s.h) o v x :=
          fun hx => RV.step (w := w) (w' := w.drew) (m := m) (m' := m) (h := s.h) (h' := s.h) (av := avm av0 m s.h) (av' := avm av0 m s.h) (fun b off v hb hc => ⟨hb, hc⟩) (fun id c hid => ⟨c, hid, Nat.le_refl _, rfl, Nat.le_refl _, rfl⟩) hx
        obtain ⟨J, _⟩ := ID.alloc (List.toArray [] ++ news.toArray ++ Builtin.zeroCells z.cells (grownCap w (0 + n) 0 e - (0 + n))) e cs (by simp; omega)
          (fun j hj => hstep (by simpa using row_both (cs := []) (olds := []) rfl (by omega) (fun i hi => by simp at hi) hr _ j (by simpa using hj)))
        refine ⟨_, _, _, _, _, hk, hrun, J, ?_⟩
        have hmb : isMb cs = false := notMb (w := w) (C := (List.toArray [] ++ news.toArray ++ #[])) (fun j hj => by simpa using row_both (cs := []) (olds := []) rfl (by omega) (fun i hi => by simp at hi) hr #[] j (by simpa using hj))
        have hge := grownCap_ge w (0 + n) 0 e
        have hdrew : w.drew.heap.size = w.heap.size := rfl
        have := RV.osl (w := w.drew.alloc (.cells (List.toArray [] ++ news.toArray ++ Builtin.zeroCells z.cells (grownCap w (0 + n) 0 e - (0 + n))) e)) (m := mext m s.h.length w.drew.heap.size) (h := s.h ++ [some cs])
          (av := avm av0 (mext m s.h.length w.drew.heap.size) (s.h ++ [some cs])) s.h.length 0 n (grownCap w (0 + n) 0 e) i.size cs ⟨by simp, hmb⟩ (by simp [hl2]) (by omega) (by
            rw [mext_new]
            simp only [rowSize, heap_alloc_new, Array.size_append, List.size_toArray, List.length_nil, size_zeroCells, hzs, hl1]
            simp only [Nat.zero_add]
            rw [← Nat.add_mul]
            exact Nat.mul_le_mul_right _ (by omega))
        rw [mext_new] at this
        simpa using this
      | osl id off n cap wd cs hid hl hc hs =>
        simp only [hid.1] at hq
        obtain ⟨rfl, rfl, hlen0, hq⟩ := hq
        obtain ⟨n2, cs2, news, ⟨hk0, hb, h63, hk⟩, hlen, hf, hl1, hl2, hone, hr⟩ := src_ok (P := P) I.rh hy hq
        obtain ⟨C, T, fr, hC, hfr, hCl, hCr⟩ := (I.rh.blk id cs hid.1).cells hid.2
        have hrs : rowSize w (m id) = C.size := by simp [rowSize, hC]
        rw [hrs] at hs
        have hkk : h0.length ≤ id ∨ cs.length < (cs ++ cs2).length := by
          rw [← I.k]
          exact hk0.imp (fun h => h) (fun h => by have := List.length_pos_iff.2 h; simp; exact this)
        by_cases hroom : n + n2 ≤ cap
        · have hfit : 0 + n * i.size + news.length ≤ C.size := by
            rw [hl1]
            have : (n + n2) * i.size ≤ cap * i.size := Nat.mul_le_mul_right _ hroom
            rw [Nat.add_mul] at this
            omega
          have hrun := run_append_fit (P := P) (w := w) t u ty e i eu h1 hu h2 (m id) 0 n cap C T hC hfr yv n2 news (hlen w) (hf w (fun _ => rfl)) hone hroom hfit
          have hD : (C.toList.take (0 + n * i.size) ++ news ++ C.toList.drop (0 + n * i.size + news.length)).toArray.size = C.size := by simp; omega
          have hrow := row_both (w := w) (m := m) (s := s) (av0 := av0) (cs := cs) (cs2 := cs2) (olds := C.toList.take (0 + n * i.size)) (news := news) (by simp; omega) (by omega)
            (fun j hj => by
              have hj' : j < C.size := by omega
              have := hCr j hj
              rw [Array.getD_eq_getD_getElem?] at this
              rw [List.getD, List.getElem?_take_of_lt (by omega), Array.getElem?_toList]
              exact this) hr (C.toList.drop (0 + n * i.size + news.length)).toArray
          obtain ⟨J, _⟩ := I.setRow (cs' := cs ++ cs2) hid hC hfr hD (by simp) (by simp; omega) (fun j hj => by simpa using hrow j hj)
          have hid2 : (s.h.set id (some (cs ++ cs2)))[id]? = some (some (cs ++ cs2)) := by rw [List.getElem?_set_self (id_lt hid.1)]
          have hmb : isMb (killC id (cs ++ cs2)) = false := by rw [killC, isMb_ren]; exact notMb (C := (C.toList.take (0 + n * i.size) ++ news ++ C.toList.drop (0 + n * i.size + news.length)).toArray) (fun j hj => by simpa using hrow j hj)
          have J2 := J.kill hid2
          have hset : ((s.h.set id (some (cs ++ cs2))).map (killB id)).set id (some (killC id (cs ++ cs2))) = (s.h.map (killB id)).set id (some (killC id (cs ++ cs2))) := by
            rw [List.map_set, List.set_set]
          have J3 := J2
          simp only [hset] at J3
          refine ⟨_, _, _, _, _, hk, hrun, J3, ?_⟩
          refine .osl id 0 (n + n2) cap i.size (killC id (cs ++ cs2)) ⟨by rw [List.getElem?_set_self (by simpa using id_lt hid.1)], hmb⟩ (by simp [killC]; rw [hl2, Nat.add_mul]; omega) hroom ?_
          simp only [rowSize, setRow_heap w (m id) C _ T _ hC]
          omega
        · have hfit : Builtin.nextslicecap (n + n2) cap * i.bytes ≤ 281474976710656 := growslice_fits (by omega) hb
          have holds : (Builtin.firstCells i.size n (.slice (some ⟨m id, 0, none⟩) n cap)).run P w.drew = .ok (C.toList.take (n * i.size)).toArray w.drew := by
            refine run_firstCells_some w.drew i.size n ⟨m id, 0, none⟩ n cap _ (by simp; omega) (fun j v hj => ?_)
            have hlt : j < n * i.size := by
              have := (List.getElem?_eq_some_iff.1 hj).1
              simp at this; omega
            rw [List.getElem?_take_of_lt hlt, Array.getElem?_toList] at hj
            rw [Addr.add_lit, Nat.zero_add]
            exact (cell_of_row w (m id) j C T fr hC).trans hj
          have hrun := run_append_more (P := P) (w := w) t u ty e i z eu h1 hu h2 h6 (some ⟨m id, 0, none⟩) n cap (C.toList.take (n * i.size)) yv n2 news (hlen w) (hf w.drew (fun _ => rfl)) holds (by omega) (by omega) hfit
          have ID := I.world (Ext.drew (fun _ => False) w)
          have hstep : ∀ {o : Bool} {v : Value} {x : V}, RV w m s.h (avm av0 m s.h) o v x → RV w.drew m s.h (avm av0 m s.h) o v x :=
            fun hx => RV.step (w := w) (w' := w.drew) (m := m) (m' := m) (h := s.h) (h' := s.h) (av := avm av0 m s.h) (av' := avm av0 m s.h) (fun b off v hb hc => ⟨hb, hc⟩) (fun id c hid => ⟨c, hid, Nat.le_refl _, rfl, Nat.le_refl _, rfl⟩) hx
          have hrow := row_both (w := w) (m := m) (s := s) (av0 := av0) (cs := cs) (cs2 := cs2) (olds := C.toList.take (n * i.size)) (news := news) (by simp; omega) (by omega)
            (fun j hj => by
              have hj' : j < C.size := by omega
              have := hCr j hj
              rw [Array.getD_eq_getD_getElem?] at this
              rw [List.getD, List.getElem?_take_of_lt (by omega), Array.getElem?_toList]
              exact this) hr (Builtin.zeroCells z.cells (grownCap w (n + n2) cap e - (n + n2)))
          have J := ID.move (C := (C.toList.take (n * i.size)).toArray ++ news.toArray ++ Builtin.zeroCells z.cells (grownCap w (n + n2) cap e - (n + n2))) (T := e) (cs' := cs ++ cs2) hid.1 hkk (by simp; omega) (fun j hj => hstep (hrow j hj))
          have hmb : isMb (killC id (cs ++ cs2)) = false := by rw [killC, isMb_ren]; exact notMb hrow
          refine ⟨_, _, _, _, _, hk, hrun, J, ?_⟩
          have hge := grownCap_ge w (n + n2) cap e
          have := RV.osl (w := w.drew.alloc (.cells ((C.toList.take (n * i.size)).toArray ++ news.toArray ++ Builtin.zeroCells z.cells (grownCap w (n + n2) cap e - (n + n2))) e)) (m := fun j => if j = id then w.drew.heap.size else m j)
            (h := (s.h.map (killB id)).set id (some (killC id (cs ++ cs2)))) (av := avm av0 (fun j => if j = id then w.drew.heap.size else m j) ((s.h.map (killB id)).set id (some (killC id (cs ++ cs2)))))
            id 0 (n + n2) (grownCap w (n + n2) cap e) i.size (killC id (cs ++ cs2)) ⟨by rw [List.getElem?_set_self (by simpa using id_lt hid.1)], hmb⟩ (by simp [killC]; rw [hl2, Nat.add_mul]; omega) hge (by
              simp only [if_true, rowSize, heap_alloc_new, Array.size_append, List.size_toArray, List.length_take, Array.length_toList, size_zeroCells, hzs, hl1]
              have e1 : min (n * i.size) C.size = n * i.size := by omega
              rw [e1, ← Nat.add_mul, ← Nat.add_mul, Nat.zero_add]
              exact Nat.mul_le_mul_right _ (by omega))
          simpa using this
      | _ => exact False.elim hq
    · exact hq.elim
  · exact hq.elim

end
end Go.Lv
