/-
  A part of the proof: texts put together by a program of the prover. Conditions: none.
-/
import Derived.Test.YtfpkiomipjmabaaGreatDoorZC3
set_option linter.unusedSimpArgs false
set_option linter.unusedVariables false
section
namespace Go.Lv

def ck (cs : List V) (off : Nat) (ns : List V) : List V := cs.take off ++ ns ++ cs.drop (off + ns.length)

def ks (P : Program) (h : Hp) (t : TypeId) (ad v : V) (K : Hp → Prop) : Prop :=
 match ad with
 | .ptr id off => match h[id]? with
   | some (some cs) => match cellsOf v with
     | some ns => match gi P t with
       | some (sz, _) => ns.length = sz ∧ off + sz ≤ cs.length ∧ K (h.set id (some (ck cs off ns)))
       | none => False
     | none => False
   | _ => False
 | _ => False

def ma (h : Hp) (sz : Nat) (no : Option Nat) (y : V) (K : Nat → List V → Prop) : Prop :=
 match y with
 | .sl n w cs => w = sz ∧ cs.all bq = true ∧ K n cs
 | .osl id off n w => some id ≠ no ∧ match h[id]? with
   | some (some cs) => w = sz ∧ ((cs.drop off).take (n * sz)).all bq = true ∧ K n ((cs.drop off).take (n * sz))
   | _ => False
 | .nilsl => K 0 []
 | _ => False

def su (P : Program) (s : St) (t u : TypeId) (x y : V) (K : St → V → Prop) : Prop :=
 uk P u = true ∧
 match ij P t with
 | some (e, sz, by_) => match zeroOf P e with
   | some zs => zs.length = sz ∧ match x with
     | .nilsl => ma s.h sz none y fun n2 cs2 => 0 < n2 ∧ n2 * by_ ≤ 140737488355328 ∧ n2 ≤ 4611686018427387904 ∧ K { s with h := s.h ++ [some cs2] } (.osl s.h.length 0 n2 sz)
     | .osl id off n wd => match s.h[id]? with
       | some (some cs) => off = 0 ∧ wd = sz ∧ n * sz = cs.length ∧ ma s.h sz (some id) y fun n2 cs2 =>
           (s.k ≤ id ∨ cs2 ≠ []) ∧ (n + n2) * by_ ≤ 140737488355328 ∧ n + n2 ≤ 4611686018427387904 ∧
           K { s with t := vy id s.t, h := (s.h.map (j0 id)).set id (some (cx id (cs ++ cs2))) } (.osl id 0 (n + n2) sz)
       | _ => False
     | _ => False
   | none => False
 | none => False

section
variable {P : Program}

theorem lk (g o : Nat) (t : TypeId) (fr : Nat × Nat) : ∀ (vs : List Value) (i : Nat) (cur : Array Value) (w : World), w.heap[g]? = some (.cells cur t fr) → za fr cur.size → o + i + vs.length ≤ cur.size → (∀ v ∈ vs, v.oneCell' = true) →
   (storeCells ⟨g, o, none⟩ vs i).run P w = .ok () (w.setRow g (cur.toList.take (o + i) ++ vs ++ cur.toList.drop (o + i + vs.length)).toArray)
 | [], i, cur, w, hg, _, _, _ => by
   simp only [storeCells, List.append_nil, List.length_nil, Nat.add_zero, List.take_append_drop, Array.toArray_toList]
   rw [setRow_self w g cur t fr hg]
   rfl
 | v :: rest, i, cur, w, hg, hfr, hl, h1 => by
   have hi : o + i < cur.size := by simp at hl; omega
   have hadd : (⟨g, o, none⟩ : Addr).add i = ⟨g, o + i, none⟩ := by unfold Addr.add; split <;> simp_all
   have hcell : w.cell? ⟨g, o + i, none⟩ = some cur[o + i] := by simp [World.cell?, hg, hi]
   have hfro : w.frozen? ⟨g, o + i, none⟩ = false := hfr.not hg hi
   have hst : (store ((⟨g, o, none⟩ : Addr).add i) v).run P w = .ok () (w.setRow g (cur.setIfInBounds (o + i) v)) := by
     rw [hadd, run_store P w _ v _ (h1 v (by simp)), hcell]
     simp [hfro, setCell_eq_setRow w g (o + i) cur t fr v hg]
   have ih := lk g o t fr rest (i + 1) (cur.setIfInBounds (o + i) v) (w.setRow g (cur.setIfInBounds (o + i) v)) (setRow_heap w g cur _ t _ hg) (by simpa using hfr) (by simp at hl ⊢; omega) (fun x hx => h1 x (by simp [hx]))
   simp only [storeCells, Sem.run_bind, hst, Result.andThen_ok, ih, setRow_setRow]
   congr 3
   apply List.ext_getElem?
   intro k
   simp only [Array.toList_setIfInBounds, List.length_cons]
   rcases Nat.lt_trichotomy k (o + i) with h | h | h
   · rw [List.getElem?_append_left (by simp at hl ⊢; omega), List.getElem?_append_left (by simp at hl ⊢; omega), List.getElem?_append_left (by simp at hl ⊢; omega), List.getElem?_append_left (by simp at hl ⊢; omega), List.getElem?_take_of_lt (by omega), List.getElem?_take_of_lt (by omega), List.getElem?_set_ne (by omega)]
   · subst h
     rw [List.getElem?_append_left (by simp at hl ⊢; omega), List.getElem?_append_left (by simp at hl ⊢; omega), List.getElem?_append_left (by simp at hl ⊢; omega), List.getElem?_take_of_lt (by omega), List.getElem?_set_self (by simpa using hi), List.getElem?_append_right (by simp; omega)]
     simp [Nat.min_eq_left (Nat.le_of_lt hi)]
   · by_cases h2 : k < o + i + (rest.length + 1)
     · have hl2 : o + i + (rest.length + 1) ≤ cur.size := by simpa using hl
       rw [List.getElem?_append_left (by simp; omega), List.getElem?_append_right (by simp; omega), List.getElem?_append_left (by simp; omega), List.getElem?_append_right (by simp; omega)]
       have e1 : k - (List.take (o + (i + 1)) (cur.toList.set (o + i) v)).length = k - (o + i) - 1 := by simp; omega
       have e2 : k - (List.take (o + i) cur.toList).length = (k - (o + i) - 1) + 1 := by simp; omega
       rw [e1, e2, List.getElem?_cons_succ]
     · have hl2 : o + i + (rest.length + 1) ≤ cur.size := by simpa using hl
       rw [List.getElem?_append_right (by simp; omega), List.getElem?_append_right (by simp; omega), List.getElem?_drop, List.getElem?_drop]
       have e1 : o + (i + 1) + rest.length + (k - (List.take (o + (i + 1)) (cur.toList.set (o + i) v) ++ rest).length) = k := by simp; omega
       have e2 : o + i + (rest.length + 1) + (k - (List.take (o + i) cur.toList ++ v :: rest).length) = k := by simp; omega
       rw [e1, e2, List.getElem?_set_ne (by omega)]

theorem aj5 {w : World} {g off : Nat} {t sz : Nat} {ag : Bool} (ht : gi P t = some (sz, ag)) {v : Value} {cur : Array Value} {T : TypeId} {fr : Nat × Nat} (hg : w.heap[g]? = some (.cells cur T fr)) (hfr : za fr cur.size)
   (hsz : v.cells.size = sz) (hl : off + sz ≤ cur.size) (h1 : ∀ u ∈ v.cells.toList, u.oneCell' = true) :
   (Instr.storeAt t (.pointer (some ⟨g, off, none⟩)) v).run P w = .ok () (w.setRow g (cur.toList.take off ++ v.cells.toList ++ cur.toList.drop (off + v.cells.size)).toArray) := by
 obtain ⟨i, d, hi, hd, rfl, _⟩ := tg ht
 have hst := lk (P := P) g off T fr v.cells.toList 0 cur w hg hfr (by simp; omega) h1
 have hne : ¬ v.cells.size ≠ i.size := by omega
 simp only [Instr.storeAt, Instr.sureAddr, Sem.run_bind, Sem.run_pure, Result.andThen_ok, storeVar, sizeOf, typeInfo, run_program, hi, if_neg hne, hst]
 simp

theorem nw {w : World} (a : Option Addr) (n c size : Nat) : (Builtin.firstCells size 0 (.slice a n c)).run P w = .ok #[] w := by
 cases a <;> simp [Builtin.firstCells, loadCells, loadCellsFrom]

theorem vg {w : World} (t u ty e : TypeId) (i : TypeInfo) (eu : TypeId) (ht : P.underlying t = some (.slice e)) (hu : P.underlying u = some (.slice eu)) (hi : P.info? e = some i)
   (g off sLen sCap : Nat) (cur : Array Value) (T : TypeId) {fr : Nat × Nat} (hg : w.heap[g]? = some (.cells cur T fr)) (hfr : za fr cur.size) (x : Value) (n : Nat) (news : List Value)
   (hx : (Builtin.lenOf x).run P w = .ok n w) (hf : (Builtin.firstCells i.size n x).run P w = .ok news.toArray w) (h1 : ∀ u ∈ news, u.oneCell' = true)
   (hroom : sLen + n ≤ sCap) (hfit : off + sLen * i.size + news.length ≤ cur.size) :
   (Builtin.append_ #[t, u] ty #[.slice (some ⟨g, off, none⟩) sLen sCap, x]).run P w =
     .ok (.slice (some ⟨g, off, none⟩) (sLen + n) sCap) (w.setRow g (cur.toList.take (off + sLen * i.size) ++ news ++ cur.toList.drop (off + sLen * i.size + news.length)).toArray) := by
 have hst := lk (P := P) g (off + sLen * i.size) T fr news 0 cur w hg hfr (by simpa using hfit) h1
 simp only [Nat.add_zero] at hst
 simp [Builtin.append_, run_underlying ht, run_underlying hu, sizeOf, typeInfo, hi, hx, hroom, hf, Addr.add_lit, hst]

theorem nt {w : World} (t u ty e : TypeId) (i : TypeInfo) (z : Value) (eu : TypeId) (ht : P.underlying t = some (.slice e)) (hu : P.underlying u = some (.slice eu)) (hi : P.info? e = some i) (hz : i.zero = some z)
   (b : Option Addr) (sLen sCap : Nat) (olds : List Value) (x : Value) (n : Nat) (news : List Value)
   (hx : (Builtin.lenOf x).run P w = .ok n w) (hf : (Builtin.firstCells i.size n x).run P w.drew = .ok news.toArray w.drew) (ho : (Builtin.firstCells i.size sLen (.slice b sLen sCap)).run P w.drew = .ok olds.toArray w.drew)
   (hroom : sCap < sLen + n) (h63 : sLen + n ≤ 9223372036854775807) (hfit : Builtin.nextslicecap (sLen + n) sCap * i.bytes ≤ 281474976710656) :
   (Builtin.append_ #[t, u] ty #[.slice b sLen sCap, x]).run P w =
     .ok (.slice (some ⟨w.heap.size, 0, none⟩) (sLen + n) (grownCap w (sLen + n) sCap e))
       (w.drew.alloc (.cells (olds.toArray ++ news.toArray ++ Builtin.zeroCells z.cells (grownCap w (sLen + n) sCap e - (sLen + n))) e)) := by
 have hn : ¬ (sLen + n ≤ sCap) := by omega
 have h63' : ¬ (9223372036854775807 < ((sLen : Int) + (n : Int))) := by omega
 have h48' : ¬ (281474976710656 < Builtin.nextslicecap (sLen + n) sCap * i.bytes) := by omega
 simp [Builtin.append_, run_underlying ht, run_underlying hu, sizeOf, typeInfo, zeroValue, hi, hz, hx, hn, h63', h48', Question.forced, hf, ho, newRow, grownCap]
 congr 2
 apply Array.ext'
 simp [List.append_assoc]

end

section
variable {P : Program} {w0 : World} {m0 : Nat → Nat} {h0 : Hp} {av0 : Nat → Prop} {s : St} {a : Act} {w : World} {m : Nat → Nat}

theorem aq3 (I : Inv w0 m0 h0 av0 s a w m) {t : TypeId} {ad v : V} {u x : Value} (hu : RV w m s.h (avm av0 m s.h) true u ad) (hx : RV w m s.h (avm av0 m s.h) true x v) {K : Hp → Prop}
   (hq : ks P s.h t ad v K) : ∃ h' w', K h' ∧ (Instr.storeAt t u x).run P w = .ok () w' ∧ Inv w0 m0 h0 av0 { s with h := h' } a w' m := by
 unfold ks at hq
 cases hu with
 | ptr id off cs hid =>
   simp only [hid.1] at hq
   split at hq
   · rename_i ns hns
     split at hq
     · rename_i sz ag hsz
       obtain ⟨h1, h2, hk⟩ := hq
       obtain ⟨g1, g2, g3⟩ := s8 hx hns
       obtain ⟨C, T, fr, hC, hfr, hCl, hCr⟩ := (I.rh.blk id cs hid.1).cells hid.2
       have hrun := aj5 (P := P) (off := off) hsz hC hfr (v := x) (by omega) (by omega) g3
       refine ⟨_, _, hk, hrun, (I.setRow hid hC hfr (by simp; omega) (by simp [ck]; omega) (by simp [ck]; omega) (fun i hi => ?_)).1⟩
       have hsl : (ck cs off ns).length = cs.length := by simp [ck]; omega
       rw [hsl] at hi
       have hl : i < C.size := by omega
       by_cases e1 : i < off
       · have e2 : (ck cs off ns)[i]'(by omega) = cs[i] := by
           simp only [ck]
           rw [List.getElem_append_left (by simp; omega), List.getElem_append_left (by simp; omega), List.getElem_take]
         rw [e2]
         have e3 : (C.toList.take off ++ x.cells.toList ++ C.toList.drop (off + x.cells.size)).toArray.getD i Go.undef = C.getD i Go.undef := by
           simp only [Array.getD_eq_getD_getElem?, List.getElem?_toArray]
           rw [List.getElem?_append_left (by simp; omega), List.getElem?_append_left (by simp; omega), List.getElem?_take_of_lt e1]
           simp
         rw [e3]
         exact hCr i hi
       · by_cases e2 : i < off + ns.length
         · have e3 : (ck cs off ns)[i]'(by omega) = ns[i - off]'(by omega) := by
             simp only [ck]
             rw [List.getElem_append_left (by simp; omega), List.getElem_append_right (by simp; omega)]
             congr 1
             simp; omega
           rw [e3]
           have e4 : (C.toList.take off ++ x.cells.toList ++ C.toList.drop (off + x.cells.size)).toArray.getD i Go.undef = x.cells.getD (i - off) Go.undef := by
             simp only [Array.getD_eq_getD_getElem?, List.getElem?_toArray]
             rw [List.getElem?_append_left (by simp; omega), List.getElem?_append_right (by simp; omega)]
             have : i - (C.toList.take off).length = i - off := by simp; omega
             rw [this]
             simp
           rw [e4]
           exact g2 _ _
         · have e3 : (ck cs off ns)[i]'(by omega) = cs[i] := by
             simp only [ck]
             rw [List.getElem_append_right (by simp; omega), List.getElem_drop]
             congr 1
             simp; omega
           rw [e3]
           have e4 : (C.toList.take off ++ x.cells.toList ++ C.toList.drop (off + x.cells.size)).toArray.getD i Go.undef = C.getD i Go.undef := by
             simp only [Array.getD_eq_getD_getElem?, List.getElem?_toArray]
             rw [List.getElem?_append_right (by simp; omega), List.getElem?_drop]
             have : off + x.cells.size + (i - (C.toList.take off ++ x.cells.toList).length) = i := by simp; omega
             rw [this]
             simp
           rw [e4]
           exact hCr i hi
     · exact hq.elim
   · exact hq.elim
 | _ => exact False.elim hq

theorem ak7 (H : RH w m s.h (avm av0 m s.h)) {y : V} {u : Value} (hy : RV w m s.h (avm av0 m s.h) true u y) {sz : Nat} {no : Option Nat} {K : Nat → List V → Prop} (hq : ma s.h sz no y K) :
   ∃ n cs news, K n cs ∧ (∀ w1 : World, (Builtin.lenOf u).run P w1 = .ok n w1) ∧ (∀ w1 : World, (∀ ad, w1.cell? ad = w.cell? ad) → (Builtin.firstCells sz n u).run P w1 = .ok (List.toArray news) w1) ∧
     news.length = n * sz ∧ cs.length = n * sz ∧ (∀ x ∈ news, x.oneCell' = true) ∧ ∀ i (hi : i < cs.length), RV w m s.h (avm av0 m s.h) true (news.getD i Go.undef) cs[i] := by
 unfold ma at hq
 have key : ∀ (b off n cap : Nat) (cs : List V), cs.length = n * sz → cs.all bq = true → (∀ i (hi : i < cs.length), ∃ v, w.cell? ⟨b, off + i, none⟩ = some v ∧ RV w m s.h (avm av0 m s.h) true v cs[i]) → K n cs →
     ∃ n' cs' news, K n' cs' ∧ (∀ w1 : World, (Builtin.lenOf (.slice (some ⟨b, off, none⟩) n cap)).run P w1 = .ok n' w1) ∧ (∀ w1 : World, (∀ ad, w1.cell? ad = w.cell? ad) → (Builtin.firstCells sz n' (.slice (some ⟨b, off, none⟩) n cap)).run P w1 = .ok (List.toArray news) w1) ∧
     news.length = n' * sz ∧ cs'.length = n' * sz ∧ (∀ x ∈ news, x.oneCell' = true) ∧ ∀ i (hi : i < cs'.length), RV w m s.h (avm av0 m s.h) true (news.getD i Go.undef) cs'[i] := by
   intro b off n cap cs hl hall hc hk
   have hg : ∀ i (hi : i < cs.length), w.cell? ⟨b, off + i, none⟩ = some ((w.cell? ⟨b, off + i, none⟩).getD Go.undef) ∧ RV w m s.h (avm av0 m s.h) true ((w.cell? ⟨b, off + i, none⟩).getD Go.undef) cs[i] := by
     intro i hi
     obtain ⟨v, h1, h2⟩ := hc i hi
     rw [h1]
     exact ⟨rfl, h2⟩
   refine ⟨n, cs, (List.range cs.length).map fun i => (w.cell? ⟨b, off + i, none⟩).getD Go.undef, hk, fun w1 => by simp [Builtin.lenOf], fun w1 hw => ?_, by simp [hl], hl, fun x hx => ?_, fun i hi => ?_⟩
   · refine run_firstCells_some w1 sz n ⟨b, off, none⟩ n cap _ (by simp [hl]) (fun j v hj => ?_)
     have hlt : j < cs.length := by
       have := (List.getElem?_eq_some_iff.1 hj).1
       simpa using this
     rw [List.getElem?_map, List.getElem?_range hlt] at hj
     simp at hj
     rw [hw, Addr.add_lit, ← hj]
     exact (hg j hlt).1
   · obtain ⟨i, hi, rfl⟩ := List.mem_map.1 hx
     have hlt : i < cs.length := by simpa using hi
     exact (ahy (hg i hlt).2 (List.all_eq_true.1 hall _ (List.getElem_mem _))).1
   · have : ((List.range cs.length).map fun i => (w.cell? ⟨b, off + i, none⟩).getD Go.undef).getD i Go.undef = (w.cell? ⟨b, off + i, none⟩).getD Go.undef := by
       simp [List.getD, List.getElem?_range hi]
     rw [this]
     exact (hg i hi).2
 cases hy with
 | sl b off n cap wd cs vals hl ha hc hv hr =>
   obtain ⟨rfl, h2, hk⟩ := hq
   exact key b off n cap cs hl h2 (fun i hi => ⟨_, hv i hi, (hr i hi).rn⟩) hk
 | slz ad c wd =>
   obtain ⟨rfl, h2, hk⟩ := hq
   exact ⟨0, [], [], hk, fun w1 => by simp [Builtin.lenOf], fun w1 _ => nw ad 0 c wd, by simp, by simp, fun x hx => by simp at hx, fun i hi => by simp at hi⟩
 | osl id off n cap wd cs hid hl hc hs =>
   simp only [hid.1] at hq
   obtain ⟨_, rfl, h2, hk⟩ := hq
   refine key (m id) off n cap _ (by simp; omega) h2 (fun i hi => ?_) hk
   have hi' : off + i < cs.length := by simp at hi; omega
   obtain ⟨v, h3, h4⟩ := H.cell hid hi'
   exact ⟨v, h3, by simpa using h4⟩
 | nilsl =>
   exact ⟨0, [], [], hq, fun w1 => by simp [Builtin.lenOf], fun w1 _ => nw none 0 0 sz, by simp, by simp, fun x hx => by simp at hx, fun i hi => by simp at hi⟩
 | _ => exact False.elim hq

theorem wo (x y : List Value) (rest : Array Value) (i : Nat) (hi : i < x.length + y.length) :
   (x.toArray ++ y.toArray ++ rest).getD i Go.undef = if i < x.length then x.getD i Go.undef else y.getD (i - x.length) Go.undef := by
 rw [gj _ _ (by simpa using hi)]
 by_cases h : i < x.length
 · rw [if_pos h, gj _ _ (by simpa using h)]
   simp [Array.getD_eq_getD_getElem?, List.getD]
 · rw [if_neg h, qp _ _ (by simpa using h)]
   simp [Array.getD_eq_getD_getElem?, List.getD]

theorem sa {cs cs2 : List V} {olds news : List Value} (h1 : olds.length = cs.length) (h2 : news.length = cs2.length)
   (r1 : ∀ i (hi : i < cs.length), RV w m s.h (avm av0 m s.h) true (olds.getD i Go.undef) cs[i]) (r2 : ∀ i (hi : i < cs2.length), RV w m s.h (avm av0 m s.h) true (news.getD i Go.undef) cs2[i]) (rest : Array Value) :
   ∀ i (hi : i < (cs ++ cs2).length), RV w m s.h (avm av0 m s.h) true ((olds.toArray ++ news.toArray ++ rest).getD i Go.undef) (cs ++ cs2)[i] := by
 intro i hi
 rw [wo _ _ _ _ (by simp at hi; omega)]
 by_cases h : i < cs.length
 · rw [if_pos (by omega), List.getElem_append_left h]
   exact r1 i h
 · rw [if_neg (by omega), List.getElem_append_right (by omega)]
   have := r2 (i - cs.length) (by simp at hi; omega)
   rw [h1]
   exact this

theorem anu (I : Inv w0 m0 h0 av0 s a w m) {t u ty : TypeId} {x y : V} {xv yv : Value} (hx : RV w m s.h (avm av0 m s.h) true xv x) (hy : RV w m s.h (avm av0 m s.h) true yv y) {K : St → V → Prop}
   (hq : su P s t u x y K) : ∃ s' r v w' m', K s' r ∧ (Builtin.append_ #[t, u] ty #[xv, yv]).run P w = .ok v w' ∧ Inv w0 m0 h0 av0 s' a w' m' ∧ RV w' m' s'.h (avm av0 m' s'.h) true v r := by
 obtain ⟨hsl, hq⟩ := hq
 obtain ⟨eu, hu⟩ := sb hsl
 split at hq
 · rename_i e sz by_ he
   obtain ⟨i, h1, h2, rfl, rfl⟩ := gy he
   split at hq
   · rename_i zs hz
     obtain ⟨i', z, h5, h6, rfl⟩ := jo hz
     rw [h2] at h5; simp at h5; subst h5
     obtain ⟨hzl, hq⟩ := hq
     have hzs : z.cells.size = i.size := by simpa using hzl
     cases hx with
     | nilsl =>
       obtain ⟨n, cs, news, ⟨hpos, hb, h63, hk⟩, hlen, hf, hl1, hl2, hone, hr⟩ := ak7 (P := P) I.rh hy hq
       have hfit : Builtin.nextslicecap (0 + n) 0 * i.bytes ≤ 281474976710656 := by
         rw [Nat.zero_add, nextslicecap_zero hpos]; omega
       have hrun := nt (P := P) (w := w) t u ty e i z eu h1 hu h2 h6 none 0 0 [] yv n news (hlen w) (hf w.drew (fun _ => rfl)) (nw none 0 0 i.size) (by omega) (by omega) hfit
       have ID := I.world (Ext.drew (fun _ => False) w)
       have hstep : ∀ {o : Bool} {v : Value} {x : V}, RV w m s.h (avm av0 m s.h) o v x → RV w.drew m s.h (avm av0 m s.h) o v x :=
         fun hx => RV.step (w := w) (w' := w.drew) (m := m) (m' := m) (h := s.h) (h' := s.h) (av := avm av0 m s.h) (av' := avm av0 m s.h) (fun b off v hb hc => ⟨hb, hc⟩) (fun id c hid => ⟨c, hid, Nat.le_refl _, rfl, Nat.le_refl _, rfl⟩) hx
       obtain ⟨J, _⟩ := ID.alloc (List.toArray [] ++ news.toArray ++ Builtin.zeroCells z.cells (grownCap w (0 + n) 0 e - (0 + n))) e cs (by simp; omega)
         (fun j hj => hstep (by simpa using sa (cs := []) (olds := []) rfl (by omega) (fun i hi => by simp at hi) hr _ j (by simpa using hj)))
       refine ⟨_, _, _, _, _, hk, hrun, J, ?_⟩
       have hmb : gr cs = false := nh (w := w) (C := (List.toArray [] ++ news.toArray ++ #[])) (fun j hj => by simpa using sa (cs := []) (olds := []) rfl (by omega) (fun i hi => by simp at hi) hr #[] j (by simpa using hj))
       have hge := grownCap_ge w (0 + n) 0 e
       have hdrew : w.drew.heap.size = w.heap.size := rfl
       have := RV.osl (w := w.drew.alloc (.cells (List.toArray [] ++ news.toArray ++ Builtin.zeroCells z.cells (grownCap w (0 + n) 0 e - (0 + n))) e)) (m := ew m s.h.length w.drew.heap.size) (h := s.h ++ [some cs])
         (av := avm av0 (ew m s.h.length w.drew.heap.size) (s.h ++ [some cs])) s.h.length 0 n (grownCap w (0 + n) 0 e) i.size cs ⟨by simp, hmb⟩ (by simp [hl2]) (by omega) (by
           rw [ec]
           simp only [cz, heap_alloc_new, Array.size_append, List.size_toArray, List.length_nil, size_zeroCells, hzs, hl1]
           simp only [Nat.zero_add]
           rw [← Nat.add_mul]
           exact Nat.mul_le_mul_right _ (by omega))
       rw [ec] at this
       simpa using this
     | osl id off n cap wd cs hid hl hc hs =>
       simp only [hid.1] at hq
       obtain ⟨rfl, rfl, hlen0, hq⟩ := hq
       obtain ⟨n2, cs2, news, ⟨hk0, hb, h63, hk⟩, hlen, hf, hl1, hl2, hone, hr⟩ := ak7 (P := P) I.rh hy hq
       obtain ⟨C, T, fr, hC, hfr, hCl, hCr⟩ := (I.rh.blk id cs hid.1).cells hid.2
       have hrs : cz w (m id) = C.size := by simp [cz, hC]
       rw [hrs] at hs
       have hkk : h0.length ≤ id ∨ cs.length < (cs ++ cs2).length := by
         rw [← I.k]
         exact hk0.imp (fun h => h) (fun h => by have := List.length_pos_iff.2 h; simp; exact this)
       by_cases hroom : n + n2 ≤ cap
       · have hfit : 0 + n * i.size + news.length ≤ C.size := by
           rw [hl1]
           have : (n + n2) * i.size ≤ cap * i.size := Nat.mul_le_mul_right _ hroom
           rw [Nat.add_mul] at this
           omega
         have hrun := vg (P := P) (w := w) t u ty e i eu h1 hu h2 (m id) 0 n cap C T hC hfr yv n2 news (hlen w) (hf w (fun _ => rfl)) hone hroom hfit
         have hD : (C.toList.take (0 + n * i.size) ++ news ++ C.toList.drop (0 + n * i.size + news.length)).toArray.size = C.size := by simp; omega
         have hrow := sa (w := w) (m := m) (s := s) (av0 := av0) (cs := cs) (cs2 := cs2) (olds := C.toList.take (0 + n * i.size)) (news := news) (by simp; omega) (by omega)
           (fun j hj => by
             have hj' : j < C.size := by omega
             have := hCr j hj
             rw [Array.getD_eq_getD_getElem?] at this
             rw [List.getD, List.getElem?_take_of_lt (by omega), Array.getElem?_toList]
             exact this) hr (C.toList.drop (0 + n * i.size + news.length)).toArray
         obtain ⟨J, _⟩ := I.setRow (cs' := cs ++ cs2) hid hC hfr hD (by simp) (by simp; omega) (fun j hj => by simpa using hrow j hj)
         have hid2 : (s.h.set id (some (cs ++ cs2)))[id]? = some (some (cs ++ cs2)) := by rw [List.getElem?_set_self (dy hid.1)]
         have hmb : gr (cx id (cs ++ cs2)) = false := by rw [cx, du]; exact nh (C := (C.toList.take (0 + n * i.size) ++ news ++ C.toList.drop (0 + n * i.size + news.length)).toArray) (fun j hj => by simpa using hrow j hj)
         have J2 := J.kill hid2
         have hset : ((s.h.set id (some (cs ++ cs2))).map (j0 id)).set id (some (cx id (cs ++ cs2))) = (s.h.map (j0 id)).set id (some (cx id (cs ++ cs2))) := by
           rw [List.map_set, List.set_set]
         have J3 := J2
         simp only [hset] at J3
         refine ⟨_, _, _, _, _, hk, hrun, J3, ?_⟩
         refine .osl id 0 (n + n2) cap i.size (cx id (cs ++ cs2)) ⟨by rw [List.getElem?_set_self (by simpa using dy hid.1)], hmb⟩ (by simp [cx]; rw [hl2, Nat.add_mul]; omega) hroom ?_
         simp only [cz, setRow_heap w (m id) C _ T _ hC]
         omega
       · have hfit : Builtin.nextslicecap (n + n2) cap * i.bytes ≤ 281474976710656 := growslice_fits (by omega) hb
         have holds : (Builtin.firstCells i.size n (.slice (some ⟨m id, 0, none⟩) n cap)).run P w.drew = .ok (C.toList.take (n * i.size)).toArray w.drew := by
           refine run_firstCells_some w.drew i.size n ⟨m id, 0, none⟩ n cap _ (by simp; omega) (fun j v hj => ?_)
           have hlt : j < n * i.size := by
             have := (List.getElem?_eq_some_iff.1 hj).1
             simp at this; omega
           rw [List.getElem?_take_of_lt hlt, Array.getElem?_toList] at hj
           rw [Addr.add_lit, Nat.zero_add]
           exact (cell_of_row w (m id) j C T fr hC).trans hj
         have hrun := nt (P := P) (w := w) t u ty e i z eu h1 hu h2 h6 (some ⟨m id, 0, none⟩) n cap (C.toList.take (n * i.size)) yv n2 news (hlen w) (hf w.drew (fun _ => rfl)) holds (by omega) (by omega) hfit
         have ID := I.world (Ext.drew (fun _ => False) w)
         have hstep : ∀ {o : Bool} {v : Value} {x : V}, RV w m s.h (avm av0 m s.h) o v x → RV w.drew m s.h (avm av0 m s.h) o v x :=
           fun hx => RV.step (w := w) (w' := w.drew) (m := m) (m' := m) (h := s.h) (h' := s.h) (av := avm av0 m s.h) (av' := avm av0 m s.h) (fun b off v hb hc => ⟨hb, hc⟩) (fun id c hid => ⟨c, hid, Nat.le_refl _, rfl, Nat.le_refl _, rfl⟩) hx
         have hrow := sa (w := w) (m := m) (s := s) (av0 := av0) (cs := cs) (cs2 := cs2) (olds := C.toList.take (n * i.size)) (news := news) (by simp; omega) (by omega)
           (fun j hj => by
             have hj' : j < C.size := by omega
             have := hCr j hj
             rw [Array.getD_eq_getD_getElem?] at this
             rw [List.getD, List.getElem?_take_of_lt (by omega), Array.getElem?_toList]
             exact this) hr (Builtin.zeroCells z.cells (grownCap w (n + n2) cap e - (n + n2)))
         have J := ID.move (C := (C.toList.take (n * i.size)).toArray ++ news.toArray ++ Builtin.zeroCells z.cells (grownCap w (n + n2) cap e - (n + n2))) (T := e) (cs' := cs ++ cs2) hid.1 hkk (by simp; omega) (fun j hj => hstep (hrow j hj))
         have hmb : gr (cx id (cs ++ cs2)) = false := by rw [cx, du]; exact nh hrow
         refine ⟨_, _, _, _, _, hk, hrun, J, ?_⟩
         have hge := grownCap_ge w (n + n2) cap e
         have := RV.osl (w := w.drew.alloc (.cells ((C.toList.take (n * i.size)).toArray ++ news.toArray ++ Builtin.zeroCells z.cells (grownCap w (n + n2) cap e - (n + n2))) e)) (m := fun j => if j = id then w.drew.heap.size else m j)
           (h := (s.h.map (j0 id)).set id (some (cx id (cs ++ cs2)))) (av := avm av0 (fun j => if j = id then w.drew.heap.size else m j) ((s.h.map (j0 id)).set id (some (cx id (cs ++ cs2)))))
           id 0 (n + n2) (grownCap w (n + n2) cap e) i.size (cx id (cs ++ cs2)) ⟨by rw [List.getElem?_set_self (by simpa using dy hid.1)], hmb⟩ (by simp [cx]; rw [hl2, Nat.add_mul]; omega) hge (by
             simp only [if_true, cz, heap_alloc_new, Array.size_append, List.size_toArray, List.length_take, Array.length_toList, size_zeroCells, hzs, hl1]
             have e1 : min (n * i.size) C.size = n * i.size := by omega
             rw [e1, ← Nat.add_mul, ← Nat.add_mul, Nat.zero_add]
             exact Nat.mul_le_mul_right _ (by omega))
         simpa using this
     | _ => exact False.elim hq
   · exact hq.elim
 · exact hq.elim

end
end Go.Lv
end
section
open Go.MapKept (IsKey)
namespace Go.Lv

def akm : List Nat := [102, 169, 289, 290]
def aze (ts : Array TypeId) : Bool := match ts.toList with
 | t :: _ => wx akm t
 | [] => false

def akv : List Nat := [272]
def ams : Operand → Bool
 | .func f => wx akv f
 | _ => false

def ef : Op → Bool
 | .call { callee := .value f, argTypes := ts, .. } => !(aze ts || ams f)
 | .store _ _ _ => false
 | .makeMap _ _ => false
 | .mapUpdate _ _ _ _ => false
 | .insert _ _ _ _ => false
 | .call { callee := .builtin .append, .. } => false
 | _ => true

def ua (k v : Value) : Option (Nat × Value) → List (Value × Value) → List (Value × Value)
 | some (i, _), es => es.modify i fun e => (e.1, v)
 | none, es => es ++ [(k, v)]

def aiw (P : Program) (h : Hp) (t : TypeId) (x y v : V) (K : Hp → Prop) : Prop :=
 match x with
 | .mp id => match h[id]? with
   | some (some [.mb es]) => match aeu y, aeu v, mapOf P t with
     | some k, some vl, some (d, _) => wu d k = true ∧ match jr d k es 0 with
       | some r => K (h.set id (some [.mb (ua k vl r es)]))
       | none => False
     | _, _, _ => False
   | _ => False
 | _ => False

def ajo (t : Bool) (A B : Prop) : Prop :=
 match t with
 | true => A
 | false => B
def aia (P : Program) (s : St) (dst : Option Tmp) (sT d : TypeId) (x : V) (K : St → Prop) : Prop :=
 match x with
 | .str b => ajo (si P d) (isStr P sT = true ∧ K (({ s with h := s.h ++ [some (strCells b)] } : St).put dst (.osl s.h.length 0 b.size 1))) (kl P s.h sT d (.str b) fun v => K (s.put dst v))
 | x => kl P s.h sT d x fun v => K (s.put dst v)

def fop (P : Program) (s : St) (o : Oper) (K : St → Prop) : Prop :=
 match o.op with
 | .alloc t => match zeroOf P t with
   | some zs => K (({ s with h := s.h ++ [some zs] } : St).put o.dst (.ptr s.h.length 0))
   | none => False
 | .box _ x => match cellsOf (ev s.t x) with
   | some cs => K (({ s with h := s.h ++ [some cs] } : St).put o.dst (.ptr s.h.length 0))
   | none => False
 | .build t parts => pg P t (parts.toList.map fun p => (p.1, ev s.t p.2)) fun v => K (s.put o.dst v)
 | .buildSlice t n parts => match ij P t with
   | some (e, sz, _) => match zeroOf P e with
     | some _ => match z7 sz 0 (parts.toList.map fun p => (p.1, ev s.t p.2)) with
       | some cs => parts.size = n ∧ n * sz ≤ 16777216 ∧ cs.length = n * sz ∧ K (({ s with h := s.h ++ [some cs] } : St).put o.dst (.osl s.h.length 0 n sz))
       | none => False
     | none => False
   | none => False
 | .makeSlice t l c => ib (ev s.t l) fun _ n => ib (ev s.t c) fun _ n' => n' = n ∧ match ij P t with
   | some (e, sz, by_) => match zeroOf P e with
     | some zs => 0 ≤ n ∧ (by_ : Int) * n ≤ 281474976710656 ∧ n ≤ 9223372036854775807 ∧ K (({ s with h := s.h ++ [some (mo (n.toNat * sz) zs)] } : St).put o.dst (.osl s.h.length 0 n.toNat sz))
     | none => False
   | none => False
 | .store t a x => ks P s.h t (ev s.t a) (ev s.t x) fun h' => K (({ s with h := h' } : St).put o.dst .skip)
 | .makeMap _ none => K (({ s with h := s.h ++ [some [.mb []]] } : St).put o.dst (.mp s.h.length))
 | .mapUpdate t m k v => aiw P s.h t (ev s.t m) (ev s.t k) (ev s.t v) fun h' => K (({ s with h := h' } : St).put o.dst .skip)
 | .insert t m k v => aiw P s.h t (ev s.t m) (ev s.t k) (ev s.t v) fun h' => K (({ s with h := h' } : St).put o.dst .skip)
 | .convert sT d x => aia P s o.dst sT d (ev s.t x) K
 | .call { callee := .builtin .append, args := ⟨[x, y]⟩, argTypes := ⟨[t, u]⟩ } => su P s t u (ev s.t x) (ev s.t y) fun s' r => K (s'.put o.dst r)
 | .call { callee := .value f, args, .. } => u0 P s.h (ev s.t f) (args.toList.map (ev s.t)) (fun r hout => K (oz s o.dst r hout)) ∨ aqt P s o.dst (ev s.t f) (args.toList.map (ev s.t)) K ∨ ao6 P s o.dst (ev s.t f) (args.toList.map (ev s.t)) K ∨ aol P s o.dst (ev s.t f) (args.toList.map (ev s.t)) K
 | op => qop P s.h (ev s.t) op fun v => K (s.put o.dst v)

def gv (ops : Array Oper) (t : List V) (j : Nat) : V :=
 match (ops[j]?).bind (·.dst) with
 | some d => t.getD d .undef
 | none => .undef

def tl (want : Bool) (g : V) (A B : Prop) : Prop :=
 match g with
 | .bool b => (b = want → A) ∧ (b = !want → B)
 | .skip => B
 | _ => False

def gdA (ops : Array Oper) (t : List V) (g : Option (Nat × Bool)) (A B : Prop) : Prop :=
 match g with
 | none => A
 | some (j, want) => tl want (gv ops t j) A B

def fx (P : Program) (ops : Array Oper) : List Oper → St → (St → Prop) → Prop
 | [], s, K => K s
 | o :: rest, s, K => gdA ops s.t o.guard (fop P s o fun s' => fx P ops rest s' K) (fx P ops rest (s.put o.dst .skip) K)

section
variable {P : Program} {w0 : World} {m0 : Nat → Nat} {h0 : Hp} {av0 : Nat → Prop} {s : St} {a : Act} {w : World} {m : Nat → Nat}

theorem eo {o : Oper} {v : Value} {w' : World} {K : Act → World → Prop} {Q : Exit → Act → World → Prop} (hr : (execOp a.eval o).run P w = .ok (.value v) w') (hk : K (a.put o.dst v) w') : o.wp P a w K Q := by
 unfold Oper.wp
 rw [hr]
 exact hk

theorem ady {ρ : Operand → V} (hρ : ∀ x, RV w m s.h (avm av0 m s.h) true (a.eval x) (ρ x)) (xs : Array Operand) :
   (xs.map a.eval).size = (xs.toList.map ρ).length ∧ ∀ i (hi : i < (xs.toList.map ρ).length), RV w m s.h (avm av0 m s.h) true ((xs.map a.eval).getD i Go.undef) (xs.toList.map ρ)[i] :=
 rj hρ xs

theorem al6 (I : Inv w0 m0 h0 av0 s a w m) {ρ : Operand → V} (hρ : ∀ x, RV w m s.h (avm av0 m s.h) true (a.eval x) (ρ x)) {f : Operand} {args : Array Operand} {ts : Array TypeId} {dst : Option Tmp} {ty : TypeId} {pos : String} {after : Array Edge} {gd : Option (Nat × Bool)}
   {K : V → Hp → Prop} (hq : u0 P s.h (ρ f) (args.toList.map ρ) K) {Kc : Act → World → Prop} {Q : Exit → Act → World → Prop}
   (hk : ∀ r hout w' v m' avX, K r hout → Left w0 m0 h0 av0 s a w m w' v r hout m' avX → Kc (a.put dst v) w') :
   (⟨dst, .call { callee := .value f, args, argTypes := ts }, ty, pos, after, gd⟩ : Oper).wp P a w Kc Q := by
 have hrm := ady (s := s) (av0 := av0) hρ args
 obtain ⟨g, first, cap, r, hout, hu, hok, hkk, hcalls⟩ := anm I (hρ f) hrm.1 hrm.2 hq
 unfold Oper.wp
 rw [we hok hu]
 show Calls P g (first ++ args.map a.eval ++ cap) w _
 refine hcalls.mono ?_
 rintro e w' ⟨v, m', avX, rfl, L⟩
 exact hk r hout w' v m' avX hkk L

theorem ahb {C : Array Value} {T : TypeId} {cs : List V} {n sz : Nat} (hmb : gr cs = false) (hC : C.size = n * sz) (hcs : cs.length = n * sz) :
   RV (w.alloc (.cells C T)) (ew m s.h.length w.heap.size) (s.h ++ [some cs]) (avm av0 (ew m s.h.length w.heap.size) (s.h ++ [some cs])) true (.slice (some ⟨w.heap.size, 0, none⟩) n n) (.osl s.h.length 0 n sz) := by
 have := RV.osl (w := w.alloc (.cells C T)) (m := ew m s.h.length w.heap.size) (h := s.h ++ [some cs]) (av := avm av0 (ew m s.h.length w.heap.size) (s.h ++ [some cs])) s.h.length 0 n n sz cs ⟨by simp, hmb⟩ (by omega) (Nat.le_refl _) (by
   rw [ec]
   simp only [cz, heap_alloc_new]
   omega)
 rw [ec] at this
 exact this

theorem amh {C : Array Value} {T : TypeId} {cs : List V} (hmb : gr cs = false) :
   RV (w.alloc (.cells C T)) (ew m s.h.length w.heap.size) (s.h ++ [some cs]) (avm av0 (ew m s.h.length w.heap.size) (s.h ++ [some cs])) true (.pointer (some ⟨w.heap.size, 0, none⟩)) (.ptr s.h.length 0) := by
 have := RV.ptr (w := w.alloc (.cells C T)) (m := ew m s.h.length w.heap.size) (h := s.h ++ [some cs]) (av := avm av0 (ew m s.h.length w.heap.size) (s.h ++ [some cs])) s.h.length 0 cs ⟨by simp, hmb⟩
 rw [ec] at this
 exact this

theorem Inv.av3 (I : Inv w0 m0 h0 av0 s a w m) :
   Inv w0 m0 h0 av0 { s with h := s.h ++ [some [.mb []]] } a (w.alloc (.map #[] 0)) (ew m s.h.length w.heap.size) := by
 have hE : Ext (fun _ => False) w (w.alloc (.map #[] 0)) := Ext.alloc _ w _
 have hid0 : ∀ id c, s.h[id]? = some (some c) → ew m s.h.length w.heap.size id = m id := fun id c hid => ai8 (dy hid)
 have hown : ∀ b, own (ew m s.h.length w.heap.size) (s.h ++ [some [.mb []]]) b → own m s.h b ∨ b = w.heap.size := by
   rintro b ⟨id, c, h1, rfl⟩
   rcases nb h1 with h1 | ⟨rfl, _⟩
   · exact .inl ⟨id, c, h1, (hid0 id c h1).symm⟩
   · exact .inr ec
 have hav : ∀ b, b < w.heap.size → avm av0 (ew m s.h.length w.heap.size) (s.h ++ [some [.mb []]]) b → avm av0 m s.h b := by
   rintro b hb (h1 | h1)
   · exact .inl h1
   · rcases hown b h1 with h2 | h2
     · exact .inr h2
     · omega
 have hold : ∀ id c, s.h[id]? = some (some c) → (s.h ++ [some [.mb []]])[id]? = some (some c) := fun id c hid => by rw [List.getElem?_append_left (dy hid)]; exact hid
 have hstep : ∀ {o : Bool} {v : Value} {x : V}, RV w m s.h (avm av0 m s.h) o v x → RV (w.alloc (.map #[] 0)) (ew m s.h.length w.heap.size) (s.h ++ [some [.mb []]]) (avm av0 (ew m s.h.length w.heap.size) (s.h ++ [some [.mb []]])) o v x :=
   fun hx => hx.step (fun b off v hb hcell => ⟨fun h => hb (hav b (World.block_lt_of_cell? w _ hcell) h), hE.cell hcell (fun h => h)⟩)
     (fun id c hid => ⟨c, hold id c hid, Nat.le_refl _, hid0 id c hid, hE.row _ (I.rh.lt hid), rfl⟩)
 refine ⟨⟨?_, ?_, ?_⟩, I.size, fun i hi => hstep (I.slots i hi), I.defers, I.ext.trans' hE (fun _ _ h => h.elim), ?_, I.lt, I.lent, I.gl, I.k, by simp; have := I.len; omega⟩
 · intro i j ci cj h1 h2 he
   rcases nb h1 with h1 | ⟨rfl, _⟩ <;> rcases nb h2 with h2 | ⟨rfl, _⟩
   · rw [hid0 i ci h1, hid0 j cj h2] at he
     exact I.rh.inj i j ci cj h1 h2 he
   · rw [hid0 i ci h1, ec] at he
     have := I.rh.lt h1; omega
   · rw [hid0 j cj h2, ec] at he
     have := I.rh.lt h2; omega
   · rfl
 · intro id c h1
   exact .inr ⟨id, c, h1, rfl⟩
 · intro id c h1
   rcases nb h1 with h1 | ⟨rfl, h3⟩
   · rw [hid0 id c h1]
     exact (I.rh.blk id c h1).step (hE.block _ (I.rh.lt h1) (fun h => h)) (fun v x => hstep)
   · simp at h3; subst h3
     refine .inr ⟨#[], 0, [], ?_, rfl, rfl⟩
     rw [ec]
     exact heap_alloc_new w _
 · intro id c h1
   rcases nb h1 with h1 | ⟨rfl, _⟩
   · rw [hid0 id c h1]
     exact I.ids id c h1
   · exact .inr ⟨I.len, by rw [ec]; exact I.ext.size⟩

theorem am4 {w : World} {r : Nat} {o o' : Obj} (hb : w.heap[r]? = some o) : (w.heap.setIfInBounds r o')[r]? = some o' ∧ ∀ r', r' ≠ r → (w.heap.setIfInBounds r o')[r']? = w.heap[r']? := by
 have hlt : r < w.heap.size := (Array.getElem?_eq_some_iff.1 hb).1
 exact ⟨by simp [hlt], fun r' hne => by simp [Ne.symm hne]⟩

theorem Inv.ao2 (I : Inv w0 m0 h0 av0 s a w m) {id : Nat} {es es' : List (Value × Value)} {E E' : Array MapEntry} {c c' : Nat} (hid : s.h[id]? = some (some [.mb es]))
   (hb : w.heap[m id]? = some (.map E c)) (he : es' = E'.toList.map fun e => (e.key, e.val)) :
   Inv w0 m0 h0 av0 { s with h := s.h.set id (some [.mb es']) } a { w with heap := w.heap.setIfInBounds (m id) (.map E' c') } m := by
 obtain ⟨g1, g2⟩ := am4 (o' := .map E' c') hb
 have hown : ∀ b, own m (s.h.set id (some [.mb es'])) b → own m s.h b := by
   rintro b ⟨j, c, h1, rfl⟩
   rcases mj hid h1 with ⟨rfl, _⟩ | ⟨_, h2⟩
   · exact ⟨j, _, hid, rfl⟩
   · exact ⟨j, c, h2, rfl⟩
 have hav : ∀ b, avm av0 m (s.h.set id (some [.mb es'])) b → avm av0 m s.h b := fun b hb => hb.imp (fun x => x) (hown b)
 have hE : Ext (own m s.h) w { w with heap := w.heap.setIfInBounds (m id) (.map E' c') } := by
   refine ⟨rfl, rfl, rfl, by simp, fun k _ hn => g2 k (fun e => hn (e ▸ ⟨id, _, hid, rfl⟩)), fun k _ => ?_⟩
   by_cases e : k = m id
   · exact Nat.le_trans (Nat.le_of_eq (show cz w k = 0 by rw [e]; simp [cz, hb])) (Nat.zero_le _)
   · exact Nat.le_of_eq (gk (g2 k e)).symm
 have hstep : ∀ {o : Bool} {v : Value} {x : V}, RV w m s.h (avm av0 m s.h) o v x → RV { w with heap := w.heap.setIfInBounds (m id) (.map E' c') } m (s.h.set id (some [.mb es'])) (avm av0 m (s.h.set id (some [.mb es']))) o v x :=
   fun hx => hx.step (fun b off v hb hc => ⟨fun h => hb (hav b h), hE.cell hc (fun h => hb (.inr h))⟩) (fun j c hj => by
     by_cases e : j = id
     · subst e
       rw [hid] at hj
       simp at hj; subst hj
       exact ⟨[.mb es'], by rw [List.getElem?_set_self (dy hid)], Nat.le_refl _, rfl, hE.row _ (I.rh.lt hid), rfl⟩
     · exact ⟨c, by rw [List.getElem?_set_ne (Ne.symm e)]; exact hj, Nat.le_refl _, rfl, hE.row _ (I.rh.lt hj), rfl⟩)
 refine ⟨⟨?_, ?_, ?_⟩, I.size, fun i hi => hstep (I.slots i hi), I.defers, I.ext.trans' hE ?_, ?_, I.lt, I.lent, I.gl, I.k, by simpa using I.len⟩
 · intro i j ci cj h1 h2 he
   have g : ∀ (i : Nat) (ci : List V), (s.h.set id (some [.mb es']))[i]? = some (some ci) → ∃ c, s.h[i]? = some (some c) := by
     intro i ci h1
     rcases mj hid h1 with ⟨rfl, _⟩ | ⟨_, h2⟩
     · exact ⟨_, hid⟩
     · exact ⟨ci, h2⟩
   obtain ⟨c1, g1⟩ := g i ci h1
   obtain ⟨c2, g2⟩ := g j cj h2
   exact I.rh.inj i j c1 c2 g1 g2 he
 · intro j c h1
   exact .inr ⟨j, c, h1, rfl⟩
 · intro j c h1
   rcases mj hid h1 with ⟨rfl, rfl⟩ | ⟨e, h2⟩
   · exact .inr ⟨E', c', es', g1, rfl, he⟩
   · exact (I.rh.blk j c h2).step (g2 (m j) (fun e2 => e (I.rh.inj j id c _ h2 hid e2))) (fun v x => hstep)
 · rintro b hb ⟨j, c, h1, rfl⟩
   rcases I.ids j c h1 with ⟨h2, c0, h4, _, h3 | ⟨_, h3⟩⟩ | ⟨h2, h3⟩
   · exact ⟨j, c0, h4, h3.symm⟩
   · omega
   · omega
 · intro j c h1
   rcases mj hid h1 with ⟨rfl, rfl⟩ | ⟨_, h2⟩
   · have := I.ids j [.mb es] hid
     exact this
   · exact I.ids j c h2

theorem alc {d : TypeDesc} {a b : Value} (hk : wu d a = true) (h : Instr.sameNow d a b = some true) : a = b := by
 cases d <;> cases a <;> simp [wu] at hk <;> cases b <;> simp [Instr.sameNow] at h
 · obtain ⟨rfl, rfl⟩ := h; rfl
 · rw [(MapKept.bytes_beq _ _).1 h]

theorem ac3 {d : TypeDesc} {k : Value} (hk : wu d k = true) : ∀ (l : List MapEntry) (i j : Nat) (v : Value), Instr.findNow d k l i = some (some (j, v)) → ∃ q e, j = i + q ∧ l[q]? = some e ∧ e.key = k
 | [], _, _, _, h => by simp [Instr.findNow] at h
 | e :: l, i, j, v, h => by
   simp only [Instr.findNow] at h
   split at h
   · rename_i h1
     simp at h
     exact ⟨0, e, by omega, rfl, (alc hk h1).symm⟩
   · obtain ⟨q, e', h1, h2, h3⟩ := ac3 hk l (i + 1) j v h
     exact ⟨q + 1, e', by omega, by simpa using h2, h3⟩
   · cases h

theorem aom (I : Inv w0 m0 h0 av0 s a w m) {t : TypeId} {x y v : V} {xv yv vv : Value} (hx : RV w m s.h (avm av0 m s.h) true xv x) (hy : RV w m s.h (avm av0 m s.h) true yv y) (hv : RV w m s.h (avm av0 m s.h) true vv v) {K : Hp → Prop}
   (hq : aiw P s.h t x y v K) : ∃ h' w', K h' ∧ (Instr.mapUpdate t xv yv vv).run P w = .ok () w' ∧ Inv w0 m0 h0 av0 { s with h := h' } a w' m := by
 unfold aiw at hq
 split at hq
 · rename_i id
   split at hq
   · rename_i es hid
     obtain ⟨rfl, E, c, hb, he⟩ := aok I.rh hx hid
     split at hq
     · rename_i k vl d z hk hvl hm
       obtain ⟨hko, hq⟩ := hq
       have e1 := agj hy hk
       have e2 := agj hv hvl
       subst e1 e2
       obtain ⟨kt, e, i, zv, h1, h2, h3, h4, rfl⟩ := adw hm
       have hkey := ae9 hko
       have hck := MapKept.run_checkKey (P := P) (w := w) h2 hkey false 9999
       split at hq
       · rename_i r hf
         rw [he, ← s4] at hf
         have hfk := MapKept.run_findKey (P := P) (w := w) h2 hf
         cases r with
         | none =>
           refine ⟨_, _, hq, ?_, I.ao2 (E' := E.push { key := yv, val := vv, born := c }) (c' := c + 1) hid hb ?_⟩
           · simp [Instr.mapUpdate, run_underlying h1, MapKept.run_getObj_map hb, hck, hfk, MapKept.run_setObj_map _ hb]
           · simp [ua, he]
         | some p =>
           obtain ⟨j, val⟩ := p
           obtain ⟨q, en, hj, hq2, hen⟩ := ac3 hko _ _ _ _ hf
           rw [Nat.zero_add] at hj
           subst hj
           have hEj : E[j]? = some en := by simpa using hq2
           have hst := MapKept.run_keyThatStays (P := P) (w := w) hkey
           refine ⟨_, _, hq, ?_, I.ao2 (E' := E.modify j fun e => { e with key := yv, val := vv }) (c' := c) hid hb ?_⟩
           · simp [Instr.mapUpdate, run_underlying h1, MapKept.run_getObj_map hb, hck, hfk, hEj, hen, hst, MapKept.run_setObj_map _ hb]
           · simp only [ua, he, Array.toList_modify]
             apply List.ext_getElem?
             intro n
             simp only [List.getElem?_map, List.getElem?_modify]
             by_cases hn : j = n
             · subst hn
               rw [hq2]
               simp [hen]
             · cases E.toList[n]? <;> simp [hn]
       · exact hq.elim
     · exact hq.elim
   · exact hq.elim
 · exact hq.elim

theorem qq (w : World) (sT d e : TypeId) (hd : P.underlying d = some (.slice e)) (he : P.underlying e = some (.int .u8)) (hs : P.underlying sT = some .string) (b : ByteArray) :
   ∃ C : Array Value, C.size = grownCap w b.size 0 e ∧ (∀ i (hi : i < (strCells b).length), C.getD i Go.undef = .int .u8 ((b.data.toList.getD i 0).toNat)) ∧
     (convert sT d (.string b)).run P w = .ok (.slice (some ⟨w.heap.size, 0, none⟩) b.size (grownCap w b.size 0 e)) (w.drew.alloc (.cells C e (C.size, C.size + 1))) := by
 have hge := grownCap_ge w b.size 0 e
 refine ⟨(b.data.map fun c => Value.int .u8 c.toNat) ++ Array.replicate (grownCap w b.size 0 e - b.size) (.int .u8 0), ?_, ?_, ?_⟩
 · simp only [Array.size_append, Array.size_map, Array.size_replicate]
   have : b.data.size = b.size := rfl
   omega
 · intro i hi
   have hi' : i < b.data.size := by simpa [strCells] using hi
   have hi2 : i < b.size := hi'
   rw [gj _ _ (by simpa using hi')]
   simp [Array.getD, hi2, List.getD]
 · have hC : ∀ C : Array Value, (w.drew.alloc (.cells C e)).freeze ⟨w.heap.size, C.size, none⟩ 1 = w.drew.alloc (.cells C e (C.size, C.size + 1)) := by
     intro C
     simp only [World.freeze, World.alloc]
     rw [if_neg (by decide)]
     congr 1
     have hd : w.drew.heap = w.heap := rfl
     rw [hd]
     apply Array.ext
     · simp
     · intro i h1 h2
       simp only [Array.getElem_modify]
       by_cases hi : w.heap.size = i
       · subst hi
         simp
       · rw [if_neg hi]
         have : i < w.heap.size := by simp at h2; omega
         simp [Array.getElem_push, this]
   have hsh : ∀ C : Array Value, (w.drew.alloc (.cells C e)).shape? w.heap.size = some (e, C.size) := by
     intro C
     have := heap_alloc_new w.drew (.cells C e)
     have hd : w.drew.heap.size = w.heap.size := rfl
     rw [hd] at this
     unfold World.shape?
     rw [this]
   have hcv : (convert sT d (.string b)).run P w = (Conv.stringToBytes e b).run P w := by
     simp [convert, run_underlying hs, run_underlying hd, run_underlying he]
   rw [hcv]
   have hd : w.drew.heap.size = w.heap.size := rfl
   have hnew : ∀ (W : World) (C : Array Value), W.heap.size = w.heap.size → (newObj (.cells C e)).run P W = .ok w.heap.size (W.alloc (.cells C e)) := by
     intro W C h
     rw [← h]
     rfl
   have hfr : (choose (.appendCap b.size 0 e)).run P w = Result.ok (grownCap w b.size 0 e) w.drew := by
     rw [run_choose]
     rfl
   simp only [Conv.stringToBytes, Sem.run_bind, Sem.run_pure, Result.andThen_ok, newRow, markStringish, run_freeze, run_shape]
   rw [hfr]
   simp only [Result.andThen_ok, hnew w.drew _ hd, hsh, run_freeze, hC]

theorem ap7 (I : Inv w0 m0 h0 av0 s a w m) {dst : Option Tmp} {sT d : TypeId} {x : V} {u : Value} (hx : RV w m s.h (avm av0 m s.h) true u x) {K : St → Prop} (hq : aia P s dst sT d x K) :
   ∃ s' v w' m', K s' ∧ (convert sT d u).run P w = .ok v w' ∧ Inv w0 m0 h0 av0 s' (a.put dst v) w' m' := by
 have quiet : ∀ {x : V} {u : Value}, RV w m s.h (avm av0 m s.h) true u x → (kl P s.h sT d x fun v => K (s.put dst v)) → ∃ s' v w' m', K s' ∧ (convert sT d u).run P w = .ok v w' ∧ Inv w0 m0 h0 av0 s' (a.put dst v) w' m' := by
   intro x u hx hq
   obtain ⟨v, y, h1, h2, h3⟩ := aih (P := P) I.rh hx hq
   exact ⟨_, v, w, m, h1, h3, I.put h2⟩
 cases hx with
 | str b =>
   change ajo (si P d) _ _ at hq
   generalize hu : si P d = t at hq
   cases t with
   | false => exact quiet (.str b) hq
   | true =>
     obtain ⟨hs, hq⟩ := hq
     obtain ⟨e, g1, g2⟩ := xj hu
     obtain ⟨C, hC1, hC2, hrun⟩ := qq (P := P) w sT d e g1 g2 (jn hs) b
     have hge := grownCap_ge w b.size 0 e
     have hl : (strCells b).length = b.size := by simp [strCells]
     have ID := I.world (Ext.drew (fun _ => False) w)
     have hrow : ∀ i (hi : i < (strCells b).length), RV w.drew m s.h (avm av0 m s.h) true (C.getD i Go.undef) (strCells b)[i] := by
       intro i hi
       rw [hC2 i hi]
       have hi' : i < b.data.toList.length := by simpa [strCells] using hi
       have hi2 : i < b.size := by simpa using hi'
       have : (strCells b)[i] = .int .u8 ((b.data.toList.getD i 0).toNat) := by simp [strCells, List.getD, hi2]
       rw [this]
       exact .int _ _
     obtain ⟨J, _⟩ := ID.aqj (C.size, C.size + 1) C e (strCells b) (.inr (Nat.le_refl _)) (by omega) hrow
     refine ⟨_, _, _, _, hq, hrun, J.put ?_⟩
     have hdrew : w.drew.heap.size = w.heap.size := rfl
     have := RV.osl (w := w.drew.alloc (.cells C e (C.size, C.size + 1))) (m := ew m s.h.length w.drew.heap.size) (h := s.h ++ [some (strCells b)])
       (av := avm av0 (ew m s.h.length w.drew.heap.size) (s.h ++ [some (strCells b)])) s.h.length 0 b.size (grownCap w b.size 0 e) 1 (strCells b) ⟨by simp, nh hrow⟩ (by omega) hge (by
         rw [ec]
         simp only [cz, heap_alloc_new]
         omega)
     rw [ec] at this
     exact this
 | undef => exact quiet (.undef _) hq
 | skip => exact quiet .skip hq
 | bool b => exact quiet (.bool b) hq
 | int k n => exact quiet (.int k n) hq
 | osl id off n cap wd cs hid hl hc hs => exact quiet (.osl id off n cap wd cs hid hl hc hs) hq
 | nilsl => exact quiet .nilsl hq
 | _ => exact hq.2.elim

theorem acq (I : Inv w0 m0 h0 av0 s a w m) {o : Oper} {K : St → Prop} (hq : fop P s o K) {Kc : Act → World → Prop} {Q : Exit → Act → World → Prop}
   (hk : ∀ s' a' w' m', K s' → Inv w0 m0 h0 av0 s' a' w' m' → Kc a' w') : o.wp P a w Kc Q := by
 obtain ⟨dst, op, ty, pos, after, guard⟩ := o
 unfold fop at hq
 dsimp only at hq
 split at hq
 · rename_i t
   split at hq
   · rename_i zs hz
     obtain ⟨i, z, h1, h2, rfl⟩ := jo hz
     have hrow := zh (w := w) (m := m) (h := s.h) (av := avm av0 m s.h) z.cells
     obtain ⟨J, _⟩ := I.alloc z.cells t _ (Nat.le_of_eq hrow.1.symm) hrow.2
     refine eo (v := .pointer (some ⟨w.heap.size, 0, none⟩)) (w' := w.alloc (.cells z.cells t)) (by simp [execOp, Instr.alloc, zeroValue, typeInfo, h1, h2, newVar, newRow]) (hk _ _ _ _ hq (J.put (amh (nh hrow.2))))
   · exact hq.elim
 · rename_i t x
   split at hq
   · rename_i cs hcs
     obtain ⟨g1, g2, g3⟩ := s8 (I.ev x) hcs
     obtain ⟨J, _⟩ := I.alloc (a.eval x).cells t cs (Nat.le_of_eq g1.symm) g2
     refine eo (v := .pointer (some ⟨w.heap.size, 0, none⟩)) (w' := w.alloc (.cells (a.eval x).cells t)) (by simp [execOp, Instr.box, newVar, newRow]) (hk _ _ _ _ hq (J.put (amh (nh g2))))
   · exact hq.elim
 · rename_i t parts
   obtain ⟨v, x, h1, h2, h3⟩ := aii (P := P) I.ev hq
   exact eo (v := v) (w' := w) (by simp [execOp, h3]) (hk _ _ _ _ h1 (I.put h2))
 · rename_i t n parts
   split at hq
   · rename_i e sz by_ he
     split at hq
     · rename_i zs hz
       split at hq
       · rename_i cs hs
         obtain ⟨h1, h2, h3, hq⟩ := hq
         obtain ⟨D, hD, hrun⟩ := rp (P := P) I.ev he hz h1 h2 hs
         obtain ⟨J, _⟩ := I.alloc D e cs (Nat.le_of_eq hD.1.symm) hD.2
         exact eo (v := .slice (some ⟨w.heap.size, 0, none⟩) n n) (w' := w.alloc (.cells D e)) (by simp [execOp, hrun]) (hk _ _ _ _ hq (J.put (ahb (nh hD.2) (by rw [hD.1, h3]) h3)))
       · exact hq.elim
     · exact hq.elim
   · exact hq.elim
 · rename_i t l c
   obtain ⟨k, n, h1, _, hq⟩ := kx (I.ev l) hq
   obtain ⟨k', n', h2, _, hq⟩ := kx (I.ev c) hq
   obtain ⟨rfl, hq⟩ := hq
   split at hq
   · rename_i e sz by_ he
     split at hq
     · rename_i zs hz
       obtain ⟨g1, g2, g3, hq⟩ := hq
       obtain ⟨D, hD, hrun⟩ := y2 (P := P) (w := w) (m := m) (h := s.h) (av := avm av0 m s.h) he hz (k := k) (k' := k') g1 g2 g3
       obtain ⟨J, _⟩ := I.alloc D e _ (Nat.le_of_eq hD.1.symm) hD.2
       have hl : (mo (n'.toNat * sz) zs).length = n'.toNat * sz := by simp [mo]
       exact eo (v := .slice (some ⟨w.heap.size, 0, none⟩) n'.toNat n'.toNat) (w' := w.alloc (.cells D e)) (by simp [execOp, h1, h2, hrun]) (hk _ _ _ _ hq (J.put (ahb (nh hD.2) (by rw [hD.1, hl]) hl)))
     · exact hq.elim
   · exact hq.elim
 · rename_i t ad x
   obtain ⟨h', w', h1, h2, h3⟩ := aq3 (P := P) I (I.ev ad) (I.ev x) hq
   unfold Oper.wp
   have hrun : (execOp a.eval ⟨dst, .store t ad x, ty, pos, after, guard⟩).run P w = .ok .skip w' := by simp [execOp, h2]
   rw [hrun]
   exact hk _ _ _ _ h1 (h3.put .skip)
 · rename_i t
   have J := I.av3
   have hr : RV (w.alloc (.map #[] 0)) (ew m s.h.length w.heap.size) (s.h ++ [some [.mb []]]) (avm av0 (ew m s.h.length w.heap.size) (s.h ++ [some [.mb []]])) true (.map (some w.heap.size)) (.mp s.h.length) := by
     have := RV.mp (w := w.alloc (.map #[] 0)) (m := ew m s.h.length w.heap.size) (h := s.h ++ [some [.mb []]]) (av := avm av0 (ew m s.h.length w.heap.size) (s.h ++ [some [.mb []]])) s.h.length [.mb []] (by simp) rfl
     rwa [ec] at this
   exact eo (v := .map (some w.heap.size)) (w' := w.alloc (.map #[] 0)) (by simp [execOp]; rfl) (hk _ _ _ _ hq (J.put hr))
 · rename_i t x y v
   obtain ⟨h', w', h1, h2, h3⟩ := aom (P := P) I (I.ev x) (I.ev y) (I.ev v) hq
   unfold Oper.wp
   have hrun : (execOp a.eval ⟨dst, .mapUpdate t x y v, ty, pos, after, guard⟩).run P w = .ok .skip w' := by simp [execOp, h2]
   rw [hrun]
   exact hk _ _ _ _ h1 (h3.put .skip)
 · rename_i t x y v
   obtain ⟨h', w', h1, h2, h3⟩ := aom (P := P) I (I.ev x) (I.ev y) (I.ev v) hq
   unfold Oper.wp
   have hrun : (execOp a.eval ⟨dst, .insert t x y v, ty, pos, after, guard⟩).run P w = .ok .skip w' := by simp [execOp, h2]
   rw [hrun]
   exact hk _ _ _ _ h1 (h3.put .skip)
 · rename_i sT d x
   obtain ⟨s', v, w', m', h1, h2, h3⟩ := ap7 (P := P) I (dst := dst) (I.ev x) hq
   exact eo (v := v) (w' := w') (by simp [execOp, h2]) (hk _ _ _ _ h1 h3)
 · rename_i x y t u
   obtain ⟨s', r, v, w', m', h1, h2, h3, h4⟩ := anu (P := P) (ty := ty) I (I.ev x) (I.ev y) hq
   exact eo (v := v) (w' := w') (by simp [execOp, resolve, invoke, builtin, h2]) (hk _ _ _ _ h1 (h3.put h4))
 · rename_i f args ts
   rcases hq with hq | hq
   · exact al6 I I.ev hq (fun r hout w' v m' avX h1 L => hk _ _ _ _ h1 (L.full dst))
   · have hrm := ady (s := s) (av0 := av0) I.ev args
     rcases hq with hq | hq | hq
     · obtain ⟨g, first, cap, s', hu, hok, hkk, hcalls⟩ := ap0 I (dst := dst) (I.ev f) hrm.1 hrm.2 hq
       unfold Oper.wp
       rw [we hok hu]
       show Calls P g (first ++ args.map a.eval ++ cap) w _
       refine hcalls.mono ?_
       rintro e w' ⟨v, m', rfl, J⟩
       exact hk s' _ w' m' hkk J
     · obtain ⟨g, first, cap, s', hu, hok, hkk, hcalls⟩ := aqx I (dst := dst) (I.ev f) hrm.1 hrm.2 hq
       unfold Oper.wp
       rw [we hok hu]
       show Calls P g (first ++ args.map a.eval ++ cap) w _
       refine hcalls.mono ?_
       rintro e w' ⟨v, m', rfl, J⟩
       exact hk s' _ w' m' hkk J
     · obtain ⟨g, first, cap, hu, hok, hcalls⟩ := aqy I (dst := dst) (I.ev f) hrm.1 hrm.2 hq
       unfold Oper.wp
       rw [we hok hu]
       show Calls P g (first ++ args.map a.eval ++ cap) w _
       refine hcalls.mono ?_
       rintro e w' ⟨v, m', s', rfl, hkk, J⟩
       exact hk s' _ w' m' hkk J
 · obtain ⟨v, x, h1, h2, h3⟩ := ak8 (P := P) I.rh I.ev (⟨dst, op, ty, pos, after, guard⟩ : Oper) hq
   exact eo h3 (hk _ _ _ _ h1 (I.put h2))

theorem a26 (I : Inv w0 m0 h0 av0 s a w m) {ops : Array Oper} {j : Nat} :
   (∀ b, gv ops s.t j = .bool b → yielded ops a.tmps j = some b) ∧ (gv ops s.t j = .skip → yielded ops a.tmps j = none) := by
 unfold gv yielded
 cases hd : (ops[j]?).bind (·.dst) with
 | none => simp
 | some d =>
   simp only [Option.bind_some]
   by_cases hlt : d < s.t.length
   · have hs := I.slots d hlt
     have e1 : s.t.getD d .undef = s.t[d] := by simp [List.getD, hlt]
     have hlt' : d < a.tmps.size := by rw [I.size]; exact hlt
     have e2 : a.tmps[d]? = some (a.tmps.getD d Go.undef) := by simp [Array.getD, hlt']
     rw [e1, e2]
     generalize a.tmps.getD d Go.undef = v at hs
     generalize s.t[d] = x at hs
     constructor
     · rintro b rfl
       cases hs; rfl
     · rintro rfl
       cases hs; rfl
   · have e1 : s.t.getD d .undef = .undef := by simp [List.getD, List.getElem?_eq_none (Nat.le_of_not_lt hlt)]
     rw [e1]
     exact ⟨(fun b h => by cases h), (fun h => by cases h)⟩

theorem mn (I : Inv w0 m0 h0 av0 s a w m) {ops : Array Oper} {o : Oper} {A B : Prop} (hq : gdA ops s.t o.guard A B) :
   (Region.wanted o (yielded ops a.tmps) = true ∧ A) ∨ (Region.wanted o (yielded ops a.tmps) = false ∧ B) := by
 unfold gdA at hq
 unfold Region.wanted
 cases hg : o.guard with
 | none => rw [hg] at hq; exact .inl ⟨rfl, hq⟩
 | some jw =>
   obtain ⟨j, want⟩ := jw
   rw [hg] at hq
   dsimp only at hq ⊢
   have hy := a26 I (ops := ops) (j := j)
   unfold tl at hq
   split at hq
   · rename_i b hb
     rw [hy.1 b hb]
     by_cases e : b = want
     · exact .inl ⟨by simp [e], hq.1 e⟩
     · exact .inr ⟨by simp [e], hq.2 (by cases b <;> cases want <;> simp_all)⟩
   · rename_i hb
     rw [hy.2 hb]
     exact .inr ⟨by simp, hq⟩
   · exact hq.elim

theorem ajr {ops : Array Oper} {Q : Exit → Act → World → Prop} {K : St → Prop} (hk : ∀ s' a' w' m', K s' → Inv w0 m0 h0 av0 s' a' w' m' → Q .normal a' w') :
   ∀ (l : List Oper) (s : St) (a : Act) (w : World) (m : Nat → Nat), Inv w0 m0 h0 av0 s a w m → fx P ops l s K → wpList P ops Q l a w
 | [], s, a, w, m, I, hq => hk s a w m hq I
 | o :: rest, s, a, w, m, I, hq => by
   have ih := ajr (ops := ops) (Q := Q) hk rest
   unfold wpList
   rcases mn I hq with ⟨h1, h2⟩ | ⟨h1, h2⟩
   · rw [if_pos h1]
     exact .inl (acq I h2 (fun s' a' w' m' h3 h4 => ih s' a' w' m' h4 h3))
   · rw [if_neg (by simp [h1])]
     exact ih _ _ w m (I.put .skip) h2

end
end Go.Lv
end
section
namespace Go.Lv

def rl (p : Nat → Bool) : Nat → V → Bool
 | _, .osl id _ _ _ => p id
 | _, .ptr id _ => p id
 | _, .mp _ => false
 | d + 1, .agg cs => cs.all (rl p d)
 | d + 1, .tup cs => cs.all (rl p d)
 | d + 1, .fn _ a c => a.all (rl p d) && c.all (rl p d)
 | 0, .agg _ => false
 | 0, .tup _ => false
 | 0, .fn _ _ _ => false
 | _, _ => true
def alf (h : Hp) : Nat → Nat → Bool
 | 0, _ => false
 | n + 1, id => match h[id]? with
   | some (some cs) => cs.all (rl (alf h n) 2)
   | _ => false
def n6 (h : Hp) (d : Nat) (v : V) : Bool := rl (alf h 3) d v

def aph (P : Program) (h : Hp) (sT d : TypeId) (x : V) (K : V → Hp → Prop) : Prop :=
 match x with
 | .str b => ajo (si P d) (isStr P sT = true ∧ K (.osl h.length 0 b.size 1) [some (strCells b)]) (kl P h sT d (.str b) fun v => K v [])
 | x => kl P h sT d x fun v => K v []
def gop (P : Program) (h : Hp) (ρ : Operand → V) (op : Op) (K : V → Hp → Prop) : Prop :=
 match op with
 | .alloc t => match zeroOf P t with
   | some zs => K (.ptr h.length 0) [some zs]
   | none => False
 | .box _ x => match cellsOf (ρ x) with
   | some cs => K (.ptr h.length 0) [some cs]
   | none => False
 | .build t parts => pg P t (parts.toList.map fun p => (p.1, ρ p.2)) fun v => K v []
 | .buildSlice t n parts => match ij P t with
   | some (e, sz, _) => match zeroOf P e with
     | some _ => match z7 sz 0 (parts.toList.map fun p => (p.1, ρ p.2)) with
       | some cs => parts.size = n ∧ n * sz ≤ 16777216 ∧ cs.length = n * sz ∧ K (.osl h.length 0 n sz) [some cs]
       | none => False
     | none => False
   | none => False
 | .makeSlice t l c => ib (ρ l) fun _ n => ib (ρ c) fun _ n' => n' = n ∧ match ij P t with
   | some (e, sz, by_) => match zeroOf P e with
     | some zs => 0 ≤ n ∧ (by_ : Int) * n ≤ 281474976710656 ∧ n ≤ 9223372036854775807 ∧ K (.osl h.length 0 n.toNat sz) [some (mo (n.toNat * sz) zs)]
     | none => False
   | none => False
 | .call { callee := .value f, args, .. } => (n6 h 4 (ρ f) = true ∧ (args.toList.map ρ).all (n6 h 3) = true) ∧ u0 P h (ρ f) (args.toList.map ρ) fun r hout => K (ren (shf h.length) 3 r) (shH h.length hout)
 | .convert sT d x => aph P h sT d (ρ x) K
 | op => qop P h ρ op fun v => K v []

section
variable {P : Program} {w : World} {m : Nat → Nat} {hc ht : Hp} {av : Nat → Prop}

theorem ajm {p : Nat → Bool} {f g : Nat → R} (hp : ∀ id cs, hc[id]? = some (some cs) → p id = true → f id = g id) {o : Bool} {v : Value} {x : V} (hx : RV w m hc av o v x) :
   ∀ d e, rl p d x = true → ren f e x = ren g e x := by
 induction hx with
 | osl id off n cap wd cs hid hl hc' hs =>
   intro d e h
   have h' : p id = true := by cases d <;> exact h
   have := hp id cs hid.1 h'
   cases e <;> simp only [ren, this]
 | ptr id off cs hid =>
   intro d e h
   have h' : p id = true := by cases d <;> exact h
   have := hp id cs hid.1 h'
   cases e <;> simp only [ren, this]
 | mp id cs hid hm => intro d e h; cases d <;> simp [rl] at h
 | fn f a c a' c' ha hc' hra hrc iha ihc =>
   intro d e h
   cases d with
   | zero => simp [rl] at h
   | succ d =>
     simp only [rl, Bool.and_eq_true, List.all_eq_true] at h
     cases e with
     | zero => rfl
     | succ e =>
       simp only [ren]
       congr 1
       · refine List.map_congr_left fun x hx => ?_
         obtain ⟨i, hi, rfl⟩ := List.getElem_of_mem hx
         exact iha i hi d e (h.1 _ hx)
       · refine List.map_congr_left fun x hx => ?_
         obtain ⟨i, hi, rfl⟩ := List.getElem_of_mem hx
         exact ihc i hi d e (h.2 _ hx)
 | agg a a' ha hra iha =>
   intro d e h
   cases d with
   | zero => simp [rl] at h
   | succ d =>
     simp only [rl, List.all_eq_true] at h
     cases e with
     | zero => rfl
     | succ e =>
       simp only [ren]
       congr 1
       refine List.map_congr_left fun x hx => ?_
       obtain ⟨i, hi, rfl⟩ := List.getElem_of_mem hx
       exact iha i hi d e (h _ hx)
 | tup a a' ha hra iha =>
   intro d e h
   cases d with
   | zero => simp [rl] at h
   | succ d =>
     simp only [rl, List.all_eq_true] at h
     cases e with
     | zero => rfl
     | succ e =>
       simp only [ren]
       congr 1
       refine List.map_congr_left fun x hx => ?_
       obtain ⟨i, hi, rfl⟩ := List.getElem_of_mem hx
       exact iha i hi d e (h _ hx)
 | _ => intro d e _; cases e <;> rfl
theorem aq4 (H : RH w m hc av) (hcmp : ∀ (id : Nat) (cs cs' : List V), hc[id]? = some (some cs) → ht[id]? = some (some cs') → cs = cs') :
   ∀ n k id cs, hc[id]? = some (some cs) → alf ht n id = true → eh ht k id = eh hc k id := by
 intro n
 induction n with
 | zero => intro k id cs _ h; simp [alf] at h
 | succ n ih =>
   intro k id cs hid h
   cases k with
   | zero => rfl
   | succ k =>
     unfold alf at h
     split at h
     · rename_i cs' h1
       have := hcmp id cs cs' hid h1
       subst this
       simp only [eh, h1, hid]
       congr 1
       refine List.map_congr_left fun x hx => ?_
       by_cases hmb : gr cs = true
       · match cs, hmb, hx with
         | [y], hmb, hx =>
           have := List.mem_singleton.1 hx
           subst this
           cases x <;> first | rfl | (simp [gr, au4] at hmb; done)
       · obtain ⟨C, T, _, _, _, _, g3⟩ := (H.blk id cs hid).cells (by simpa using hmb)
         obtain ⟨i, hi, rfl⟩ := List.getElem_of_mem hx
         exact ajm (fun j c hj hp => ih k j c hj hp) (g3 i hi) 2 2 (List.all_eq_true.1 h _ hx)
     · cases h
theorem ahp (H : RH w m hc av) (hcmp : ∀ (id : Nat) (cs cs' : List V), hc[id]? = some (some cs) → ht[id]? = some (some cs') → cs = cs') {o : Bool} {v : Value} {x : V} (hx : RV w m hc av o v x) :
   ∀ d e, n6 ht d x = true → ren (eh ht 3) e x = ren (eh hc 3) e x := fun d e h =>
 ajm (fun j c hj hp => aq4 H hcmp 3 3 j c hj hp) hx d e h

theorem anl (H : RH w m hc av) (hcmp : ∀ (id : Nat) (cs cs' : List V), hc[id]? = some (some cs) → ht[id]? = some (some cs') → cs = cs') {fv : V} {u : Value} {args : List V} {vs : List Value} (hf : RV w m hc av true u fv)
   (hlen : vs.length = args.length) (ha : ∀ i (hi : i < args.length), RV w m hc av true (vs.getD i Go.undef) args[i]) (hrf : n6 ht 4 fv = true) (hra : args.all (n6 ht 3) = true)
   {K : V → Hp → Prop} (hq : u0 P ht fv args K) : u0 P hc fv args K := by
 unfold u0 at *
 split at hq
 · rename_i g a c
   obtain ⟨as', r, hout, hle, h1, h2, h3⟩ := hq
   refine ⟨as', r, hout, ?_, h1, h2, h3⟩
   have e : (a ++ args ++ c).map (ren (eh hc 3) 3) = (a ++ args ++ c).map (ren (eh ht 3) 3) := by
     simp only [n6, rl, Bool.and_eq_true, List.all_eq_true] at hrf
     cases hf with
     | fn f aa ca a' c' haa hca hraa hrca =>
       refine List.map_congr_left fun x hx => ?_
       simp only [List.mem_append] at hx
       rcases hx with (hx | hx) | hx
       · obtain ⟨i, hi, rfl⟩ := List.getElem_of_mem hx
         exact (ahp H hcmp (hraa i hi) 3 3 (hrf.1 _ hx)).symm
       · obtain ⟨i, hi, rfl⟩ := List.getElem_of_mem hx
         exact (ahp H hcmp (ha i hi) 3 3 (List.all_eq_true.1 hra _ hx)).symm
       · obtain ⟨i, hi, rfl⟩ := List.getElem_of_mem hx
         exact (ahp H hcmp (hrca i hi) 3 3 (hrf.2 _ hx)).symm
   rw [e]
   exact hle
 · exact hq

def abx : Op → Bool
 | .load _ _ => true
 | .lookup _ _ _ _ => true
 | .convert _ _ _ => true
 | _ => false

theorem ard {ρ : Operand → V} {op : Op} {K : V → Prop} (hr : abx op = false) : qop P ht ρ op K = qop P hc ρ op K := by
 unfold qop
 split <;> first | rfl | (simp [abx] at hr)

theorem amn (hcmp : ∀ (id : Nat) (cs cs' : List V), hc[id]? = some (some cs) → ht[id]? = some (some cs') → cs = cs') {a : Operand → Value} {ρ : Operand → V} (hρ : ∀ x, RV w m hc av true (a x) (ρ x)) {op : Op} {K : V → Prop}
   (hq : qop P ht ρ op K) : qop P hc ρ op K := by
 by_cases hr : abx op = false
 · rw [← ard (ht := ht) hr]; exact hq
 · cases op with
   | load t x =>
     change n7 P ht t (ρ x) K at hq
     show n7 P hc t (ρ x) K
     have hx := hρ x
     clear hρ
     unfold n7 at *
     generalize a x = vv at hx
     generalize ρ x = y at hx hq ⊢
     cases hx with
     | ptr id off cs hid =>
       dsimp only at *
       split at hq
       · split at hq
         · rename_i cs' h1
           have := hcmp id cs cs' hid.1 h1
           subst this
           simp only [hid.1]
           exact hq
         · exact hq.elim
       · exact hq.elim
     | _ => exact hq
   | lookup t x y ok =>
     change j5 P ht t (ρ x) (ρ y) ok K at hq
     show j5 P hc t (ρ x) (ρ y) ok K
     have hx := hρ x
     clear hρ
     unfold j5 at *
     generalize a x = vv at hx
     generalize ρ x = z at hx hq ⊢
     cases hx with
     | mp id cs hid hm =>
       dsimp only at *
       split at hq
       · rename_i es h1
         have := hcmp id cs _ hid h1
         subst this
         simp only [hid]
         exact hq
       · exact hq.elim
     | _ => exact hq
   | convert s d x =>
     change kl P ht s d (ρ x) K at hq
     show kl P hc s d (ρ x) K
     have hx := hρ x
     clear hρ
     generalize a x = vv at hx
     generalize ρ x = z at hx hq ⊢
     cases hx with
     | osl id off n cap wd cs hid hl hc' hs =>
       unfold kl at *
       dsimp only at *
       refine ⟨hq.1, ?_⟩
       replace hq := hq.2
       split at hq
       · rename_i cs' h1
         have := hcmp id cs cs' hid.1 h1
         subst this
         simp only [hid.1]
         exact hq
       · exact hq.elim
     | _ => exact hq
   | _ => simp [abx] at hr

end

def dd : Hp → Nat → Hp → Hp
 | h, _, [] => h
 | h, off, b :: bs => dd (h.set off b) (off + 1) bs

theorem wy : ∀ (bs h : Hp) (off : Nat), (dd h off bs).length = h.length
 | [], h, off => rfl
 | b :: bs, h, off => by
   show (dd (h.set off b) (off + 1) bs).length = _
   rw [wy bs]; simp
theorem od : ∀ (bs h : Hp) (off j : Nat), (j < off ∨ off + bs.length ≤ j) → (dd h off bs)[j]? = h[j]?
 | [], h, off, j, _ => rfl
 | b :: bs, h, off, j, hj => by
   simp only [List.length_cons] at hj
   show (dd (h.set off b) (off + 1) bs)[j]? = _
   rw [od bs _ _ j (by omega), List.getElem?_set_ne (by omega)]
theorem xp : ∀ (bs h : Hp) (off p : Nat), off + bs.length ≤ h.length → p < bs.length → (dd h off bs)[off + p]? = bs[p]?
 | [], h, off, p, _, hp => by simp at hp
 | b :: bs, h, off, p, hl, hp => by
   simp only [List.length_cons] at hl hp
   show (dd (h.set off b) (off + 1) bs)[off + p]? = _
   cases p with
   | zero => rw [od bs _ _ _ (by omega), Nat.add_zero, List.getElem?_set_self (by omega)]; rfl
   | succ p =>
     have := xp bs (h.set off b) (off + 1) p (by simp; omega) (by omega)
     rw [show off + (p + 1) = off + 1 + p by omega, this]; rfl

section
variable {P : Program} {w0 : World} {m0 : Nat → Nat} {h0 : Hp} {av0 : Nat → Prop} {s : St} {a : Act} {w : World} {m : Nat → Nat}

def o7 (m m' : Nat → Nat) (off n : Nat) : Nat → Nat := fun id => if off ≤ id ∧ id < off + n then m' (id - off) else m id

theorem Left.place {w' : World} {v : Value} {r : V} {hout : Hp} {m' : Nat → Nat} {avX : Nat → Prop} (L : Left w0 m0 h0 av0 s a w m w' v r hout m' avX) (dst : Option Tmp) (off : Nat)
   (hpl : ∀ j, j < hout.length → s.h[off + j]? = some none) (hoff : h0.length ≤ off) :
   Inv w0 m0 h0 av0 (({ s with h := dd s.h off (shH off hout) } : St).put dst (ren (shf off) 3 r)) (a.put dst v) w' (o7 m m' off hout.length) := by
 have I : Inv w0 m0 h0 av0 s a w m := L.inv
 have hsl : (shH off hout).length = hout.length := by simp [shH]
 have hfit : hout.length = 0 ∨ off + hout.length ≤ s.h.length := by
   rcases Nat.eq_zero_or_pos hout.length with e | e
   · exact .inl e
   · have := (List.getElem?_eq_some_iff.1 (hpl (hout.length - 1) (by omega))).1
     exact .inr (by omega)
 have hold : ∀ (j : Nat) (c : List V), s.h[j]? = some (some c) → (dd s.h off (shH off hout))[j]? = some (some c) := fun j c h => by
   rw [od _ _ _ _ (by
     rw [hsl]
     rcases Nat.lt_or_ge j off with h1 | h1
     · exact .inl h1
     · rcases Nat.lt_or_ge j (off + hout.length) with h2 | h2
       · have := hpl (j - off) (by omega)
         rw [show off + (j - off) = j by omega, h] at this
         cases this
       · exact .inr h2)]
   exact h
 have hmo : ∀ (j : Nat) (c : List V), s.h[j]? = some (some c) → o7 m m' off hout.length j = m j := fun j c h => by
   unfold o7
   rw [if_neg]
   rintro ⟨h1, h2⟩
   have := hpl (j - off) (by omega)
   rw [show off + (j - off) = j by omega, h] at this
   cases this
 have hmn : ∀ j, j < hout.length → o7 m m' off hout.length (off + j) = m' j := fun j hj => by
   unfold o7
   rw [if_pos (by omega)]; congr 1; omega
 have hcase : ∀ (j : Nat) (c : List V), (dd s.h off (shH off hout))[j]? = some (some c) → s.h[j]? = some (some c) ∨ ∃ j' c', j' < hout.length ∧ j = off + j' ∧ hout[j']? = some (some c') ∧ c = c'.map (ren (shf off) 2) := by
   intro j c h
   by_cases hr : off ≤ j ∧ j < off + hout.length
   · have h1 : (dd s.h off (shH off hout))[off + (j - off)]? = (shH off hout)[j - off]? := xp _ _ _ _ (by rw [hsl]; omega) (by rw [hsl]; omega)
     rw [show off + (j - off) = j by omega, h] at h1
     refine .inr ⟨j - off, ?_⟩
     simp only [shH, List.getElem?_map] at h1
     cases h2 : hout[j - off]? with
     | none => simp [h2] at h1
     | some b =>
       cases b with
       | none => simp [h2, shB] at h1
       | some c' => simp [h2, shB] at h1; exact ⟨c', by omega, by omega, rfl, h1⟩
   · rw [od _ _ _ _ (by rw [hsl]; omega)] at h
     exact .inl h
 have hlt' : ∀ (j : Nat) (c : List V), hout[j]? = some (some c) → j < hout.length := fun j c h => dy h
 have hnew : ∀ (j : Nat) (c : List V), hout[j]? = some (some c) → (dd s.h off (shH off hout))[off + j]? = some (some (c.map (ren (shf off) 2))) := by
   intro j c h
   have := hlt' j c h
   rw [xp _ _ _ _ (by rw [hsl]; omega) (by rw [hsl]; omega)]
   simp [shH, h, shB]
 have hown : ∀ b, own (o7 m m' off hout.length) (dd s.h off (shH off hout)) b → own m s.h b ∨ own m' hout b := by
   rintro b ⟨j, c, h1, rfl⟩
   rcases hcase j c h1 with h2 | ⟨j', c', hj, rfl, h2, _⟩
   · exact .inl ⟨j, c, h2, (hmo j c h2).symm⟩
   · exact .inr ⟨j', c', h2, (hmn j' hj).symm⟩
 have hnlt : ∀ b, own m' hout b → w.heap.size ≤ b := by
   rintro b ⟨j, c, h1, rfl⟩
   exact L.new j c h1
 have hstep : ∀ {o : Bool} {v : Value} {x : V}, RV w m s.h (avm av0 m s.h) o v x → RV w' (o7 m m' off hout.length) (dd s.h off (shH off hout)) (avm av0 (o7 m m' off hout.length) (dd s.h off (shH off hout))) o v x :=
   fun hx => hx.step (fun b off' v hb hc => ⟨fun h => by
       rcases h with h | h
       · exact hb (.inl h)
       · rcases hown b h with h2 | h2
         · exact hb (.inr h2)
         · have := hnlt b h2
           have := World.block_lt_of_cell? w _ hc
           simp at this; omega, L.ext.cell hc (fun h => h)⟩)
     (fun id c hid => ⟨c, hold id c hid, Nat.le_refl _, hmo id c hid, L.ext.row _ (L.acd _ (.inr ⟨id, c, hid, rfl⟩)), rfl⟩)
 have hR : Ren w' w' m' (o7 m m' off hout.length) hout (dd s.h off (shH off hout)) avX (avm av0 (o7 m m' off hout.length) (dd s.h off (shH off hout))) (shf off) := by
   refine ⟨fun b off' v hb hc => ⟨fun h => hb (L.hX b ?_), hc⟩, fun id cs j hid hf => ?_, fun id cs cs' hid hf => by simp [shf] at hf⟩
   · rcases h with h | h
     · exact .inl (.inl h)
     · rcases hown b h with h2 | h2
       · exact .inl (.inr h2)
       · exact .inr h2
   · simp [shf] at hf; subst hf
     exact ⟨_, hnew id cs hid, by simp, hmn id (hlt' id cs hid), Nat.le_refl _, du _ _ _⟩
 have J : Inv w0 m0 h0 av0 { s with h := dd s.h off (shH off hout) } a w' (o7 m m' off hout.length) := by
   refine ⟨⟨?_, ?_, ?_⟩, I.size, fun i hi => hstep (I.slots i hi), I.defers, I.ext.trans' L.ext (fun _ _ h => h.elim), ?_, I.lt, I.lent, I.gl, I.k, by rw [wy]; exact I.len⟩
   · intro i j ci cj h1 h2 he
     rcases hcase i ci h1 with h3 | ⟨i', c', hi, rfl, h3, _⟩ <;> rcases hcase j cj h2 with h4 | ⟨j', d', hj, rfl, h4, _⟩
     · rw [hmo i ci h3, hmo j cj h4] at he
       exact I.rh.inj i j ci cj h3 h4 he
     · rw [hmo i ci h3, hmn _ hj] at he
       have := I.rh.lt h3
       have := L.new j' d' h4
       omega
     · rw [hmn _ hi, hmo j cj h4] at he
       have := I.rh.lt h4
       have := L.new i' c' h3
       omega
     · rw [hmn _ hi, hmn _ hj] at he
       rw [L.inj i' j' c' d' h3 h4 he]
   · intro j c h1
     exact .inr ⟨j, c, h1, rfl⟩
   · intro j c h1
     rcases hcase j c h1 with h2 | ⟨j', c', hj, rfl, h2, rfl⟩
     · rw [hmo j c h2]
       exact (I.rh.blk j c h2).step (L.ext.block _ (I.rh.lt h2) (fun h => h)) (fun v x => hstep)
     · rw [hmn _ hj]
       exact (L.blk j' c' h2).map rfl (j1 _ 2) (fun v x hx => hx.ren hR 2)
   · intro j c h1
     rcases hcase j c h1 with h2 | ⟨j', c', hj, rfl, h2, _⟩
     · rw [hmo j c h2]
       exact I.ids j c h2
     · refine .inr ⟨by omega, ?_⟩
       rw [hmn _ hj]
       exact Nat.le_trans I.ext.size (L.new j' c' h2)
 exact J.put (L.res.ren hR 3)

theorem Inv.al0 (fr : Nat × Nat) (I : Inv w0 m0 h0 av0 s a w m) (C : Array Value) (T : TypeId) (cs : List V) (off : Nat) (hpl : s.h[off]? = some none) (hoff : h0.length ≤ off) (hfr : za fr C.size) (hl : cs.length ≤ C.size)
   (hc : ∀ i (hi : i < cs.length), RV w m s.h (avm av0 m s.h) true (C.getD i Go.undef) cs[i]) :
   Inv w0 m0 h0 av0 { s with h := s.h.set off (some cs) } a (w.alloc (.cells C T fr)) (ew m off w.heap.size) := by
 have hE : Ext (fun _ => False) w (w.alloc (.cells C T fr)) := Ext.alloc _ w _
 have hne : ∀ id c, s.h[id]? = some (some c) → id ≠ off := by rintro id c h rfl; rw [hpl] at h; cases h
 have hid0 : ∀ id c, s.h[id]? = some (some c) → ew m off w.heap.size id = m id := fun id c hid => if_neg (hne id c hid)
 have hnew : ew m off w.heap.size off = w.heap.size := if_pos rfl
 have hcase : ∀ (j : Nat) (c : List V), (s.h.set off (some cs))[j]? = some (some c) → (s.h[j]? = some (some c) ∧ j ≠ off) ∨ (j = off ∧ c = cs) := by
   intro j c h
   rcases mj hpl h with ⟨h1, h2⟩ | ⟨h1, h2⟩
   · exact .inr ⟨h1, h2⟩
   · exact .inl ⟨h2, h1⟩
 have hown : ∀ b, own (ew m off w.heap.size) (s.h.set off (some cs)) b → own m s.h b ∨ b = w.heap.size := by
   rintro b ⟨id, c, h1, rfl⟩
   rcases hcase id c h1 with ⟨h2, _⟩ | ⟨rfl, _⟩
   · exact .inl ⟨id, c, h2, (hid0 id c h2).symm⟩
   · exact .inr hnew
 have hav : ∀ b, b < w.heap.size → avm av0 (ew m off w.heap.size) (s.h.set off (some cs)) b → avm av0 m s.h b := by
   rintro b hb (h1 | h1)
   · exact .inl h1
   · rcases hown b h1 with h2 | h2
     · exact .inr h2
     · omega
 have hold : ∀ id c, s.h[id]? = some (some c) → (s.h.set off (some cs))[id]? = some (some c) := fun id c hid => by rw [List.getElem?_set_ne (Ne.symm (hne id c hid))]; exact hid
 have hstep : ∀ {o : Bool} {v : Value} {x : V}, RV w m s.h (avm av0 m s.h) o v x → RV (w.alloc (.cells C T fr)) (ew m off w.heap.size) (s.h.set off (some cs)) (avm av0 (ew m off w.heap.size) (s.h.set off (some cs))) o v x :=
   fun hx => hx.step (fun b off' v hb hcell => ⟨fun h => hb (hav b (World.block_lt_of_cell? w _ hcell) h), hE.cell hcell (fun h => h)⟩)
     (fun id c hid => ⟨c, hold id c hid, Nat.le_refl _, hid0 id c hid, hE.row _ (I.rh.lt hid), rfl⟩)
 refine ⟨⟨?_, ?_, ?_⟩, I.size, fun i hi => hstep (I.slots i hi), I.defers, I.ext.trans' hE (fun _ _ h => h.elim), ?_, I.lt, I.lent, I.gl, I.k, by simpa using I.len⟩
 · intro i j ci cj h1 h2 he
   rcases hcase i ci h1 with ⟨h3, _⟩ | ⟨h3, _⟩ <;> rcases hcase j cj h2 with ⟨h4, _⟩ | ⟨h4, _⟩
   · rw [hid0 i ci h3, hid0 j cj h4] at he
     exact I.rh.inj i j ci cj h3 h4 he
   · rw [hid0 i ci h3, h4, hnew] at he
     have := I.rh.lt h3; omega
   · rw [hid0 j cj h4, h3, hnew] at he
     have := I.rh.lt h4; omega
   · rw [h3, h4]
 · intro id c h1
   exact .inr ⟨id, c, h1, rfl⟩
 · intro id c h1
   rcases hcase id c h1 with ⟨h1, _⟩ | ⟨rfl, rfl⟩
   · rw [hid0 id c h1]
     exact (I.rh.blk id c h1).step (hE.block _ (I.rh.lt h1) (fun h => h)) (fun v x => hstep)
   · refine .inl ⟨C, T, fr, ?_, hfr, hl, fun i hi => hstep (hc i hi)⟩
     rw [hnew]
     exact heap_alloc_new w _
 · intro id c h1
   rcases hcase id c h1 with ⟨h1, _⟩ | ⟨rfl, _⟩
   · rw [hid0 id c h1]
     exact I.ids id c h1
   · exact .inr ⟨hoff, by rw [hnew]; exact I.ext.size⟩

theorem Inv.ahq (I : Inv w0 m0 h0 av0 s a w m) (C : Array Value) (T : TypeId) (cs : List V) (off : Nat) (hpl : s.h[off]? = some none) (hoff : h0.length ≤ off) (hl : cs.length ≤ C.size)
   (hc : ∀ i (hi : i < cs.length), RV w m s.h (avm av0 m s.h) true (C.getD i Go.undef) cs[i]) :
   Inv w0 m0 h0 av0 { s with h := s.h.set off (some cs) } a (w.alloc (.cells C T)) (ew m off w.heap.size) :=
 I.al0 (0, 0) C T cs off hpl hoff (.inl rfl) hl hc
theorem ap1 {C : Array Value} {T : TypeId} {cs : List V} {off : Nat} (hpl : s.h[off]? = some none) (hmb : gr cs = false) :
   RV (w.alloc (.cells C T)) (ew m off w.heap.size) (s.h.set off (some cs)) (avm av0 (ew m off w.heap.size) (s.h.set off (some cs))) true (.pointer (some ⟨w.heap.size, 0, none⟩)) (.ptr off 0) := by
 have := RV.ptr (w := w.alloc (.cells C T)) (m := ew m off w.heap.size) (h := s.h.set off (some cs)) (av := avm av0 (ew m off w.heap.size) (s.h.set off (some cs))) off 0 cs ⟨by rw [List.getElem?_set_self (dy hpl)], hmb⟩
 rw [show ew m off w.heap.size off = w.heap.size from if_pos rfl] at this
 exact this

theorem ape {C : Array Value} {T : TypeId} {cs : List V} {n sz off : Nat} (hpl : s.h[off]? = some none) (hmb : gr cs = false) (hC : C.size = n * sz) (hcs : cs.length = n * sz) :
   RV (w.alloc (.cells C T)) (ew m off w.heap.size) (s.h.set off (some cs)) (avm av0 (ew m off w.heap.size) (s.h.set off (some cs))) true (.slice (some ⟨w.heap.size, 0, none⟩) n n) (.osl off 0 n sz) := by
 have e : ew m off w.heap.size off = w.heap.size := if_pos rfl
 have := RV.osl (w := w.alloc (.cells C T)) (m := ew m off w.heap.size) (h := s.h.set off (some cs)) (av := avm av0 (ew m off w.heap.size) (s.h.set off (some cs))) off 0 n n sz cs ⟨by rw [List.getElem?_set_self (dy hpl)], hmb⟩ (by omega) (Nat.le_refl _) (by
   rw [e]
   simp only [cz, heap_alloc_new]
   omega)
 rw [e] at this
 exact this

theorem alp (I : Inv w0 m0 h0 av0 s a w m) {ht : Hp} (hcmp : ∀ (id : Nat) (cs cs' : List V), s.h[id]? = some (some cs) → ht[id]? = some (some cs') → cs = cs') (hoff : h0.length ≤ ht.length) {o : Oper} {x0 : V} {n0 : Hp}
   (hpl : ∀ j, j < n0.length → s.h[ht.length + j]? = some none) (hq : gop P ht (ev s.t) o.op fun x n => x = x0 ∧ n = n0) {Kc : Act → World → Prop} {Q : Exit → Act → World → Prop}
   (hk : ∀ v w' m', Inv w0 m0 h0 av0 (({ s with h := dd s.h ht.length n0 } : St).put o.dst x0) (a.put o.dst v) w' m' → Kc (a.put o.dst v) w') : o.wp P a w Kc Q := by
 obtain ⟨dst, op, ty, pos, after, guard⟩ := o
 unfold gop at hq
 dsimp only at hq
 split at hq
 · rename_i t
   split at hq
   · rename_i zs hz
     obtain ⟨i, z, h1, h2, rfl⟩ := jo hz
     obtain ⟨rfl, rfl⟩ := hq
     have hp0 := hpl 0 (by simp)
     rw [Nat.add_zero] at hp0
     have hrow := zh (w := w) (m := m) (h := s.h) (av := avm av0 m s.h) z.cells
     have J := I.ahq z.cells t _ ht.length hp0 hoff (Nat.le_of_eq hrow.1.symm) hrow.2
     exact eo (v := .pointer (some ⟨w.heap.size, 0, none⟩)) (w' := w.alloc (.cells z.cells t)) (by simp [execOp, Instr.alloc, zeroValue, typeInfo, h1, h2, newVar, newRow]) (hk _ _ _ (J.put (ap1 hp0 (nh hrow.2))))
   · exact hq.elim
 · rename_i t x
   split at hq
   · rename_i cs hcs
     obtain ⟨rfl, rfl⟩ := hq
     have hp0 := hpl 0 (by simp)
     rw [Nat.add_zero] at hp0
     obtain ⟨g1, g2, g3⟩ := s8 (I.ev x) hcs
     have J := I.ahq (a.eval x).cells t cs ht.length hp0 hoff (Nat.le_of_eq g1.symm) g2
     exact eo (v := .pointer (some ⟨w.heap.size, 0, none⟩)) (w' := w.alloc (.cells (a.eval x).cells t)) (by simp [execOp, Instr.box, newVar, newRow]) (hk _ _ _ (J.put (ap1 hp0 (nh g2))))
   · exact hq.elim
 · rename_i t parts
   obtain ⟨v, x, ⟨rfl, rfl⟩, h2, h3⟩ := aii (P := P) I.ev hq
   exact eo (v := v) (w' := w) (by simp [execOp, h3]) (hk _ _ _ (I.put h2))
 · rename_i t n parts
   split at hq
   · rename_i e sz by_ he
     split at hq
     · rename_i zs hz
       split at hq
       · rename_i cs hs
         obtain ⟨h1, h2, h3, rfl, rfl⟩ := hq
         have hp0 := hpl 0 (by simp)
         rw [Nat.add_zero] at hp0
         obtain ⟨D, hD, hrun⟩ := rp (P := P) I.ev he hz h1 h2 hs
         have J := I.ahq D e cs ht.length hp0 hoff (Nat.le_of_eq hD.1.symm) hD.2
         exact eo (v := .slice (some ⟨w.heap.size, 0, none⟩) n n) (w' := w.alloc (.cells D e)) (by simp [execOp, hrun]) (hk _ _ _ (J.put (ape hp0 (nh hD.2) (by rw [hD.1, h3]) h3)))
       · exact hq.elim
     · exact hq.elim
   · exact hq.elim
 · rename_i t l c
   obtain ⟨k, n, h1, _, hq⟩ := kx (I.ev l) hq
   obtain ⟨k', n', h2, _, hq⟩ := kx (I.ev c) hq
   obtain ⟨rfl, hq⟩ := hq
   split at hq
   · rename_i e sz by_ he
     split at hq
     · rename_i zs hz
       obtain ⟨g1, g2, g3, rfl, rfl⟩ := hq
       have hp0 := hpl 0 (by simp)
       rw [Nat.add_zero] at hp0
       obtain ⟨D, hD, hrun⟩ := y2 (P := P) (w := w) (m := m) (h := s.h) (av := avm av0 m s.h) he hz (k := k) (k' := k') g1 g2 g3
       have J := I.ahq D e _ ht.length hp0 hoff (Nat.le_of_eq hD.1.symm) hD.2
       have hl : (mo (n'.toNat * sz) zs).length = n'.toNat * sz := by simp [mo]
       exact eo (v := .slice (some ⟨w.heap.size, 0, none⟩) n'.toNat n'.toNat) (w' := w.alloc (.cells D e)) (by simp [execOp, h1, h2, hrun]) (hk _ _ _ (J.put (ape hp0 (nh hD.2) (by rw [hD.1, hl]) hl)))
     · exact hq.elim
   · exact hq.elim
 · rename_i f args ts
   obtain ⟨⟨hr1, hr2⟩, hq⟩ := hq
   have hrm := ady (s := s) (av0 := av0) I.ev args
   have hq' : u0 P s.h (ev s.t f) (args.toList.map (ev s.t)) fun r hout => ren (shf ht.length) 3 r = x0 ∧ shH ht.length hout = n0 :=
     anl I.rh hcmp (I.ev f) (vs := (args.map a.eval).toList) (by simp) (fun i hi => by
       have := hrm.2 i hi
       rw [Array.getD_eq_getD_getElem?] at this
       rw [List.getD_eq_getElem?_getD, Array.getElem?_toList]
       exact this) hr1 hr2 hq
   refine al6 I I.ev hq' (fun r hout w' v m' avX h1 L => ?_)
   obtain ⟨rfl, rfl⟩ := h1
   refine hk v w' _ (L.place dst ht.length (fun j hj => hpl j (by simpa [shH] using hj)) hoff)
 · rename_i sT d x
   have quiet : (kl P ht sT d (ev s.t x) fun v => v = x0 ∧ [] = n0) → (⟨dst, .convert sT d x, ty, pos, after, guard⟩ : Oper).wp P a w Kc Q := by
     intro hq
     have hq : qop P ht (ev s.t) (.convert sT d x) fun v => v = x0 ∧ [] = n0 := hq
     have hq' := amn (P := P) hcmp I.ev hq
     obtain ⟨v, y, ⟨rfl, rfl⟩, h2, h3⟩ := ak8 (P := P) I.rh I.ev (⟨dst, .convert sT d x, ty, pos, after, guard⟩ : Oper) hq'
     exact eo h3 (hk _ _ _ (I.put h2))
   have hx := I.ev x
   generalize hu : a.eval x = u at hx
   generalize hy : ev s.t x = y at hx hq
   cases y with
   | str b =>
     change ajo (si P d) _ _ at hq
     generalize hu8 : si P d = t at hq
     cases t with
     | false => exact quiet (by rw [hy]; exact hq)
     | true =>
       obtain ⟨hs, rfl, rfl⟩ := hq
       have hp0 := hpl 0 (by simp)
       rw [Nat.add_zero] at hp0
       obtain ⟨e, g1, g2⟩ := xj hu8
       obtain ⟨C, hC1, hC2, hrun⟩ := qq (P := P) w sT d e g1 g2 (jn hs) b
       have hge := grownCap_ge w b.size 0 e
       have hl : (strCells b).length = b.size := by simp [strCells]
       have ID := I.world (Ext.drew (fun _ => False) w)
       have hub : u = .string b := by cases hx; rfl
       have hrow : ∀ i (hi : i < (strCells b).length), RV w.drew m s.h (avm av0 m s.h) true (C.getD i Go.undef) (strCells b)[i] := by
         intro i hi
         rw [hC2 i hi]
         have hi2 : i < b.size := by omega
         have : (strCells b)[i] = .int .u8 ((b.data.toList.getD i 0).toNat) := by simp [strCells, List.getD, hi2]
         rw [this]
         exact .int _ _
       have J := ID.al0 (C.size, C.size + 1) C e (strCells b) ht.length hp0 hoff (.inr (Nat.le_refl _)) (by omega) hrow
       refine eo (v := .slice (some ⟨w.heap.size, 0, none⟩) b.size (grownCap w b.size 0 e)) (w' := w.drew.alloc (.cells C e (C.size, C.size + 1))) (by simp [execOp, hu, hub, hrun]) (hk _ _ _ (J.put ?_))
       have e1 : ew m ht.length w.drew.heap.size ht.length = w.heap.size := if_pos rfl
       have := RV.osl (w := w.drew.alloc (.cells C e (C.size, C.size + 1))) (m := ew m ht.length w.drew.heap.size) (h := s.h.set ht.length (some (strCells b))) (av := avm av0 (ew m ht.length w.drew.heap.size) (s.h.set ht.length (some (strCells b)))) ht.length 0 b.size (grownCap w b.size 0 e) 1 (strCells b) ⟨by rw [List.getElem?_set_self (dy hp0)], nh hrow⟩ (by omega) hge (by
         rw [e1]
         have := heap_alloc_new w.drew (.cells C e (C.size, C.size + 1))
         have hd : w.drew.heap.size = w.heap.size := rfl
         rw [hd] at this
         simp only [cz, this]
         omega)
       rw [e1] at this
       exact this
   | _ => exact quiet (by rw [hy]; exact hq)
 · have hq' := amn (P := P) hcmp I.ev hq
   obtain ⟨v, x, ⟨rfl, rfl⟩, h2, h3⟩ := ak8 (P := P) I.rh I.ev (⟨dst, op, ty, pos, after, guard⟩ : Oper) hq'
   exact eo h3 (hk _ _ _ (I.put h2))

end
end Go.Lv
end
