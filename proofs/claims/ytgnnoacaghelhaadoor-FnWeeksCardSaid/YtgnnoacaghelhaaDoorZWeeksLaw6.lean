/-
  A part of the proof: texts put together by a program of the prover. Conditions: none.
-/
import Derived.Test.YtgnnoacaghelhaaDoorZWeeksLaw5
import Derived.Shelf.SlSortCmp.WholeK
import Derived.Shelf.SlicesG.Cmp
import Derived.WalkKit
import Derived.Lib.ItoaNum
import Derived.Lib.ItoaLen
set_option linter.unusedSimpArgs false
set_option linter.unusedVariables false
section
set_option maxRecDepth 100000
set_option maxHeartbeats 2000000
namespace Go.Proofs
open Go.Lv
open Go.Shelf Go.RowKit Go.Lib Go.Sort
instance : Inhabited WeekRow := ⟨⟨0, 0, 0, 0, 0⟩⟩
def encW (x : WeekRow) : List Value := [.int .i64 x.Week, .int .i64 x.Events, .int .i64 x.Felt, .int .i64 x.Picks, .int .i64 x.Lost]
def cmpW (x y : WeekRow) : Int := Lib.compareInt x.Week y.Week
theorem ltW (x y : WeekRow) : ltOf cmpW x y = decide (x.Week < y.Week) := by
 unfold ltOf cmpW Lib.compareInt
 by_cases h1 : x.Week < y.Week
 · simp [h1]
 · by_cases h2 : y.Week < x.Week <;> simp [h1, h2]
theorem swoW : SWO (ltOf cmpW) where
 irrefl x := by rw [ltW]; simp
 trans x y z h1 h2 := by rw [ltW] at *; simp at *; omega
 ntrans x y z h1 h2 := by rw [ltW] at *; simp at *; omega
theorem sortClosure (x y : WeekRow) (W : World) : Calls Tryd.prog 75 #[.agg #[.int .i64 x.Week, .int .i64 x.Events, .int .i64 x.Felt, .int .i64 x.Picks, .int .i64 x.Lost], .agg #[.int .i64 y.Week, .int .i64 y.Events, .int .i64 y.Felt, .int .i64 y.Picks, .int .i64 y.Lost]] W fun e w' => e = .returned (.int .i64 (cmpW x y)) ∧ ∃ q os', w' = grow (W.drewN q) os' := by
 have hcon := fun W' => AnyG.cmp_Compare_int Tryd.cmpIntW x.Week y.Week W'
 change ∀ W', Calls Tryd.prog 76 _ _ _ at hcon
 unfold cmpW
 generalize Lib.compareInt x.Week y.Week = r at hcon ⊢
 go_enter Tryd.func75, Tryd.ntmps75
 go_wp2_with (go_at_call 76; refine (hcon _).mono ?_; rintro e w' ⟨rfl, rfl⟩)
 go_ret
 exact ⟨rfl, 0, _, by rw [alloc_eq_grow, alloc_eq_grow, grow_grow]; rfl⟩
theorem cmpLaysW (blk off size : Nat) (w : World) : CmpLays Tryd.prog 75 #[] encW 5 cmpW blk off size w :=
 fun _ _ _ _ x y => sortClosure x y _
theorem sortW_any (b cap : Nat) (d : Array WeekRow) (w : World) (hH : HoldsK encW 5 w b 0 d) (hblk : b < w.heap.size) (hsz : d.size < 4611686018427387904) :
   Calls Tryd.prog 74 #[.slice (some ⟨b, 0, none⟩) d.size cap, .func (.func 75) #[] #[]] w fun e w' =>
     e = .returned (.tuple #[]) ∧ ∃ d' n os, PermIn 0 d.size d d' ∧ SortedIn (ltOf cmpW) 0 d.size d' ∧ w' = sortWorldK encW 5 w b 0 n d' os := by
 have eg : ∀ args w, (callFunc 75 args).run Tryd.prog w = .ok (.enter 75 args) w := enters_of Tryd.func75 (by kernel_rfl) rfl
 exact AnyQ.slices_SortFunc Tryd.sortWeekRow 5 Tryd.isAgg39 Tryd.sizeOf39 encW (fun _ => rfl) (fun x v hv => by simp [encW] at hv; rcases hv with rfl | rfl | rfl | rfl | rfl <;> rfl) cmpW swoW 75 #[] b 0 cap d w eg (cmpLaysW b 0 d.size w) hH hblk hsz
theorem rowsW_len (L : List WeekRow) : (rows WeekRow.cs L).length = L.length * 5 := rows_len (w := 5) WeekRow.csl L
theorem rowsW_get (L : List WeekRow) (j : Nat) (hj : j < (rows WeekRow.cs L).length) (hi : j / 5 < L.length) : (rows WeekRow.cs L)[j] = (WeekRow.cs L[j / 5])[j % 5]'(by rw [WeekRow.csl]; omega) := by
 have h := rows_at (cs := WeekRow.cs) WeekRow.csl hi
 have h2 : (WeekRow.cs L[j / 5])[j % 5]? = (rows WeekRow.cs L)[j]? := by
   rw [← h, List.getElem?_take_of_lt (by omega), List.getElem?_drop]
   congr 1
   omega
 rw [List.getElem?_eq_getElem hj, List.getElem?_eq_getElem (by rw [WeekRow.csl]; omega)] at h2
 exact (Option.some.inj h2).symm
theorem encW_rv {w : World} {m : Nat → Nat} {h : Hp} {av : Nat → Prop} (x : WeekRow) (c : Nat) (hc : c < (WeekRow.cs x).length) {v : Value} (hv : RV w m h av true v (WeekRow.cs x)[c]) : v = (encW x)[c]! := by
 have hc5 : c < 5 := by rw [WeekRow.csl] at hc; exact hc
 rcases (show c = 0 ∨ c = 1 ∨ c = 2 ∨ c = 3 ∨ c = 4 by omega) with rfl | rfl | rfl | rfl | rfl
 all_goals exact rv_int hv
theorem rv_encW {w : World} {m : Nat → Nat} {h : Hp} {av : Nat → Prop} (x : WeekRow) (c : Nat) (hc : c < (WeekRow.cs x).length) : RV w m h av true (encW x)[c]! (WeekRow.cs x)[c] := by
 have hc5 : c < 5 := by rw [WeekRow.csl] at hc; exact hc
 rcases (show c = 0 ∨ c = 1 ∨ c = 2 ∨ c = 3 ∨ c = 4 by omega) with rfl | rfl | rfl | rfl | rfl
 all_goals exact .int _ _
theorem Ext.ahead (w : World) (n : Nat) : Ext (fun _ => False) w (Sort.ahead w n) := ⟨rfl, rfl, rfl, Nat.le_refl _, fun _ _ _ => rfl, fun _ _ => Nat.le_refl _⟩
theorem Ext.grow (w : World) (os : Array Obj) : Ext (fun _ => False) w (Sort.grow w os) := by
 have hb : ∀ k, k < w.heap.size → (Sort.grow w os).heap[k]? = w.heap[k]? := fun k hk => by
   show (w.heap ++ os)[k]? = w.heap[k]?
   rw [Array.getElem?_append_left hk]
 refine ⟨rfl, rfl, rfl, ?_, fun k hk _ => hb k hk, fun k hk => Nat.le_of_eq (rowSize_of_block (hb k hk)).symm⟩
 show w.heap.size ≤ (w.heap ++ os).size
 rw [Array.size_append]; omega
theorem putRow_setRow (F : Array Value) (w : World) (b : Nat) (C : Array Value) (T : TypeId) (fr : Nat × Nat) (hb : w.heap[b]? = some (.cells C T fr)) : Sort.putRow id w b 0 F = w.setRow b (Sort.putCells id 0 F C) := by
 unfold Sort.putRow Sort.mapBlock World.setRow
 congr 1
 apply Array.ext_getElem?
 intro k
 simp only [Array.getElem?_modify]
 by_cases hk : b = k
 · subst hk
   simp [hb, Sort.onCells]
 · simp [hk]
theorem sortW_ok (O S : List WeekRow) (hS : Asc S) (hp : S.Perm O) (hl : O.length ≤ 1000000) : Ctr Tryd.prog 74 [.osl 0 0 O.length 5, .fn (.func 75) [] []] [some (rows WeekRow.cs O)] (.tup []) [some (rows WeekRow.cs S)] := by
 refine Ctr.raw (by kernel_rfl) (fun w vs m av I hs => ?_)
 have h0 := I.slots 0 (by simp)
 have h1 := I.slots 1 (by simp)
 dsimp only [List.getElem_cons_zero, List.getElem_cons_succ] at h0 h1
 obtain ⟨v0, hv0⟩ : ∃ v0, v0 = vs.getD 0 Go.undef := ⟨_, rfl⟩
 obtain ⟨v1, hv1⟩ : ∃ v1, v1 = vs.getD 1 Go.undef := ⟨_, rfl⟩
 rw [← hv0] at h0
 rw [← hv1] at h1
 have hvs : vs = #[v0, v1] := by
   have hsz : vs.size = 2 := hs
   apply Array.ext
   · simpa using hsz
   · intro k hk hk'
     have hk3 : k < 2 := by omega
     have hg : vs[k] = vs.getD k Go.undef := by simp [Array.getD, hk]
     rw [hg]
     rcases (show k = 0 ∨ k = 1 by omega) with rfl | rfl
     · exact hv0.symm
     · exact hv1.symm
 have hv1' : v1 = .func (.func 75) #[] #[] := by
   cases h1 with
   | fn f a c a' c' ha hc _ _ =>
     have e1 : a = #[] := Array.eq_empty_of_size_eq_zero ha
     have e2 : c = #[] := Array.eq_empty_of_size_eq_zero hc
     rw [e1, e2]
 subst hv1'
 have hSl : S.length = O.length := hp.length_eq
 cases h0 with
 | osl _ _ _ cap _ cs hid hl' hc hsz =>
   have hcs : cs = rows WeekRow.cs O := by
     have := hid.1
     simpa using this.symm
   subst hcs
   rcases I.rh.blk 0 _ hid.1 with ⟨C, T, fr, hb, hfr, hle, hr⟩ | ⟨E, c, es, hb, hmb, _⟩
   rotate_left
   · have := hid.2
     rw [hmb] at this
     cases this
   have hOl := rowsW_len O
   have hcell : ∀ k, k < C.size → w.cell? ⟨m 0, k, none⟩ = some (C.getD k Go.undef) := fun k hk => by simp [World.cell?, hb, Array.getD, hk]
   have hblk : m 0 < w.heap.size := (Array.getElem?_eq_some_iff.1 hb).1
   have hH : HoldsK encW 5 w (m 0) 0 O.toArray := by
     intro j hj
     have hj5 : j < O.toArray.size * 5 := by rw [size_flatK] at hj; exact hj
     have hjO : j < O.length * 5 := by simpa using hj5
     have hjC : j < C.size := by omega
     have hi : j / 5 < O.length := by omega
     have hi' : j / 5 < O.toArray.size := by simpa using hi
     refine ⟨?_, by rw [Nat.zero_add]; exact hfr.not hb hjC⟩
     rw [Nat.zero_add, hcell j hjC, get_flatK _ _ _ _ hj5, getElem!_pos O.toArray _ hi']
     have hrj := hr j (by omega)
     rw [rowsW_get O j (by omega) hi] at hrj
     rw [encW_rv _ _ _ hrj]
     simp
   rw [hvs]
   have hcon := sortW_any (m 0) cap O.toArray w hH hblk (by simp; omega)
   rw [show O.toArray.size = O.length by simp] at hcon
   refine hcon.mono ?_
   rintro e w' ⟨rfl, d', n, os, hperm, hsort, rfl⟩
   obtain ⟨ps, _, pp⟩ := hperm
   have hd'l : d'.size = O.length := by rw [ps]; simp
   have hpl : d'.toList.Perm O := by
     have e1 : (d'.extract 0 O.length).toList = d'.toList := by rw [← hd'l]; simp
     have e2 : (O.toArray.extract 0 O.length).toList = O := by simp
     rw [e1, e2] at pp
     exact pp
   have hle' : d'.toList.Pairwise fun x y => x.Week ≤ y.Week := by
     rw [List.pairwise_iff_getElem]
     intro i j hi hj hij
     have hj' : j < d'.size := by simpa using hj
     have := hsort i j (Nat.zero_le _) hij (by omega)
     rw [getElem!_pos d' j hj', getElem!_pos d' i (by omega), ltW] at this
     have := of_decide_eq_false this
     simp only [Array.getElem_toList]
     omega
   have hdS : d'.toList = S := asc_unique hS hle' (hpl.trans hp.symm)
   have hdS' : d' = S.toArray := by rw [← hdS]
   subst hdS'
   have hbd : (Sort.ahead w n).heap[m 0]? = some (.cells C T fr) := hb
   have I1 := I.world (Ext.ahead w n)
   have hSr := rowsW_len S
   have hFs : (flatK encW 5 S.toArray).size = S.length * 5 := by rw [size_flatK]; simp
   have hpc : (Sort.putCells id 0 (flatK encW 5 S.toArray) C).size = C.size := by simp [Sort.putCells]
   obtain ⟨J, hstep⟩ := I1.setRow (id := 0) (cs := rows WeekRow.cs O) (cs' := rows WeekRow.cs S) (C := C) (C' := Sort.putCells id 0 (flatK encW 5 S.toArray) C) (T := T) hid hbd hfr hpc (by omega) (by omega) (fun k hk => by
     have hkC : k < C.size := by omega
     have hi : k / 5 < S.length := by omega
     have hi' : k / 5 < S.toArray.size := by simpa using hi
     have e : (Sort.putCells id 0 (flatK encW 5 S.toArray) C).getD k Go.undef = (encW S[k / 5])[k % 5]! := by
       have hk2 : k < (Sort.putCells id 0 (flatK encW 5 S.toArray) C).size := by omega
       rw [Array.getD_eq_getD_getElem?, Array.getElem?_eq_getElem hk2, Option.getD_some]
       simp only [Sort.putCells, Array.getElem_mapIdx]
       rw [if_pos ⟨Nat.zero_le _, by omega⟩, Nat.sub_zero, get_flatK _ _ _ _ (by rw [← size_flatK encW 5]; omega), getElem!_pos S.toArray _ hi']
       simp
     rw [e, rowsW_get S k (by omega) hi]
     exact rv_encW _ _ _)
   have J2 := J.world (Ext.grow _ os)
   have hw : sortWorldK encW 5 w (m 0) 0 n S.toArray os = Sort.grow ((Sort.ahead w n).setRow (m 0) (Sort.putCells id 0 (flatK encW 5 S.toArray) C)) os := by
     unfold sortWorldK putRowK
     rw [putRow_setRow _ _ _ C T fr hbd]
   rw [hw]
   refine ⟨_, m, _, _, rfl, ?_, J2, ?_⟩
   · rfl
   · exact .tup _ _ rfl (fun i hi => by simp at hi)
end Go.Proofs
end
section
namespace Go.Lv
theorem splice_row {α : Type} {cs : α → List V} {w : Nat} (hw : ∀ a, (cs a).length = w) {L : List α} {i : Nat} (hi : i < L.length) (x : α) : splice (rows cs L) (i * w) (cs x) = rows cs (L.set i x) := by
 have e : L = L.take i ++ L[i] :: L.drop (i + 1) := by rw [← List.drop_eq_getElem_cons hi, List.take_append_drop]
 have e2 : L.set i x = L.take i ++ x :: L.drop (i + 1) := by rw [List.set_eq_take_append_cons_drop, if_pos hi]
 have hA : (rows cs (L.take i)).length = i * w := by rw [rows_len hw, List.length_take, Nat.min_eq_left (by omega)]
 rw [e2, rowsOf_append, rows_cons]
 conv => lhs; rw [e, rowsOf_append, rows_cons]
 rw [splice_mid0 hA, splice_zero]
 congr 2
 rw [List.drop_append_of_le_length (by rw [hw, hw]; exact Nat.le_refl _), List.drop_of_length_le (by rw [hw, hw]; exact Nat.le_refl _)]
 rfl
end Go.Lv
end
section
set_option maxRecDepth 100000
set_option maxHeartbeats 2000000
namespace Go.Proofs
open Go.Lv
def joinR (a b : List WeekRow) : Option (List WeekRow) := if wrsB a = true ∧ wrsB b = true ∧ wrsB (joinS a b) = true then some (joinS a b) else none
theorem joinR_no {a b : List WeekRow} (h : wrsB a = false ∨ wrsB b = false ∨ wrsB (joinS a b) = false) : joinR a b = none := by
 refine if_neg fun g => ?_
 rcases h with h | h | h
 · rw [h] at g; exact absurd g.1 (by simp)
 · rw [h] at g; exact absurd g.2.1 (by simp)
 · rw [h] at g; exact absurd g.2.2 (by simp)
theorem copyOfWeekRow_ok (L : List WeekRow) (hl : L.length ≤ 1048576) : Ctr Tryd.prog 71 [WeekRow.sl L] [] (.osl 0 0 L.length 5) [some (rows WeekRow.cs L)] := by
 refine Ctr.intro Tryd.mixed Tryd.func71 rfl Tryd.okF71 ?_
 simp -implicitDefEqProofs -dsimp only [go_sem, Nat.reduceSub, Nat.reduceAdd, Nat.reduceMul, Nat.reduceLT, Nat.reduceLeDiff, Nat.reduceEqDiff, Nat.reduceDiv, Nat.reduceMod, Int.reduceToNat, Int.reduceLE, Int.reduceLT, Int.reduceBEq, Int.reduceBNe, Int.reduceNeg, Int.reduceAdd, Int.reduceSub, Int.reduceMul, reduceCtorEq, Tryd.ntmps71, Tryd.results71]
 repeat (with_reducible refine sideA ?_)
 exact WeakR.refl _ _ _
theorem weekIs_ok (r x : WeekRow) : Ctr Tryd.prog 73 [x.v, .pt r.cs] [] (.bool (weekP r.Week x)) [] := by
 refine Ctr.intro Tryd.mixed Tryd.func73 rfl Tryd.okF73 ?_
 simp -implicitDefEqProofs -dsimp only [go_sem, Nat.reduceSub, Nat.reduceAdd, Nat.reduceMul, Nat.reduceLT, Nat.reduceLeDiff, Nat.reduceEqDiff, Nat.reduceDiv, Nat.reduceMod, Int.reduceToNat, Int.reduceLE, Int.reduceLT, Int.reduceBEq, Int.reduceBNe, Int.reduceNeg, Int.reduceAdd, Int.reduceSub, Int.reduceMul, reduceCtorEq, Tryd.ntmps73, Tryd.results73]
 (repeat ((repeat1' (first | simp -implicitDefEqProofs -dsimp only [go_sem, Nat.reduceSub, Nat.reduceAdd, Nat.reduceMul, Nat.reduceLT, Nat.reduceLeDiff, Nat.reduceEqDiff, Nat.reduceDiv, Nat.reduceMod, Int.reduceToNat, Int.reduceLE, Int.reduceLT, Int.reduceBEq, Int.reduceBNe, Int.reduceNeg, Int.reduceAdd, Int.reduceSub, Int.reduceMul, reduceCtorEq, WeekRow.v, WeekRow.cs] | simp -dsimp (disch := omega) only [wrap_i64])); repeat (with_reducible refine sideA ?_)))
 exact WeakR.drop' rfl rfl
theorem joinS_wrB {a b : List WeekRow} (h1 : wrsB a = true) (h2 : wrsB b = true) : (joinS a b).length ≤ 24 := by
 have := joinS_len a b
 have := (wrsB_all h1).2
 have := (wrsB_all h2).2
 omega
theorem sJoinWeeks_ok (a b : List WeekRow) (hla : a.length ≤ 1048576) (hlb : b.length ≤ 1048576) : Ctr Tryd.prog 17 [WeekRow.sl a, WeekRow.sl b] [] (optO 5 (joinR a b)) (optOh WeekRow.cs (joinR a b)) := by
 refine Ctr.intro Tryd.mixed Tryd.func17 rfl Tryd.okF17 ?_
 simp -implicitDefEqProofs -dsimp only [go_sem, Nat.reduceSub, Nat.reduceAdd, Nat.reduceMul, Nat.reduceLT, Nat.reduceLeDiff, Nat.reduceEqDiff, Nat.reduceDiv, Nat.reduceMod, Int.reduceToNat, Int.reduceLE, Int.reduceLT, Int.reduceBEq, Int.reduceBNe, Int.reduceNeg, Int.reduceAdd, Int.reduceSub, Int.reduceMul, reduceCtorEq, Tryd.ntmps17, Tryd.results17]
 (first | refine callT.at (l26Good_ok a (by omega)) ⟨leA, trivial⟩ ?_ | refine callS.at (l26Good_ok a (by omega)) ⟨leA, trivial⟩ ?_)
 simp -implicitDefEqProofs -dsimp only [go_sem, Nat.reduceSub, Nat.reduceAdd, Nat.reduceMul, Nat.reduceLT, Nat.reduceLeDiff, Nat.reduceEqDiff, Nat.reduceDiv, Nat.reduceMod, Int.reduceToNat, Int.reduceLE, Int.reduceLT, Int.reduceBEq, Int.reduceBNe, Int.reduceNeg, Int.reduceAdd, Int.reduceSub, Int.reduceMul, reduceCtorEq]
 refine guardT.splitF (fun h1 => ?_) (fun h1 => ?_) <;> simp -implicitDefEqProofs -dsimp only [go_sem, Nat.reduceSub, Nat.reduceAdd, Nat.reduceMul, Nat.reduceLT, Nat.reduceLeDiff, Nat.reduceEqDiff, Nat.reduceDiv, Nat.reduceMod, Int.reduceToNat, Int.reduceLE, Int.reduceLT, Int.reduceBEq, Int.reduceBNe, Int.reduceNeg, Int.reduceAdd, Int.reduceSub, Int.reduceMul, reduceCtorEq, h1]
 rotate_left
 · rw [joinR_no (.inl (by simpa using h1))]
   exact WeakR.refl _ _ _
 (first | refine callT.at (l26Good_ok b (by omega)) ⟨leA, trivial⟩ ?_ | refine callS.at (l26Good_ok b (by omega)) ⟨leA, trivial⟩ ?_)
 simp -implicitDefEqProofs -dsimp only [go_sem, Nat.reduceSub, Nat.reduceAdd, Nat.reduceMul, Nat.reduceLT, Nat.reduceLeDiff, Nat.reduceEqDiff, Nat.reduceDiv, Nat.reduceMod, Int.reduceToNat, Int.reduceLE, Int.reduceLT, Int.reduceBEq, Int.reduceBNe, Int.reduceNeg, Int.reduceAdd, Int.reduceSub, Int.reduceMul, reduceCtorEq]
 refine condT.split (fun h2 => ?_) (fun h2 => ?_) <;> simp -implicitDefEqProofs -dsimp only [go_sem, Nat.reduceSub, Nat.reduceAdd, Nat.reduceMul, Nat.reduceLT, Nat.reduceLeDiff, Nat.reduceEqDiff, Nat.reduceDiv, Nat.reduceMod, Int.reduceToNat, Int.reduceLE, Int.reduceLT, Int.reduceBEq, Int.reduceBNe, Int.reduceNeg, Int.reduceAdd, Int.reduceSub, Int.reduceMul, reduceCtorEq, h2]
 · rw [joinR_no (.inr (.inl (by simpa using h2)))]
   exact WeakR.refl _ _ _
 have h1' : wrsB a = true := by simpa using h1
 have h2' : wrsB b = true := by simpa using h2
 obtain ⟨hv, hlen⟩ := wrsB_all h1'
 obtain ⟨hvb, hlenb⟩ := wrsB_all h2'
 have aa := asc_of h1'
 have ab := asc_of h2'
 repeat (with_reducible refine sideA ?_)
 refine LoopT.intro (fun i : Nat => i ≤ b.length) (fun i => ⟨[.undef, WeekRow.sl b, .undef, .undef, .undef, .undef, .osl 0 0 (joinS a (b.take i)).length 5, .int .i64 i, .undef, .undef, .undef, .undef, .undef, .undef, .undef, .undef, .undef, .undef, .undef, .undef, .undef, .undef, .undef, .undef, .undef, .undef, .undef, .undef, .undef, .undef, .undef, .undef, .undef, .undef, .undef, .undef, .undef, .undef, .undef, .undef, .undef, .undef, .undef, .undef, .undef, .undef, .undef, .undef, .undef, .undef, .undef, .undef, .undef, .undef, .undef, .undef, .undef, .undef, .undef, .undef, .undef, .undef, .undef, .undef, .undef, .undef, .undef, .undef, .undef, .undef, .undef, .undef, .undef, .undef, .undef, .undef, .undef, .undef, .undef, .undef, .undef, .undef, .undef, .undef, .undef, .undef, .undef, .undef, .undef, .undef, .undef, .undef, .undef, .undef, .undef, .undef, .undef, .undef, .undef, .undef, .undef, .undef, .undef, .undef, .undef, .undef, .undef, .undef], [some (rows WeekRow.cs (joinS a (b.take i)))], 0⟩) (fun i => b.length - i) 0 (Nat.zero_le _) ?_ (fun i hi => ?_)
 · refine Weak.cut (1) (by simp) (by simp) ?_ ?_
   · simp [LeC, LeV, ren, cutF, joinS]
   · simp [cutH, cutB, map_ren_rows, joinS]
 simp -implicitDefEqProofs -dsimp only [go_sem, Nat.reduceSub, Nat.reduceAdd, Nat.reduceMul, Nat.reduceLT, Nat.reduceLeDiff, Nat.reduceEqDiff, Nat.reduceDiv, Nat.reduceMod, Int.reduceToNat, Int.reduceLE, Int.reduceLT, Int.reduceBEq, Int.reduceBNe, Int.reduceNeg, Int.reduceAdd, Int.reduceSub, Int.reduceMul, reduceCtorEq]
 refine condT.split (fun h3 => ?_) (fun h3 => ?_)
 · have hi' : i < b.length := by simpa using h3
   have hr0 := rows_at WeekRow.csl hi'
   have hSl : (joinS a (b.take i)).length ≤ 24 := by
     have := joinS_len a (b.take i)
     simp at this
     omega
   have hstep := joinS_take (a := a) hi'
   have hold : ∀ x ∈ joinS a (b.take i), x.Week = b[i].Week → x ∈ a := fun x hx hw => join_old aa ab hi' hx hw
   have hvr := wrB_iff.1 (hvb _ (List.getElem_mem hi'))
   generalize hS : joinS a (b.take i) = S at hSl hstep hold
   generalize hr : b[i] = r at hr0 hstep hold hvr
   (repeat ((repeat1' (first | simp -implicitDefEqProofs -dsimp only [go_sem, Nat.reduceSub, Nat.reduceAdd, Nat.reduceMul, Nat.reduceLT, Nat.reduceLeDiff, Nat.reduceEqDiff, Nat.reduceDiv, Nat.reduceMod, Int.reduceToNat, Int.reduceLE, Int.reduceLT, Int.reduceBEq, Int.reduceBNe, Int.reduceNeg, Int.reduceAdd, Int.reduceSub, Int.reduceMul, reduceCtorEq, h3, hr0, WeekRow.cs] | simp -dsimp (disch := omega) only [wrap_i64])); repeat (with_reducible refine sideA ?_)))
   refine LoopT.intro (fun k : Nat => k ≤ S.length ∧ ∀ j (hj : j < S.length), j < k → S[j].Week < r.Week) (fun k => ⟨[.undef, WeekRow.sl b, .undef, .undef, .undef, .undef, .osl 0 0 S.length 5, .int .i64 i, .ptr 1 0, .int .i64 k, .undef, .undef, .undef, .undef, .undef, .undef, .undef, .undef, .undef, .undef, .undef, .undef, .undef, .undef, .undef, .undef, .undef, .undef, .undef, .undef, .undef, .undef, .undef, .undef, .undef, .undef, .undef, .undef, .undef, .undef, .undef, .undef, .undef, .undef, .undef, .undef, .undef, .undef, .undef, .undef, .undef, .undef, .undef, .undef, .undef, .undef, .undef, .undef, .undef, .undef, .undef, .undef, .undef, .undef, .undef, .undef, .undef, .undef, .undef, .undef, .undef, .undef, .undef, .undef, .undef, .undef, .undef, .undef, .undef, .undef, .undef, .undef, .undef, .undef, .undef, .undef, .undef, .undef, .undef, .undef, .undef, .undef, .undef, .undef, .undef, .undef, .undef, .undef, .undef, .undef, .undef, .undef, .undef, .undef, .undef, .undef, .undef, .undef], [some (rows WeekRow.cs S), some r.cs], 0⟩) (fun k => S.length - k) 0 ⟨Nat.zero_le _, fun j hj h => by omega⟩ ?_ (fun k hk => ?_)
   · refine Weak.cut (2) (by simp) (by simp) ?_ ?_
     · simp [LeC, LeV, ren, cutF]
     · simp [cutH, cutB, ren, map_ren_rows, WeekRow.cs]
   obtain ⟨hk, hlt⟩ := hk
   have fin : (∀ h : k < S.length, r.Week ≤ S[k].Week) → putW S r = S.take k ++ (match S.drop k with
       | [] => [r]
       | x :: R => if x.Week = r.Week then addR x r :: R else r :: x :: R) := fun h => putW_at hk hlt h
   simp -implicitDefEqProofs -dsimp only [go_sem, Nat.reduceSub, Nat.reduceAdd, Nat.reduceMul, Nat.reduceLT, Nat.reduceLeDiff, Nat.reduceEqDiff, Nat.reduceDiv, Nat.reduceMod, Int.reduceToNat, Int.reduceLE, Int.reduceLT, Int.reduceBEq, Int.reduceBNe, Int.reduceNeg, Int.reduceAdd, Int.reduceSub, Int.reduceMul, reduceCtorEq, WeekRow.cs]
   refine ⟨by kernel_rfl, ?_⟩
   refine guardT.split (fun h4 => ?_) (fun h4 => ?_)
   · have hk' : k < S.length := by simpa using h4
     have hrk := rows_at WeekRow.csl hk'
     have hw0 : List.take 1 (List.drop (k * 5 + 0) (rows WeekRow.cs S)) = [.int .i64 S[k].Week] := by rw [rows_drop_at WeekRow.csl hk' 0]; rfl
     (repeat ((repeat1' (first | simp -implicitDefEqProofs -dsimp only [go_sem, Nat.reduceSub, Nat.reduceAdd, Nat.reduceMul, Nat.reduceLT, Nat.reduceLeDiff, Nat.reduceEqDiff, Nat.reduceDiv, Nat.reduceMod, Int.reduceToNat, Int.reduceLE, Int.reduceLT, Int.reduceBEq, Int.reduceBNe, Int.reduceNeg, Int.reduceAdd, Int.reduceSub, Int.reduceMul, reduceCtorEq, h4, hw0] | simp -dsimp (disch := omega) only [wrap_i64])); repeat (with_reducible refine sideA ?_)))
     refine condT.split (fun h5 => ?_) (fun h5 => ?_)
     · have h5' := of_decide_eq_true h5
       (repeat ((repeat1' (first | simp -implicitDefEqProofs -dsimp only [go_sem, Nat.reduceSub, Nat.reduceAdd, Nat.reduceMul, Nat.reduceLT, Nat.reduceLeDiff, Nat.reduceEqDiff, Nat.reduceDiv, Nat.reduceMod, Int.reduceToNat, Int.reduceLE, Int.reduceLT, Int.reduceBEq, Int.reduceBNe, Int.reduceNeg, Int.reduceAdd, Int.reduceSub, Int.reduceMul, reduceCtorEq, h5] | simp -dsimp (disch := omega) only [wrap_i64])); repeat (with_reducible refine sideA ?_)))
       refine ⟨k + 1, ⟨hk', fun j hj hjk => ?_⟩, ?_, by omega⟩
       · rcases Nat.lt_or_ge j k with h | h
         · exact hlt j hj h
         · have : j = k := by omega
           subst this
           exact h5'
       · refine Weak.cut (2) (by simp) (by simp) ?_ ?_
         · simp [LeC, LeV, ren, cutF]
         · simp [cutH, cutB, ren, map_ren_rows]
     · have h5' := of_decide_eq_false h5
       have hf := fin fun _ => by omega
       have hdk : S.drop k = S[k] :: S.drop (k + 1) := List.drop_eq_getElem_cons hk'
       have hif : ((k : Int) = 0 ∨ (k : Int) < (S.length : Int)) = True := eq_true (by omega)
       have hlk : decide ((0 : Int) < ((S.length - k : Nat) : Int)) = true := decide_eq_true (by omega)
       have hw1 : List.take 1 (List.drop (k * 5 + 0 + 0) (rows WeekRow.cs S)) = [.int .i64 S[k].Week] := hw0
       have hrk1 : List.take 5 (List.drop (k * 5 + 0) (rows WeekRow.cs S)) = S[k].cs := hrk
       (repeat ((repeat1' (first | simp -implicitDefEqProofs -dsimp only [go_sem, Nat.reduceSub, Nat.reduceAdd, Nat.reduceMul, Nat.reduceLT, Nat.reduceLeDiff, Nat.reduceEqDiff, Nat.reduceDiv, Nat.reduceMod, Int.reduceToNat, Int.reduceLE, Int.reduceLT, Int.reduceBEq, Int.reduceBNe, Int.reduceNeg, Int.reduceAdd, Int.reduceSub, Int.reduceMul, reduceCtorEq, h5, hif, if_true, hlk, hw1] | simp -dsimp (disch := omega) only [wrap_i64])); repeat (with_reducible refine sideA ?_)))
       refine condT.split (fun h6 => ?_) (fun h6 => ?_)
       · have h6' : S[k].Week = r.Week := by simpa using h6
         have hvx := wrB_iff.1 (hv _ (hold _ (List.getElem_mem hk') h6'))
         (repeat ((repeat1' (first | simp -implicitDefEqProofs -dsimp only [go_sem, Nat.reduceSub, Nat.reduceAdd, Nat.reduceMul, Nat.reduceLT, Nat.reduceLeDiff, Nat.reduceEqDiff, Nat.reduceDiv, Nat.reduceMod, Int.reduceToNat, Int.reduceLE, Int.reduceLT, Int.reduceBEq, Int.reduceBNe, Int.reduceNeg, Int.reduceAdd, Int.reduceSub, Int.reduceMul, reduceCtorEq, h6, hrk1, WeekRow.cs] | simp -dsimp (disch := omega) only [wrap_i64])); repeat (with_reducible refine sideA ?_)))
         have hf' : putW S r = S.take k ++ addR S[k] r :: S.drop (k + 1) := by
           rw [hf, hdk]
           simp only [if_pos h6']
         by_cases hk1 : k + 1 < S.length
         · have hif2 : ((1 : Int) = 0 ∨ (1 : Int) < ((S.length - k : Nat) : Int)) = True := eq_true (by omega)
           simp only [hif2, if_true]
           refine chT.intro [false, true, true, true, false, true, true, false, true, false, false] [true, true, true, true, true, true, true, true, true, true, false] [some ⟨none, 93, 24, []⟩, none, none, none, some ⟨some 0, 97, 24, [96]⟩, none, none, some ⟨some 4, 100, 24, [96, 99]⟩, none, some ⟨some 7, 102, 24, [96, 99, 101]⟩, none] [⟨9, 102, 24, [96, 99, 101]⟩] (by kernel_rfl) (by rfl) ?_
           have hd : List.drop (k * 5 + 5) (rows WeekRow.cs S) = rows WeekRow.cs (S.drop (k + 1)) := by
             have := rows_drop WeekRow.csl S (k + 1)
             rwa [Nat.add_mul, Nat.one_mul] at this
           have htk := rows_take WeekRow.csl (S.drop (k + 1)) (S.length - k - 1)
           rw [List.take_of_length_le (l := S.drop (k + 1)) (by rw [List.length_drop]; omega)] at htk
           have hfr : rows WeekRow.cs (S.take k) ++ [.int .i64 r.Week, .int .i64 (S[k].Events + r.Events), .int .i64 (S[k].Felt + r.Felt), .int .i64 (S[k].Picks + r.Picks), .int .i64 (S[k].Lost + r.Lost)] ++ rows WeekRow.cs (S.drop (k + 1)) = rows WeekRow.cs (joinS a (b.take (i + 1))) := by
             rw [hstep, hf', rowsOf_append, rows_cons, List.append_assoc]; rfl
           have hfl : (joinS a (b.take (i + 1))).length = k + 1 + (S.length - k - 1) := by rw [hstep, hf']; simp; omega
           have ht := rows_take WeekRow.csl S k
           (repeat ((repeat1' (first | simp -implicitDefEqProofs -dsimp only [go_sem, Nat.reduceSub, Nat.reduceAdd, Nat.reduceMul, Nat.reduceLT, Nat.reduceLeDiff, Nat.reduceEqDiff, Nat.reduceDiv, Nat.reduceMod, Int.reduceToNat, Int.reduceLE, Int.reduceLT, Int.reduceBEq, Int.reduceBNe, Int.reduceNeg, Int.reduceAdd, Int.reduceSub, Int.reduceMul, reduceCtorEq, ht, hd, htk, Nat.sub_zero] | simp -dsimp (disch := omega) only [wrap_i64])); repeat (with_reducible refine sideA ?_)))
           refine ⟨⟨by omega, by omega, by rw [hfr]; exact rows_noOwn _ _⟩, i + 1, hi', ?_, by omega⟩
           refine Weak.pick [4] (by decide) (fun j hj => by omega) ?_ ?_
           · simp [LeG, LeC, LeV, ren, pickF, posOf, hfl]; try omega
           · simp only [pickH, List.map_cons, List.map_nil, pickB, List.getElem?_cons_zero, List.getElem?_cons_succ, hfr, map_ren_rows]
         · have hif2 : ((1 : Int) = 0 ∨ (1 : Int) < ((S.length - k : Nat) : Int)) = False := eq_false (by omega)
           simp only [hif2, if_false]
           have hdn : S.drop (k + 1) = [] := List.drop_of_length_le (by omega)
           rw [hdn] at hf'
           refine chT.intro [false, true, true, true, false, true, true, false, true, false, false] [true, true, true, true, true, true, true, true, true, true, false] [some ⟨none, 93, 24, []⟩, none, none, none, some ⟨some 0, 97, 24, [96]⟩, none, none, some ⟨some 4, 100, 24, [96, 99]⟩, none, some ⟨some 7, 102, 24, [96, 99, 101]⟩, none] [⟨9, 102, 24, [96, 99, 101]⟩] (by kernel_rfl) (by rfl) ?_
           have hfr : rows WeekRow.cs (S.take k) ++ [.int .i64 r.Week, .int .i64 (S[k].Events + r.Events), .int .i64 (S[k].Felt + r.Felt), .int .i64 (S[k].Picks + r.Picks), .int .i64 (S[k].Lost + r.Lost)] = rows WeekRow.cs (joinS a (b.take (i + 1))) := by
             rw [hstep, hf', rowsOf_append, rows_cons, rows_nil, List.append_nil]; rfl
           have hfl : (joinS a (b.take (i + 1))).length = k + 1 + 0 := by rw [hstep, hf']; simp; omega
           have ht := rows_take WeekRow.csl S k
           (repeat ((repeat1' (first | simp -implicitDefEqProofs -dsimp only [go_sem, Nat.reduceSub, Nat.reduceAdd, Nat.reduceMul, Nat.reduceLT, Nat.reduceLeDiff, Nat.reduceEqDiff, Nat.reduceDiv, Nat.reduceMod, Int.reduceToNat, Int.reduceLE, Int.reduceLT, Int.reduceBEq, Int.reduceBNe, Int.reduceNeg, Int.reduceAdd, Int.reduceSub, Int.reduceMul, reduceCtorEq, ht, Nat.sub_zero] | simp -dsimp (disch := omega) only [wrap_i64])); repeat (with_reducible refine sideA ?_)))
           refine ⟨⟨by omega, by omega, by rw [hfr]; exact rows_noOwn _ _⟩, i + 1, hi', ?_, by omega⟩
           refine Weak.pick [4] (by decide) (fun j hj => by omega) ?_ ?_
           · simp [LeG, LeC, LeV, ren, pickF, posOf, hfl]; try omega
           · simp only [pickH, List.map_cons, List.map_nil, pickB, List.getElem?_cons_zero, List.getElem?_cons_succ, hfr, map_ren_rows]
       · have h6' : S[k].Week ≠ r.Week := by simpa using h6
         (repeat ((repeat1' (first | simp -implicitDefEqProofs -dsimp only [go_sem, Nat.reduceSub, Nat.reduceAdd, Nat.reduceMul, Nat.reduceLT, Nat.reduceLeDiff, Nat.reduceEqDiff, Nat.reduceDiv, Nat.reduceMod, Int.reduceToNat, Int.reduceLE, Int.reduceLT, Int.reduceBEq, Int.reduceBNe, Int.reduceNeg, Int.reduceAdd, Int.reduceSub, Int.reduceMul, reduceCtorEq, h6] | simp -dsimp (disch := omega) only [wrap_i64])); repeat (with_reducible refine sideA ?_)))
         refine chT.intro [false, true, true, true, false, true, true, false, true, false, false] [true, true, true, true, true, true, true, true, true, true, false] [some ⟨none, 93, 24, []⟩, none, none, none, some ⟨some 0, 97, 24, [96]⟩, none, none, some ⟨some 4, 100, 24, [96, 99]⟩, none, some ⟨some 7, 102, 24, [96, 99, 101]⟩, none] [⟨9, 102, 24, [96, 99, 101]⟩] (by kernel_rfl) (by rfl) ?_
         have hf' : putW S r = S.take k ++ r :: S.drop k := by
           rw [hf, hdk]
           simp only [if_neg h6']
         have hd := rows_drop WeekRow.csl S k
         have htk := rows_take WeekRow.csl (S.drop k) (S.length - k)
         rw [List.take_of_length_le (l := S.drop k) (by rw [List.length_drop]; exact Nat.le_refl _)] at htk
         have hfr : rows WeekRow.cs (S.take k) ++ [.int .i64 r.Week, .int .i64 r.Events, .int .i64 r.Felt, .int .i64 r.Picks, .int .i64 r.Lost] ++ rows WeekRow.cs (S.drop k) = rows WeekRow.cs (joinS a (b.take (i + 1))) := by
           rw [hstep, hf', rowsOf_append, rows_cons, List.append_assoc]; rfl
         have hfl : (joinS a (b.take (i + 1))).length = k + 1 + (S.length - k) := by rw [hstep, hf']; simp; omega
         have ht := rows_take WeekRow.csl S k
         (repeat ((repeat1' (first | simp -implicitDefEqProofs -dsimp only [go_sem, Nat.reduceSub, Nat.reduceAdd, Nat.reduceMul, Nat.reduceLT, Nat.reduceLeDiff, Nat.reduceEqDiff, Nat.reduceDiv, Nat.reduceMod, Int.reduceToNat, Int.reduceLE, Int.reduceLT, Int.reduceBEq, Int.reduceBNe, Int.reduceNeg, Int.reduceAdd, Int.reduceSub, Int.reduceMul, reduceCtorEq, ht, hd, htk, Nat.sub_zero] | simp -dsimp (disch := omega) only [wrap_i64])); repeat (with_reducible refine sideA ?_)))
         refine ⟨⟨by omega, by omega, by rw [hfr]; exact rows_noOwn _ _⟩, i + 1, hi', ?_, by omega⟩
         refine Weak.pick [3] (by decide) (fun j hj => by omega) ?_ ?_
         · simp [LeG, LeC, LeV, ren, pickF, posOf, hfl]; try omega
         · simp only [pickH, List.map_cons, List.map_nil, pickB, List.getElem?_cons_zero, List.getElem?_cons_succ, hfr, map_ren_rows]
   · have hk' : k = S.length := by simp at h4; omega
     have hf := fin fun h => by omega
     have hdn : S.drop k = [] := List.drop_of_length_le (by omega)
     rw [hdn] at hf
     by_cases hk0 : k = 0
     · have hif : ((k : Int) = 0 ∨ (k : Int) < (S.length : Int)) = True := eq_true (by omega)
       have hlk : decide ((0 : Int) < ((S.length - k : Nat) : Int)) = false := decide_eq_false (by omega)
       (repeat ((repeat1' (first | simp -implicitDefEqProofs -dsimp only [go_sem, Nat.reduceSub, Nat.reduceAdd, Nat.reduceMul, Nat.reduceLT, Nat.reduceLeDiff, Nat.reduceEqDiff, Nat.reduceDiv, Nat.reduceMod, Int.reduceToNat, Int.reduceLE, Int.reduceLT, Int.reduceBEq, Int.reduceBNe, Int.reduceNeg, Int.reduceAdd, Int.reduceSub, Int.reduceMul, reduceCtorEq, h4, hif, if_true, hlk] | simp -dsimp (disch := omega) only [wrap_i64])); repeat (with_reducible refine sideA ?_)))
       refine chT.intro [false, true, true, true, false, true, true, false, true, false, false] [true, true, true, true, true, true, true, true, true, true, false] [some ⟨none, 93, 24, []⟩, none, none, none, some ⟨some 0, 97, 24, [96]⟩, none, none, some ⟨some 4, 100, 24, [96, 99]⟩, none, some ⟨some 7, 102, 24, [96, 99, 101]⟩, none] [⟨9, 102, 24, [96, 99, 101]⟩] (by kernel_rfl) (by rfl) ?_
       have hf' : putW S r = S.take k ++ r :: S.drop k := by rw [hf, hdn]
       have hd := rows_drop WeekRow.csl S k
       have htk := rows_take WeekRow.csl (S.drop k) (S.length - k)
       rw [List.take_of_length_le (l := S.drop k) (by rw [List.length_drop]; exact Nat.le_refl _)] at htk
       have hfr : rows WeekRow.cs (S.take k) ++ [.int .i64 r.Week, .int .i64 r.Events, .int .i64 r.Felt, .int .i64 r.Picks, .int .i64 r.Lost] ++ rows WeekRow.cs (S.drop k) = rows WeekRow.cs (joinS a (b.take (i + 1))) := by
         rw [hstep, hf', rowsOf_append, rows_cons, List.append_assoc]; rfl
       have hfl : (joinS a (b.take (i + 1))).length = k + 1 + (S.length - k) := by rw [hstep, hf']; simp; omega
       have ht := rows_take WeekRow.csl S k
       (repeat ((repeat1' (first | simp -implicitDefEqProofs -dsimp only [go_sem, Nat.reduceSub, Nat.reduceAdd, Nat.reduceMul, Nat.reduceLT, Nat.reduceLeDiff, Nat.reduceEqDiff, Nat.reduceDiv, Nat.reduceMod, Int.reduceToNat, Int.reduceLE, Int.reduceLT, Int.reduceBEq, Int.reduceBNe, Int.reduceNeg, Int.reduceAdd, Int.reduceSub, Int.reduceMul, reduceCtorEq, ht, hd, htk, Nat.sub_zero] | simp -dsimp (disch := omega) only [wrap_i64])); repeat (with_reducible refine sideA ?_)))
       refine ⟨⟨by omega, by omega, by rw [hfr]; exact rows_noOwn _ _⟩, i + 1, hi', ?_, by omega⟩
       refine Weak.pick [3] (by decide) (fun j hj => by omega) ?_ ?_
       · simp [LeG, LeC, LeV, ren, pickF, posOf, hfl]; try omega
       · simp only [pickH, List.map_cons, List.map_nil, pickB, List.getElem?_cons_zero, List.getElem?_cons_succ, hfr, map_ren_rows]
     · have hif : ((k : Int) = 0 ∨ (k : Int) < (S.length : Int)) = False := eq_false (by omega)
       have h00 : decide ((0 : Int) < ((0 : Nat) : Int)) = false := by decide
       (repeat ((repeat1' (first | simp -implicitDefEqProofs -dsimp only [go_sem, Nat.reduceSub, Nat.reduceAdd, Nat.reduceMul, Nat.reduceLT, Nat.reduceLeDiff, Nat.reduceEqDiff, Nat.reduceDiv, Nat.reduceMod, Int.reduceToNat, Int.reduceLE, Int.reduceLT, Int.reduceBEq, Int.reduceBNe, Int.reduceNeg, Int.reduceAdd, Int.reduceSub, Int.reduceMul, reduceCtorEq, h4, hif, if_false, h00] | simp -dsimp (disch := omega) only [wrap_i64])); repeat (with_reducible refine sideA ?_)))
       refine chT.intro [false, true, true, true, false, true, true, false, true, false, false] [true, true, true, true, true, true, true, true, true, true, false] [some ⟨none, 93, 24, []⟩, none, none, none, some ⟨some 0, 97, 24, [96]⟩, none, none, some ⟨some 4, 100, 24, [96, 99]⟩, none, some ⟨some 7, 102, 24, [96, 99, 101]⟩, none] [⟨9, 102, 24, [96, 99, 101]⟩] (by kernel_rfl) (by rfl) ?_
       have hf' : putW S r = S.take k ++ r :: [] := hf
       have hfr : rows WeekRow.cs (S.take k) ++ [.int .i64 r.Week, .int .i64 r.Events, .int .i64 r.Felt, .int .i64 r.Picks, .int .i64 r.Lost] = rows WeekRow.cs (joinS a (b.take (i + 1))) := by
         rw [hstep, hf', rowsOf_append, rows_cons, rows_nil, List.append_nil]; rfl
       have hfl : (joinS a (b.take (i + 1))).length = k + 1 + 0 := by rw [hstep, hf']; simp; omega
       have ht := rows_take WeekRow.csl S k
       (repeat ((repeat1' (first | simp -implicitDefEqProofs -dsimp only [go_sem, Nat.reduceSub, Nat.reduceAdd, Nat.reduceMul, Nat.reduceLT, Nat.reduceLeDiff, Nat.reduceEqDiff, Nat.reduceDiv, Nat.reduceMod, Int.reduceToNat, Int.reduceLE, Int.reduceLT, Int.reduceBEq, Int.reduceBNe, Int.reduceNeg, Int.reduceAdd, Int.reduceSub, Int.reduceMul, reduceCtorEq, ht, Nat.sub_zero] | simp -dsimp (disch := omega) only [wrap_i64])); repeat (with_reducible refine sideA ?_)))
       refine ⟨⟨by omega, by omega, by rw [hfr]; exact rows_noOwn _ _⟩, i + 1, hi', ?_, by omega⟩
       refine Weak.pick [3] (by decide) (fun j hj => by omega) ?_ ?_
       · simp [LeG, LeC, LeV, ren, pickF, posOf, hfl]; try omega
       · simp only [pickH, List.map_cons, List.map_nil, pickB, List.getElem?_cons_zero, List.getElem?_cons_succ, hfr, map_ren_rows]
 · have hi' : i = b.length := by simp at h3; omega
   subst hi'
   rw [List.take_length]
   have hJl := joinS_wrB h1' h2'
   (repeat ((repeat1' (first | simp -implicitDefEqProofs -dsimp only [go_sem, Nat.reduceSub, Nat.reduceAdd, Nat.reduceMul, Nat.reduceLT, Nat.reduceLeDiff, Nat.reduceEqDiff, Nat.reduceDiv, Nat.reduceMod, Int.reduceToNat, Int.reduceLE, Int.reduceLT, Int.reduceBEq, Int.reduceBNe, Int.reduceNeg, Int.reduceAdd, Int.reduceSub, Int.reduceMul, reduceCtorEq, h3] | simp -dsimp (disch := omega) only [wrap_i64])); repeat (with_reducible refine sideA ?_)))
   (first | refine callT.at (l26Good_ok (joinS a b) (by omega)) ⟨leA, trivial⟩ ?_ | refine callS.at (l26Good_ok (joinS a b) (by omega)) ⟨leA, trivial⟩ ?_)
   cases hJ : wrsB (joinS a b) with
   | false =>
     (repeat ((repeat1' (first | simp -implicitDefEqProofs -dsimp only [go_sem, Nat.reduceSub, Nat.reduceAdd, Nat.reduceMul, Nat.reduceLT, Nat.reduceLeDiff, Nat.reduceEqDiff, Nat.reduceDiv, Nat.reduceMod, Int.reduceToNat, Int.reduceLE, Int.reduceLT, Int.reduceBEq, Int.reduceBNe, Int.reduceNeg, Int.reduceAdd, Int.reduceSub, Int.reduceMul, reduceCtorEq] | simp -dsimp (disch := omega) only [wrap_i64])); repeat (with_reducible refine sideA ?_)))
     rw [joinR_no (.inr (.inr hJ))]
     refine WeakR.pick [1] (by decide) (fun j hj => by omega) (.inl rfl) ?_
     simp [pickH, pickB, optOh]
   | true =>
     have e : joinR a b = some (joinS a b) := if_pos ⟨h1', h2', hJ⟩
     (repeat ((repeat1' (first | simp -implicitDefEqProofs -dsimp only [go_sem, Nat.reduceSub, Nat.reduceAdd, Nat.reduceMul, Nat.reduceLT, Nat.reduceLeDiff, Nat.reduceEqDiff, Nat.reduceDiv, Nat.reduceMod, Int.reduceToNat, Int.reduceLE, Int.reduceLT, Int.reduceBEq, Int.reduceBNe, Int.reduceNeg, Int.reduceAdd, Int.reduceSub, Int.reduceMul, reduceCtorEq] | simp -dsimp (disch := omega) only [wrap_i64])); repeat (with_reducible refine sideA ?_)))
     rw [e]
     exact WeakR.refl _ _ _
theorem idxI_alt (p : WeekRow → Bool) (L : List WeekRow) : (L.findIdx? p = none ∧ idxI p L = -1) ∨ ∃ k, L.findIdx? p = some k ∧ idxI p L = (k : Int) := by
 unfold idxI
 cases h : L.findIdx? p with
 | none => exact .inl ⟨rfl, rfl⟩
 | some k => exact .inr ⟨k, rfl, rfl⟩
theorem tot_two {x r : WeekRow} (hx : wrB x = true) (hr : wrB r = true) : tot [x, r] = ⟨0, x.Events + r.Events, x.Felt + r.Felt, x.Picks + r.Picks, x.Lost + r.Lost⟩ := by
 have h1 := wrB_iff.1 hx
 have h2 := wrB_iff.1 hr
 have key : ∀ (f : WeekRow → Int), (0 ≤ f x ∧ f x ≤ 99999) → (0 ≤ f r ∧ f r ≤ 99999) → wsum f [x, r] = f x + f r := by
   intro f g1 g2
   simp only [wsum, List.foldl_cons, List.foldl_nil]
   rw [wrap_i64 (n := 0 + f x) (by omega) (by omega), wrap_i64 (by omega) (by omega)]
   omega
 rw [tot, key _ (by omega) (by omega), key _ (by omega) (by omega), key _ (by omega) (by omega), key _ (by omega) (by omega)]
theorem iJoinWeeks_ok (a b : List WeekRow) (hla : a.length ≤ 1048576) (hlb : b.length ≤ 1048576) : Ctr Tryd.prog 16 [WeekRow.sl a, WeekRow.sl b] [] (optN 5 (joinR a b)) (optNh WeekRow.cs (joinR a b)) := by
 refine Ctr.intro Tryd.mixed Tryd.func16 rfl Tryd.okF16 ?_
 simp -implicitDefEqProofs -dsimp only [go_sem, Nat.reduceSub, Nat.reduceAdd, Nat.reduceMul, Nat.reduceLT, Nat.reduceLeDiff, Nat.reduceEqDiff, Nat.reduceDiv, Nat.reduceMod, Int.reduceToNat, Int.reduceLE, Int.reduceLT, Int.reduceBEq, Int.reduceBNe, Int.reduceNeg, Int.reduceAdd, Int.reduceSub, Int.reduceMul, reduceCtorEq, Tryd.ntmps16, Tryd.results16]
 (first | refine callT.at (iAreWeekRows_ok a (by omega)) ⟨leA, trivial⟩ ?_ | refine callS.at (iAreWeekRows_ok a (by omega)) ⟨leA, trivial⟩ ?_)
 simp -implicitDefEqProofs -dsimp only [go_sem, Nat.reduceSub, Nat.reduceAdd, Nat.reduceMul, Nat.reduceLT, Nat.reduceLeDiff, Nat.reduceEqDiff, Nat.reduceDiv, Nat.reduceMod, Int.reduceToNat, Int.reduceLE, Int.reduceLT, Int.reduceBEq, Int.reduceBNe, Int.reduceNeg, Int.reduceAdd, Int.reduceSub, Int.reduceMul, reduceCtorEq]
 refine guardT.splitF (fun h1 => ?_) (fun h1 => ?_) <;> simp -implicitDefEqProofs -dsimp only [go_sem, Nat.reduceSub, Nat.reduceAdd, Nat.reduceMul, Nat.reduceLT, Nat.reduceLeDiff, Nat.reduceEqDiff, Nat.reduceDiv, Nat.reduceMod, Int.reduceToNat, Int.reduceLE, Int.reduceLT, Int.reduceBEq, Int.reduceBNe, Int.reduceNeg, Int.reduceAdd, Int.reduceSub, Int.reduceMul, reduceCtorEq, h1]
 rotate_left
 · rw [joinR_no (.inl (by simpa using h1))]
   exact WeakR.refl _ _ _
 (first | refine callT.at (iAreWeekRows_ok b (by omega)) ⟨leA, trivial⟩ ?_ | refine callS.at (iAreWeekRows_ok b (by omega)) ⟨leA, trivial⟩ ?_)
 simp -implicitDefEqProofs -dsimp only [go_sem, Nat.reduceSub, Nat.reduceAdd, Nat.reduceMul, Nat.reduceLT, Nat.reduceLeDiff, Nat.reduceEqDiff, Nat.reduceDiv, Nat.reduceMod, Int.reduceToNat, Int.reduceLE, Int.reduceLT, Int.reduceBEq, Int.reduceBNe, Int.reduceNeg, Int.reduceAdd, Int.reduceSub, Int.reduceMul, reduceCtorEq]
 refine condT.split (fun h2 => ?_) (fun h2 => ?_) <;> simp -implicitDefEqProofs -dsimp only [go_sem, Nat.reduceSub, Nat.reduceAdd, Nat.reduceMul, Nat.reduceLT, Nat.reduceLeDiff, Nat.reduceEqDiff, Nat.reduceDiv, Nat.reduceMod, Int.reduceToNat, Int.reduceLE, Int.reduceLT, Int.reduceBEq, Int.reduceBNe, Int.reduceNeg, Int.reduceAdd, Int.reduceSub, Int.reduceMul, reduceCtorEq, h2]
 · rw [joinR_no (.inr (.inl (by simpa using h2)))]
   exact WeakR.refl _ _ _
 have h1' : wrsB a = true := by simpa using h1
 have h2' : wrsB b = true := by simpa using h2
 obtain ⟨hv, hlen⟩ := wrsB_all h1'
 obtain ⟨hvb, hlenb⟩ := wrsB_all h2'
 have aa := asc_of h1'
 have ab := asc_of h2'
 (first | refine callT.at (copyOfWeekRow_ok a hla) ⟨leA, trivial⟩ ?_ | refine callS.at (copyOfWeekRow_ok a hla) ⟨leA, trivial⟩ ?_)
 (repeat ((repeat1' (first | simp -implicitDefEqProofs -dsimp only [go_sem, Nat.reduceSub, Nat.reduceAdd, Nat.reduceMul, Nat.reduceLT, Nat.reduceLeDiff, Nat.reduceEqDiff, Nat.reduceDiv, Nat.reduceMod, Int.reduceToNat, Int.reduceLE, Int.reduceLT, Int.reduceBEq, Int.reduceBNe, Int.reduceNeg, Int.reduceAdd, Int.reduceSub, Int.reduceMul, reduceCtorEq] | simp -dsimp (disch := omega) only [wrap_i64])); repeat (with_reducible refine sideA ?_)))
 refine LoopT.intro (fun i : Nat => i ≤ b.length) (fun i => ⟨[WeekRow.sl a, .undef, .undef, .undef, .undef, .undef, .osl 0 0 (joinO a (b.take i)).length 5, .undef, .undef, .undef, .undef, .undef, .undef, .undef, .undef, .undef, .undef, .undef, .undef, .undef, .undef, WeekRow.sl b, .int .i64 b.length, .int .i64 i, .undef, .undef, .undef, .undef, .undef, .undef, .undef, .undef, .undef, .undef, .undef, .undef, .undef, .undef, .undef, .undef, .undef, .undef, .undef, .undef, .undef, .undef, .undef, .undef, .undef, .undef, .undef, .undef, .undef, .undef, .undef, .undef, .undef], [some (rows WeekRow.cs (joinO a (b.take i)))], 0⟩) (fun i => b.length - i) 0 (Nat.zero_le _) ?_ (fun i hi => ?_)
 · refine Weak.cut (1) (by simp) (by simp) ?_ ?_
   · simp [LeC, LeV, ren, cutF, joinO]
   · simp [cutH, cutB, map_ren_rows, joinO]
 have I := joinI_all aa ab i hi
 have hIl := I.len
 have hIu := I.up
 rw [List.length_take] at hIu
 simp -implicitDefEqProofs -dsimp only [go_sem, Nat.reduceSub, Nat.reduceAdd, Nat.reduceMul, Nat.reduceLT, Nat.reduceLeDiff, Nat.reduceEqDiff, Nat.reduceDiv, Nat.reduceMod, Int.reduceToNat, Int.reduceLE, Int.reduceLT, Int.reduceBEq, Int.reduceBNe, Int.reduceNeg, Int.reduceAdd, Int.reduceSub, Int.reduceMul, reduceCtorEq]
 refine condT.split (fun h3 => ?_) (fun h3 => ?_)
 · have hi' : i < b.length := by simpa using h3
   have hr0 := rows_at WeekRow.csl hi'
   have hstep := joinO_take (a := a) hi'
   have hvi := hvb _ (List.getElem_mem hi')
   have hjx := fun k (h : a.findIdx? (weekP b[i].Week) = some k) => join_idx aa ab hi' h
   generalize hS : joinO a (b.take i) = O at hIl hIu hstep hjx
   generalize hr : b[i] = r at hr0 hstep hvi hjx
   have hvr := wrB_iff.1 hvi
   (repeat ((repeat1' (first | simp -implicitDefEqProofs -dsimp only [go_sem, Nat.reduceSub, Nat.reduceAdd, Nat.reduceMul, Nat.reduceLT, Nat.reduceLeDiff, Nat.reduceEqDiff, Nat.reduceDiv, Nat.reduceMod, Int.reduceToNat, Int.reduceLE, Int.reduceLT, Int.reduceBEq, Int.reduceBNe, Int.reduceNeg, Int.reduceAdd, Int.reduceSub, Int.reduceMul, reduceCtorEq, h3, hr0, WeekRow.cs] | simp -dsimp (disch := omega) only [wrap_i64])); repeat (with_reducible refine sideA ?_)))
   (first | refine callT.at (indexFuncWeekRow_ok a (weekP r.Week) _ [.pt r.cs] (fun d => by cases d <;> rfl) (fun x => weekIs_ok r x) (by omega)) ⟨leA, leA, trivial⟩ ?_ | refine callS.at (indexFuncWeekRow_ok a (weekP r.Week) _ [.pt r.cs] (fun d => by cases d <;> rfl) (fun x => weekIs_ok r x) (by omega)) ⟨leA, leA, trivial⟩ ?_)
   rcases idxI_alt (weekP r.Week) a with ⟨e1, e2⟩ | ⟨k, e1, e2⟩
   · rw [e2]
     have hsn : rows WeekRow.cs O ++ [.int .i64 r.Week, .int .i64 r.Events, .int .i64 r.Felt, .int .i64 r.Picks, .int .i64 r.Lost] = rows WeekRow.cs (O ++ [r]) := rows_snoc (cs := WeekRow.cs) O r
     have hno : joinO a (b.take (i + 1)) = O ++ [r] := by rw [hstep, outW_none e1]
     (repeat ((repeat1' (first | simp -implicitDefEqProofs -dsimp only [go_sem, Nat.reduceSub, Nat.reduceAdd, Nat.reduceMul, Nat.reduceLT, Nat.reduceLeDiff, Nat.reduceEqDiff, Nat.reduceDiv, Nat.reduceMod, Int.reduceToNat, Int.reduceLE, Int.reduceLT, Int.reduceBEq, Int.reduceBNe, Int.reduceNeg, Int.reduceAdd, Int.reduceSub, Int.reduceMul, reduceCtorEq, hsn] | simp -dsimp (disch := omega) only [wrap_i64])); repeat (with_reducible refine sideA ?_)))
     refine ⟨i + 1, hi', ?_, by omega⟩
     refine Weak.cut (1) (by simp) (by simp) ?_ ?_
     · simp [LeC, LeV, ren, cutF, hno]
     · simp [cutH, cutB, map_ren_rows, hno]
   · obtain ⟨hk, hkw, hOk⟩ := hjx k e1
     have hrk := rows_at WeekRow.csl hk
     have hd : decide ((k : Int) < 0) = false := decide_eq_false (by omega)
     rw [e2]
     have hkO : k < O.length := by omega
     have hOk' : O[k] = a[k] := by rw [List.getElem?_eq_getElem hkO] at hOk; exact Option.some.inj hOk
     have hvk := hv _ (List.getElem_mem hk)
     have ht2 := tot_two hvk hvi
     have hso : joinO a (b.take (i + 1)) = O.set k (addR a[k] r) := by rw [hstep, outW_some e1 hk]
     have hsp := splice_row (cs := WeekRow.cs) WeekRow.csl hkO (addR a[k] r)
     rw [← hso] at hsp
     simp only [addR, WeekRow.cs] at hsp
     have hct := totals_ok [a[k], r] (by simp)
     rw [ht2] at hct
     (repeat ((repeat1' (first | simp -implicitDefEqProofs -dsimp only [go_sem, Nat.reduceSub, Nat.reduceAdd, Nat.reduceMul, Nat.reduceLT, Nat.reduceLeDiff, Nat.reduceEqDiff, Nat.reduceDiv, Nat.reduceMod, Int.reduceToNat, Int.reduceLE, Int.reduceLT, Int.reduceBEq, Int.reduceBNe, Int.reduceNeg, Int.reduceAdd, Int.reduceSub, Int.reduceMul, reduceCtorEq, hd, hrk, WeekRow.cs] | simp -dsimp (disch := omega) only [wrap_i64])); repeat (with_reducible refine sideA ?_)))
     (first | refine callT.at (hct) ⟨leA, trivial⟩ ?_ | refine callS.at (hct) ⟨leA, trivial⟩ ?_)
     (repeat ((repeat1' (first | simp -implicitDefEqProofs -dsimp only [go_sem, Nat.reduceSub, Nat.reduceAdd, Nat.reduceMul, Nat.reduceLT, Nat.reduceLeDiff, Nat.reduceEqDiff, Nat.reduceDiv, Nat.reduceMod, Int.reduceToNat, Int.reduceLE, Int.reduceLT, Int.reduceBEq, Int.reduceBNe, Int.reduceNeg, Int.reduceAdd, Int.reduceSub, Int.reduceMul, reduceCtorEq, WeekRow.v, hsp] | simp -dsimp (disch := omega) only [wrap_i64])); repeat (with_reducible refine sideA ?_)))
     refine ⟨i + 1, hi', ?_, by omega⟩
     refine Weak.cut (1) (by simp) (by simp) ?_ ?_
     · simp [LeC, LeV, ren, cutF, hso]
     · simp [cutH, cutB, map_ren_rows]
 · have hi' : i = b.length := by simp at h3; omega
   subst hi'
   rw [List.take_length] at *
   have hpl := I.perm.length_eq
   have hJl := joinS_wrB h1' h2'
   (repeat ((repeat1' (first | simp -implicitDefEqProofs -dsimp only [go_sem, Nat.reduceSub, Nat.reduceAdd, Nat.reduceMul, Nat.reduceLT, Nat.reduceLeDiff, Nat.reduceEqDiff, Nat.reduceDiv, Nat.reduceMod, Int.reduceToNat, Int.reduceLE, Int.reduceLT, Int.reduceBEq, Int.reduceBNe, Int.reduceNeg, Int.reduceAdd, Int.reduceSub, Int.reduceMul, reduceCtorEq, h3] | simp -dsimp (disch := omega) only [wrap_i64])); repeat (with_reducible refine sideA ?_)))
   refine callS.lend [0] false ( sortW_ok (joinO a b) (joinS a b) (joinS_asc b aa) I.perm (by omega)) (by decide) ⟨leO, leO, trivial⟩ lendA ( grown_one (by simp [rowsW_len, hpl])) (.inl rfl) ?_
   rw [← hpl]
   (repeat ((repeat1' (first | simp -implicitDefEqProofs -dsimp only [go_sem, Nat.reduceSub, Nat.reduceAdd, Nat.reduceMul, Nat.reduceLT, Nat.reduceLeDiff, Nat.reduceEqDiff, Nat.reduceDiv, Nat.reduceMod, Int.reduceToNat, Int.reduceLE, Int.reduceLT, Int.reduceBEq, Int.reduceBNe, Int.reduceNeg, Int.reduceAdd, Int.reduceSub, Int.reduceMul, reduceCtorEq] | simp -dsimp (disch := omega) only [wrap_i64])); repeat (with_reducible refine sideA ?_)))
   (first | refine callT.at (iAreWeekRows_ok (joinS a b) (by omega)) ⟨leA, trivial⟩ ?_ | refine callS.at (iAreWeekRows_ok (joinS a b) (by omega)) ⟨leA, trivial⟩ ?_)
   cases hJ : wrsB (joinS a b) with
   | false =>
     (repeat ((repeat1' (first | simp -implicitDefEqProofs -dsimp only [go_sem, Nat.reduceSub, Nat.reduceAdd, Nat.reduceMul, Nat.reduceLT, Nat.reduceLeDiff, Nat.reduceEqDiff, Nat.reduceDiv, Nat.reduceMod, Int.reduceToNat, Int.reduceLE, Int.reduceLT, Int.reduceBEq, Int.reduceBNe, Int.reduceNeg, Int.reduceAdd, Int.reduceSub, Int.reduceMul, reduceCtorEq] | simp -dsimp (disch := omega) only [wrap_i64])); repeat (with_reducible refine sideA ?_)))
     rw [joinR_no (.inr (.inr hJ))]
     exact WeakR.drop' rfl (by rfl)
   | true =>
     have e : joinR a b = some (joinS a b) := if_pos ⟨h1', h2', hJ⟩
     (repeat ((repeat1' (first | simp -implicitDefEqProofs -dsimp only [go_sem, Nat.reduceSub, Nat.reduceAdd, Nat.reduceMul, Nat.reduceLT, Nat.reduceLeDiff, Nat.reduceEqDiff, Nat.reduceDiv, Nat.reduceMod, Int.reduceToNat, Int.reduceLE, Int.reduceLT, Int.reduceBEq, Int.reduceBNe, Int.reduceNeg, Int.reduceAdd, Int.reduceSub, Int.reduceMul, reduceCtorEq] | simp -dsimp (disch := omega) only [wrap_i64])); repeat (with_reducible refine sideA ?_)))
     rw [e]
     exact WeakR.refl _ _ _
end Go.Proofs
end
section
set_option maxRecDepth 100000
set_option maxHeartbeats 1000000
namespace Go.Proofs
open Go.Lv
def evSum (L : List WeekRow) : Int := (L.map WeekRow.Events).sum
theorem putW_sum (S : List WeekRow) (r : WeekRow) : evSum (putW S r) = evSum S + r.Events := by
 induction S with
 | nil => simp [putW, evSum]
 | cons x S ih =>
   simp only [evSum] at ih
   rw [putW]
   split
   · simp only [evSum, List.map_cons, List.sum_cons, ih]; omega
   · split
     · simp only [evSum, List.map_cons, List.sum_cons, addR]; omega
     · simp only [evSum, List.map_cons, List.sum_cons]; omega
theorem joinS_sum (a b : List WeekRow) : evSum (joinS a b) = evSum a + evSum b := by
 induction b generalizing a with
 | nil => simp [joinS, evSum]
 | cons r b ih =>
   have e : joinS a (r :: b) = joinS (putW a r) b := rfl
   rw [e, ih, putW_sum]
   simp only [evSum, List.map_cons, List.sum_cons]; omega
theorem find_put {S : List WeekRow} (h : Asc S) (r : WeekRow) (w : Int) : (putW S r).find? (weekP w) = if w = r.Week then some (match S.find? (weekP w) with
   | some x => addR x r
   | none => r) else S.find? (weekP w) := by
 induction S with
 | nil =>
   simp only [putW, List.find?_cons, List.find?_nil, weekP]
   by_cases hw : w = r.Week
   · simp [hw]
   · have : (r.Week == w) = false := by simp; omega
     simp [hw, this]
 | cons x S ih =>
   obtain ⟨h1, h2⟩ := List.pairwise_cons.1 h
   rw [putW]
   split
   · rename_i hx
     rw [List.find?_cons, List.find?_cons, ih h2]
     by_cases hxw : x.Week = w
     · have e : weekP w x = true := by simp [weekP, hxw]
       have hn : ¬ w = r.Week := by omega
       simp only [e, if_neg hn]
     · have e : weekP w x = false := by simp [weekP, hxw]
       rw [e]
   · rename_i hx
     split
     · rename_i hq
       rw [List.find?_cons, List.find?_cons]
       by_cases hw : w = r.Week
       · have e1 : weekP w (addR x r) = true := by simp [weekP, addR, hw]
         have e2 : weekP w x = true := by simp [weekP]; omega
         rw [e1, e2, if_pos hw]
       · have e1 : weekP w (addR x r) = false := by simp [weekP, addR]; omega
         have e2 : weekP w x = false := by simp [weekP]; omega
         rw [e1, e2, if_neg hw]
     · rename_i hq
       by_cases hw : w = r.Week
       · have e1 : weekP w r = true := by simp [weekP, hw]
         have e2 : (x :: S).find? (weekP w) = none := by
           rw [List.find?_eq_none]
           intro y hy
           have : x.Week ≤ y.Week := by
             rcases List.mem_cons.1 hy with e | e
             · rw [e]; omega
             · have := h1 y e; omega
           simp [weekP]; omega
         rw [List.find?_cons, e1, if_pos hw, e2]
       · have e1 : weekP w r = false := by simp [weekP]; omega
         rw [List.find?_cons, e1, if_neg hw]
def mergeO (o p : Option WeekRow) : Option WeekRow := match o, p with
 | some x, some r => some (addR x r)
 | some x, none => some x
 | none, q => q
theorem find_join {a b : List WeekRow} (ha : Asc a) (hb : Asc b) (w : Int) : (joinS a b).find? (weekP w) = mergeO (a.find? (weekP w)) (b.find? (weekP w)) := by
 induction b generalizing a with
 | nil =>
   show a.find? (weekP w) = _
   rw [List.find?_nil]
   cases a.find? (weekP w) <;> rfl
 | cons r b ih =>
   obtain ⟨h1, h2⟩ := List.pairwise_cons.1 hb
   have e : joinS a (r :: b) = joinS (putW a r) b := rfl
   rw [e, ih (putW_asc ha) h2, find_put ha, List.find?_cons]
   by_cases hw : w = r.Week
   · have e1 : weekP w r = true := by simp [weekP, hw]
     have e2 : b.find? (weekP w) = none := by
       rw [List.find?_eq_none]
       intro y hy
       have := h1 y hy
       simp [weekP]; omega
     rw [e1, e2, if_pos hw]
     cases a.find? (weekP w) <;> rfl
   · have e1 : weekP w r = false := by simp [weekP]; omega
     rw [e1, if_neg hw]
theorem asc_nodup {S : List WeekRow} (h : Asc S) : S.Nodup := List.Pairwise.imp (R := fun x y : WeekRow => x.Week < y.Week) (fun hxy e => by subst e; omega) h
theorem find_mem {S : List WeekRow} (h : Asc S) {x : WeekRow} (hx : x ∈ S) : S.find? (weekP x.Week) = some x := by
 induction S with
 | nil => simp at hx
 | cons y S ih =>
   obtain ⟨h1, h2⟩ := List.pairwise_cons.1 h
   rw [List.find?_cons]
   rcases List.mem_cons.1 hx with e | e
   · subst e
     have : weekP x.Week x = true := by simp [weekP]
     rw [this]
   · have hl := h1 x e
     have : weekP x.Week y = false := by simp [weekP]; omega
     rw [this]
     exact ih h2 e
theorem find_ext {S T : List WeekRow} (hS : Asc S) (hT : Asc T) (h : ∀ w, S.find? (weekP w) = T.find? (weekP w)) : S = T := by
 have hm : ∀ x, x ∈ S ↔ x ∈ T := fun x => ⟨fun hx => List.mem_of_find?_eq_some ((h x.Week).symm.trans (find_mem hS hx)), fun hx => List.mem_of_find?_eq_some ((h x.Week).trans (find_mem hT hx))⟩
 have hp : S.Perm T := (List.perm_ext_iff_of_nodup (asc_nodup hS) (asc_nodup hT)).2 hm
 exact asc_unique hT (List.Pairwise.imp (R := fun x y : WeekRow => x.Week < y.Week) (fun hxy => Int.le_of_lt hxy) hS) hp
theorem joinS_comm {a b : List WeekRow} (ha : Asc a) (hb : Asc b) : joinS a b = joinS b a := by
 refine find_ext (joinS_asc b ha) (joinS_asc a hb) fun w => ?_
 rw [find_join ha hb, find_join hb ha]
 have wk : ∀ {L : List WeekRow} {x : WeekRow}, L.find? (weekP w) = some x → x.Week = w := fun {L x} h => by
   have := List.find?_some h
   simpa [weekP] using this
 cases hx : a.find? (weekP w) with
 | none => cases hy : b.find? (weekP w) <;> rfl
 | some x =>
   cases hy : b.find? (weekP w) with
   | none => rfl
   | some y =>
     have e1 := wk hx
     have e2 := wk hy
     simp only [mergeO, Option.some.injEq, addR, WeekRow.mk.injEq]
     exact ⟨by omega, by omega, by omega, by omega, by omega⟩
end Go.Proofs
end
section
namespace Go.Lv

def num (n : Int) : ByteArray := ⟨(Lib.itoa n).toArray⟩
theorem num_size {n : Int} (h : i64R n) : (num n).size ≤ 21 := by
 have := Lib.itoa_length_le n h.1 h.2
 simpa [num, ByteArray.size] using this
theorem num_size' {n : Int} (h0 : -9223372036854775808 ≤ n) (h1 : n ≤ 9223372036854775807) : (num n).size ≤ 21 := num_size ⟨h0, h1⟩
theorem ba_size (l : Array UInt8) : (ByteArray.mk l).size = l.size := rfl
theorem ba_add (x y : Array UInt8) : (ByteArray.mk x ++ ByteArray.mk y) = ByteArray.mk (x ++ y) := by
 apply ByteArray.ext
 simp
def digits : ByteArray := ⟨#[48, 49, 50, 51, 52, 53, 54, 55, 56, 57]⟩
theorem digit_at (d : Nat) (h : d < 10) : digits.extract d (d + 1) = ⟨#[UInt8.ofNat (48 + d)]⟩ := by
 apply ByteArray.ext
 rw [ByteArray.data_extract]
 match d, h with
 | 0, _ => decide
 | 1, _ => decide
 | 2, _ => decide
 | 3, _ => decide
 | 4, _ => decide
 | 5, _ => decide
 | 6, _ => decide
 | 7, _ => decide
 | 8, _ => decide
 | 9, _ => decide
theorem itoa_nat (u : Nat) : Lib.itoa (u : Int) = Lib.decDigits u := by unfold Lib.itoa; rw [if_neg (by omega)]; simp
theorem num_neg {u : Nat} (h : 1 ≤ u) : num (-(u : Int)) = ⟨#[45]⟩ ++ num u := by
 have e : Lib.itoa (-(u : Int)) = 45 :: Lib.decDigits u := by unfold Lib.itoa; rw [if_pos (by omega)]; simp
 unfold num
 rw [e, itoa_nat, ba_add]
 simp
theorem num_one {u : Nat} (h : u < 10) : num u = digits.extract u (u + 1) := by
 rw [digit_at u h]
 unfold num
 rw [itoa_nat, Lib.decDigits, dif_pos h]
theorem num_more {u : Nat} (h : ¬ u < 10) : num u = num ((u / 10 : Nat) : Int) ++ digits.extract (u % 10) (u % 10 + 1) := by
 rw [digit_at (u % 10) (by omega)]
 unfold num
 rw [itoa_nat, itoa_nat, Lib.decDigits, dif_neg h, ba_add]
 simp

end Go.Lv
end
