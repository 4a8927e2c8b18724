/-
  A part of the proof: texts put together by a program of the prover. Conditions: none.
-/
import Derived.Test.YtgnnoacaghelhaaZJoinWeeks5
import Derived.Shelf.SlSortCmp.WholeK
import Derived.Shelf.SlicesG.Cmp
import Derived.WalkKit
import Derived.ProofKit
import Derived.Deep.Slices
set_option linter.unusedSimpArgs false
set_option linter.unusedVariables false
section
set_option maxRecDepth 100000
set_option maxHeartbeats 2000000
namespace Go.Proofs
open Go.Lv
open Go.Shelf Go.RowKit Go.Lib Go.Sort
instance : Inhabited WeekRow := ⟨⟨0, 0, 0, 0, 0⟩⟩
def encW (x : WeekRow) : List Value := [.int .i64 x.Week, .int .i64 x.Events, .int .i64 x.Felt, .int .i64 x.Picks, .int .i64 x.Lost]
def cmpW (x y : WeekRow) : Int := Lib.compareInt x.Week y.Week
theorem ltW (x y : WeekRow) : ltOf cmpW x y = decide (x.Week < y.Week) := by
 unfold ltOf cmpW Lib.compareInt
 by_cases h1 : x.Week < y.Week
 · simp [h1]
 · by_cases h2 : y.Week < x.Week <;> simp [h1, h2]
theorem swoW : SWO (ltOf cmpW) where
 irrefl x := by rw [ltW]; simp
 trans x y z h1 h2 := by rw [ltW] at *; simp at *; omega
 ntrans x y z h1 h2 := by rw [ltW] at *; simp at *; omega
theorem sortClosure (x y : WeekRow) (W : World) : Calls Try.prog 53 #[.agg #[.int .i64 x.Week, .int .i64 x.Events, .int .i64 x.Felt, .int .i64 x.Picks, .int .i64 x.Lost], .agg #[.int .i64 y.Week, .int .i64 y.Events, .int .i64 y.Felt, .int .i64 y.Picks, .int .i64 y.Lost]] W fun e w' => e = .returned (.int .i64 (cmpW x y)) ∧ ∃ q os', w' = grow (W.drewN q) os' := by
 have hcon := fun W' => AnyG.cmp_Compare_int Try.cmpIntW x.Week y.Week W'
 change ∀ W', Calls Try.prog 54 _ _ _ at hcon
 unfold cmpW
 generalize Lib.compareInt x.Week y.Week = r at hcon ⊢
 go_enter Try.func53, Try.ntmps53
 go_wp2_with (go_at_call 54; refine (hcon _).mono ?_; rintro e w' ⟨rfl, rfl⟩)
 go_ret
 exact ⟨rfl, 0, _, by rw [alloc_eq_grow, alloc_eq_grow, grow_grow]; rfl⟩
theorem cmpLaysW (blk off size : Nat) (w : World) : CmpLays Try.prog 53 #[] encW 5 cmpW blk off size w :=
 fun _ _ _ _ x y => sortClosure x y _
theorem sortW_any (b cap : Nat) (d : Array WeekRow) (w : World) (hH : HoldsK encW 5 w b 0 d) (hblk : b < w.heap.size) (hsz : d.size < 4611686018427387904) :
   Calls Try.prog 52 #[.slice (some ⟨b, 0, none⟩) d.size cap, .func (.func 53) #[] #[]] w fun e w' =>
     e = .returned (.tuple #[]) ∧ ∃ d' n os, PermIn 0 d.size d d' ∧ SortedIn (ltOf cmpW) 0 d.size d' ∧ w' = sortWorldK encW 5 w b 0 n d' os := by
 have eg : ∀ args w, (callFunc 53 args).run Try.prog w = .ok (.enter 53 args) w := enters_of Try.func53 (by kernel_rfl) rfl
 exact AnyQ.slices_SortFunc Try.sortWeekRow 5 Try.isAgg74 Try.sizeOf74 encW (fun _ => rfl) (fun x v hv => by simp [encW] at hv; rcases hv with rfl | rfl | rfl | rfl | rfl <;> rfl) cmpW swoW 53 #[] b 0 cap d w eg (cmpLaysW b 0 d.size w) hH hblk hsz
theorem rowsW_len (L : List WeekRow) : (rows WeekRow.cs L).length = L.length * 5 := rows_len (w := 5) WeekRow.csl L
theorem rowsW_get (L : List WeekRow) (j : Nat) (hj : j < (rows WeekRow.cs L).length) (hi : j / 5 < L.length) : (rows WeekRow.cs L)[j] = (WeekRow.cs L[j / 5])[j % 5]'(by rw [WeekRow.csl]; omega) := by
 have h := rows_at (cs := WeekRow.cs) WeekRow.csl hi
 have h2 : (WeekRow.cs L[j / 5])[j % 5]? = (rows WeekRow.cs L)[j]? := by
   rw [← h, List.getElem?_take_of_lt (by omega), List.getElem?_drop]
   congr 1
   omega
 rw [List.getElem?_eq_getElem hj, List.getElem?_eq_getElem (by rw [WeekRow.csl]; omega)] at h2
 exact (Option.some.inj h2).symm
theorem encW_rv {w : World} {m : Nat → Nat} {h : Hp} {av : Nat → Prop} (x : WeekRow) (c : Nat) (hc : c < (WeekRow.cs x).length) {v : Value} (hv : RV w m h av true v (WeekRow.cs x)[c]) : v = (encW x)[c]! := by
 have hc5 : c < 5 := by rw [WeekRow.csl] at hc; exact hc
 rcases (show c = 0 ∨ c = 1 ∨ c = 2 ∨ c = 3 ∨ c = 4 by omega) with rfl | rfl | rfl | rfl | rfl
 all_goals exact rv_int hv
theorem rv_encW {w : World} {m : Nat → Nat} {h : Hp} {av : Nat → Prop} (x : WeekRow) (c : Nat) (hc : c < (WeekRow.cs x).length) : RV w m h av true (encW x)[c]! (WeekRow.cs x)[c] := by
 have hc5 : c < 5 := by rw [WeekRow.csl] at hc; exact hc
 rcases (show c = 0 ∨ c = 1 ∨ c = 2 ∨ c = 3 ∨ c = 4 by omega) with rfl | rfl | rfl | rfl | rfl
 all_goals exact .int _ _
theorem Ext.ahead (w : World) (n : Nat) : Ext (fun _ => False) w (Sort.ahead w n) := ⟨rfl, rfl, rfl, Nat.le_refl _, fun _ _ _ => rfl, fun _ _ => Nat.le_refl _⟩
theorem Ext.grow (w : World) (os : Array Obj) : Ext (fun _ => False) w (Sort.grow w os) := by
 have hb : ∀ k, k < w.heap.size → (Sort.grow w os).heap[k]? = w.heap[k]? := fun k hk => by
   show (w.heap ++ os)[k]? = w.heap[k]?
   rw [Array.getElem?_append_left hk]
 refine ⟨rfl, rfl, rfl, ?_, fun k hk _ => hb k hk, fun k hk => Nat.le_of_eq (rowSize_of_block (hb k hk)).symm⟩
 show w.heap.size ≤ (w.heap ++ os).size
 rw [Array.size_append]; omega
theorem putRow_setRow (F : Array Value) (w : World) (b : Nat) (C : Array Value) (T : TypeId) (fr : Nat × Nat) (hb : w.heap[b]? = some (.cells C T fr)) : Sort.putRow id w b 0 F = w.setRow b (Sort.putCells id 0 F C) := by
 unfold Sort.putRow Sort.mapBlock World.setRow
 congr 1
 apply Array.ext_getElem?
 intro k
 simp only [Array.getElem?_modify]
 by_cases hk : b = k
 · subst hk
   simp [hb, Sort.onCells]
 · simp [hk]
theorem sortW_ok (O S : List WeekRow) (hS : Asc S) (hp : S.Perm O) (hl : O.length ≤ 1000000) : Ctr Try.prog 52 [.osl 0 0 O.length 5, .fn (.func 53) [] []] [some (rows WeekRow.cs O)] (.tup []) [some (rows WeekRow.cs S)] := by
 refine Ctr.raw (by kernel_rfl) (fun w vs m av I hs => ?_)
 have h0 := I.slots 0 (by simp)
 have h1 := I.slots 1 (by simp)
 dsimp only [List.getElem_cons_zero, List.getElem_cons_succ] at h0 h1
 obtain ⟨v0, hv0⟩ : ∃ v0, v0 = vs.getD 0 Go.undef := ⟨_, rfl⟩
 obtain ⟨v1, hv1⟩ : ∃ v1, v1 = vs.getD 1 Go.undef := ⟨_, rfl⟩
 rw [← hv0] at h0
 rw [← hv1] at h1
 have hvs : vs = #[v0, v1] := by
   have hsz : vs.size = 2 := hs
   apply Array.ext
   · simpa using hsz
   · intro k hk hk'
     have hk3 : k < 2 := by omega
     have hg : vs[k] = vs.getD k Go.undef := by simp [Array.getD, hk]
     rw [hg]
     rcases (show k = 0 ∨ k = 1 by omega) with rfl | rfl
     · exact hv0.symm
     · exact hv1.symm
 have hv1' : v1 = .func (.func 53) #[] #[] := by
   cases h1 with
   | fn f a c a' c' ha hc _ _ =>
     have e1 : a = #[] := Array.eq_empty_of_size_eq_zero ha
     have e2 : c = #[] := Array.eq_empty_of_size_eq_zero hc
     rw [e1, e2]
 subst hv1'
 have hSl : S.length = O.length := hp.length_eq
 cases h0 with
 | osl _ _ _ cap _ cs hid hl' hc hsz =>
   have hcs : cs = rows WeekRow.cs O := by
     have := hid.1
     simpa using this.symm
   subst hcs
   rcases I.rh.blk 0 _ hid.1 with ⟨C, T, fr, hb, hfr, hle, hr⟩ | ⟨E, c, es, hb, hmb, _⟩
   rotate_left
   · have := hid.2
     rw [hmb] at this
     cases this
   have hOl := rowsW_len O
   have hcell : ∀ k, k < C.size → w.cell? ⟨m 0, k, none⟩ = some (C.getD k Go.undef) := fun k hk => by simp [World.cell?, hb, Array.getD, hk]
   have hblk : m 0 < w.heap.size := (Array.getElem?_eq_some_iff.1 hb).1
   have hH : HoldsK encW 5 w (m 0) 0 O.toArray := by
     intro j hj
     have hj5 : j < O.toArray.size * 5 := by rw [size_flatK] at hj; exact hj
     have hjO : j < O.length * 5 := by simpa using hj5
     have hjC : j < C.size := by omega
     have hi : j / 5 < O.length := by omega
     have hi' : j / 5 < O.toArray.size := by simpa using hi
     refine ⟨?_, by rw [Nat.zero_add]; exact hfr.not hb hjC⟩
     rw [Nat.zero_add, hcell j hjC, get_flatK _ _ _ _ hj5, getElem!_pos O.toArray _ hi']
     have hrj := hr j (by omega)
     rw [rowsW_get O j (by omega) hi] at hrj
     rw [encW_rv _ _ _ hrj]
     simp
   rw [hvs]
   have hcon := sortW_any (m 0) cap O.toArray w hH hblk (by simp; omega)
   rw [show O.toArray.size = O.length by simp] at hcon
   refine hcon.mono ?_
   rintro e w' ⟨rfl, d', n, os, hperm, hsort, rfl⟩
   obtain ⟨ps, _, pp⟩ := hperm
   have hd'l : d'.size = O.length := by rw [ps]; simp
   have hpl : d'.toList.Perm O := by
     have e1 : (d'.extract 0 O.length).toList = d'.toList := by rw [← hd'l]; simp
     have e2 : (O.toArray.extract 0 O.length).toList = O := by simp
     rw [e1, e2] at pp
     exact pp
   have hle' : d'.toList.Pairwise fun x y => x.Week ≤ y.Week := by
     rw [List.pairwise_iff_getElem]
     intro i j hi hj hij
     have hj' : j < d'.size := by simpa using hj
     have := hsort i j (Nat.zero_le _) hij (by omega)
     rw [getElem!_pos d' j hj', getElem!_pos d' i (by omega), ltW] at this
     have := of_decide_eq_false this
     simp only [Array.getElem_toList]
     omega
   have hdS : d'.toList = S := asc_unique hS hle' (hpl.trans hp.symm)
   have hdS' : d' = S.toArray := by rw [← hdS]
   subst hdS'
   have hbd : (Sort.ahead w n).heap[m 0]? = some (.cells C T fr) := hb
   have I1 := I.world (Ext.ahead w n)
   have hSr := rowsW_len S
   have hFs : (flatK encW 5 S.toArray).size = S.length * 5 := by rw [size_flatK]; simp
   have hpc : (Sort.putCells id 0 (flatK encW 5 S.toArray) C).size = C.size := by simp [Sort.putCells]
   obtain ⟨J, hstep⟩ := I1.setRow (id := 0) (cs := rows WeekRow.cs O) (cs' := rows WeekRow.cs S) (C := C) (C' := Sort.putCells id 0 (flatK encW 5 S.toArray) C) (T := T) hid hbd hfr hpc (by omega) (by omega) (fun k hk => by
     have hkC : k < C.size := by omega
     have hi : k / 5 < S.length := by omega
     have hi' : k / 5 < S.toArray.size := by simpa using hi
     have e : (Sort.putCells id 0 (flatK encW 5 S.toArray) C).getD k Go.undef = (encW S[k / 5])[k % 5]! := by
       have hk2 : k < (Sort.putCells id 0 (flatK encW 5 S.toArray) C).size := by omega
       rw [Array.getD_eq_getD_getElem?, Array.getElem?_eq_getElem hk2, Option.getD_some]
       simp only [Sort.putCells, Array.getElem_mapIdx]
       rw [if_pos ⟨Nat.zero_le _, by omega⟩, Nat.sub_zero, get_flatK _ _ _ _ (by rw [← size_flatK encW 5]; omega), getElem!_pos S.toArray _ hi']
       simp
     rw [e, rowsW_get S k (by omega) hi]
     exact rv_encW _ _ _)
   have J2 := J.world (Ext.grow _ os)
   have hw : sortWorldK encW 5 w (m 0) 0 n S.toArray os = Sort.grow ((Sort.ahead w n).setRow (m 0) (Sort.putCells id 0 (flatK encW 5 S.toArray) C)) os := by
     unfold sortWorldK putRowK
     rw [putRow_setRow _ _ _ C T fr hbd]
   rw [hw]
   refine ⟨_, m, _, _, rfl, ?_, J2, ?_⟩
   · rfl
   · exact .tup _ _ rfl (fun i hi => by simp at hi)
end Go.Proofs
end
section
namespace Go.Lv
theorem splice_row {α : Type} {cs : α → List V} {w : Nat} (hw : ∀ a, (cs a).length = w) {L : List α} {i : Nat} (hi : i < L.length) (x : α) : splice (rows cs L) (i * w) (cs x) = rows cs (L.set i x) := by
 have e : L = L.take i ++ L[i] :: L.drop (i + 1) := by rw [← List.drop_eq_getElem_cons hi, List.take_append_drop]
 have e2 : L.set i x = L.take i ++ x :: L.drop (i + 1) := by rw [List.set_eq_take_append_cons_drop, if_pos hi]
 have hA : (rows cs (L.take i)).length = i * w := by rw [rows_len hw, List.length_take, Nat.min_eq_left (by omega)]
 rw [e2, rowsOf_append, rows_cons]
 conv => lhs; rw [e, rowsOf_append, rows_cons]
 rw [splice_mid0 hA, splice_zero]
 congr 2
 rw [List.drop_append_of_le_length (by rw [hw, hw]; exact Nat.le_refl _), List.drop_of_length_le (by rw [hw, hw]; exact Nat.le_refl _)]
 rfl
end Go.Lv
end
section
set_option maxRecDepth 100000
set_option maxHeartbeats 2000000
namespace Go.Proofs
open Go.Lv
def joinR (a b : List WeekRow) : Option (List WeekRow) := if wrsB a = true ∧ wrsB b = true ∧ wrsB (joinS a b) = true then some (joinS a b) else none
theorem joinR_no {a b : List WeekRow} (h : wrsB a = false ∨ wrsB b = false ∨ wrsB (joinS a b) = false) : joinR a b = none := by
 refine if_neg fun g => ?_
 rcases h with h | h | h
 · rw [h] at g; exact absurd g.1 (by simp)
 · rw [h] at g; exact absurd g.2.1 (by simp)
 · rw [h] at g; exact absurd g.2.2 (by simp)
theorem copyOfWeekRow_ok (L : List WeekRow) (hl : L.length ≤ 1048576) : Ctr Try.prog 48 [WeekRow.sl L] [] (.osl 0 0 L.length 5) [some (rows WeekRow.cs L)] := by
 refine Ctr.intro Try.mixed Try.func48 rfl Try.okF48 ?_
 simp -implicitDefEqProofs -dsimp only [go_sem, Nat.reduceSub, Nat.reduceAdd, Nat.reduceMul, Nat.reduceLT, Nat.reduceLeDiff, Nat.reduceEqDiff, Nat.reduceDiv, Nat.reduceMod, Int.reduceToNat, Int.reduceLE, Int.reduceLT, Int.reduceBEq, Int.reduceBNe, Int.reduceNeg, Int.reduceAdd, Int.reduceSub, Int.reduceMul, reduceCtorEq, Try.ntmps48, Try.results48]
 repeat (with_reducible refine sideA ?_)
 exact WeakR.refl _ _ _
theorem weekIs_ok (r x : WeekRow) : Ctr Try.prog 50 [x.v, .pt r.cs] [] (.bool (weekP r.Week x)) [] := by
 refine Ctr.intro Try.mixed Try.func50 rfl Try.okF50 ?_
 simp -implicitDefEqProofs -dsimp only [go_sem, Nat.reduceSub, Nat.reduceAdd, Nat.reduceMul, Nat.reduceLT, Nat.reduceLeDiff, Nat.reduceEqDiff, Nat.reduceDiv, Nat.reduceMod, Int.reduceToNat, Int.reduceLE, Int.reduceLT, Int.reduceBEq, Int.reduceBNe, Int.reduceNeg, Int.reduceAdd, Int.reduceSub, Int.reduceMul, reduceCtorEq, Try.ntmps50, Try.results50]
 (repeat ((repeat1' (first | simp -implicitDefEqProofs -dsimp only [go_sem, Nat.reduceSub, Nat.reduceAdd, Nat.reduceMul, Nat.reduceLT, Nat.reduceLeDiff, Nat.reduceEqDiff, Nat.reduceDiv, Nat.reduceMod, Int.reduceToNat, Int.reduceLE, Int.reduceLT, Int.reduceBEq, Int.reduceBNe, Int.reduceNeg, Int.reduceAdd, Int.reduceSub, Int.reduceMul, reduceCtorEq, WeekRow.v, WeekRow.cs] | simp -dsimp (disch := omega) only [wrap_i64])); repeat (with_reducible refine sideA ?_)))
 exact WeakR.drop' rfl rfl
theorem joinS_wrB {a b : List WeekRow} (h1 : wrsB a = true) (h2 : wrsB b = true) : (joinS a b).length ≤ 24 := by
 have := joinS_len a b
 have := (wrsB_all h1).2
 have := (wrsB_all h2).2
 omega
theorem sJoinWeeks_ok (a b : List WeekRow) (hla : a.length ≤ 1048576) (hlb : b.length ≤ 1048576) : Ctr Try.prog 19 [WeekRow.sl a, WeekRow.sl b] [] (optO 5 (joinR a b)) (optOh WeekRow.cs (joinR a b)) := by
 refine Ctr.intro Try.mixed Try.func19 rfl Try.okF19 ?_
 simp -implicitDefEqProofs -dsimp only [go_sem, Nat.reduceSub, Nat.reduceAdd, Nat.reduceMul, Nat.reduceLT, Nat.reduceLeDiff, Nat.reduceEqDiff, Nat.reduceDiv, Nat.reduceMod, Int.reduceToNat, Int.reduceLE, Int.reduceLT, Int.reduceBEq, Int.reduceBNe, Int.reduceNeg, Int.reduceAdd, Int.reduceSub, Int.reduceMul, reduceCtorEq, Try.ntmps19, Try.results19]
 (first | refine callT.at (l26Good_ok a (by omega)) ⟨leA, trivial⟩ ?_ | refine callS.at (l26Good_ok a (by omega)) ⟨leA, trivial⟩ ?_)
 simp -implicitDefEqProofs -dsimp only [go_sem, Nat.reduceSub, Nat.reduceAdd, Nat.reduceMul, Nat.reduceLT, Nat.reduceLeDiff, Nat.reduceEqDiff, Nat.reduceDiv, Nat.reduceMod, Int.reduceToNat, Int.reduceLE, Int.reduceLT, Int.reduceBEq, Int.reduceBNe, Int.reduceNeg, Int.reduceAdd, Int.reduceSub, Int.reduceMul, reduceCtorEq]
 refine guardT.splitF (fun h1 => ?_) (fun h1 => ?_) <;> simp -implicitDefEqProofs -dsimp only [go_sem, Nat.reduceSub, Nat.reduceAdd, Nat.reduceMul, Nat.reduceLT, Nat.reduceLeDiff, Nat.reduceEqDiff, Nat.reduceDiv, Nat.reduceMod, Int.reduceToNat, Int.reduceLE, Int.reduceLT, Int.reduceBEq, Int.reduceBNe, Int.reduceNeg, Int.reduceAdd, Int.reduceSub, Int.reduceMul, reduceCtorEq, h1]
 rotate_left
 · rw [joinR_no (.inl (by simpa using h1))]
   exact WeakR.refl _ _ _
 (first | refine callT.at (l26Good_ok b (by omega)) ⟨leA, trivial⟩ ?_ | refine callS.at (l26Good_ok b (by omega)) ⟨leA, trivial⟩ ?_)
 simp -implicitDefEqProofs -dsimp only [go_sem, Nat.reduceSub, Nat.reduceAdd, Nat.reduceMul, Nat.reduceLT, Nat.reduceLeDiff, Nat.reduceEqDiff, Nat.reduceDiv, Nat.reduceMod, Int.reduceToNat, Int.reduceLE, Int.reduceLT, Int.reduceBEq, Int.reduceBNe, Int.reduceNeg, Int.reduceAdd, Int.reduceSub, Int.reduceMul, reduceCtorEq]
 refine condT.split (fun h2 => ?_) (fun h2 => ?_) <;> simp -implicitDefEqProofs -dsimp only [go_sem, Nat.reduceSub, Nat.reduceAdd, Nat.reduceMul, Nat.reduceLT, Nat.reduceLeDiff, Nat.reduceEqDiff, Nat.reduceDiv, Nat.reduceMod, Int.reduceToNat, Int.reduceLE, Int.reduceLT, Int.reduceBEq, Int.reduceBNe, Int.reduceNeg, Int.reduceAdd, Int.reduceSub, Int.reduceMul, reduceCtorEq, h2]
 · rw [joinR_no (.inr (.inl (by simpa using h2)))]
   exact WeakR.refl _ _ _
 have h1' : wrsB a = true := by simpa using h1
 have h2' : wrsB b = true := by simpa using h2
 obtain ⟨hv, hlen⟩ := wrsB_all h1'
 obtain ⟨hvb, hlenb⟩ := wrsB_all h2'
 have aa := asc_of h1'
 have ab := asc_of h2'
 repeat (with_reducible refine sideA ?_)
 refine LoopT.intro (fun i : Nat => i ≤ b.length) (fun i => ⟨[.undef, WeekRow.sl b, .undef, .undef, .undef, .undef, .osl 0 0 (joinS a (b.take i)).length 5, .int .i64 i, .undef, .undef, .undef, .undef, .undef, .undef, .undef, .undef, .undef, .undef, .undef, .undef, .undef, .undef, .undef, .undef, .undef, .undef, .undef, .undef, .undef, .undef, .undef, .undef, .undef, .undef, .undef, .undef, .undef, .undef, .undef, .undef, .undef, .undef, .undef, .undef, .undef, .undef, .undef, .undef, .undef, .undef, .undef, .undef, .undef, .undef, .undef, .undef, .undef, .undef, .undef, .undef, .undef, .undef, .undef, .undef, .undef, .undef, .undef, .undef, .undef, .undef, .undef, .undef, .undef, .undef, .undef, .undef, .undef, .undef, .undef, .undef, .undef, .undef, .undef, .undef, .undef, .undef, .undef, .undef, .undef, .undef, .undef, .undef, .undef, .undef, .undef, .undef, .undef, .undef, .undef, .undef, .undef, .undef, .undef, .undef, .undef, .undef, .undef, .undef], [some (rows WeekRow.cs (joinS a (b.take i)))], 0⟩) (fun i => b.length - i) 0 (Nat.zero_le _) ?_ (fun i hi => ?_)
 · refine Weak.cut (1) (by simp) (by simp) ?_ ?_
   · simp [LeC, LeV, ren, cutF, joinS]
   · simp [cutH, cutB, map_ren_rows, joinS]
 simp -implicitDefEqProofs -dsimp only [go_sem, Nat.reduceSub, Nat.reduceAdd, Nat.reduceMul, Nat.reduceLT, Nat.reduceLeDiff, Nat.reduceEqDiff, Nat.reduceDiv, Nat.reduceMod, Int.reduceToNat, Int.reduceLE, Int.reduceLT, Int.reduceBEq, Int.reduceBNe, Int.reduceNeg, Int.reduceAdd, Int.reduceSub, Int.reduceMul, reduceCtorEq]
 refine condT.split (fun h3 => ?_) (fun h3 => ?_)
 · have hi' : i < b.length := by simpa using h3
   have hr0 := rows_at WeekRow.csl hi'
   have hSl : (joinS a (b.take i)).length ≤ 24 := by
     have := joinS_len a (b.take i)
     simp at this
     omega
   have hstep := joinS_take (a := a) hi'
   have hold : ∀ x ∈ joinS a (b.take i), x.Week = b[i].Week → x ∈ a := fun x hx hw => join_old aa ab hi' hx hw
   have hvr := wrB_iff.1 (hvb _ (List.getElem_mem hi'))
   generalize hS : joinS a (b.take i) = S at hSl hstep hold
   generalize hr : b[i] = r at hr0 hstep hold hvr
   (repeat ((repeat1' (first | simp -implicitDefEqProofs -dsimp only [go_sem, Nat.reduceSub, Nat.reduceAdd, Nat.reduceMul, Nat.reduceLT, Nat.reduceLeDiff, Nat.reduceEqDiff, Nat.reduceDiv, Nat.reduceMod, Int.reduceToNat, Int.reduceLE, Int.reduceLT, Int.reduceBEq, Int.reduceBNe, Int.reduceNeg, Int.reduceAdd, Int.reduceSub, Int.reduceMul, reduceCtorEq, h3, hr0, WeekRow.cs] | simp -dsimp (disch := omega) only [wrap_i64])); repeat (with_reducible refine sideA ?_)))
   refine LoopT.intro (fun k : Nat => k ≤ S.length ∧ ∀ j (hj : j < S.length), j < k → S[j].Week < r.Week) (fun k => ⟨[.undef, WeekRow.sl b, .undef, .undef, .undef, .undef, .osl 0 0 S.length 5, .int .i64 i, .ptr 1 0, .int .i64 k, .undef, .undef, .undef, .undef, .undef, .undef, .undef, .undef, .undef, .undef, .undef, .undef, .undef, .undef, .undef, .undef, .undef, .undef, .undef, .undef, .undef, .undef, .undef, .undef, .undef, .undef, .undef, .undef, .undef, .undef, .undef, .undef, .undef, .undef, .undef, .undef, .undef, .undef, .undef, .undef, .undef, .undef, .undef, .undef, .undef, .undef, .undef, .undef, .undef, .undef, .undef, .undef, .undef, .undef, .undef, .undef, .undef, .undef, .undef, .undef, .undef, .undef, .undef, .undef, .undef, .undef, .undef, .undef, .undef, .undef, .undef, .undef, .undef, .undef, .undef, .undef, .undef, .undef, .undef, .undef, .undef, .undef, .undef, .undef, .undef, .undef, .undef, .undef, .undef, .undef, .undef, .undef, .undef, .undef, .undef, .undef, .undef, .undef], [some (rows WeekRow.cs S), some r.cs], 0⟩) (fun k => S.length - k) 0 ⟨Nat.zero_le _, fun j hj h => by omega⟩ ?_ (fun k hk => ?_)
   · refine Weak.cut (2) (by simp) (by simp) ?_ ?_
     · simp [LeC, LeV, ren, cutF]
     · simp [cutH, cutB, ren, map_ren_rows, WeekRow.cs]
   obtain ⟨hk, hlt⟩ := hk
   have fin : (∀ h : k < S.length, r.Week ≤ S[k].Week) → putW S r = S.take k ++ (match S.drop k with
       | [] => [r]
       | x :: R => if x.Week = r.Week then addR x r :: R else r :: x :: R) := fun h => putW_at hk hlt h
   simp -implicitDefEqProofs -dsimp only [go_sem, Nat.reduceSub, Nat.reduceAdd, Nat.reduceMul, Nat.reduceLT, Nat.reduceLeDiff, Nat.reduceEqDiff, Nat.reduceDiv, Nat.reduceMod, Int.reduceToNat, Int.reduceLE, Int.reduceLT, Int.reduceBEq, Int.reduceBNe, Int.reduceNeg, Int.reduceAdd, Int.reduceSub, Int.reduceMul, reduceCtorEq, WeekRow.cs]
   refine ⟨by kernel_rfl, ?_⟩
   refine guardT.split (fun h4 => ?_) (fun h4 => ?_)
   · have hk' : k < S.length := by simpa using h4
     have hrk := rows_at WeekRow.csl hk'
     have hw0 : List.take 1 (List.drop (k * 5 + 0) (rows WeekRow.cs S)) = [.int .i64 S[k].Week] := by rw [rows_drop_at WeekRow.csl hk' 0]; rfl
     (repeat ((repeat1' (first | simp -implicitDefEqProofs -dsimp only [go_sem, Nat.reduceSub, Nat.reduceAdd, Nat.reduceMul, Nat.reduceLT, Nat.reduceLeDiff, Nat.reduceEqDiff, Nat.reduceDiv, Nat.reduceMod, Int.reduceToNat, Int.reduceLE, Int.reduceLT, Int.reduceBEq, Int.reduceBNe, Int.reduceNeg, Int.reduceAdd, Int.reduceSub, Int.reduceMul, reduceCtorEq, h4, hw0] | simp -dsimp (disch := omega) only [wrap_i64])); repeat (with_reducible refine sideA ?_)))
     refine condT.split (fun h5 => ?_) (fun h5 => ?_)
     · have h5' := of_decide_eq_true h5
       (repeat ((repeat1' (first | simp -implicitDefEqProofs -dsimp only [go_sem, Nat.reduceSub, Nat.reduceAdd, Nat.reduceMul, Nat.reduceLT, Nat.reduceLeDiff, Nat.reduceEqDiff, Nat.reduceDiv, Nat.reduceMod, Int.reduceToNat, Int.reduceLE, Int.reduceLT, Int.reduceBEq, Int.reduceBNe, Int.reduceNeg, Int.reduceAdd, Int.reduceSub, Int.reduceMul, reduceCtorEq, h5] | simp -dsimp (disch := omega) only [wrap_i64])); repeat (with_reducible refine sideA ?_)))
       refine ⟨k + 1, ⟨hk', fun j hj hjk => ?_⟩, ?_, by omega⟩
       · rcases Nat.lt_or_ge j k with h | h
         · exact hlt j hj h
         · have : j = k := by omega
           subst this
           exact h5'
       · refine Weak.cut (2) (by simp) (by simp) ?_ ?_
         · simp [LeC, LeV, ren, cutF]
         · simp [cutH, cutB, ren, map_ren_rows]
     · have h5' := of_decide_eq_false h5
       have hf := fin fun _ => by omega
       have hdk : S.drop k = S[k] :: S.drop (k + 1) := List.drop_eq_getElem_cons hk'
       have hif : ((k : Int) = 0 ∨ (k : Int) < (S.length : Int)) = True := eq_true (by omega)
       have hlk : decide ((0 : Int) < ((S.length - k : Nat) : Int)) = true := decide_eq_true (by omega)
       have hw1 : List.take 1 (List.drop (k * 5 + 0 + 0) (rows WeekRow.cs S)) = [.int .i64 S[k].Week] := hw0
       have hrk1 : List.take 5 (List.drop (k * 5 + 0) (rows WeekRow.cs S)) = S[k].cs := hrk
       (repeat ((repeat1' (first | simp -implicitDefEqProofs -dsimp only [go_sem, Nat.reduceSub, Nat.reduceAdd, Nat.reduceMul, Nat.reduceLT, Nat.reduceLeDiff, Nat.reduceEqDiff, Nat.reduceDiv, Nat.reduceMod, Int.reduceToNat, Int.reduceLE, Int.reduceLT, Int.reduceBEq, Int.reduceBNe, Int.reduceNeg, Int.reduceAdd, Int.reduceSub, Int.reduceMul, reduceCtorEq, h5, hif, if_true, hlk, hw1] | simp -dsimp (disch := omega) only [wrap_i64])); repeat (with_reducible refine sideA ?_)))
       refine condT.split (fun h6 => ?_) (fun h6 => ?_)
       · have h6' : S[k].Week = r.Week := by simpa using h6
         have hvx := wrB_iff.1 (hv _ (hold _ (List.getElem_mem hk') h6'))
         (repeat ((repeat1' (first | simp -implicitDefEqProofs -dsimp only [go_sem, Nat.reduceSub, Nat.reduceAdd, Nat.reduceMul, Nat.reduceLT, Nat.reduceLeDiff, Nat.reduceEqDiff, Nat.reduceDiv, Nat.reduceMod, Int.reduceToNat, Int.reduceLE, Int.reduceLT, Int.reduceBEq, Int.reduceBNe, Int.reduceNeg, Int.reduceAdd, Int.reduceSub, Int.reduceMul, reduceCtorEq, h6, hrk1, WeekRow.cs] | simp -dsimp (disch := omega) only [wrap_i64])); repeat (with_reducible refine sideA ?_)))
         have hf' : putW S r = S.take k ++ addR S[k] r :: S.drop (k + 1) := by
           rw [hf, hdk]
           simp only [if_pos h6']
         by_cases hk1 : k + 1 < S.length
         · have hif2 : ((1 : Int) = 0 ∨ (1 : Int) < ((S.length - k : Nat) : Int)) = True := eq_true (by omega)
           simp only [hif2, if_true]
           refine chT.intro [false, true, true, true, false, true, true, false, true, false, false] [true, true, true, true, true, true, true, true, true, true, false] [some ⟨none, 93, 45, []⟩, none, none, none, some ⟨some 0, 97, 45, [96]⟩, none, none, some ⟨some 4, 100, 45, [96, 99]⟩, none, some ⟨some 7, 102, 45, [96, 99, 101]⟩, none] [⟨9, 102, 45, [96, 99, 101]⟩] (by kernel_rfl) (by rfl) ?_
           have hd : List.drop (k * 5 + 5) (rows WeekRow.cs S) = rows WeekRow.cs (S.drop (k + 1)) := by
             have := rows_drop WeekRow.csl S (k + 1)
             rwa [Nat.add_mul, Nat.one_mul] at this
           have htk := rows_take WeekRow.csl (S.drop (k + 1)) (S.length - k - 1)
           rw [List.take_of_length_le (l := S.drop (k + 1)) (by rw [List.length_drop]; omega)] at htk
           have hfr : rows WeekRow.cs (S.take k) ++ [.int .i64 r.Week, .int .i64 (S[k].Events + r.Events), .int .i64 (S[k].Felt + r.Felt), .int .i64 (S[k].Picks + r.Picks), .int .i64 (S[k].Lost + r.Lost)] ++ rows WeekRow.cs (S.drop (k + 1)) = rows WeekRow.cs (joinS a (b.take (i + 1))) := by
             rw [hstep, hf', rowsOf_append, rows_cons, List.append_assoc]; rfl
           have hfl : (joinS a (b.take (i + 1))).length = k + 1 + (S.length - k - 1) := by rw [hstep, hf']; simp; omega
           have ht := rows_take WeekRow.csl S k
           (repeat ((repeat1' (first | simp -implicitDefEqProofs -dsimp only [go_sem, Nat.reduceSub, Nat.reduceAdd, Nat.reduceMul, Nat.reduceLT, Nat.reduceLeDiff, Nat.reduceEqDiff, Nat.reduceDiv, Nat.reduceMod, Int.reduceToNat, Int.reduceLE, Int.reduceLT, Int.reduceBEq, Int.reduceBNe, Int.reduceNeg, Int.reduceAdd, Int.reduceSub, Int.reduceMul, reduceCtorEq, ht, hd, htk, Nat.sub_zero] | simp -dsimp (disch := omega) only [wrap_i64])); repeat (with_reducible refine sideA ?_)))
           refine ⟨⟨by omega, by omega, by rw [hfr]; exact rows_noOwn _ _⟩, i + 1, hi', ?_, by omega⟩
           refine Weak.pick [4] (by decide) (fun j hj => by omega) ?_ ?_
           · simp [LeG, LeC, LeV, ren, pickF, posOf, hfl]; try omega
           · simp only [pickH, List.map_cons, List.map_nil, pickB, List.getElem?_cons_zero, List.getElem?_cons_succ, hfr, map_ren_rows]
         · have hif2 : ((1 : Int) = 0 ∨ (1 : Int) < ((S.length - k : Nat) : Int)) = False := eq_false (by omega)
           simp only [hif2, if_false]
           have hdn : S.drop (k + 1) = [] := List.drop_of_length_le (by omega)
           rw [hdn] at hf'
           refine chT.intro [false, true, true, true, false, true, true, false, true, false, false] [true, true, true, true, true, true, true, true, true, true, false] [some ⟨none, 93, 45, []⟩, none, none, none, some ⟨some 0, 97, 45, [96]⟩, none, none, some ⟨some 4, 100, 45, [96, 99]⟩, none, some ⟨some 7, 102, 45, [96, 99, 101]⟩, none] [⟨9, 102, 45, [96, 99, 101]⟩] (by kernel_rfl) (by rfl) ?_
           have hfr : rows WeekRow.cs (S.take k) ++ [.int .i64 r.Week, .int .i64 (S[k].Events + r.Events), .int .i64 (S[k].Felt + r.Felt), .int .i64 (S[k].Picks + r.Picks), .int .i64 (S[k].Lost + r.Lost)] = rows WeekRow.cs (joinS a (b.take (i + 1))) := by
             rw [hstep, hf', rowsOf_append, rows_cons, rows_nil, List.append_nil]; rfl
           have hfl : (joinS a (b.take (i + 1))).length = k + 1 + 0 := by rw [hstep, hf']; simp; omega
           have ht := rows_take WeekRow.csl S k
           (repeat ((repeat1' (first | simp -implicitDefEqProofs -dsimp only [go_sem, Nat.reduceSub, Nat.reduceAdd, Nat.reduceMul, Nat.reduceLT, Nat.reduceLeDiff, Nat.reduceEqDiff, Nat.reduceDiv, Nat.reduceMod, Int.reduceToNat, Int.reduceLE, Int.reduceLT, Int.reduceBEq, Int.reduceBNe, Int.reduceNeg, Int.reduceAdd, Int.reduceSub, Int.reduceMul, reduceCtorEq, ht, Nat.sub_zero] | simp -dsimp (disch := omega) only [wrap_i64])); repeat (with_reducible refine sideA ?_)))
           refine ⟨⟨by omega, by omega, by rw [hfr]; exact rows_noOwn _ _⟩, i + 1, hi', ?_, by omega⟩
           refine Weak.pick [4] (by decide) (fun j hj => by omega) ?_ ?_
           · simp [LeG, LeC, LeV, ren, pickF, posOf, hfl]; try omega
           · simp only [pickH, List.map_cons, List.map_nil, pickB, List.getElem?_cons_zero, List.getElem?_cons_succ, hfr, map_ren_rows]
       · have h6' : S[k].Week ≠ r.Week := by simpa using h6
         (repeat ((repeat1' (first | simp -implicitDefEqProofs -dsimp only [go_sem, Nat.reduceSub, Nat.reduceAdd, Nat.reduceMul, Nat.reduceLT, Nat.reduceLeDiff, Nat.reduceEqDiff, Nat.reduceDiv, Nat.reduceMod, Int.reduceToNat, Int.reduceLE, Int.reduceLT, Int.reduceBEq, Int.reduceBNe, Int.reduceNeg, Int.reduceAdd, Int.reduceSub, Int.reduceMul, reduceCtorEq, h6] | simp -dsimp (disch := omega) only [wrap_i64])); repeat (with_reducible refine sideA ?_)))
         refine chT.intro [false, true, true, true, false, true, true, false, true, false, false] [true, true, true, true, true, true, true, true, true, true, false] [some ⟨none, 93, 45, []⟩, none, none, none, some ⟨some 0, 97, 45, [96]⟩, none, none, some ⟨some 4, 100, 45, [96, 99]⟩, none, some ⟨some 7, 102, 45, [96, 99, 101]⟩, none] [⟨9, 102, 45, [96, 99, 101]⟩] (by kernel_rfl) (by rfl) ?_
         have hf' : putW S r = S.take k ++ r :: S.drop k := by
           rw [hf, hdk]
           simp only [if_neg h6']
         have hd := rows_drop WeekRow.csl S k
         have htk := rows_take WeekRow.csl (S.drop k) (S.length - k)
         rw [List.take_of_length_le (l := S.drop k) (by rw [List.length_drop]; exact Nat.le_refl _)] at htk
         have hfr : rows WeekRow.cs (S.take k) ++ [.int .i64 r.Week, .int .i64 r.Events, .int .i64 r.Felt, .int .i64 r.Picks, .int .i64 r.Lost] ++ rows WeekRow.cs (S.drop k) = rows WeekRow.cs (joinS a (b.take (i + 1))) := by
           rw [hstep, hf', rowsOf_append, rows_cons, List.append_assoc]; rfl
         have hfl : (joinS a (b.take (i + 1))).length = k + 1 + (S.length - k) := by rw [hstep, hf']; simp; omega
         have ht := rows_take WeekRow.csl S k
         (repeat ((repeat1' (first | simp -implicitDefEqProofs -dsimp only [go_sem, Nat.reduceSub, Nat.reduceAdd, Nat.reduceMul, Nat.reduceLT, Nat.reduceLeDiff, Nat.reduceEqDiff, Nat.reduceDiv, Nat.reduceMod, Int.reduceToNat, Int.reduceLE, Int.reduceLT, Int.reduceBEq, Int.reduceBNe, Int.reduceNeg, Int.reduceAdd, Int.reduceSub, Int.reduceMul, reduceCtorEq, ht, hd, htk, Nat.sub_zero] | simp -dsimp (disch := omega) only [wrap_i64])); repeat (with_reducible refine sideA ?_)))
         refine ⟨⟨by omega, by omega, by rw [hfr]; exact rows_noOwn _ _⟩, i + 1, hi', ?_, by omega⟩
         refine Weak.pick [3] (by decide) (fun j hj => by omega) ?_ ?_
         · simp [LeG, LeC, LeV, ren, pickF, posOf, hfl]; try omega
         · simp only [pickH, List.map_cons, List.map_nil, pickB, List.getElem?_cons_zero, List.getElem?_cons_succ, hfr, map_ren_rows]
   · have hk' : k = S.length := by simp at h4; omega
     have hf := fin fun h => by omega
     have hdn : S.drop k = [] := List.drop_of_length_le (by omega)
     rw [hdn] at hf
     by_cases hk0 : k = 0
     · have hif : ((k : Int) = 0 ∨ (k : Int) < (S.length : Int)) = True := eq_true (by omega)
       have hlk : decide ((0 : Int) < ((S.length - k : Nat) : Int)) = false := decide_eq_false (by omega)
       (repeat ((repeat1' (first | simp -implicitDefEqProofs -dsimp only [go_sem, Nat.reduceSub, Nat.reduceAdd, Nat.reduceMul, Nat.reduceLT, Nat.reduceLeDiff, Nat.reduceEqDiff, Nat.reduceDiv, Nat.reduceMod, Int.reduceToNat, Int.reduceLE, Int.reduceLT, Int.reduceBEq, Int.reduceBNe, Int.reduceNeg, Int.reduceAdd, Int.reduceSub, Int.reduceMul, reduceCtorEq, h4, hif, if_true, hlk] | simp -dsimp (disch := omega) only [wrap_i64])); repeat (with_reducible refine sideA ?_)))
       refine chT.intro [false, true, true, true, false, true, true, false, true, false, false] [true, true, true, true, true, true, true, true, true, true, false] [some ⟨none, 93, 45, []⟩, none, none, none, some ⟨some 0, 97, 45, [96]⟩, none, none, some ⟨some 4, 100, 45, [96, 99]⟩, none, some ⟨some 7, 102, 45, [96, 99, 101]⟩, none] [⟨9, 102, 45, [96, 99, 101]⟩] (by kernel_rfl) (by rfl) ?_
       have hf' : putW S r = S.take k ++ r :: S.drop k := by rw [hf, hdn]
       have hd := rows_drop WeekRow.csl S k
       have htk := rows_take WeekRow.csl (S.drop k) (S.length - k)
       rw [List.take_of_length_le (l := S.drop k) (by rw [List.length_drop]; exact Nat.le_refl _)] at htk
       have hfr : rows WeekRow.cs (S.take k) ++ [.int .i64 r.Week, .int .i64 r.Events, .int .i64 r.Felt, .int .i64 r.Picks, .int .i64 r.Lost] ++ rows WeekRow.cs (S.drop k) = rows WeekRow.cs (joinS a (b.take (i + 1))) := by
         rw [hstep, hf', rowsOf_append, rows_cons, List.append_assoc]; rfl
       have hfl : (joinS a (b.take (i + 1))).length = k + 1 + (S.length - k) := by rw [hstep, hf']; simp; omega
       have ht := rows_take WeekRow.csl S k
       (repeat ((repeat1' (first | simp -implicitDefEqProofs -dsimp only [go_sem, Nat.reduceSub, Nat.reduceAdd, Nat.reduceMul, Nat.reduceLT, Nat.reduceLeDiff, Nat.reduceEqDiff, Nat.reduceDiv, Nat.reduceMod, Int.reduceToNat, Int.reduceLE, Int.reduceLT, Int.reduceBEq, Int.reduceBNe, Int.reduceNeg, Int.reduceAdd, Int.reduceSub, Int.reduceMul, reduceCtorEq, ht, hd, htk, Nat.sub_zero] | simp -dsimp (disch := omega) only [wrap_i64])); repeat (with_reducible refine sideA ?_)))
       refine ⟨⟨by omega, by omega, by rw [hfr]; exact rows_noOwn _ _⟩, i + 1, hi', ?_, by omega⟩
       refine Weak.pick [3] (by decide) (fun j hj => by omega) ?_ ?_
       · simp [LeG, LeC, LeV, ren, pickF, posOf, hfl]; try omega
       · simp only [pickH, List.map_cons, List.map_nil, pickB, List.getElem?_cons_zero, List.getElem?_cons_succ, hfr, map_ren_rows]
     · have hif : ((k : Int) = 0 ∨ (k : Int) < (S.length : Int)) = False := eq_false (by omega)
       have h00 : decide ((0 : Int) < ((0 : Nat) : Int)) = false := by decide
       (repeat ((repeat1' (first | simp -implicitDefEqProofs -dsimp only [go_sem, Nat.reduceSub, Nat.reduceAdd, Nat.reduceMul, Nat.reduceLT, Nat.reduceLeDiff, Nat.reduceEqDiff, Nat.reduceDiv, Nat.reduceMod, Int.reduceToNat, Int.reduceLE, Int.reduceLT, Int.reduceBEq, Int.reduceBNe, Int.reduceNeg, Int.reduceAdd, Int.reduceSub, Int.reduceMul, reduceCtorEq, h4, hif, if_false, h00] | simp -dsimp (disch := omega) only [wrap_i64])); repeat (with_reducible refine sideA ?_)))
       refine chT.intro [false, true, true, true, false, true, true, false, true, false, false] [true, true, true, true, true, true, true, true, true, true, false] [some ⟨none, 93, 45, []⟩, none, none, none, some ⟨some 0, 97, 45, [96]⟩, none, none, some ⟨some 4, 100, 45, [96, 99]⟩, none, some ⟨some 7, 102, 45, [96, 99, 101]⟩, none] [⟨9, 102, 45, [96, 99, 101]⟩] (by kernel_rfl) (by rfl) ?_
       have hf' : putW S r = S.take k ++ r :: [] := hf
       have hfr : rows WeekRow.cs (S.take k) ++ [.int .i64 r.Week, .int .i64 r.Events, .int .i64 r.Felt, .int .i64 r.Picks, .int .i64 r.Lost] = rows WeekRow.cs (joinS a (b.take (i + 1))) := by
         rw [hstep, hf', rowsOf_append, rows_cons, rows_nil, List.append_nil]; rfl
       have hfl : (joinS a (b.take (i + 1))).length = k + 1 + 0 := by rw [hstep, hf']; simp; omega
       have ht := rows_take WeekRow.csl S k
       (repeat ((repeat1' (first | simp -implicitDefEqProofs -dsimp only [go_sem, Nat.reduceSub, Nat.reduceAdd, Nat.reduceMul, Nat.reduceLT, Nat.reduceLeDiff, Nat.reduceEqDiff, Nat.reduceDiv, Nat.reduceMod, Int.reduceToNat, Int.reduceLE, Int.reduceLT, Int.reduceBEq, Int.reduceBNe, Int.reduceNeg, Int.reduceAdd, Int.reduceSub, Int.reduceMul, reduceCtorEq, ht, Nat.sub_zero] | simp -dsimp (disch := omega) only [wrap_i64])); repeat (with_reducible refine sideA ?_)))
       refine ⟨⟨by omega, by omega, by rw [hfr]; exact rows_noOwn _ _⟩, i + 1, hi', ?_, by omega⟩
       refine Weak.pick [3] (by decide) (fun j hj => by omega) ?_ ?_
       · simp [LeG, LeC, LeV, ren, pickF, posOf, hfl]; try omega
       · simp only [pickH, List.map_cons, List.map_nil, pickB, List.getElem?_cons_zero, List.getElem?_cons_succ, hfr, map_ren_rows]
 · have hi' : i = b.length := by simp at h3; omega
   subst hi'
   rw [List.take_length]
   have hJl := joinS_wrB h1' h2'
   (repeat ((repeat1' (first | simp -implicitDefEqProofs -dsimp only [go_sem, Nat.reduceSub, Nat.reduceAdd, Nat.reduceMul, Nat.reduceLT, Nat.reduceLeDiff, Nat.reduceEqDiff, Nat.reduceDiv, Nat.reduceMod, Int.reduceToNat, Int.reduceLE, Int.reduceLT, Int.reduceBEq, Int.reduceBNe, Int.reduceNeg, Int.reduceAdd, Int.reduceSub, Int.reduceMul, reduceCtorEq, h3] | simp -dsimp (disch := omega) only [wrap_i64])); repeat (with_reducible refine sideA ?_)))
   (first | refine callT.at (l26Good_ok (joinS a b) (by omega)) ⟨leA, trivial⟩ ?_ | refine callS.at (l26Good_ok (joinS a b) (by omega)) ⟨leA, trivial⟩ ?_)
   cases hJ : wrsB (joinS a b) with
   | false =>
     (repeat ((repeat1' (first | simp -implicitDefEqProofs -dsimp only [go_sem, Nat.reduceSub, Nat.reduceAdd, Nat.reduceMul, Nat.reduceLT, Nat.reduceLeDiff, Nat.reduceEqDiff, Nat.reduceDiv, Nat.reduceMod, Int.reduceToNat, Int.reduceLE, Int.reduceLT, Int.reduceBEq, Int.reduceBNe, Int.reduceNeg, Int.reduceAdd, Int.reduceSub, Int.reduceMul, reduceCtorEq] | simp -dsimp (disch := omega) only [wrap_i64])); repeat (with_reducible refine sideA ?_)))
     rw [joinR_no (.inr (.inr hJ))]
     refine WeakR.pick [1] (by decide) (fun j hj => by omega) (.inl rfl) ?_
     simp [pickH, pickB, optOh]
   | true =>
     have e : joinR a b = some (joinS a b) := if_pos ⟨h1', h2', hJ⟩
     (repeat ((repeat1' (first | simp -implicitDefEqProofs -dsimp only [go_sem, Nat.reduceSub, Nat.reduceAdd, Nat.reduceMul, Nat.reduceLT, Nat.reduceLeDiff, Nat.reduceEqDiff, Nat.reduceDiv, Nat.reduceMod, Int.reduceToNat, Int.reduceLE, Int.reduceLT, Int.reduceBEq, Int.reduceBNe, Int.reduceNeg, Int.reduceAdd, Int.reduceSub, Int.reduceMul, reduceCtorEq] | simp -dsimp (disch := omega) only [wrap_i64])); repeat (with_reducible refine sideA ?_)))
     rw [e]
     exact WeakR.refl _ _ _
theorem idxI_alt (p : WeekRow → Bool) (L : List WeekRow) : (L.findIdx? p = none ∧ idxI p L = -1) ∨ ∃ k, L.findIdx? p = some k ∧ idxI p L = (k : Int) := by
 unfold idxI
 cases h : L.findIdx? p with
 | none => exact .inl ⟨rfl, rfl⟩
 | some k => exact .inr ⟨k, rfl, rfl⟩
theorem tot_two {x r : WeekRow} (hx : wrB x = true) (hr : wrB r = true) : tot [x, r] = ⟨0, x.Events + r.Events, x.Felt + r.Felt, x.Picks + r.Picks, x.Lost + r.Lost⟩ := by
 have h1 := wrB_iff.1 hx
 have h2 := wrB_iff.1 hr
 have key : ∀ (f : WeekRow → Int), (0 ≤ f x ∧ f x ≤ 99999) → (0 ≤ f r ∧ f r ≤ 99999) → wsum f [x, r] = f x + f r := by
   intro f g1 g2
   simp only [wsum, List.foldl_cons, List.foldl_nil]
   rw [wrap_i64 (n := 0 + f x) (by omega) (by omega), wrap_i64 (by omega) (by omega)]
   omega
 rw [tot, key _ (by omega) (by omega), key _ (by omega) (by omega), key _ (by omega) (by omega), key _ (by omega) (by omega)]
theorem iJoinWeeks_ok (a b : List WeekRow) (hla : a.length ≤ 1048576) (hlb : b.length ≤ 1048576) : Ctr Try.prog 21 [WeekRow.sl a, WeekRow.sl b] [] (optN 5 (joinR a b)) (optNh WeekRow.cs (joinR a b)) := by
 refine Ctr.intro Try.mixed Try.func21 rfl Try.okF21 ?_
 simp -implicitDefEqProofs -dsimp only [go_sem, Nat.reduceSub, Nat.reduceAdd, Nat.reduceMul, Nat.reduceLT, Nat.reduceLeDiff, Nat.reduceEqDiff, Nat.reduceDiv, Nat.reduceMod, Int.reduceToNat, Int.reduceLE, Int.reduceLT, Int.reduceBEq, Int.reduceBNe, Int.reduceNeg, Int.reduceAdd, Int.reduceSub, Int.reduceMul, reduceCtorEq, Try.ntmps21, Try.results21]
 (first | refine callT.at (iAreWeekRows_ok a (by omega)) ⟨leA, trivial⟩ ?_ | refine callS.at (iAreWeekRows_ok a (by omega)) ⟨leA, trivial⟩ ?_)
 simp -implicitDefEqProofs -dsimp only [go_sem, Nat.reduceSub, Nat.reduceAdd, Nat.reduceMul, Nat.reduceLT, Nat.reduceLeDiff, Nat.reduceEqDiff, Nat.reduceDiv, Nat.reduceMod, Int.reduceToNat, Int.reduceLE, Int.reduceLT, Int.reduceBEq, Int.reduceBNe, Int.reduceNeg, Int.reduceAdd, Int.reduceSub, Int.reduceMul, reduceCtorEq]
 refine guardT.splitF (fun h1 => ?_) (fun h1 => ?_) <;> simp -implicitDefEqProofs -dsimp only [go_sem, Nat.reduceSub, Nat.reduceAdd, Nat.reduceMul, Nat.reduceLT, Nat.reduceLeDiff, Nat.reduceEqDiff, Nat.reduceDiv, Nat.reduceMod, Int.reduceToNat, Int.reduceLE, Int.reduceLT, Int.reduceBEq, Int.reduceBNe, Int.reduceNeg, Int.reduceAdd, Int.reduceSub, Int.reduceMul, reduceCtorEq, h1]
 rotate_left
 · rw [joinR_no (.inl (by simpa using h1))]
   exact WeakR.refl _ _ _
 (first | refine callT.at (iAreWeekRows_ok b (by omega)) ⟨leA, trivial⟩ ?_ | refine callS.at (iAreWeekRows_ok b (by omega)) ⟨leA, trivial⟩ ?_)
 simp -implicitDefEqProofs -dsimp only [go_sem, Nat.reduceSub, Nat.reduceAdd, Nat.reduceMul, Nat.reduceLT, Nat.reduceLeDiff, Nat.reduceEqDiff, Nat.reduceDiv, Nat.reduceMod, Int.reduceToNat, Int.reduceLE, Int.reduceLT, Int.reduceBEq, Int.reduceBNe, Int.reduceNeg, Int.reduceAdd, Int.reduceSub, Int.reduceMul, reduceCtorEq]
 refine condT.split (fun h2 => ?_) (fun h2 => ?_) <;> simp -implicitDefEqProofs -dsimp only [go_sem, Nat.reduceSub, Nat.reduceAdd, Nat.reduceMul, Nat.reduceLT, Nat.reduceLeDiff, Nat.reduceEqDiff, Nat.reduceDiv, Nat.reduceMod, Int.reduceToNat, Int.reduceLE, Int.reduceLT, Int.reduceBEq, Int.reduceBNe, Int.reduceNeg, Int.reduceAdd, Int.reduceSub, Int.reduceMul, reduceCtorEq, h2]
 · rw [joinR_no (.inr (.inl (by simpa using h2)))]
   exact WeakR.refl _ _ _
 have h1' : wrsB a = true := by simpa using h1
 have h2' : wrsB b = true := by simpa using h2
 obtain ⟨hv, hlen⟩ := wrsB_all h1'
 obtain ⟨hvb, hlenb⟩ := wrsB_all h2'
 have aa := asc_of h1'
 have ab := asc_of h2'
 (first | refine callT.at (copyOfWeekRow_ok a hla) ⟨leA, trivial⟩ ?_ | refine callS.at (copyOfWeekRow_ok a hla) ⟨leA, trivial⟩ ?_)
 (repeat ((repeat1' (first | simp -implicitDefEqProofs -dsimp only [go_sem, Nat.reduceSub, Nat.reduceAdd, Nat.reduceMul, Nat.reduceLT, Nat.reduceLeDiff, Nat.reduceEqDiff, Nat.reduceDiv, Nat.reduceMod, Int.reduceToNat, Int.reduceLE, Int.reduceLT, Int.reduceBEq, Int.reduceBNe, Int.reduceNeg, Int.reduceAdd, Int.reduceSub, Int.reduceMul, reduceCtorEq] | simp -dsimp (disch := omega) only [wrap_i64])); repeat (with_reducible refine sideA ?_)))
 refine LoopT.intro (fun i : Nat => i ≤ b.length) (fun i => ⟨[WeekRow.sl a, .undef, .undef, .undef, .undef, .undef, .osl 0 0 (joinO a (b.take i)).length 5, .undef, .undef, .undef, .undef, .undef, .undef, .undef, .undef, .undef, .undef, .undef, .undef, .undef, .undef, WeekRow.sl b, .int .i64 b.length, .int .i64 i, .undef, .undef, .undef, .undef, .undef, .undef, .undef, .undef, .undef, .undef, .undef, .undef, .undef, .undef, .undef, .undef, .undef, .undef, .undef, .undef, .undef, .undef, .undef, .undef, .undef, .undef, .undef, .undef, .undef, .undef, .undef, .undef, .undef], [some (rows WeekRow.cs (joinO a (b.take i)))], 0⟩) (fun i => b.length - i) 0 (Nat.zero_le _) ?_ (fun i hi => ?_)
 · refine Weak.cut (1) (by simp) (by simp) ?_ ?_
   · simp [LeC, LeV, ren, cutF, joinO]
   · simp [cutH, cutB, map_ren_rows, joinO]
 have I := joinI_all aa ab i hi
 have hIl := I.len
 have hIu := I.up
 rw [List.length_take] at hIu
 simp -implicitDefEqProofs -dsimp only [go_sem, Nat.reduceSub, Nat.reduceAdd, Nat.reduceMul, Nat.reduceLT, Nat.reduceLeDiff, Nat.reduceEqDiff, Nat.reduceDiv, Nat.reduceMod, Int.reduceToNat, Int.reduceLE, Int.reduceLT, Int.reduceBEq, Int.reduceBNe, Int.reduceNeg, Int.reduceAdd, Int.reduceSub, Int.reduceMul, reduceCtorEq]
 refine condT.split (fun h3 => ?_) (fun h3 => ?_)
 · have hi' : i < b.length := by simpa using h3
   have hr0 := rows_at WeekRow.csl hi'
   have hstep := joinO_take (a := a) hi'
   have hvi := hvb _ (List.getElem_mem hi')
   have hjx := fun k (h : a.findIdx? (weekP b[i].Week) = some k) => join_idx aa ab hi' h
   generalize hS : joinO a (b.take i) = O at hIl hIu hstep hjx
   generalize hr : b[i] = r at hr0 hstep hvi hjx
   have hvr := wrB_iff.1 hvi
   (repeat ((repeat1' (first | simp -implicitDefEqProofs -dsimp only [go_sem, Nat.reduceSub, Nat.reduceAdd, Nat.reduceMul, Nat.reduceLT, Nat.reduceLeDiff, Nat.reduceEqDiff, Nat.reduceDiv, Nat.reduceMod, Int.reduceToNat, Int.reduceLE, Int.reduceLT, Int.reduceBEq, Int.reduceBNe, Int.reduceNeg, Int.reduceAdd, Int.reduceSub, Int.reduceMul, reduceCtorEq, h3, hr0, WeekRow.cs] | simp -dsimp (disch := omega) only [wrap_i64])); repeat (with_reducible refine sideA ?_)))
   (first | refine callT.at (indexFuncWeekRow_ok a (weekP r.Week) _ [.pt r.cs] (fun d => by cases d <;> rfl) (fun x => weekIs_ok r x) (by omega)) ⟨leA, leA, trivial⟩ ?_ | refine callS.at (indexFuncWeekRow_ok a (weekP r.Week) _ [.pt r.cs] (fun d => by cases d <;> rfl) (fun x => weekIs_ok r x) (by omega)) ⟨leA, leA, trivial⟩ ?_)
   rcases idxI_alt (weekP r.Week) a with ⟨e1, e2⟩ | ⟨k, e1, e2⟩
   · rw [e2]
     have hsn : rows WeekRow.cs O ++ [.int .i64 r.Week, .int .i64 r.Events, .int .i64 r.Felt, .int .i64 r.Picks, .int .i64 r.Lost] = rows WeekRow.cs (O ++ [r]) := rows_snoc (cs := WeekRow.cs) O r
     have hno : joinO a (b.take (i + 1)) = O ++ [r] := by rw [hstep, outW_none e1]
     (repeat ((repeat1' (first | simp -implicitDefEqProofs -dsimp only [go_sem, Nat.reduceSub, Nat.reduceAdd, Nat.reduceMul, Nat.reduceLT, Nat.reduceLeDiff, Nat.reduceEqDiff, Nat.reduceDiv, Nat.reduceMod, Int.reduceToNat, Int.reduceLE, Int.reduceLT, Int.reduceBEq, Int.reduceBNe, Int.reduceNeg, Int.reduceAdd, Int.reduceSub, Int.reduceMul, reduceCtorEq, hsn] | simp -dsimp (disch := omega) only [wrap_i64])); repeat (with_reducible refine sideA ?_)))
     refine ⟨i + 1, hi', ?_, by omega⟩
     refine Weak.cut (1) (by simp) (by simp) ?_ ?_
     · simp [LeC, LeV, ren, cutF, hno]
     · simp [cutH, cutB, map_ren_rows, hno]
   · obtain ⟨hk, hkw, hOk⟩ := hjx k e1
     have hrk := rows_at WeekRow.csl hk
     have hd : decide ((k : Int) < 0) = false := decide_eq_false (by omega)
     rw [e2]
     have hkO : k < O.length := by omega
     have hOk' : O[k] = a[k] := by rw [List.getElem?_eq_getElem hkO] at hOk; exact Option.some.inj hOk
     have hvk := hv _ (List.getElem_mem hk)
     have ht2 := tot_two hvk hvi
     have hso : joinO a (b.take (i + 1)) = O.set k (addR a[k] r) := by rw [hstep, outW_some e1 hk]
     have hsp := splice_row (cs := WeekRow.cs) WeekRow.csl hkO (addR a[k] r)
     rw [← hso] at hsp
     simp only [addR, WeekRow.cs] at hsp
     have hct := totals_ok [a[k], r] (by simp)
     rw [ht2] at hct
     (repeat ((repeat1' (first | simp -implicitDefEqProofs -dsimp only [go_sem, Nat.reduceSub, Nat.reduceAdd, Nat.reduceMul, Nat.reduceLT, Nat.reduceLeDiff, Nat.reduceEqDiff, Nat.reduceDiv, Nat.reduceMod, Int.reduceToNat, Int.reduceLE, Int.reduceLT, Int.reduceBEq, Int.reduceBNe, Int.reduceNeg, Int.reduceAdd, Int.reduceSub, Int.reduceMul, reduceCtorEq, hd, hrk, WeekRow.cs] | simp -dsimp (disch := omega) only [wrap_i64])); repeat (with_reducible refine sideA ?_)))
     (first | refine callT.at (hct) ⟨leA, trivial⟩ ?_ | refine callS.at (hct) ⟨leA, trivial⟩ ?_)
     (repeat ((repeat1' (first | simp -implicitDefEqProofs -dsimp only [go_sem, Nat.reduceSub, Nat.reduceAdd, Nat.reduceMul, Nat.reduceLT, Nat.reduceLeDiff, Nat.reduceEqDiff, Nat.reduceDiv, Nat.reduceMod, Int.reduceToNat, Int.reduceLE, Int.reduceLT, Int.reduceBEq, Int.reduceBNe, Int.reduceNeg, Int.reduceAdd, Int.reduceSub, Int.reduceMul, reduceCtorEq, WeekRow.v, hsp] | simp -dsimp (disch := omega) only [wrap_i64])); repeat (with_reducible refine sideA ?_)))
     refine ⟨i + 1, hi', ?_, by omega⟩
     refine Weak.cut (1) (by simp) (by simp) ?_ ?_
     · simp [LeC, LeV, ren, cutF, hso]
     · simp [cutH, cutB, map_ren_rows]
 · have hi' : i = b.length := by simp at h3; omega
   subst hi'
   rw [List.take_length] at *
   have hpl := I.perm.length_eq
   have hJl := joinS_wrB h1' h2'
   (repeat ((repeat1' (first | simp -implicitDefEqProofs -dsimp only [go_sem, Nat.reduceSub, Nat.reduceAdd, Nat.reduceMul, Nat.reduceLT, Nat.reduceLeDiff, Nat.reduceEqDiff, Nat.reduceDiv, Nat.reduceMod, Int.reduceToNat, Int.reduceLE, Int.reduceLT, Int.reduceBEq, Int.reduceBNe, Int.reduceNeg, Int.reduceAdd, Int.reduceSub, Int.reduceMul, reduceCtorEq, h3] | simp -dsimp (disch := omega) only [wrap_i64])); repeat (with_reducible refine sideA ?_)))
   refine callS.lend [0] false ( sortW_ok (joinO a b) (joinS a b) (joinS_asc b aa) I.perm (by omega)) (by decide) ⟨leO, leO, trivial⟩ lendA ( grown_one (by simp [rowsW_len, hpl])) (.inl rfl) ?_
   rw [← hpl]
   (repeat ((repeat1' (first | simp -implicitDefEqProofs -dsimp only [go_sem, Nat.reduceSub, Nat.reduceAdd, Nat.reduceMul, Nat.reduceLT, Nat.reduceLeDiff, Nat.reduceEqDiff, Nat.reduceDiv, Nat.reduceMod, Int.reduceToNat, Int.reduceLE, Int.reduceLT, Int.reduceBEq, Int.reduceBNe, Int.reduceNeg, Int.reduceAdd, Int.reduceSub, Int.reduceMul, reduceCtorEq] | simp -dsimp (disch := omega) only [wrap_i64])); repeat (with_reducible refine sideA ?_)))
   (first | refine callT.at (iAreWeekRows_ok (joinS a b) (by omega)) ⟨leA, trivial⟩ ?_ | refine callS.at (iAreWeekRows_ok (joinS a b) (by omega)) ⟨leA, trivial⟩ ?_)
   cases hJ : wrsB (joinS a b) with
   | false =>
     (repeat ((repeat1' (first | simp -implicitDefEqProofs -dsimp only [go_sem, Nat.reduceSub, Nat.reduceAdd, Nat.reduceMul, Nat.reduceLT, Nat.reduceLeDiff, Nat.reduceEqDiff, Nat.reduceDiv, Nat.reduceMod, Int.reduceToNat, Int.reduceLE, Int.reduceLT, Int.reduceBEq, Int.reduceBNe, Int.reduceNeg, Int.reduceAdd, Int.reduceSub, Int.reduceMul, reduceCtorEq] | simp -dsimp (disch := omega) only [wrap_i64])); repeat (with_reducible refine sideA ?_)))
     rw [joinR_no (.inr (.inr hJ))]
     exact WeakR.drop' rfl (by rfl)
   | true =>
     have e : joinR a b = some (joinS a b) := if_pos ⟨h1', h2', hJ⟩
     (repeat ((repeat1' (first | simp -implicitDefEqProofs -dsimp only [go_sem, Nat.reduceSub, Nat.reduceAdd, Nat.reduceMul, Nat.reduceLT, Nat.reduceLeDiff, Nat.reduceEqDiff, Nat.reduceDiv, Nat.reduceMod, Int.reduceToNat, Int.reduceLE, Int.reduceLT, Int.reduceBEq, Int.reduceBNe, Int.reduceNeg, Int.reduceAdd, Int.reduceSub, Int.reduceMul, reduceCtorEq] | simp -dsimp (disch := omega) only [wrap_i64])); repeat (with_reducible refine sideA ?_)))
     rw [e]
     exact WeakR.refl _ _ _
end Go.Proofs
end
section
namespace Go.Lv
theorem callS.lend1 {P : Program} {t : List V} {h : Hp} {k : Nat} {dst : Option Tmp} {g : FuncId} {id off n w : Nat} {rest rest' : List V} {K : St → Prop} {x : Tag K} {b : Option (List V)} {r : V} {hout : Hp}
   (hs : Ctr P g (.osl 0 off n w :: rest') [b] r hout) (hle : LeL (rest.map (ren (pickF [id] h false) 3)) rest') (hb : pickB [id] h false id = b) (hg : grown [b] hout) (hk : K (afterM ⟨t, h, k⟩ dst [id] r hout)) :
   callS P ⟨t, h, k⟩ dst (.fn (.func g) [] []) (.osl id off n w :: rest) K x := by
 refine callS.lend [id] false hs (by simp) ?_ (by simp [pickH, hb]) hg (.inl rfl) hk
 simp only [List.nil_append, List.append_nil, List.map_cons]
 exact ⟨.inl (by simp [ren, pickF, posOf]), hle⟩
theorem lendB_one {α : Type} {cs : α → List V} {w : Nat} [FlatP cs w] {h : Hp} {id : Nat} {fz : Bool} {L : List α} (hid : h[id]? = some (some (rows cs L))) : pickB [id] h fz id = some (rows cs L) := by
 simp only [pickB, hid, map_ren_rows]
end Go.Lv
end
section
set_option maxRecDepth 100000
set_option maxHeartbeats 1000000
namespace Go.Proofs
open Go.Lv
theorem fnJoinWeeks_ok (L B : List WeekRow) (hL : lstR WeekRow.ok L) (hB : lstR WeekRow.ok B) : Ctr Try.prog 4 [WeekRow.sl L, WeekRow.sl B] [] (.bool true) [] := by
 refine Ctr.intro Try.mixed Try.func4 rfl Try.okF4 ?_
 simp -implicitDefEqProofs -dsimp only [go_sem, Try.ntmps4, Try.results4]
 (first | refine callT.at (szWeekRowS_ok L 1048576 hL.1 (by omega) (by omega)) ⟨.inl rfl, .inl rfl, trivial⟩ ?_ | refine callS.at (szWeekRowS_ok L 1048576 hL.1 (by omega) (by omega)) ⟨.inl rfl, .inl rfl, trivial⟩ ?_)
 simp -implicitDefEqProofs -dsimp only [go_sem]
 refine condT.split (fun h1 => ?_) (fun h1 => ?_) <;> simp -implicitDefEqProofs -dsimp only [go_sem, h1]
 · exact WeakR.drop' rfl rfl
 have hLl : L.length ≤ 1048576 := by
   simp at h1; split at h1 <;> omega
 rw [if_neg (by omega)]
 (first | refine callT.at (szWeekRowS_ok B (1048576 - L.length) hB.1 (by omega) (by omega)) ⟨.inl rfl, .inl rfl, trivial⟩ ?_ | refine callS.at (szWeekRowS_ok B (1048576 - L.length) hB.1 (by omega) (by omega)) ⟨.inl rfl, .inl rfl, trivial⟩ ?_)
 simp -implicitDefEqProofs -dsimp only [go_sem]
 refine condT.split (fun h2 => ?_) (fun h2 => ?_) <;> simp -implicitDefEqProofs -dsimp only [go_sem, h2]
 · exact WeakR.drop' rfl rfl
 have hBl : B.length ≤ 1048576 := by
   simp at h2; split at h2 <;> omega
 have hl : L.length ≤ 281474976710656 := by omega
 have hs := sJoinWeeks_ok L B hLl hBl
 have hi := iJoinWeeks_ok L B hLl hBl
 cases hR : joinR L B with
 | none =>
   rw [hR] at hs hi
   simp only [optO, optOh, optN, optNh] at hs hi
   repeat (first | ((first | refine callT.at (toWeekRowS_ok L hLl) ⟨leA, trivial⟩ ?_ | refine callS.at (toWeekRowS_ok L hLl) ⟨leA, trivial⟩ ?_); simp -implicitDefEqProofs -dsimp only [go_sem]) | ((first | refine callT.at (toWeekRowS_ok B hBl) ⟨leA, trivial⟩ ?_ | refine callS.at (toWeekRowS_ok B hBl) ⟨leA, trivial⟩ ?_); simp -implicitDefEqProofs -dsimp only [go_sem]) | ((first | refine callT.at (hs) ⟨leA, leA, trivial⟩ ?_ | refine callS.at (hs) ⟨leA, leA, trivial⟩ ?_); simp -implicitDefEqProofs -dsimp only [go_sem]) | ((first | refine callT.at (hi) ⟨leA, leA, trivial⟩ ?_ | refine callS.at (hi) ⟨leA, leA, trivial⟩ ?_); simp -implicitDefEqProofs -dsimp only [go_sem]) | ((first | refine callT.at (eqWeekRowS_ok [] (by simp)) ⟨leA, leA, trivial⟩ ?_ | refine callS.at (eqWeekRowS_ok [] (by simp)) ⟨leA, leA, trivial⟩ ?_); simp -implicitDefEqProofs -dsimp only [go_sem]) | ((first | refine callT.at (eqWeekRowS_ok L hl) ⟨leA, leA, trivial⟩ ?_ | refine callS.at (eqWeekRowS_ok L hl) ⟨leA, leA, trivial⟩ ?_); simp -implicitDefEqProofs -dsimp only [go_sem]) | ((first | refine callT.at (eqWeekRowS_ok B (by omega)) ⟨leA, leA, trivial⟩ ?_ | refine callS.at (eqWeekRowS_ok B (by omega)) ⟨leA, leA, trivial⟩ ?_); simp -implicitDefEqProofs -dsimp only [go_sem]) | (refine callS.lend1 (markWeekRowS_ok L 1 hl (by omega) (by omega)) ⟨.inl rfl, trivial⟩ (by first | exact lendB_one rfl | rfl) (grown_one (by simp)) ?_; simp -implicitDefEqProofs -dsimp only [go_sem]) | (refine callS.lend1 (markWeekRowS_ok B (1 + 5 * L.length) (by omega) (by omega) (by omega)) ⟨.inl rfl, trivial⟩ (by first | exact lendB_one rfl | rfl) (grown_one (by simp)) ?_; simp -implicitDefEqProofs -dsimp only [go_sem]) | ((first | refine callT.at (markWeekRowS_nil 1) ⟨leA, leA, trivial⟩ ?_ | refine callS.at (markWeekRowS_nil 1) ⟨leA, leA, trivial⟩ ?_); simp -implicitDefEqProofs -dsimp only [go_sem]) | ((first | refine callT.at (heldWeekRowS_ok 0 1 (by omega) (by omega) (by omega)) ⟨leA, leA, trivial⟩ ?_ | refine callS.at (heldWeekRowS_ok 0 1 (by omega) (by omega) (by omega)) ⟨leA, leA, trivial⟩ ?_); simp -implicitDefEqProofs -dsimp only [go_sem]) | (with_reducible refine And.intro (by show drawOk _ = true; kernel_rfl) ?_) | (refine guardT.splitF (fun hh => ?_) (fun hh => absurd hh (by first | (simp; done) | (simp; omega))); simp -implicitDefEqProofs -dsimp only [go_sem, hh]) | (refine guardT.splitT (fun hh => absurd hh (by first | (simp; done) | (simp; omega))) (fun hh => ?_); simp -implicitDefEqProofs -dsimp only [go_sem, hh]) | (refine condT.split (fun hh => absurd hh (by first | (simp; done) | (simp; omega))) (fun hh => ?_); simp -implicitDefEqProofs -dsimp only [go_sem, hh]) | exact WeakR.drop' rfl (by rfl))
 | some M =>
   rw [hR] at hs hi
   simp only [optO, optOh, optN, optNh] at hs hi
   have hM : M.length ≤ 12 := by
     unfold joinR at hR; split at hR
     · rename_i hb; simp only [Option.some.injEq] at hR; subst hR
       exact (wrsB_all hb.2.2).2
     · cases hR
   repeat (first | ((first | refine callT.at (toWeekRowS_ok L hLl) ⟨leA, trivial⟩ ?_ | refine callS.at (toWeekRowS_ok L hLl) ⟨leA, trivial⟩ ?_); simp -implicitDefEqProofs -dsimp only [go_sem]) | ((first | refine callT.at (toWeekRowS_ok B hBl) ⟨leA, trivial⟩ ?_ | refine callS.at (toWeekRowS_ok B hBl) ⟨leA, trivial⟩ ?_); simp -implicitDefEqProofs -dsimp only [go_sem]) | ((first | refine callT.at (hs) ⟨leA, leA, trivial⟩ ?_ | refine callS.at (hs) ⟨leA, leA, trivial⟩ ?_); simp -implicitDefEqProofs -dsimp only [go_sem]) | ((first | refine callT.at (hi) ⟨leA, leA, trivial⟩ ?_ | refine callS.at (hi) ⟨leA, leA, trivial⟩ ?_); simp -implicitDefEqProofs -dsimp only [go_sem]) | ((first | refine callT.at (eqWeekRowS_ok M (by omega)) ⟨leA, leA, trivial⟩ ?_ | refine callS.at (eqWeekRowS_ok M (by omega)) ⟨leA, leA, trivial⟩ ?_); simp -implicitDefEqProofs -dsimp only [go_sem]) | ((first | refine callT.at (eqWeekRowS_ok L hl) ⟨leA, leA, trivial⟩ ?_ | refine callS.at (eqWeekRowS_ok L hl) ⟨leA, leA, trivial⟩ ?_); simp -implicitDefEqProofs -dsimp only [go_sem]) | ((first | refine callT.at (eqWeekRowS_ok B (by omega)) ⟨leA, leA, trivial⟩ ?_ | refine callS.at (eqWeekRowS_ok B (by omega)) ⟨leA, leA, trivial⟩ ?_); simp -implicitDefEqProofs -dsimp only [go_sem]) | (refine callS.lend1 (markWeekRowS_ok L 1 hl (by omega) (by omega)) ⟨.inl rfl, trivial⟩ (by first | exact lendB_one rfl | rfl) (grown_one (by simp)) ?_; simp -implicitDefEqProofs -dsimp only [go_sem]) | (refine callS.lend1 (markWeekRowS_ok B (1 + 5 * L.length) (by omega) (by omega) (by omega)) ⟨.inl rfl, trivial⟩ (by first | exact lendB_one rfl | rfl) (grown_one (by simp)) ?_; simp -implicitDefEqProofs -dsimp only [go_sem]) | (refine callS.lend1 (markWeekRowS_ok M 1 (by omega) (by omega) (by omega)) ⟨.inl rfl, trivial⟩ (by first | exact lendB_one rfl | rfl) (grown_one (by simp)) ?_; simp -implicitDefEqProofs -dsimp only [go_sem]) | ((first | refine callT.at (heldWeekRowS_ok M.length 1 (by omega) (by omega) (by omega)) ⟨leA, leA, trivial⟩ ?_ | refine callS.at (heldWeekRowS_ok M.length 1 (by omega) (by omega) (by omega)) ⟨leA, leA, trivial⟩ ?_); simp -implicitDefEqProofs -dsimp only [go_sem]) | (with_reducible refine And.intro (by show drawOk _ = true; kernel_rfl) ?_) | (refine guardT.splitF (fun hh => ?_) (fun hh => absurd hh (by first | (simp; done) | (simp; omega))); simp -implicitDefEqProofs -dsimp only [go_sem, hh]) | (refine guardT.splitT (fun hh => absurd hh (by first | (simp; done) | (simp; omega))) (fun hh => ?_); simp -implicitDefEqProofs -dsimp only [go_sem, hh]) | (refine condT.split (fun hh => absurd hh (by first | (simp; done) | (simp; omega))) (fun hh => ?_); simp -implicitDefEqProofs -dsimp only [go_sem, hh]) | exact WeakR.drop' rfl (by rfl))
end Go.Proofs
end
section
open Go.ChangeShapes Go.WideShapes
namespace Go.Lv

def ShC (P : Program) : Nat → TypeId → List V → Prop
 | 0, _, _ => False
 | n + 1, t, xs =>
   match P.underlying t with
   | some .bool => ∃ b, xs = [.bool b]
   | some (.int k) => ∃ z, xs = [.int k z] ∧ (Lit.int k z).wf = true
   | some .string => ∃ s : ByteArray, xs = [.str s] ∧ s.size ≤ maxLen
   | some (.slice e) => ∃ l cs, xs = [.sl l (P.cellsOf e) cs] ∧ l ≤ maxLen ∧ cs.length = l * P.cellsOf e ∧ ∀ i, i < l → ShC P n e ((cs.drop (i * P.cellsOf e)).take (P.cellsOf e))
   | some (.struct fs) => xs.length = P.cellsOf t ∧ ∀ f ∈ fs.toList, ShC P n f.type ((xs.drop f.offset).take (P.cellsOf f.type))
   | _ => False

def tiled (P : Program) : List Field → Nat → Nat → Bool
 | [], off, n => off == n
 | f :: fs, off, n => f.offset == off && tiled P fs (off + P.cellsOf f.type) n

def plainT (P : Program) : Nat → TypeId → Bool
 | 0, _ => false
 | n + 1, t =>
   match P.underlying t with
   | some .bool => true
   | some (.int _) => true
   | some .string => true
   | some (.slice e) => decide (0 < P.cellsOf e) && plainT P n e
   | some (.struct fs) => tiled P fs.toList 0 (P.cellsOf t) && fs.toList.all fun f => plainT P n f.type
   | _ => false

section
variable {P : Program} {w : World} {m : Nat → Nat}

def Rds (w : World) (m : Nat → Nat) (cs : List Value) (xs : List V) : Prop :=
 cs.length = xs.length ∧ ∀ i (hi : i < xs.length), RV w m [] (fun _ => False) false (cs.getD i Go.undef) xs[i]

theorem Rds.append {a b : List Value} {x y : List V} (h : Rds w m a x) (k : Rds w m b y) : Rds w m (a ++ b) (x ++ y) := by
 refine ⟨by simp [h.1, k.1], fun i hi => ?_⟩
 by_cases hlt : i < x.length
 · rw [List.getElem_append_left hlt]
   have := h.2 i hlt
   rw [List.getD_eq_getElem?_getD, List.getElem?_append_left (by rw [h.1]; exact hlt), ← List.getD_eq_getElem?_getD]
   exact this
 · rw [List.getElem_append_right (by omega)]
   have := k.2 (i - x.length) (by simp at hi; omega)
   rw [List.getD_eq_getElem?_getD, List.getElem?_append_right (by rw [h.1]; omega), ← List.getD_eq_getElem?_getD, h.1]
   exact this

theorem Rds.one {v : Value} {x : V} (h : RV w m [] (fun _ => False) false v x) : Rds w m [v] [x] :=
 ⟨rfl, fun i hi => by have : i = 0 := by simp at hi; omega
                      subst this; exact h⟩

theorem Rds.nil : Rds w m [] [] := ⟨rfl, fun i hi => by simp at hi⟩

theorem fields_sh {n : Nat} {cs : List Value} : ∀ (fs : List Field) (off : Nat), tiled P fs off cs.length = true → off ≤ cs.length →
   (∀ f ∈ fs, ∃ xs, Rds w m ((cs.drop f.offset).take (P.cellsOf f.type)) xs ∧ ShC P n f.type xs) →
   ∃ ys, Rds w m (cs.drop off) ys ∧ ∀ f ∈ fs, off ≤ f.offset ∧ ShC P n f.type ((ys.drop (f.offset - off)).take (P.cellsOf f.type))
 | [], off, ht, _, _ => by
   simp [tiled] at ht
   subst ht
   refine ⟨[], ?_, fun f hf => by simp at hf⟩
   rw [List.drop_of_length_le (Nat.le_refl _)]
   exact Rds.nil
 | f :: fs, off, ht, hle, h => by
   simp only [tiled, Bool.and_eq_true, beq_iff_eq] at ht
   obtain ⟨rfl, ht⟩ := ht
   have hlen : ∀ (fs : List Field) (o : Nat), tiled P fs o cs.length = true → o ≤ cs.length := by
     intro fs
     induction fs with
     | nil => intro o ht; simp [tiled] at ht; omega
     | cons g fs ih =>
       intro o ht
       simp only [tiled, Bool.and_eq_true, beq_iff_eq] at ht
       have := ih _ ht.2; omega
   have hk := hlen fs _ ht
   obtain ⟨x, hx1, hx2⟩ := h f (by simp)
   obtain ⟨ys, hy1, hy2⟩ := fields_sh fs _ ht hk (fun g hg => h g (by simp [hg]))
   have hxl : x.length = P.cellsOf f.type := by rw [← hx1.1]; simp; omega
   refine ⟨x ++ ys, ?_, fun g hg => ?_⟩
   · have : cs.drop f.offset = (cs.drop f.offset).take (P.cellsOf f.type) ++ cs.drop (f.offset + P.cellsOf f.type) := by
       rw [← List.drop_drop, List.take_append_drop]
     rw [this]
     exact hx1.append hy1
   · rcases List.mem_cons.1 hg with rfl | hg
     · refine ⟨Nat.le_refl _, ?_⟩
       rw [Nat.sub_self, List.drop_zero, List.take_append_of_le_length (by omega), List.take_of_length_le (by omega)]
       exact hx2
     · obtain ⟨h1, h2⟩ := hy2 g hg
       refine ⟨by omega, ?_⟩
       have : (x ++ ys).drop (g.offset - f.offset) = ys.drop (g.offset - (f.offset + P.cellsOf f.type)) := by
         rw [List.drop_append, List.drop_of_length_le (by omega), List.nil_append]
         congr 1
         omega
       rw [this]
       exact h2

theorem elems_sh {n e : Nat} {b off len : Nat} (h : ∀ i, i < len → ∃ cs xs, cs.length = P.cellsOf e ∧ (∀ j, j < P.cellsOf e → w.cell? ⟨b, off + (i * P.cellsOf e + j), none⟩ = cs[j]?) ∧ Rds w m cs xs ∧ ShC P n e xs) :
   ∀ k, k ≤ len → ∃ xs : List V, xs.length = k * P.cellsOf e ∧ (∀ j (hj : j < xs.length), ∃ v, w.cell? ⟨b, off + j, none⟩ = some v ∧ RV w m [] (fun _ => False) false v xs[j]) ∧
     ∀ i, i < k → ShC P n e ((xs.drop (i * P.cellsOf e)).take (P.cellsOf e))
 | 0, _ => ⟨[], by simp, fun j hj => by simp at hj, fun i hi => by omega⟩
 | k + 1, hk => by
   obtain ⟨xs, h1, h2, h3⟩ := elems_sh h k (by omega)
   obtain ⟨cs, ys, g1, g2, g3, g4⟩ := h k (by omega)
   have hyl : ys.length = P.cellsOf e := by rw [← g3.1, g1]
   refine ⟨xs ++ ys, by simp [h1, hyl, Nat.add_mul], fun j hj => ?_, fun i hi => ?_⟩
   · by_cases hlt : j < xs.length
     · rw [List.getElem_append_left hlt]
       exact h2 j hlt
     · rw [List.getElem_append_right (by omega)]
       have hj' : j - xs.length < ys.length := by simp at hj; omega
       have hr := g3.2 _ hj'
       have hc := g2 (j - xs.length) (by omega)
       have e1 : off + (k * P.cellsOf e + (j - xs.length)) = off + j := by omega
       rw [e1] at hc
       have hcl : j - xs.length < cs.length := by omega
       rw [List.getElem?_eq_getElem hcl] at hc
       refine ⟨_, hc, ?_⟩
       simpa [List.getD_eq_getElem?_getD, hcl] using hr
   · by_cases e2 : i = k
     · subst e2
       rw [← h1, List.drop_left, List.take_of_length_le (by omega)]
       exact g4
     · have hm : i * P.cellsOf e + P.cellsOf e ≤ xs.length := mul_room (n := k) (by omega) h1
       rw [List.drop_append_of_le_length (by omega), List.take_append_of_le_length (by simp; omega)]
       exact h3 i (by omega)

theorem trod_sh {H : Type} {enc : TypeId × Value → H} {spare : Nat → Bool} {held : Bool} : ∀ (n : Nat) (fuel : Nat) (t : TypeId) (cs : List Value) (x : DataW H × List MemPlace),
   DataW.trod enc P w 0 spare held fuel t cs = some x → plainT P n t = true → ∃ xs, Rds w m cs xs ∧ ShC P n t xs
 | 0, fuel, t, cs, x, _, hp => by simp [plainT] at hp
 | n + 1, fuel, t, cs, x, hx, hp => by
   unfold plainT at hp
   split at hp
   · rename_i hu
     obtain ⟨b, rfl, _⟩ := DataW.trod_bool hu hx
     exact ⟨[.bool b], Rds.one (.bool b), by unfold ShC; rw [hu]; exact ⟨b, rfl⟩⟩
   · rename_i k hu
     obtain ⟨z, rfl, _, hw⟩ := DataW.trod_int hu hx
     exact ⟨[.int k z], Rds.one (.int k z), by unfold ShC; rw [hu]; exact ⟨z, rfl, hw⟩⟩
   · rename_i hu
     obtain ⟨s, rfl, _, hs⟩ := DataW.trod_string hu hx
     exact ⟨[.str s], Rds.one (.str s), by unfold ShC; rw [hu]; exact ⟨s, rfl, hs⟩⟩
   · rename_i e hu
     simp only [Bool.and_eq_true, decide_eq_true_eq] at hp
     obtain ⟨hpos, hp⟩ := hp
     rcases Deep.open_slice hu hx with ⟨rfl, _⟩ | ⟨a, len, cap, mm, f, D, Pl, rfl, _, hle, hcap, hmm, _, hel⟩
     · refine ⟨[.sl 0 (P.cellsOf e) []], Rds.one (.slz _ _ _), ?_⟩
       unfold ShC; rw [hu]
       exact ⟨0, [], rfl, Nat.zero_le _, by simp, fun i hi => by omega⟩
     · by_cases h0 : len = 0
       · subst h0
         refine ⟨[.sl 0 (P.cellsOf e) []], Rds.one (.slz _ _ _), ?_⟩
         unfold ShC; rw [hu]
         exact ⟨0, [], rfl, Nat.zero_le _, by simp, fun i hi => by omega⟩
       · have hml : len ≤ mm := by rw [hmm]; split <;> omega
         obtain ⟨b, off, spot⟩ := a
         have hspot : spot = none := by
           obtain ⟨cs', hc, _⟩ := hel 0 (by omega)
           obtain ⟨_, hcl, hat⟩ := World.cells?_some hc
           have h1 := hat 0 hpos
           rw [List.getElem?_eq_getElem (by omega)] at h1
           simpa [Addr.add] using World.cell?_spot h1
         subst hspot
         have hall : ∀ i, i < len → ∃ cs xs, cs.length = P.cellsOf e ∧ (∀ j, j < P.cellsOf e → w.cell? ⟨b, off + (i * P.cellsOf e + j), none⟩ = cs[j]?) ∧ Rds w m cs xs ∧ ShC P n e xs := by
           intro i hi
           obtain ⟨cs', hc, ht⟩ := hel i (by omega)
           obtain ⟨_, hcl, hat⟩ := World.cells?_some hc
           obtain ⟨xs, h1, h2⟩ := trod_sh n _ e cs' _ ht hp
           refine ⟨cs', xs, hcl, fun j hj => ?_, h1, h2⟩
           have := hat j hj
           rw [Addr.add_lit, Addr.add_lit] at this
           rw [← this, Nat.add_assoc]
         obtain ⟨xs, h1, h2, h3⟩ := elems_sh hall len (Nat.le_refl _)
         refine ⟨[.sl len (P.cellsOf e) xs], Rds.one (.sl b off len cap (P.cellsOf e) xs (fun j => (w.cell? ⟨b, off + j, none⟩).getD Go.undef) h1 (fun _ h => h) hle (fun j hj => ?_) (fun j hj => ?_)), ?_⟩
         · obtain ⟨v, hv, _⟩ := h2 j hj
           simp [hv]
         · obtain ⟨v, hv, hr⟩ := h2 j hj
           simpa [hv] using hr
         · unfold ShC; rw [hu]
           exact ⟨len, xs, rfl, by omega, h1, h3⟩
   · rename_i fs hu
     simp only [Bool.and_eq_true, List.all_eq_true] at hp
     obtain ⟨xs, f, _, _, hl, hxl, hf⟩ := DataW.trod_struct hu hx
     have hfs : ∀ g ∈ fs.toList, ∃ ys, Rds w m ((cs.drop g.offset).take (P.cellsOf g.type)) ys ∧ ShC P n g.type ys := by
       intro g hg
       obtain ⟨i, hi, rfl⟩ := List.getElem_of_mem hg
       have hi' : i < fs.size := by simpa using hi
       have h1 := hf i fs[i] (Array.getElem?_eq_getElem hi')
       rw [List.getElem?_eq_getElem (by omega)] at h1
       exact trod_sh n _ _ _ _ (by simpa using h1) (hp.2 _ hg)
     obtain ⟨ys, h1, h2⟩ := fields_sh fs.toList 0 (by rw [hl]; exact hp.1) (Nat.zero_le _) hfs
     rw [List.drop_zero] at h1
     refine ⟨ys, h1, ?_⟩
     unfold ShC; rw [hu]
     exact ⟨by rw [← h1.1, hl], fun g hg => by simpa using (h2 g hg).2⟩
   · cases hp

end
section
variable {P : Program} {W : World}

theorem Rds.get {m : Nat → Nat} {a : List Value} {x : List V} (h : Rds W m a x) : a.length = x.length := h.1

theorem arg_one {H : Type} {enc : TypeId × Value → H} {spare : Nat → Bool} {held : Bool} {n : Nat} {t : TypeId} {v : Value} {d : DataW H} {p : List MemPlace} (m : Nat → Nat)
   (hv : v.cells = #[v]) (h : DataW.Trod enc P W 0 spare held t v d p) (hp : plainT P n t = true) : ∃ x, RV W m [] (fun _ => False) true v x ∧ ShC P n t [x] := by
 obtain ⟨fuel, hf⟩ := h
 rw [hv] at hf
 obtain ⟨xs, h1, h2⟩ := trod_sh (m := m) n fuel t _ _ hf hp
 match xs, h1 with
 | [x], h1 => exact ⟨x, by have := h1.2 0 (by simp); exact this.weak, h2⟩
 | [], h1 => simp [Rds] at h1
 | _ :: _ :: _, h1 => simp [Rds] at h1

theorem law_walk {f : FuncId} {xs : List V} {vs : Array Value} (m : Nat → Nat) (hc : Ctr P f xs [] (.bool true) []) (hgl : GL W (fun _ => False)) (hsz : vs.size = xs.length)
   (hr : ∀ i (hi : i < xs.length), RV W m [] (fun _ => False) true (vs.getD i Go.undef) xs[i]) :
   Calls P f vs W fun e w' => e = .returned (.bool true) ∧ RowKit.Below W.heap.size W w' := by
 refine (hc.2 W vs m (fun _ => False) ⟨fun i j ci cj h => by simp at h, fun id cs h => by simp at h, fun id cs h => by simp at h⟩ (fun b h => h.elim) hgl hsz hr).mono ?_
 rintro e w' ⟨v, m', rfl, hE, _, hv, _⟩
 refine ⟨by cases hv; rfl, hE.os, hE.tape, hE.output, hE.size, fun k hk => hE.block k hk (fun ⟨id, cs, h, _⟩ => by simp at h)⟩

end
end Go.Lv
end
section
namespace Go.Lv

theorem shC_struct {P : Program} {t : TypeId} {n : Nat} {xs : List V} {fs : Array Field} (hs : P.underlying t = some (.struct fs)) (h : ShC P (n + 1) t xs) : xs.length = P.cellsOf t ∧ ∀ f ∈ fs.toList, ShC P n f.type ((xs.drop f.offset).take (P.cellsOf f.type)) := by
 simp only [ShC, hs] at h
 exact h

theorem shC_int {P : Program} {t : TypeId} {n : Nat} {xs : List V} (hs : P.underlying t = some (.int .i64)) (h : ShC P (n + 1) t xs) : ∃ z, xs = [.int .i64 z] ∧ i64R z := by
 simp only [ShC, hs] at h
 obtain ⟨z, h1, h2⟩ := h
 refine ⟨z, h1, ?_⟩
 simp [Lit.wf, IntKind.min, IntKind.max, IntKind.signed, IntKind.bits] at h2
 exact h2

theorem shC_list {P : Program} {t e : TypeId} {n : Nat} {xs : List V} (hs : P.underlying t = some (.slice e)) {α : Type} {cs : α → List V} {w : Nat} (hw : P.cellsOf e = w) {ok : α → Prop}
   (he : ∀ ys, ShC P n e ys → ∃ a, ys = cs a ∧ ok a) (h : ShC P (n + 1) t xs) : ∃ L : List α, xs = [.sl L.length w (rows cs L)] ∧ lstR ok L := by
 simp only [ShC, hs, hw] at h
 obtain ⟨l, ys, rfl, hl, hlen, hel⟩ := h
 suffices ∀ (l : Nat) (ys : List V), ys.length = l * w → (∀ i, i < l → ShC P n e ((ys.drop (i * w)).take w)) → ∃ L : List α, L.length = l ∧ rows cs L = ys ∧ ∀ x ∈ L, ok x by
   obtain ⟨L, h1, h2, h3⟩ := this l ys hlen hel
   exact ⟨L, by rw [h1, h2], by rw [h1]; exact hl, h3⟩
 intro l
 induction l with
 | zero => intro ys h1 _; exact ⟨[], rfl, by simp at h1; simp [rows, h1], fun x hx => by simp at hx⟩
 | succ l ih =>
   intro ys h1 h2
   obtain ⟨a, ha, hoa⟩ := he _ (h2 0 (by omega))
   rw [Nat.zero_mul, List.drop_zero] at ha
   obtain ⟨L, h3, h4, h5⟩ := ih (ys.drop w) (by rw [List.length_drop, h1, Nat.succ_mul]; omega) (fun i hi => by
     have := h2 (i + 1) (by omega)
     rw [List.drop_drop]
     rwa [Nat.succ_mul, Nat.add_comm] at this)
   refine ⟨a :: L, by simp [h3], ?_, ?_⟩
   · rw [rows_cons, h4, ← ha, List.take_append_drop]
   · intro x hx
     rcases List.mem_cons.1 hx with rfl | hx
     · exact hoa
     · exact h5 x hx

end Go.Lv
end
