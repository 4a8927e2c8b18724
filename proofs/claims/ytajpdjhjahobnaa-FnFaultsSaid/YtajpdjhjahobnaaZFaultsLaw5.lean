/-
  A part of the proof: texts put together by a program of the prover. Conditions: none.
-/
import Derived.Test.YtajpdjhjahobnaaZFaultsLaw4
import Derived.Shelf.Spec.SlicesGrow
import Derived.Test.YtajpdjhjahobnaaProg
import Derived.ProofKit
import Derived.Deep.Slices
set_option linter.unusedSimpArgs false
set_option linter.unusedVariables false
section
namespace Go.Proofs
open Go.Shelf
def Try.growBend_ren : Go.Shelf.Ren := ⟨fun | 4 => 74 | n => n, fun | 22 => 33 | 25 => 44 | 3 => 3 | 4 => 4 | 9 => 9 | 20 => 20 | 0 => 0 | 2 => 3 | n => n, fun | n => n⟩
theorem Try.growBend : Go.Proofs.Lays8.n4 Try.prog Try.growBend_ren := {
 mixed := by kernel_rfl
 f4 := ⟨Try.f74.name, by decide, Try.func74.trans (congrArg some (by kernel_rfl))⟩
 t0 := Try.underlying0
 a0 := Try.isAgg0
 z0 := Try.sizeOf0
 v0 := Try.zeroValue0
 t3 := Try.underlying3
 a3 := Try.isAgg3
 z3 := Try.sizeOf3
 v3 := Try.zeroValue3
 t4 := Try.underlying4
 a4 := Try.isAgg4
 z4 := Try.sizeOf4
 v4 := Try.zeroValue4
 t9 := Try.underlying9
 a9 := Try.isAgg9
 z9 := Try.sizeOf9
 v9 := Try.zeroValue9
 t20 := Try.underlying20
 a20 := Try.isAgg20
 z20 := Try.sizeOf20
 v20 := Try.zeroValue20
 t22 := Try.underlying33
 a22 := Try.isAgg33
 z22 := Try.sizeOf33
 v22 := Try.zeroValue33 }
end Go.Proofs
end
section
set_option maxRecDepth 100000
set_option maxHeartbeats 2000000
namespace Go.Proofs
open Go.Lv
open Go.Shelf Go.RowKit Go.Lib
theorem zeroCells_size (a : Array Value) (n : Nat) : (Builtin.zeroCells a n).size = n * a.size := by
 simp [Builtin.zeroCells]
theorem rv_nilsl {w : World} {m : Nat → Nat} {h : Hp} {av : Nat → Prop} {o : Bool} {v : Value} (hx : RV w m h av o v .nilsl) : v = .slice none 0 0 := by cases hx; rfl
theorem rv_num {w : World} {m : Nat → Nat} {h : Hp} {av : Nat → Prop} {o : Bool} {v : Value} {k : IntKind} {n : Int} (hx : RV w m h av o v (.int k n)) : v = .int k n := by cases hx; rfl
def zeroBend : Value := .agg #[.int .i64 0, .int .i64 0]
theorem growBend_ok (n : Nat) (hn : 0 < n) (hn2 : n ≤ 16777216) : Ctr Try.prog 74 [.nilsl, .int .i64 n] [] (.osl 0 0 0 2) [some []] := by
 refine Ctr.raw (by kernel_rfl) (fun w vs m av I hs => ?_)
 have h0 := I.slots 0 (by simp)
 have h1 := I.slots 1 (by simp)
 dsimp only [List.getElem_cons_zero, List.getElem_cons_succ] at h0 h1
 have e0 : vs.getD 0 Go.undef = .slice none 0 0 := rv_nilsl h0
 have e1 : vs.getD 1 Go.undef = .int .i64 n := rv_num h1
 have hvs : vs = #[.slice none 0 0, .int .i64 n] := by
   have hsz : vs.size = 2 := hs
   apply Array.ext
   · simpa using hsz
   · intro k hk hk'
     have hk3 : k < 2 := by omega
     have hg : vs[k] = vs.getD k Go.undef := by simp [Array.getD, hk]
     rw [hg]
     rcases (show k = 0 ∨ k = 1 by omega) with rfl | rfl
     · exact e0
     · exact e1
 have he : elOf Try.prog 33 = some (44, 2, 16) := by kernel_rfl
 obtain ⟨i0, t81, hi0, hz2, hby⟩ := elOf_some he
 have hz : (Try.prog.info? 44).bind (·.zero) = some zeroBend := by kernel_rfl
 rw [hi0] at hz
 simp only [Option.bind_some] at hz
 rw [hvs]
 refine (Any8.slices_Grow_grow Try.growBend i0 zeroBend hi0 hz (by omega) none 0 0 n [] w (Nat.le_refl _) (by omega) (by rw [hby]; omega) (by omega) (by simp) (fun _ => rfl) (fun a ha => by cases ha)).mono ?_
 rintro e w' ⟨rfl, rfl⟩
 obtain ⟨G, hG⟩ : ∃ G, G = grownCap w (0 + n) 0 (Try.growBend_ren.t 25) := ⟨_, rfl⟩
 rw [← hG]
 have hge : n ≤ G := by
   have := grownCap_ge w (0 + n) 0 (Try.growBend_ren.t 25)
   rw [← hG] at this
   omega
 obtain ⟨C, hC⟩ : ∃ C, C = ([] : List Value).toArray ++ Builtin.zeroCells zeroBend.cells (0 + n - 0) ++ Builtin.zeroCells zeroBend.cells (G - (0 + n)) := ⟨_, rfl⟩
 rw [← hC]
 have hsz : C.size = G * 2 := by
   rw [hC]
   simp only [Array.size_append, zeroCells_size, List.size_toArray, List.length_nil]
   have : zeroBend.cells.size = 2 := rfl
   rw [this]
   omega
 obtain ⟨J, _⟩ := (I.world (Ext.drew _ w)).alloc C (Try.growBend_ren.t 25) [] (Nat.zero_le _) (fun i hi => by simp at hi)
 have e : mext m ([] : Hp).length w.drew.heap.size 0 = w.heap.size := mext_new
 refine ⟨_, _, _, _, rfl, rfl, J, ?_⟩
 have hr : rowSize (w.drew.alloc (.cells C (Try.growBend_ren.t 25))) (mext m ([] : Hp).length w.drew.heap.size 0) = C.size := by
   rw [e, rowSize, show w.heap.size = w.drew.heap.size from rfl, heap_alloc_new]
 have := RV.osl (w := w.drew.alloc (.cells C (Try.growBend_ren.t 25))) (m := mext m ([] : Hp).length w.drew.heap.size) (h := [some []]) (av := avm av (mext m ([] : Hp).length w.drew.heap.size) [some []]) 0 0 0 G 2 [] ⟨rfl, rfl⟩ (by simp) (by omega) (by rw [hr, hsz]; omega)
 rw [e] at this
 exact this
def twoN (A B : List Bend) : Nat → Nat
 | 0 => 0
 | 1 => A.length
 | _ => A.length + B.length
def twoL (A B : List Bend) : Nat → List Bend
 | 0 => []
 | 1 => A
 | _ => A ++ B
theorem twoN0 (A B : List Bend) : twoN A B 0 = 0 := rfl
theorem twoN1 (A B : List Bend) : twoN A B 1 = A.length := rfl
theorem twoN2 (A B : List Bend) : twoN A B 2 = A.length + B.length := rfl
theorem twoL0 (A B : List Bend) : twoL A B 0 = [] := rfl
theorem twoL1 (A B : List Bend) : twoL A B 1 = A := rfl
theorem twoL2 (A B : List Bend) : twoL A B 2 = A ++ B := rfl
theorem concatBend_ok (A B : List Bend) (hA : A.length ≤ 100) (hB : B.length ≤ 100) (h0 : 0 < A.length + B.length) : Ctr Try.prog 35 [.sl 2 1 [Bend.sl A, Bend.sl B]] [] (.osl 0 0 (A ++ B).length 2) [some (rows Bend.cs (A ++ B))] := by
 refine Ctr.intro Try.mixed Try.func35 rfl Try.okF35 ?_
 simp -implicitDefEqProofs -dsimp only [go_sem, Nat.reduceSub, Nat.reduceAdd, Nat.reduceMul, Nat.reduceLT, Nat.reduceLeDiff, Nat.reduceEqDiff, Nat.reduceDiv, Nat.reduceMod, Int.reduceToNat, Int.reduceLE, Int.reduceLT, Int.reduceBEq, Int.reduceBNe, Int.reduceNeg, Int.reduceAdd, Int.reduceSub, Int.reduceMul, reduceCtorEq, Try.ntmps35, Try.results35]
 refine LoopT.intro (fun i : Nat => i ≤ 2) (fun i => ⟨[.sl 2 1 [Bend.sl A, Bend.sl B], .undef, .undef, .int .i64 (twoN A B i), .undef, .undef, .undef, .undef, .undef, .sl 2 1 [Bend.sl A, Bend.sl B], .int .i64 2, .int .i64 i, .undef, .undef, .undef, .undef, .undef, .undef, .undef, .undef, .undef, .undef, .undef, .undef, .undef, .undef, .undef, .undef, .undef, .undef, .undef, .undef, .undef, .undef, .undef, .undef], [], 0⟩) (fun i => 2 - i) 0 (by omega) ?_ (fun i hi => ?_)
 · refine Weak.cut (0) (by simp) (by simp) ?_ ?_
   · simp [LeC, LeV, ren, cutF, twoN]
   · rfl
 simp -implicitDefEqProofs -dsimp only [go_sem, Nat.reduceSub, Nat.reduceAdd, Nat.reduceMul, Nat.reduceLT, Nat.reduceLeDiff, Nat.reduceEqDiff, Nat.reduceDiv, Nat.reduceMod, Int.reduceToNat, Int.reduceLE, Int.reduceLT, Int.reduceBEq, Int.reduceBNe, Int.reduceNeg, Int.reduceAdd, Int.reduceSub, Int.reduceMul, reduceCtorEq]
 refine condT.split (fun h1 => ?_) (fun h1 => ?_)
 · have h1' := of_decide_eq_true h1
   rcases (show i = 0 ∨ i = 1 by omega) with rfl | rfl
   · (repeat ((repeat1' (first | simp -implicitDefEqProofs -dsimp only [go_sem, Nat.reduceSub, Nat.reduceAdd, Nat.reduceMul, Nat.reduceLT, Nat.reduceLeDiff, Nat.reduceEqDiff, Nat.reduceDiv, Nat.reduceMod, Int.reduceToNat, Int.reduceLE, Int.reduceLT, Int.reduceBEq, Int.reduceBNe, Int.reduceNeg, Int.reduceAdd, Int.reduceSub, Int.reduceMul, reduceCtorEq, h1, twoN0] | simp -dsimp (disch := omega) only [wrap_i64])); repeat (with_reducible refine sideA ?_)))
     refine condT.split (fun h2 => absurd (of_decide_eq_true h2) (by omega)) (fun h2 => ?_)
     (repeat ((repeat1' (first | simp -implicitDefEqProofs -dsimp only [go_sem, Nat.reduceSub, Nat.reduceAdd, Nat.reduceMul, Nat.reduceLT, Nat.reduceLeDiff, Nat.reduceEqDiff, Nat.reduceDiv, Nat.reduceMod, Int.reduceToNat, Int.reduceLE, Int.reduceLT, Int.reduceBEq, Int.reduceBNe, Int.reduceNeg, Int.reduceAdd, Int.reduceSub, Int.reduceMul, reduceCtorEq, h2] | simp -dsimp (disch := omega) only [wrap_i64])); repeat (with_reducible refine sideA ?_)))
     refine ⟨1, by omega, ?_, by omega⟩
     refine Weak.cut (0) (by simp) (by simp) ?_ ?_
     · simp [LeC, LeV, ren, cutF, twoN1]
     · rfl
   · (repeat ((repeat1' (first | simp -implicitDefEqProofs -dsimp only [go_sem, Nat.reduceSub, Nat.reduceAdd, Nat.reduceMul, Nat.reduceLT, Nat.reduceLeDiff, Nat.reduceEqDiff, Nat.reduceDiv, Nat.reduceMod, Int.reduceToNat, Int.reduceLE, Int.reduceLT, Int.reduceBEq, Int.reduceBNe, Int.reduceNeg, Int.reduceAdd, Int.reduceSub, Int.reduceMul, reduceCtorEq, h1, twoN1] | simp -dsimp (disch := omega) only [wrap_i64])); repeat (with_reducible refine sideA ?_)))
     refine condT.split (fun h2 => absurd (of_decide_eq_true h2) (by omega)) (fun h2 => ?_)
     (repeat ((repeat1' (first | simp -implicitDefEqProofs -dsimp only [go_sem, Nat.reduceSub, Nat.reduceAdd, Nat.reduceMul, Nat.reduceLT, Nat.reduceLeDiff, Nat.reduceEqDiff, Nat.reduceDiv, Nat.reduceMod, Int.reduceToNat, Int.reduceLE, Int.reduceLT, Int.reduceBEq, Int.reduceBNe, Int.reduceNeg, Int.reduceAdd, Int.reduceSub, Int.reduceMul, reduceCtorEq, h2] | simp -dsimp (disch := omega) only [wrap_i64])); repeat (with_reducible refine sideA ?_)))
     refine ⟨2, by omega, ?_, by omega⟩
     refine Weak.cut (0) (by simp) (by simp) ?_ ?_
     · simp [LeC, LeV, ren, cutF, twoN2]
     · rfl
 · have hi' : i = 2 := by have := of_decide_eq_false h1; omega
   subst hi'
   (repeat ((repeat1' (first | simp -implicitDefEqProofs -dsimp only [go_sem, Nat.reduceSub, Nat.reduceAdd, Nat.reduceMul, Nat.reduceLT, Nat.reduceLeDiff, Nat.reduceEqDiff, Nat.reduceDiv, Nat.reduceMod, Int.reduceToNat, Int.reduceLE, Int.reduceLT, Int.reduceBEq, Int.reduceBNe, Int.reduceNeg, Int.reduceAdd, Int.reduceSub, Int.reduceMul, reduceCtorEq, h1] | simp -dsimp (disch := omega) only [wrap_i64])); repeat (with_reducible refine sideA ?_)))
   (first | refine callT.at (growBend_ok (twoN A B 2) (by rw [twoN2]; omega) (by rw [twoN2]; omega)) ⟨leA, leA, trivial⟩ ?_ | refine callS.at (growBend_ok (twoN A B 2) (by rw [twoN2]; omega) (by rw [twoN2]; omega)) ⟨leA, leA, trivial⟩ ?_)
   (repeat ((repeat1' (first | simp -implicitDefEqProofs -dsimp only [go_sem, Nat.reduceSub, Nat.reduceAdd, Nat.reduceMul, Nat.reduceLT, Nat.reduceLeDiff, Nat.reduceEqDiff, Nat.reduceDiv, Nat.reduceMod, Int.reduceToNat, Int.reduceLE, Int.reduceLT, Int.reduceBEq, Int.reduceBNe, Int.reduceNeg, Int.reduceAdd, Int.reduceSub, Int.reduceMul, reduceCtorEq] | simp -dsimp (disch := omega) only [wrap_i64])); repeat (with_reducible refine sideA ?_)))
   refine LoopT.intro (fun i : Nat => i ≤ 2) (fun i => ⟨[.undef, .undef, .undef, .undef, .undef, .undef, .osl 0 0 (twoN A B i) 2, .undef, .undef, .undef, .undef, .undef, .undef, .undef, .undef, .undef, .undef, .undef, .undef, .undef, .undef, .undef, .undef, .undef, .undef, .sl 2 1 [Bend.sl A, Bend.sl B], .int .i64 2, .int .i64 i, .undef, .undef, .undef, .undef, .undef, .undef, .undef, .undef], [some (rows Bend.cs (twoL A B i))], 0⟩) (fun i => 2 - i) 0 (by omega) ?_ (fun i hi => ?_)
   · refine Weak.cut (1) (by simp) (by simp) ?_ ?_
     · simp [LeC, LeV, ren, cutF, twoN0]
     · rfl
   simp -implicitDefEqProofs -dsimp only [go_sem, Nat.reduceSub, Nat.reduceAdd, Nat.reduceMul, Nat.reduceLT, Nat.reduceLeDiff, Nat.reduceEqDiff, Nat.reduceDiv, Nat.reduceMod, Int.reduceToNat, Int.reduceLE, Int.reduceLT, Int.reduceBEq, Int.reduceBNe, Int.reduceNeg, Int.reduceAdd, Int.reduceSub, Int.reduceMul, reduceCtorEq]
   refine condT.split (fun h3 => ?_) (fun h3 => ?_)
   · have h3' := of_decide_eq_true h3
     rcases (show i = 0 ∨ i = 1 by omega) with rfl | rfl
     · (repeat ((repeat1' (first | simp -implicitDefEqProofs -dsimp only [go_sem, Nat.reduceSub, Nat.reduceAdd, Nat.reduceMul, Nat.reduceLT, Nat.reduceLeDiff, Nat.reduceEqDiff, Nat.reduceDiv, Nat.reduceMod, Int.reduceToNat, Int.reduceLE, Int.reduceLT, Int.reduceBEq, Int.reduceBNe, Int.reduceNeg, Int.reduceAdd, Int.reduceSub, Int.reduceMul, reduceCtorEq, h3, twoN0, twoL0] | simp -dsimp (disch := omega) only [wrap_i64])); repeat (with_reducible refine sideA ?_)))
       refine ⟨1, by omega, ?_, by omega⟩
       refine Weak.cut (1) (by simp) (by simp) ?_ ?_
       · simp [LeC, LeV, ren, cutF, twoN1]
       · rw [twoL1]
         have e : rows Bend.cs ([] : List Bend) = [] := rfl
         rw [e]
         simp [cutH, cutB, map_ren_rows]
     · (repeat ((repeat1' (first | simp -implicitDefEqProofs -dsimp only [go_sem, Nat.reduceSub, Nat.reduceAdd, Nat.reduceMul, Nat.reduceLT, Nat.reduceLeDiff, Nat.reduceEqDiff, Nat.reduceDiv, Nat.reduceMod, Int.reduceToNat, Int.reduceLE, Int.reduceLT, Int.reduceBEq, Int.reduceBNe, Int.reduceNeg, Int.reduceAdd, Int.reduceSub, Int.reduceMul, reduceCtorEq, h3, twoN1, twoL1] | simp -dsimp (disch := omega) only [wrap_i64])); repeat (with_reducible refine sideA ?_)))
       refine ⟨2, by omega, ?_, by omega⟩
       refine Weak.cut (1) (by simp) (by simp) ?_ ?_
       · simp [LeC, LeV, ren, cutF, twoN2]
       · rw [twoL2]
         have e : rows Bend.cs (A ++ B) = rows Bend.cs A ++ rows Bend.cs B := List.flatMap_append
         rw [e]
         simp [cutH, cutB, map_ren_rows]
   · have hi' : i = 2 := by have := of_decide_eq_false h3; omega
     subst hi'
     (repeat ((repeat1' (first | simp -implicitDefEqProofs -dsimp only [go_sem, Nat.reduceSub, Nat.reduceAdd, Nat.reduceMul, Nat.reduceLT, Nat.reduceLeDiff, Nat.reduceEqDiff, Nat.reduceDiv, Nat.reduceMod, Int.reduceToNat, Int.reduceLE, Int.reduceLT, Int.reduceBEq, Int.reduceBNe, Int.reduceNeg, Int.reduceAdd, Int.reduceSub, Int.reduceMul, reduceCtorEq, h3, twoN2, twoL2] | simp -dsimp (disch := omega) only [wrap_i64])); repeat (with_reducible refine sideA ?_)))
     rw [← List.length_append]
     exact WeakR.refl _ _ _
end Go.Proofs
end
section
namespace Go.Lv
theorem Ctr.weak {P : Program} {f : FuncId} {args : List V} {r r' : V} {hout hout' : Hp} (h : Ctr P f args [] r hout) (hw : WeakR 0 r hout r' hout') : Ctr P f args [] r' hout' :=
 ⟨h.1, fun w vs m av h1 h2 h3 h4 h5 => (h.2 w vs m av h1 h2 h3 h4 h5).mono fun e w' ⟨v, m', g1, g2, g3, g4, g5⟩ => by
   obtain ⟨m2, k1, k2, k3⟩ := hw w m [] av w' m' v rfl (Nat.zero_le _) h2 g2.size g3 g4 g5
   exact ⟨v, m2, g1, g2, k1, k2, k3⟩⟩
section
variable {α : Type} {cs : α → List V} {w : Nat} [FlatQ cs w]
def frzV (cs : α → List V) (w : Nat) (R : Option (List α)) : V := .tup [.sl (R.getD []).length w (rows cs (R.getD [])), .bool R.isSome]
theorem frzN (R : Option (List α)) : WeakR 0 (optN w R) (optNh cs R) (frzV cs w R) [] := by
 cases R with
 | none =>
   intro w0 m0 h0 av0 W m val e1 e2 hlt hle H hx hi
   refine ⟨m, H, ?_, hi⟩
   change RV W m [] _ true val (.tup [.nilsl, .bool false]) at hx
   cases hx with
   | tup a vs ha hra =>
     refine .tup _ _ ha (fun i hi => ?_)
     match i, hi with
     | 0, _ => exact (hra 0 (by simp)).leE LeE.nil
     | 1, _ => exact hra 1 (by simp)
 | some L =>
   refine WeakR.pick [] (by decide) (fun j hj => by omega) (.inl ?_) rfl
   simp [frzV, optN, optNh, ren, pickF, posOf, frzR, take_rows, map_ren_rows]
theorem frzO (R : Option (List α)) : WeakR 0 (optO w R) (optOh cs R) (frzV cs w R) [] := by
 cases R with
 | none =>
   refine WeakR.pick [] (by decide) (fun j hj => by omega) (.inl ?_) rfl
   simp [frzV, optO, optOh, ren, pickF, posOf, frzR, rows]
 | some L =>
   refine WeakR.pick [] (by decide) (fun j hj => by omega) (.inl ?_) rfl
   simp [frzV, optO, optOh, ren, pickF, posOf, frzR, take_rows, map_ren_rows]
end
end Go.Lv
end
section
set_option maxRecDepth 100000
set_option maxHeartbeats 4000000
namespace Go.Proofs
open Go.Lv
def fIdx (L : List Fault) (a : Int) : Int := idxI (fun f => f.Id == a) L
theorem fIdx_cases (L : List Fault) (a : Int) : fIdx L a = -1 ∨ ∃ i : Nat, i < L.length ∧ fIdx L a = i := by
 unfold fIdx idxI
 split
 · rename_i i h
   rw [List.findIdx?_eq_some_iff_getElem] at h
   exact .inr ⟨i, h.1, rfl⟩
 · exact .inl rfl
theorem faultAt_ok (L : List Fault) (a : Int) (hl : L.length ≤ 16777216) : Ctr Try.prog 33 [Fault.sl L, .int .i64 a] [] (.int .i64 (fIdx L a)) [] := by
 have hc : ∀ x : Fault, Ctr Try.prog 69 (Fault.v x :: [.pt [.int .i64 a]]) [] (.bool (x.Id == a)) [] := by
   intro x
   refine Ctr.intro Try.mixed Try.func69 rfl Try.okF69 ?_
   simp -implicitDefEqProofs -dsimp only [go_sem, Try.ntmps69, Try.results69]
   (repeat ((repeat1' (first | simp -implicitDefEqProofs -dsimp only [go_sem, Fault.v] | simp -dsimp (disch := omega) only [wrap_i64])); repeat (with_reducible refine sideA ?_)))
   exact WeakR.drop' rfl (by rfl)
 refine Ctr.intro Try.mixed Try.func33 rfl Try.okF33 ?_
 simp -implicitDefEqProofs -dsimp only [go_sem, Try.ntmps33, Try.results33]
 (repeat ((repeat1' (first | simp -implicitDefEqProofs -dsimp only [go_sem] | simp -dsimp (disch := omega) only [wrap_i64])); repeat (with_reducible refine sideA ?_)))
 (first | refine callT.at (indexFuncFault_ok L (fun f => f.Id == a) _ [.pt [.int .i64 a]] (fun d => by cases d <;> rfl) hc (by omega)) ⟨leA, leA, trivial⟩ ?_ | refine callS.at (indexFuncFault_ok L (fun f => f.Id == a) _ [.pt [.int .i64 a]] (fun d => by cases d <;> rfl) hc (by omega)) ⟨leA, leA, trivial⟩ ?_)
 (repeat ((repeat1' (first | simp -implicitDefEqProofs -dsimp only [go_sem] | simp -dsimp (disch := omega) only [wrap_i64])); repeat (with_reducible refine sideA ?_)))
 exact WeakR.drop' rfl (by rfl)
theorem l18Find_ok (L : List Fault) (a : Int) (hl : L.length ≤ 16777216) : Ctr Try.prog 29 [Fault.sl L, .int .i64 a] [] (.int .i64 (fIdx L a)) [] := by
 refine Ctr.intro Try.mixed Try.func29 rfl Try.okF29 ?_
 simp -implicitDefEqProofs -dsimp only [go_sem, Try.ntmps29, Try.results29]
 refine LoopT.intro (fun i : Nat => i ≤ L.length ∧ (L.take i).any (fun f => f.Id == a) = false) (fun i => ⟨[Fault.sl L, .int .i64 a, .undef, .undef, .undef, .int .i64 i, .undef, .undef, .undef, .undef, .undef, .undef, .undef, .undef, .undef, .undef, .undef, .undef, .undef, .undef], [], 0⟩) (fun i => L.length - i) 0 ⟨Nat.zero_le _, rfl⟩ ?_ (fun i hi => ?_)
 · refine Weak.cut (0) (by simp) (by simp) ?_ ?_
   · simp [LeC, LeV, ren, cutF]
   · rfl
 simp -implicitDefEqProofs -dsimp only [go_sem]
 refine condT.split (fun h1 => ?_) (fun h1 => ?_)
 · simp -implicitDefEqProofs -dsimp only [go_sem, h1]
   have hi' : i < L.length := by simpa using h1
   have hr := rows_at Fault.csl hi'
   (repeat ((repeat1' (first | simp -implicitDefEqProofs -dsimp only [go_sem, hr, Fault.cs] | simp -dsimp (disch := omega) only [wrap_i64])); repeat (with_reducible refine sideA ?_)))
   refine condT.split (fun h2 => ?_) (fun h2 => ?_) <;> (repeat ((repeat1' (first | simp -implicitDefEqProofs -dsimp only [go_sem, h2] | simp -dsimp (disch := omega) only [wrap_i64])); repeat (with_reducible refine sideA ?_)))
   · exact WeakR.drop' (by rw [fIdx, idxI_found hi' hi.2 (by simpa using h2)]) (by rfl)
   · refine ⟨i + 1, ⟨hi', by rw [List.take_succ_eq_append_getElem hi']; simp only [List.any_append, hi.2, List.any_cons, h2, List.any_nil, Bool.or_self]⟩, ?_, by omega⟩
     refine Weak.cut (0) (by simp) (by simp) ?_ ?_
     · simp [LeC, LeV, ren, cutF]
       try omega
     · rfl
 · simp -implicitDefEqProofs -dsimp only [go_sem, h1]
   have hi' : i = L.length := by simp at h1; omega
   subst hi'
   have h2 := hi.2
   rw [List.take_length] at h2
   exact WeakR.drop' (by rw [fIdx, idxI_none h2]) (by rfl)
def joinF (f g : Fault) : Fault := ⟨f.Id, f.Name, f.Bends ++ g.Bends.drop 1, max f.Slip g.Slip⟩
def connOne (L : List Fault) (i k : Nat) (g : Fault) (n : Nat) : List Fault :=
 if h : n < L.length then (if n = k then [] else if n = i then [joinF L[n] g] else [L[n]]) else []
def connT (L : List Fault) (i k : Nat) (g : Fault) : Nat → List Fault
 | 0 => []
 | n + 1 => connT L i k g n ++ connOne L i k g n
def tipEq (f g : Fault) : Bool := match f.Bends.getLast?, g.Bends.head? with
 | some a, some b => bendEq a b
 | _, _ => false
def connR (L : List Fault) (a b : Int) : Option (List Fault) :=
 if faultsB L = true then
   if h : 0 ≤ fIdx L a ∧ 0 ≤ fIdx L b ∧ fIdx L a ≠ fIdx L b ∧ (fIdx L a).toNat < L.length ∧ (fIdx L b).toNat < L.length then
     if tipEq (L[(fIdx L a).toNat]'h.2.2.2.1) (L[(fIdx L b).toNat]'h.2.2.2.2) = true ∧ faultsB (connT L (fIdx L a).toNat (fIdx L b).toNat (L[(fIdx L b).toNat]'h.2.2.2.2) L.length) = true then
       some (connT L (fIdx L a).toNat (fIdx L b).toNat (L[(fIdx L b).toNat]'h.2.2.2.2) L.length)
     else none
   else none
 else none
theorem connT_len (L : List Fault) (i k : Nat) (g : Fault) : ∀ n, (connT L i k g n).length ≤ n
 | 0 => Nat.le_refl _
 | n + 1 => by
   have := connT_len L i k g n
   have h1 : (connOne L i k g n).length ≤ 1 := by unfold connOne; split <;> (try split) <;> (try split) <;> simp
   rw [connT, List.length_append]; omega
theorem connR_no {L : List Fault} {a b : Int} (h : faultsB L = false ∨ fIdx L a = -1 ∨ fIdx L b = -1 ∨ fIdx L a = fIdx L b) : connR L a b = none := by
 unfold connR
 split
 · split
   · rename_i h1 h2
     rcases h with h | h | h | h
     · rw [h] at h1; cases h1
     · omega
     · omega
     · exact absurd h h2.2.2.1
   · rfl
 · rfl
theorem connR_yes {L : List Fault} {a b : Int} {i k : Nat} (hF : faultsB L = true) (ea : fIdx L a = i) (eb : fIdx L b = k) (hi : i < L.length) (hk : k < L.length) (hn : i ≠ k) :
   connR L a b = if tipEq L[i] L[k] = true ∧ faultsB (connT L i k L[k] L.length) = true then some (connT L i k L[k] L.length) else none := by
 unfold connR
 rw [if_pos hF, dif_pos ⟨by omega, by omega, by omega, by omega, by omega⟩]
 simp only [ea, eb, Int.toNat_natCast]
theorem tipEq_at {f g : Fault} {m : Nat} (hm : m + 1 = f.Bends.length) (hg : 0 < g.Bends.length) : tipEq f g = bendEq f.Bends[m] g.Bends[0] := by
 have h1 : f.Bends.getLast? = some f.Bends[m] := by
   rw [List.getLast?_eq_getElem?, show f.Bends.length - 1 = m by omega]
   exact List.getElem?_eq_getElem (by omega)
 have h2 : g.Bends.head? = some g.Bends[0] := by rw [List.head?_eq_getElem?]; simp
 rw [tipEq, h1, h2]
theorem fls_conn {L : List Fault} (hok : flsOk L) (hF : faultsB L = true) {i k : Nat} {g : Fault} (hg : g ∈ L) : ∀ n, flsOk (connT L i k g n)
 | 0 => fun x hx => by cases hx
 | n + 1 => fun x hx => by
   have hall := (listedB_all (Bool.and_eq_true _ _ |>.mp hF).1).1
   rw [connT, List.mem_append] at hx
   rcases hx with hx | hx
   · exact fls_conn hok hF hg n x hx
   · unfold connOne at hx
     split at hx
     · split at hx
       · cases hx
       · split at hx
         · rename_i hn _ _
           simp only [List.mem_singleton] at hx
           subst hx
           have h1 := faultB_ok (hall _ (List.getElem_mem hn))
           have h2 := faultB_ok (hall _ hg)
           refine ⟨(hok _ (List.getElem_mem hn)).1, ?_⟩
           simp [joinF]; omega
         · simp only [List.mem_singleton] at hx
           subst hx
           exact hok _ (List.getElem_mem _)
     · cases hx
theorem iConnectFaults_o (L : List Fault) (a b : Int) (hok : flsOk L) (hl : L.length ≤ 16777216) : Ctr Try.prog 8 [Fault.sl L, .int .i64 a, .int .i64 b] [] (optN 4 (connR L a b)) (optNh Fault.cs (connR L a b)) := by
 have ha := faultAt_ok L a hl
 have hb := faultAt_ok L b hl
 have hA := iAreFaults_ok L hok hl
 by_cases hF : faultsB L = true
 rotate_left
 · have hF' : faultsB L = false := by simpa using hF
   rw [hF'] at hA
   rw [connR_no (.inl hF')]
   refine Ctr.intro Try.mixed Try.func8 rfl Try.okF8 ?_
   simp -implicitDefEqProofs -dsimp only [go_sem, Try.ntmps8, Try.results8]
   (first | refine callT.at (ha) ⟨leA, leA, trivial⟩ ?_ | refine callS.at (ha) ⟨leA, leA, trivial⟩ ?_)
   (repeat ((repeat1' (first | simp -implicitDefEqProofs -dsimp only [go_sem] | simp -dsimp (disch := omega) only [wrap_i64])); repeat (with_reducible refine sideA ?_)))
   (first | refine callT.at (hb) ⟨leA, leA, trivial⟩ ?_ | refine callS.at (hb) ⟨leA, leA, trivial⟩ ?_)
   (repeat ((repeat1' (first | simp -implicitDefEqProofs -dsimp only [go_sem] | simp -dsimp (disch := omega) only [wrap_i64])); repeat (with_reducible refine sideA ?_)))
   (first | refine callT.at (hA) ⟨leA, trivial⟩ ?_ | refine callS.at (hA) ⟨leA, trivial⟩ ?_)
   (repeat ((repeat1' (first | simp -implicitDefEqProofs -dsimp only [go_sem] | simp -dsimp (disch := omega) only [wrap_i64])); repeat (with_reducible refine sideA ?_)))
   exact WeakR.drop' rfl (by rfl)
 rw [hF] at hA
 rcases fIdx_cases L a with ea | ⟨i, hi, ea⟩
 · rw [ea] at ha
   rw [connR_no (.inr (.inl ea))]
   refine Ctr.intro Try.mixed Try.func8 rfl Try.okF8 ?_
   simp -implicitDefEqProofs -dsimp only [go_sem, Try.ntmps8, Try.results8]
   (first | refine callT.at (ha) ⟨leA, leA, trivial⟩ ?_ | refine callS.at (ha) ⟨leA, leA, trivial⟩ ?_)
   (repeat ((repeat1' (first | simp -implicitDefEqProofs -dsimp only [go_sem] | simp -dsimp (disch := omega) only [wrap_i64])); repeat (with_reducible refine sideA ?_)))
   (first | refine callT.at (hb) ⟨leA, leA, trivial⟩ ?_ | refine callS.at (hb) ⟨leA, leA, trivial⟩ ?_)
   (repeat ((repeat1' (first | simp -implicitDefEqProofs -dsimp only [go_sem] | simp -dsimp (disch := omega) only [wrap_i64])); repeat (with_reducible refine sideA ?_)))
   (first | refine callT.at (hA) ⟨leA, trivial⟩ ?_ | refine callS.at (hA) ⟨leA, trivial⟩ ?_)
   (repeat ((repeat1' (first | simp -implicitDefEqProofs -dsimp only [go_sem] | simp -dsimp (disch := omega) only [wrap_i64])); repeat (with_reducible refine sideA ?_)))
   exact WeakR.drop' rfl (by rfl)
 have hi0 : decide ((i : Int) < 0) = false := decide_eq_false (by omega)
 rw [ea] at ha
 rcases fIdx_cases L b with eb | ⟨k, hk, eb⟩
 · rw [eb] at hb
   rw [connR_no (.inr (.inr (.inl eb)))]
   refine Ctr.intro Try.mixed Try.func8 rfl Try.okF8 ?_
   simp -implicitDefEqProofs -dsimp only [go_sem, Try.ntmps8, Try.results8]
   (first | refine callT.at (ha) ⟨leA, leA, trivial⟩ ?_ | refine callS.at (ha) ⟨leA, leA, trivial⟩ ?_)
   (repeat ((repeat1' (first | simp -implicitDefEqProofs -dsimp only [go_sem] | simp -dsimp (disch := omega) only [wrap_i64])); repeat (with_reducible refine sideA ?_)))
   (first | refine callT.at (hb) ⟨leA, leA, trivial⟩ ?_ | refine callS.at (hb) ⟨leA, leA, trivial⟩ ?_)
   (repeat ((repeat1' (first | simp -implicitDefEqProofs -dsimp only [go_sem] | simp -dsimp (disch := omega) only [wrap_i64])); repeat (with_reducible refine sideA ?_)))
   (first | refine callT.at (hA) ⟨leA, trivial⟩ ?_ | refine callS.at (hA) ⟨leA, trivial⟩ ?_)
   (repeat ((repeat1' (first | simp -implicitDefEqProofs -dsimp only [go_sem, hi0] | simp -dsimp (disch := omega) only [wrap_i64])); repeat (with_reducible refine sideA ?_)))
   exact WeakR.drop' rfl (by rfl)
 have hk0 : decide ((k : Int) < 0) = false := decide_eq_false (by omega)
 rw [eb] at hb
 by_cases hn : i = k
 · subst hn
   have hq : ((i : Int) == (i : Int)) = true := beq_self_eq_true _
   rw [connR_no (.inr (.inr (.inr (ea.trans eb.symm))))]
   refine Ctr.intro Try.mixed Try.func8 rfl Try.okF8 ?_
   simp -implicitDefEqProofs -dsimp only [go_sem, Try.ntmps8, Try.results8]
   (first | refine callT.at (ha) ⟨leA, leA, trivial⟩ ?_ | refine callS.at (ha) ⟨leA, leA, trivial⟩ ?_)
   (repeat ((repeat1' (first | simp -implicitDefEqProofs -dsimp only [go_sem] | simp -dsimp (disch := omega) only [wrap_i64])); repeat (with_reducible refine sideA ?_)))
   (first | refine callT.at (hb) ⟨leA, leA, trivial⟩ ?_ | refine callS.at (hb) ⟨leA, leA, trivial⟩ ?_)
   (repeat ((repeat1' (first | simp -implicitDefEqProofs -dsimp only [go_sem] | simp -dsimp (disch := omega) only [wrap_i64])); repeat (with_reducible refine sideA ?_)))
   (first | refine callT.at (hA) ⟨leA, trivial⟩ ?_ | refine callS.at (hA) ⟨leA, trivial⟩ ?_)
   (repeat ((repeat1' (first | simp -implicitDefEqProofs -dsimp only [go_sem, hi0, hq] | simp -dsimp (disch := omega) only [wrap_i64])); repeat (with_reducible refine sideA ?_)))
   exact WeakR.drop' rfl (by rfl)
 have hq : ((i : Int) == (k : Int)) = false := by simp; omega
 have hri := rows_at Fault.csl hi
 have hrk := rows_at Fault.csl hk
 have hall := (listedB_all (Bool.and_eq_true _ _ |>.mp hF).1).1
 have hli := faultB_ok (hall _ (List.getElem_mem hi))
 have hlk := faultB_ok (hall _ (List.getElem_mem hk))
 obtain ⟨m, hm⟩ : ∃ m, m + 1 = L[i].Bends.length := ⟨L[i].Bends.length - 1, by omega⟩
 have hm' : m < L[i].Bends.length := by omega
 have hk' : 0 < L[k].Bends.length := by omega
 have hbm := rows_at Bend.csl hm'
 have hb0 := rows_at Bend.csl hk'
 have hmc : (L[i].Bends.length : Int) - 1 = (m : Int) := by omega
 rw [Nat.zero_mul, List.drop_zero] at hb0
 have htip := tipEq_at hm hk'
 rw [bendEq] at htip
 by_cases ht : tipEq L[i] L[k] = true
 rotate_left
 · rw [connR_yes hF ea eb hi hk hn, if_neg (fun hh => ht hh.1)]
   have ht' : tipEq L[i] L[k] = false := by simpa using ht
   rw [htip] at ht'
   refine Ctr.intro Try.mixed Try.func8 rfl Try.okF8 ?_
   simp -implicitDefEqProofs -dsimp only [go_sem, Try.ntmps8, Try.results8]
   (first | refine callT.at (ha) ⟨leA, leA, trivial⟩ ?_ | refine callS.at (ha) ⟨leA, leA, trivial⟩ ?_)
   (repeat ((repeat1' (first | simp -implicitDefEqProofs -dsimp only [go_sem] | simp -dsimp (disch := omega) only [wrap_i64])); repeat (with_reducible refine sideA ?_)))
   (first | refine callT.at (hb) ⟨leA, leA, trivial⟩ ?_ | refine callS.at (hb) ⟨leA, leA, trivial⟩ ?_)
   (repeat ((repeat1' (first | simp -implicitDefEqProofs -dsimp only [go_sem] | simp -dsimp (disch := omega) only [wrap_i64])); repeat (with_reducible refine sideA ?_)))
   (first | refine callT.at (hA) ⟨leA, trivial⟩ ?_ | refine callS.at (hA) ⟨leA, trivial⟩ ?_)
   (repeat ((repeat1' (first | simp -implicitDefEqProofs -dsimp only [go_sem, hi0, hk0, hq, hri, hrk, Fault.cs, hmc, hbm, hb0, Bend.cs, ht'] | simp -dsimp (disch := omega) only [wrap_i64])); repeat (with_reducible refine sideA ?_)))
   exact WeakR.drop' rfl (by rfl)
 have hRt : faultsB (connT L i k L[k] L.length) = true → connR L a b = some (connT L i k L[k] L.length) := fun h => by rw [connR_yes hF ea eb hi hk hn, if_pos ⟨ht, h⟩]
 have hRf : faultsB (connT L i k L[k] L.length) = false → connR L a b = none := fun h => by rw [connR_yes hF ea eb hi hk hn, if_neg (fun hh => by rw [h] at hh; cases hh.2)]
 generalize connR L a b = R at *
 rw [htip] at ht
 have hgm : L[k] ∈ L := List.getElem_mem hk
 have hokT := fun n => fls_conn hok hF (i := i) (k := k) hgm n
 have hlT := fun n => connT_len L i k L[k] n
 refine Ctr.intro Try.mixed Try.func8 rfl Try.okF8 ?_
 simp -implicitDefEqProofs -dsimp only [go_sem, Try.ntmps8, Try.results8]
 (first | refine callT.at (ha) ⟨leA, leA, trivial⟩ ?_ | refine callS.at (ha) ⟨leA, leA, trivial⟩ ?_)
 (repeat ((repeat1' (first | simp -implicitDefEqProofs -dsimp only [go_sem] | simp -dsimp (disch := omega) only [wrap_i64])); repeat (with_reducible refine sideA ?_)))
 (first | refine callT.at (hb) ⟨leA, leA, trivial⟩ ?_ | refine callS.at (hb) ⟨leA, leA, trivial⟩ ?_)
 (repeat ((repeat1' (first | simp -implicitDefEqProofs -dsimp only [go_sem] | simp -dsimp (disch := omega) only [wrap_i64])); repeat (with_reducible refine sideA ?_)))
 (first | refine callT.at (hA) ⟨leA, trivial⟩ ?_ | refine callS.at (hA) ⟨leA, trivial⟩ ?_)
 (repeat ((repeat1' (first | simp -implicitDefEqProofs -dsimp only [go_sem, hi0, hk0, hq, hri, hrk, Fault.cs, hmc, hbm, hb0, Bend.cs, ht] | simp -dsimp (disch := omega) only [wrap_i64])); repeat (with_reducible refine sideA ?_)))
 refine LoopT.intro (fun n : Nat => n ≤ L.length) (fun n => ⟨[Fault.sl L, .undef, .undef, .undef, .undef, .undef, .undef, .undef, .int .i64 i, .int .i64 k, .osl 0 0 (connT L i k L[k] n).length 4, .undef, .undef, .undef, .undef, .undef, .undef, .undef, .undef, .undef, .undef, .undef, .undef, .undef, .undef, .undef, .undef, .undef, .undef, .undef, .undef, .undef, .undef, .undef, .undef, .undef, .undef, .undef, .undef, .undef, .undef, .undef, .undef, .undef, .undef, .undef, .undef, .undef, .undef, .undef, .undef, .undef, .undef, .undef, .undef, .undef, .undef, .undef, .undef, .undef, .undef, Fault.sl L, .int .i64 L.length, .int .i64 n, .undef, .undef, .undef, .undef, .undef, .undef, .undef, .undef, .undef, .undef, .undef, .undef, .undef, .undef, .undef, .undef, .undef, .undef, .undef, .undef, .undef, .undef, .undef, .undef, .undef, .undef, .undef, .undef, .undef, .undef, .undef, .undef, .undef, .undef, .undef, .undef, .undef, .undef, .undef, .undef, .undef, .undef, .undef, .undef, .undef, .undef, .undef, .undef], [some (rows Fault.cs (connT L i k L[k] n))], 0⟩) (fun n => L.length - n) 0 (Nat.zero_le _) ?_ (fun n hn' => ?_)
 · refine Weak.cut (1) (by simp) (by simp) ?_ ?_
   · simp [LeC, LeV, ren, cutF, connT]
   · rfl
 simp -implicitDefEqProofs -dsimp only [go_sem]
 refine condT.split (fun h1 => ?_) (fun h1 => ?_)
 · have hnL : n < L.length := by have := of_decide_eq_true h1; omega
   have hrn := rows_at Fault.csl hnL
   have hstep : connT L i k L[k] (n + 1) = connT L i k L[k] n ++ connOne L i k L[k] n := rfl
   have hln := faultB_ok (hall _ (List.getElem_mem hnL))
   rw [connOne, dif_pos hnL] at hstep
   by_cases hnk : n = k
   · rw [if_pos hnk, List.append_nil] at hstep
     have c1 : ((n : Int) == (k : Int)) = true := by simp; omega
     (repeat ((repeat1' (first | simp -implicitDefEqProofs -dsimp only [go_sem, h1, hrn, Fault.cs, c1] | simp -dsimp (disch := omega) only [wrap_i64])); repeat (with_reducible refine sideA ?_)))
     refine ⟨n + 1, by omega, ?_, by omega⟩
     rw [hstep]
     refine Weak.pk [0] ?_ ?_
     · simp [LeG, LeV, ren, pickF, posOf]
     · simp [pickH, pickB, ren, pickF, posOf, map_ren_rows]
   · have c1 : ((n : Int) == (k : Int)) = false := by simp; omega
     rw [if_neg hnk] at hstep
     by_cases hni : n = i
     · have c2 : ((n : Int) == (i : Int)) = true := by simp; omega
       rw [if_pos hni] at hstep
       have hdrop : (rows Bend.cs L[k].Bends).drop 2 = rows Bend.cs (L[k].Bends.drop 1) := rows_drop Bend.csl L[k].Bends 1
       have hsub : L[k].Bends.length - 1 = (L[k].Bends.drop 1).length := by simp
       (repeat ((repeat1' (first | simp -implicitDefEqProofs -dsimp only [go_sem, h1, hrn, Fault.cs, c1, c2, hrk, hdrop, hsub] | simp -dsimp (disch := omega) only [wrap_i64])); repeat (with_reducible refine sideA ?_)))
       refine callT.at (concatBend_ok L[n].Bends (L[k].Bends.drop 1) (by omega) (by simp; omega) (by omega)) ⟨.inl rfl, trivial⟩ ?_
       (repeat ((repeat1' (first | simp -implicitDefEqProofs -dsimp only [go_sem, hrk, Fault.cs] | simp -dsimp (disch := omega) only [wrap_i64])); repeat (with_reducible refine sideA ?_)))
       have hmax : (if L[k].Slip > L[n].Slip then L[k].Slip else L[n].Slip) = max L[n].Slip L[k].Slip := by
         rw [Int.max_def]; split <;> split <;> omega
       obtain ⟨B2, hB2⟩ : ∃ B2, B2 = L[n].Bends ++ L[k].Bends.drop 1 := ⟨_, rfl⟩
       have hj : Fault.cs (joinF L[n] L[k]) = [.int .i64 L[n].Id, .str L[n].Name, .sl B2.length 2 (rows Bend.cs B2), .int .i64 (max L[n].Slip L[k].Slip)] := by rw [hB2]; rfl
       simp only [hmax, ← hB2]
       refine ⟨by have := hlT n; omega, by have := hlT n; omega, n + 1, by omega, ?_, by omega⟩
       rw [hstep]
       refine Weak.pk [0] ?_ ?_
       · simp [LeG, LeV, ren, pickF, posOf]
       · rw [← rows_snoc, hj]
         simp [pickH, pickB, ren, pickF, posOf, frzR, map_ren_rows, take_rows]
     · have c2 : ((n : Int) == (i : Int)) = false := by simp; omega
       rw [if_neg hni] at hstep
       (repeat ((repeat1' (first | simp -implicitDefEqProofs -dsimp only [go_sem, h1, hrn, Fault.cs, c1, c2, hrk] | simp -dsimp (disch := omega) only [wrap_i64])); repeat (with_reducible refine sideA ?_)))
       (first | refine callT.at (copiedFault_ok L[n] (by omega)) ⟨leA, trivial⟩ ?_ | refine callS.at (copiedFault_ok L[n] (by omega)) ⟨leA, trivial⟩ ?_)
       (repeat ((repeat1' (first | simp -implicitDefEqProofs -dsimp only [go_sem, Fault.o] | simp -dsimp (disch := omega) only [wrap_i64])); repeat (with_reducible refine sideA ?_)))
       refine ⟨by have := hlT n; omega, by have := hlT n; omega, n + 1, by omega, ?_, by omega⟩
       rw [hstep]
       refine Weak.pk [0] ?_ ?_
       · simp [LeG, LeV, ren, pickF, posOf]
       · rw [← rows_snoc]
         simp [pickH, pickB, ren, pickF, posOf, frzR, map_ren_rows, Fault.cs, take_rows]
 · have hn2 : n = L.length := by have := of_decide_eq_false h1; omega
   subst hn2
   have hlo := hlT L.length
   (repeat ((repeat1' (first | simp -implicitDefEqProofs -dsimp only [go_sem, h1] | simp -dsimp (disch := omega) only [wrap_i64])); repeat (with_reducible refine sideA ?_)))
   (first | refine callT.at (iAreFaults_ok (connT L i k L[k] L.length) (hokT _) (by omega)) ⟨leA, trivial⟩ ?_ | refine callS.at (iAreFaults_ok (connT L i k L[k] L.length) (hokT _) (by omega)) ⟨leA, trivial⟩ ?_)
   (repeat ((repeat1' (first | simp -implicitDefEqProofs -dsimp only [go_sem] | simp -dsimp (disch := omega) only [wrap_i64])); repeat (with_reducible refine sideA ?_)))
   refine condT.split (fun h2 => ?_) (fun h2 => ?_) <;> (repeat ((repeat1' (first | simp -implicitDefEqProofs -dsimp only [go_sem, h2] | simp -dsimp (disch := omega) only [wrap_i64])); repeat (with_reducible refine sideA ?_)))
   · rw [hRf (by simpa using h2)]
     exact WeakR.drop' rfl (by rfl)
   · rw [hRt (by simpa using h2)]
     exact WeakR.refl _ _ _
theorem iConnectFaults_ok (L : List Fault) (a b : Int) (hok : flsOk L) (hl : L.length ≤ 16777216) : Ctr Try.prog 8 [Fault.sl L, .int .i64 a, .int .i64 b] [] (frzV Fault.cs 4 (connR L a b)) [] :=
 (iConnectFaults_o L a b hok hl).weak (frzN _)
theorem sConnectFaults_o (L : List Fault) (a b : Int) (hok : flsOk L) (hl : L.length ≤ 16777216) : Ctr Try.prog 6 [Fault.sl L, .int .i64 a, .int .i64 b] [] (optO 4 (connR L a b)) (optOh Fault.cs (connR L a b)) := by
 have ha := l18Find_ok L a hl
 have hb := l18Find_ok L b hl
 have hA := l18Good_ok L hok hl
 by_cases hF : faultsB L = true
 rotate_left
 · have hF' : faultsB L = false := by simpa using hF
   rw [hF'] at hA
   rw [connR_no (.inl hF')]
   refine Ctr.intro Try.mixed Try.func6 rfl Try.okF6 ?_
   simp -implicitDefEqProofs -dsimp only [go_sem, Try.ntmps6, Try.results6]
   (first | refine callT.at (ha) ⟨leA, leA, trivial⟩ ?_ | refine callS.at (ha) ⟨leA, leA, trivial⟩ ?_)
   (repeat ((repeat1' (first | simp -implicitDefEqProofs -dsimp only [go_sem] | simp -dsimp (disch := omega) only [wrap_i64])); repeat (with_reducible refine sideA ?_)))
   (first | refine callT.at (hb) ⟨leA, leA, trivial⟩ ?_ | refine callS.at (hb) ⟨leA, leA, trivial⟩ ?_)
   (repeat ((repeat1' (first | simp -implicitDefEqProofs -dsimp only [go_sem] | simp -dsimp (disch := omega) only [wrap_i64])); repeat (with_reducible refine sideA ?_)))
   (first | refine callT.at (hA) ⟨leA, trivial⟩ ?_ | refine callS.at (hA) ⟨leA, trivial⟩ ?_)
   (repeat ((repeat1' (first | simp -implicitDefEqProofs -dsimp only [go_sem] | simp -dsimp (disch := omega) only [wrap_i64])); repeat (with_reducible refine sideA ?_)))
   exact WeakR.refl _ _ _
 rw [hF] at hA
 rcases fIdx_cases L a with ea | ⟨i, hi, ea⟩
 · rw [ea] at ha
   rw [connR_no (.inr (.inl ea))]
   refine Ctr.intro Try.mixed Try.func6 rfl Try.okF6 ?_
   simp -implicitDefEqProofs -dsimp only [go_sem, Try.ntmps6, Try.results6]
   (first | refine callT.at (ha) ⟨leA, leA, trivial⟩ ?_ | refine callS.at (ha) ⟨leA, leA, trivial⟩ ?_)
   (repeat ((repeat1' (first | simp -implicitDefEqProofs -dsimp only [go_sem] | simp -dsimp (disch := omega) only [wrap_i64])); repeat (with_reducible refine sideA ?_)))
   (first | refine callT.at (hb) ⟨leA, leA, trivial⟩ ?_ | refine callS.at (hb) ⟨leA, leA, trivial⟩ ?_)
   (repeat ((repeat1' (first | simp -implicitDefEqProofs -dsimp only [go_sem] | simp -dsimp (disch := omega) only [wrap_i64])); repeat (with_reducible refine sideA ?_)))
   (first | refine callT.at (hA) ⟨leA, trivial⟩ ?_ | refine callS.at (hA) ⟨leA, trivial⟩ ?_)
   (repeat ((repeat1' (first | simp -implicitDefEqProofs -dsimp only [go_sem] | simp -dsimp (disch := omega) only [wrap_i64])); repeat (with_reducible refine sideA ?_)))
   exact WeakR.refl _ _ _
 have hi0 : decide ((i : Int) < 0) = false := decide_eq_false (by omega)
 rw [ea] at ha
 rcases fIdx_cases L b with eb | ⟨k, hk, eb⟩
 · rw [eb] at hb
   rw [connR_no (.inr (.inr (.inl eb)))]
   refine Ctr.intro Try.mixed Try.func6 rfl Try.okF6 ?_
   simp -implicitDefEqProofs -dsimp only [go_sem, Try.ntmps6, Try.results6]
   (first | refine callT.at (ha) ⟨leA, leA, trivial⟩ ?_ | refine callS.at (ha) ⟨leA, leA, trivial⟩ ?_)
   (repeat ((repeat1' (first | simp -implicitDefEqProofs -dsimp only [go_sem] | simp -dsimp (disch := omega) only [wrap_i64])); repeat (with_reducible refine sideA ?_)))
   (first | refine callT.at (hb) ⟨leA, leA, trivial⟩ ?_ | refine callS.at (hb) ⟨leA, leA, trivial⟩ ?_)
   (repeat ((repeat1' (first | simp -implicitDefEqProofs -dsimp only [go_sem] | simp -dsimp (disch := omega) only [wrap_i64])); repeat (with_reducible refine sideA ?_)))
   (first | refine callT.at (hA) ⟨leA, trivial⟩ ?_ | refine callS.at (hA) ⟨leA, trivial⟩ ?_)
   (repeat ((repeat1' (first | simp -implicitDefEqProofs -dsimp only [go_sem, hi0] | simp -dsimp (disch := omega) only [wrap_i64])); repeat (with_reducible refine sideA ?_)))
   exact WeakR.refl _ _ _
 have hk0 : decide ((k : Int) < 0) = false := decide_eq_false (by omega)
 rw [eb] at hb
 by_cases hn : i = k
 · subst hn
   have hq : ((i : Int) == (i : Int)) = true := beq_self_eq_true _
   rw [connR_no (.inr (.inr (.inr (ea.trans eb.symm))))]
   refine Ctr.intro Try.mixed Try.func6 rfl Try.okF6 ?_
   simp -implicitDefEqProofs -dsimp only [go_sem, Try.ntmps6, Try.results6]
   (first | refine callT.at (ha) ⟨leA, leA, trivial⟩ ?_ | refine callS.at (ha) ⟨leA, leA, trivial⟩ ?_)
   (repeat ((repeat1' (first | simp -implicitDefEqProofs -dsimp only [go_sem] | simp -dsimp (disch := omega) only [wrap_i64])); repeat (with_reducible refine sideA ?_)))
   (first | refine callT.at (hb) ⟨leA, leA, trivial⟩ ?_ | refine callS.at (hb) ⟨leA, leA, trivial⟩ ?_)
   (repeat ((repeat1' (first | simp -implicitDefEqProofs -dsimp only [go_sem] | simp -dsimp (disch := omega) only [wrap_i64])); repeat (with_reducible refine sideA ?_)))
   (first | refine callT.at (hA) ⟨leA, trivial⟩ ?_ | refine callS.at (hA) ⟨leA, trivial⟩ ?_)
   (repeat ((repeat1' (first | simp -implicitDefEqProofs -dsimp only [go_sem, hi0, hq] | simp -dsimp (disch := omega) only [wrap_i64])); repeat (with_reducible refine sideA ?_)))
   exact WeakR.refl _ _ _
 have hq : ((i : Int) == (k : Int)) = false := by simp; omega
 have hri := rows_at Fault.csl hi
 have hrk := rows_at Fault.csl hk
 have hall := (listedB_all (Bool.and_eq_true _ _ |>.mp hF).1).1
 have hli := faultB_ok (hall _ (List.getElem_mem hi))
 have hlk := faultB_ok (hall _ (List.getElem_mem hk))
 obtain ⟨m, hm⟩ : ∃ m, m + 1 = L[i].Bends.length := ⟨L[i].Bends.length - 1, by omega⟩
 have hm' : m < L[i].Bends.length := by omega
 have hk' : 0 < L[k].Bends.length := by omega
 have hbm := rows_at Bend.csl hm'
 have hb0 := rows_at Bend.csl hk'
 have hmc : (L[i].Bends.length : Int) - 1 = (m : Int) := by omega
 rw [Nat.zero_mul, List.drop_zero] at hb0
 have htip := tipEq_at hm hk'
 rw [bendEq] at htip
 by_cases ht : tipEq L[i] L[k] = true
 rotate_left
 · rw [connR_yes hF ea eb hi hk hn, if_neg (fun hh => ht hh.1)]
   have ht' : tipEq L[i] L[k] = false := by simpa using ht
   rw [htip] at ht'
   refine Ctr.intro Try.mixed Try.func6 rfl Try.okF6 ?_
   simp -implicitDefEqProofs -dsimp only [go_sem, Try.ntmps6, Try.results6]
   (first | refine callT.at (ha) ⟨leA, leA, trivial⟩ ?_ | refine callS.at (ha) ⟨leA, leA, trivial⟩ ?_)
   (repeat ((repeat1' (first | simp -implicitDefEqProofs -dsimp only [go_sem] | simp -dsimp (disch := omega) only [wrap_i64])); repeat (with_reducible refine sideA ?_)))
   (first | refine callT.at (hb) ⟨leA, leA, trivial⟩ ?_ | refine callS.at (hb) ⟨leA, leA, trivial⟩ ?_)
   (repeat ((repeat1' (first | simp -implicitDefEqProofs -dsimp only [go_sem] | simp -dsimp (disch := omega) only [wrap_i64])); repeat (with_reducible refine sideA ?_)))
   (first | refine callT.at (hA) ⟨leA, trivial⟩ ?_ | refine callS.at (hA) ⟨leA, trivial⟩ ?_)
   (repeat ((repeat1' (first | simp -implicitDefEqProofs -dsimp only [go_sem, hi0, hk0, hq, hri, hrk, Fault.cs, hmc, hbm, hb0, Bend.cs, ht'] | simp -dsimp (disch := omega) only [wrap_i64])); repeat (with_reducible refine sideA ?_)))
   exact WeakR.refl _ _ _
 have hRt : faultsB (connT L i k L[k] L.length) = true → connR L a b = some (connT L i k L[k] L.length) := fun h => by rw [connR_yes hF ea eb hi hk hn, if_pos ⟨ht, h⟩]
 have hRf : faultsB (connT L i k L[k] L.length) = false → connR L a b = none := fun h => by rw [connR_yes hF ea eb hi hk hn, if_neg (fun hh => by rw [h] at hh; cases hh.2)]
 generalize connR L a b = R at *
 rw [htip] at ht
 have hgm : L[k] ∈ L := List.getElem_mem hk
 have hokT := fun n => fls_conn hok hF (i := i) (k := k) hgm n
 have hlT := fun n => connT_len L i k L[k] n
 refine Ctr.intro Try.mixed Try.func6 rfl Try.okF6 ?_
 simp -implicitDefEqProofs -dsimp only [go_sem, Try.ntmps6, Try.results6]
 (first | refine callT.at (ha) ⟨leA, leA, trivial⟩ ?_ | refine callS.at (ha) ⟨leA, leA, trivial⟩ ?_)
 (repeat ((repeat1' (first | simp -implicitDefEqProofs -dsimp only [go_sem] | simp -dsimp (disch := omega) only [wrap_i64])); repeat (with_reducible refine sideA ?_)))
 (first | refine callT.at (hb) ⟨leA, leA, trivial⟩ ?_ | refine callS.at (hb) ⟨leA, leA, trivial⟩ ?_)
 (repeat ((repeat1' (first | simp -implicitDefEqProofs -dsimp only [go_sem] | simp -dsimp (disch := omega) only [wrap_i64])); repeat (with_reducible refine sideA ?_)))
 (first | refine callT.at (hA) ⟨leA, trivial⟩ ?_ | refine callS.at (hA) ⟨leA, trivial⟩ ?_)
 (repeat ((repeat1' (first | simp -implicitDefEqProofs -dsimp only [go_sem, hi0, hk0, hq, hri, hrk, Fault.cs, hmc, hbm, hb0, Bend.cs, ht] | simp -dsimp (disch := omega) only [wrap_i64])); repeat (with_reducible refine sideA ?_)))
 refine LoopT.intro (fun n : Nat => n ≤ L.length) (fun n => ⟨[Fault.sl L, .undef, .undef, .undef, .undef, .undef, .undef, .undef, .int .i64 i, .int .i64 k, .osl 0 0 (connT L i k L[k] n).length 4, .int .i64 n, .undef, .undef, .undef, .undef, .undef, .undef, .undef, .undef, .undef, .undef, .undef, .undef, .undef, .undef, .undef, .undef, .undef, .undef, .undef, .undef, .undef, .undef, .undef, .undef, .undef, .undef, .undef, .undef, .undef, .undef, .undef, .undef, .undef, .undef, .undef, .undef, .undef, .undef, .undef, .undef, .undef, .undef, .undef, .undef, .undef, .undef, .undef, .undef, .undef, .undef, .undef, .undef, .undef, .undef, .undef, .undef, .undef, .undef, .undef, .undef, .undef, .undef, .undef, .undef, .undef, .undef, .undef, .undef, .undef, .undef, .undef, .undef, .undef, .undef, .undef, .undef, .undef, .undef, .undef, .undef, .undef, .undef, .undef, .undef, .undef, .undef, .undef, .undef, .undef, .undef, .undef, .undef, .undef, .undef, .undef, .undef, .undef, .undef], [some (rows Fault.cs (connT L i k L[k] n))], 0⟩) (fun n => L.length - n) 0 (Nat.zero_le _) ?_ (fun n hn' => ?_)
 · refine Weak.cut (1) (by simp) (by simp) ?_ ?_
   · simp [LeC, LeV, ren, cutF, connT]
   · rfl
 simp -implicitDefEqProofs -dsimp only [go_sem]
 refine condT.split (fun h1 => ?_) (fun h1 => ?_)
 · have hnL : n < L.length := by have := of_decide_eq_true h1; omega
   have hrn := rows_at Fault.csl hnL
   have hstep : connT L i k L[k] (n + 1) = connT L i k L[k] n ++ connOne L i k L[k] n := rfl
   have hln := faultB_ok (hall _ (List.getElem_mem hnL))
   rw [connOne, dif_pos hnL] at hstep
   by_cases hnk : n = k
   · rw [if_pos hnk, List.append_nil] at hstep
     have c1 : ((n : Int) == (k : Int)) = true := by simp; omega
     have c2 : ((n : Int) == (i : Int)) = false := by simp; omega
     have c3 : ((n : Int) != (k : Int)) = false := by rw [bne, c1]; rfl
     (repeat ((repeat1' (first | simp -implicitDefEqProofs -dsimp only [go_sem, h1, hrn, Fault.cs, c2, c3, map_ren_rows] | simp -dsimp (disch := omega) only [wrap_i64])); repeat (with_reducible refine sideA ?_)))
     refine ⟨n + 1, by omega, ?_, by omega⟩
     rw [hstep]
     refine Weak.pk [0] ?_ ?_
     · simp [LeG, LeV, ren, pickF, posOf]
     · simp [pickH, pickB, ren, pickF, posOf, map_ren_rows]
   · have c1 : ((n : Int) == (k : Int)) = false := by simp; omega
     rw [if_neg hnk] at hstep
     by_cases hni : n = i
     · have c2 : ((n : Int) == (i : Int)) = true := by simp; omega
       rw [if_pos hni] at hstep
       have hdrop : (rows Bend.cs L[k].Bends).drop 2 = rows Bend.cs (L[k].Bends.drop 1) := rows_drop Bend.csl L[k].Bends 1
       have hsub : L[k].Bends.length - 1 = (L[k].Bends.drop 1).length := by simp
       have c3 : ((n : Int) != (k : Int)) = true := by rw [bne, c1]; rfl
       (repeat ((repeat1' (first | simp -implicitDefEqProofs -dsimp only [go_sem, h1, hrn, Fault.cs, c2, c3, hrk, hdrop, hsub, map_ren_rows] | simp -dsimp (disch := omega) only [wrap_i64])); repeat (with_reducible refine sideA ?_)))
       (first | refine callT.at (l1Most_ok L[n].Slip L[k].Slip) ⟨leA, leA, trivial⟩ ?_ | refine callS.at (l1Most_ok L[n].Slip L[k].Slip) ⟨leA, leA, trivial⟩ ?_)
       (repeat ((repeat1' (first | simp -implicitDefEqProofs -dsimp only [go_sem, c3, map_ren_rows] | simp -dsimp (disch := omega) only [wrap_i64])); repeat (with_reducible refine sideA ?_)))
       have e2 : rows Bend.cs L[n].Bends ++ rows Bend.cs (L[k].Bends.drop 1) = rows Bend.cs (L[n].Bends ++ L[k].Bends.drop 1) := (rowsOf_append _ _).symm
       simp only [e2, ← List.length_append]
       obtain ⟨B2, hB2⟩ : ∃ B2, B2 = L[n].Bends ++ L[k].Bends.drop 1 := ⟨_, rfl⟩
       have hj : Fault.cs (joinF L[n] L[k]) = [.int .i64 L[n].Id, .str L[n].Name, .sl B2.length 2 (rows Bend.cs B2), .int .i64 (max L[n].Slip L[k].Slip)] := by rw [hB2]; rfl
       simp only [← hB2]
       refine ⟨by have := hlT n; omega, by have := hlT n; omega, n + 1, by omega, ?_, by omega⟩
       rw [hstep]
       refine Weak.pk [0] ?_ ?_
       · simp [LeG, LeV, ren, pickF, posOf]
       · rw [← rows_snoc, hj]
         simp [pickH, pickB, ren, pickF, posOf, frzR, map_ren_rows, take_rows]
     · have c2 : ((n : Int) == (i : Int)) = false := by simp; omega
       rw [if_neg hni] at hstep
       have c3 : ((n : Int) != (k : Int)) = true := by rw [bne, c1]; rfl
       (repeat ((repeat1' (first | simp -implicitDefEqProofs -dsimp only [go_sem, h1, hrn, Fault.cs, c2, c3, map_ren_rows] | simp -dsimp (disch := omega) only [wrap_i64])); repeat (with_reducible refine sideA ?_)))
       refine ⟨by have := hlT n; omega, by have := hlT n; omega, n + 1, by omega, ?_, by omega⟩
       rw [hstep]
       refine Weak.pk [0] ?_ ?_
       · simp [LeG, LeV, ren, pickF, posOf]
       · rw [← rows_snoc]
         simp [pickH, pickB, ren, pickF, posOf, frzR, map_ren_rows, Fault.cs, take_rows]
 · have hn2 : n = L.length := by have := of_decide_eq_false h1; omega
   subst hn2
   have hlo := hlT L.length
   (repeat ((repeat1' (first | simp -implicitDefEqProofs -dsimp only [go_sem, h1] | simp -dsimp (disch := omega) only [wrap_i64])); repeat (with_reducible refine sideA ?_)))
   (first | refine callT.at (l18Good_ok (connT L i k L[k] L.length) (hokT _) (by omega)) ⟨leA, trivial⟩ ?_ | refine callS.at (l18Good_ok (connT L i k L[k] L.length) (hokT _) (by omega)) ⟨leA, trivial⟩ ?_)
   (repeat ((repeat1' (first | simp -implicitDefEqProofs -dsimp only [go_sem] | simp -dsimp (disch := omega) only [wrap_i64])); repeat (with_reducible refine sideA ?_)))
   refine condT.split (fun h2 => ?_) (fun h2 => ?_) <;> (repeat ((repeat1' (first | simp -implicitDefEqProofs -dsimp only [go_sem, h2] | simp -dsimp (disch := omega) only [wrap_i64])); repeat (with_reducible refine sideA ?_)))
   · rw [hRf (by simpa using h2)]
     refine WeakR.pick [1] (by decide) (fun j hj => by omega) (.inl ?_) ?_
     · rfl
     · rfl
   · rw [hRt (by simpa using h2)]
     exact WeakR.refl _ _ _
theorem sConnectFaults_ok (L : List Fault) (a b : Int) (hok : flsOk L) (hl : L.length ≤ 16777216) : Ctr Try.prog 6 [Fault.sl L, .int .i64 a, .int .i64 b] [] (frzV Fault.cs 4 (connR L a b)) [] :=
 (sConnectFaults_o L a b hok hl).weak (frzO _)
end Go.Proofs
end
section
set_option maxRecDepth 100000
set_option maxHeartbeats 4000000
namespace Go.Proofs
open Go.Lv
def yearsR (f : Fault) (m : Int) : V := .tup [.int .i64 (yearsV f m), .bool (yearsB f m)]
theorem years_no {f : Fault} {m : Int} (h : yearsB f m = false) : yearsR f m = .tup [.int .i64 0, .bool false] := by
 rw [yearsR, yearsV, h]; rfl
theorem years_div {f : Fault} {m : Int} (hb : faultB f = true) (hm : inB' m 0 100 = true) (hs : f.Slip ≠ 0) : yearsR f m = .tup [.int .i64 ((10000 * m + f.Slip - 1).tdiv f.Slip), .bool true] := by
 have h : yearsB f m = true := by simp [yearsB, hb, hm, hs]
 have hr := faultB_slip hb
 rw [inB'_iff] at hm
 rw [yearsR, yearsV, h, if_pos rfl]
 have e : (10000 * m + f.Slip - 1).tdiv f.Slip = (10000 * m + f.Slip - 1) / f.Slip := Int.tdiv_eq_ediv_of_nonneg (by omega)
 rw [e]
 split
 · rename_i e2
   subst e2
   rw [show 10000 * (0 : Int) + f.Slip - 1 = f.Slip - 1 by omega, Int.ediv_eq_zero_of_lt (by omega) (by omega)]
 · rfl
theorem years_zero {f : Fault} {m : Int} (hb : faultB f = true) (hm : inB' m 0 100 = true) (hs : f.Slip = 0) : yearsR f m = .tup [.int .i64 0, .bool (m == 0)] := by
 by_cases e : m = 0
 · subst e
   simp [yearsR, yearsV, yearsB, hb, hm, hs]
 · have : yearsB f m = false := by simp [yearsB, hs, e]
   rw [years_no this]
   simp [e]
theorem years_q {f : Fault} {m : Int} (hb : faultB f = true) (hm : 0 ≤ m ∧ m ≤ 100) (hs : ¬ f.Slip = 0) : IntKind.i64.wrap ((10000 * m + f.Slip - 1).tdiv f.Slip) = (10000 * m + f.Slip - 1).tdiv f.Slip := by
 have hr := faultB_slip hb
 rw [Int.tdiv_eq_ediv_of_nonneg (by omega)]
 have h1 := Int.ediv_nonneg (show 0 ≤ 10000 * m + f.Slip - 1 by omega) (show 0 ≤ f.Slip by omega)
 have h2 := Int.ediv_le_self f.Slip (show 0 ≤ 10000 * m + f.Slip - 1 by omega)
 exact wrap_i64 (by omega) (by omega)
theorem iYearsFor_ok (f : Fault) (m : Int) (hn : strR f.Name) (hl : f.Bends.length ≤ 1048576) : Ctr Try.prog 26 [f.v, .int .i64 m] [] (yearsR f m) [] := by
 have hF := iIsFault_ok f hn (by omega)
 have hI := in_ok m 0 100
 by_cases hb : faultB f = true
 rotate_left
 · have hb' : faultB f = false := by simpa using hb
   rw [years_no (by simp [yearsB, hb']) ]
   rw [hb'] at hF
   refine Ctr.intro Try.mixed Try.func26 rfl Try.okF26 ?_
   simp -implicitDefEqProofs -dsimp only [go_sem, Try.ntmps26, Try.results26]
   (repeat ((repeat1' (first | simp -implicitDefEqProofs -dsimp only [go_sem, Fault.v] | simp -dsimp (disch := omega) only [wrap_i64])); repeat (with_reducible refine sideA ?_)))
   (first | refine callT.at (hF) ⟨leA, trivial⟩ ?_ | refine callS.at (hF) ⟨leA, trivial⟩ ?_)
   (repeat ((repeat1' (first | simp -implicitDefEqProofs -dsimp only [go_sem] | simp -dsimp (disch := omega) only [wrap_i64])); repeat (with_reducible refine sideA ?_)))
   exact WeakR.drop' rfl (by rfl)
 rw [hb] at hF
 by_cases hm : inB' m 0 100 = true
 rotate_left
 · have hm' : inB' m 0 100 = false := by simpa using hm
   rw [years_no (by simp [yearsB, hm']) ]
   rw [hm'] at hI
   refine Ctr.intro Try.mixed Try.func26 rfl Try.okF26 ?_
   simp -implicitDefEqProofs -dsimp only [go_sem, Try.ntmps26, Try.results26]
   (repeat ((repeat1' (first | simp -implicitDefEqProofs -dsimp only [go_sem, Fault.v] | simp -dsimp (disch := omega) only [wrap_i64])); repeat (with_reducible refine sideA ?_)))
   (first | refine callT.at (hF) ⟨leA, trivial⟩ ?_ | refine callS.at (hF) ⟨leA, trivial⟩ ?_)
   (repeat ((repeat1' (first | simp -implicitDefEqProofs -dsimp only [go_sem] | simp -dsimp (disch := omega) only [wrap_i64])); repeat (with_reducible refine sideA ?_)))
   (first | refine callT.at (hI) ⟨leA, leA, leA, trivial⟩ ?_ | refine callS.at (hI) ⟨leA, leA, leA, trivial⟩ ?_)
   (repeat ((repeat1' (first | simp -implicitDefEqProofs -dsimp only [go_sem] | simp -dsimp (disch := omega) only [wrap_i64])); repeat (with_reducible refine sideA ?_)))
   exact WeakR.drop' rfl (by rfl)
 rw [hm] at hI
 have hmr := inB'_iff.1 hm
 have hsr := faultB_slip hb
 by_cases hs : f.Slip = 0
 · rw [years_zero hb hm hs]
   have c1 : (f.Slip == 0) = true := by simpa using hs
   by_cases e : m = 0
   · subst e
     refine Ctr.intro Try.mixed Try.func26 rfl Try.okF26 ?_
     simp -implicitDefEqProofs -dsimp only [go_sem, Try.ntmps26, Try.results26]
     (repeat ((repeat1' (first | simp -implicitDefEqProofs -dsimp only [go_sem, Fault.v] | simp -dsimp (disch := omega) only [wrap_i64])); repeat (with_reducible refine sideA ?_)))
     (first | refine callT.at (hF) ⟨leA, trivial⟩ ?_ | refine callS.at (hF) ⟨leA, trivial⟩ ?_)
     (repeat ((repeat1' (first | simp -implicitDefEqProofs -dsimp only [go_sem] | simp -dsimp (disch := omega) only [wrap_i64])); repeat (with_reducible refine sideA ?_)))
     (first | refine callT.at (hI) ⟨leA, leA, leA, trivial⟩ ?_ | refine callS.at (hI) ⟨leA, leA, leA, trivial⟩ ?_)
     (repeat ((repeat1' (first | simp -implicitDefEqProofs -dsimp only [go_sem, c1] | simp -dsimp (disch := omega) only [wrap_i64])); repeat (with_reducible refine sideA ?_)))
     exact WeakR.drop' rfl (by rfl)
   · have c2 : decide (0 < m) = true := decide_eq_true (by omega)
     have c3 : (m == 0) = false := by simpa using e
     rw [c3]
     refine Ctr.intro Try.mixed Try.func26 rfl Try.okF26 ?_
     simp -implicitDefEqProofs -dsimp only [go_sem, Try.ntmps26, Try.results26]
     (repeat ((repeat1' (first | simp -implicitDefEqProofs -dsimp only [go_sem, Fault.v] | simp -dsimp (disch := omega) only [wrap_i64])); repeat (with_reducible refine sideA ?_)))
     (first | refine callT.at (hF) ⟨leA, trivial⟩ ?_ | refine callS.at (hF) ⟨leA, trivial⟩ ?_)
     (repeat ((repeat1' (first | simp -implicitDefEqProofs -dsimp only [go_sem] | simp -dsimp (disch := omega) only [wrap_i64])); repeat (with_reducible refine sideA ?_)))
     (first | refine callT.at (hI) ⟨leA, leA, leA, trivial⟩ ?_ | refine callS.at (hI) ⟨leA, leA, leA, trivial⟩ ?_)
     (repeat ((repeat1' (first | simp -implicitDefEqProofs -dsimp only [go_sem, c1, c2] | simp -dsimp (disch := omega) only [wrap_i64])); repeat (with_reducible refine sideA ?_)))
     exact WeakR.drop' rfl (by rfl)
 · have c1 : (f.Slip == 0) = false := by simpa using hs
   have c4 : 10000 * m = m * 10000 := Int.mul_comm _ _
   refine Ctr.intro Try.mixed Try.func26 rfl Try.okF26 ?_
   simp -implicitDefEqProofs -dsimp only [go_sem, Try.ntmps26, Try.results26]
   (repeat ((repeat1' (first | simp -implicitDefEqProofs -dsimp only [go_sem, Fault.v] | simp -dsimp (disch := omega) only [wrap_i64])); repeat (with_reducible refine sideA ?_)))
   (first | refine callT.at (hF) ⟨leA, trivial⟩ ?_ | refine callS.at (hF) ⟨leA, trivial⟩ ?_)
   (repeat ((repeat1' (first | simp -implicitDefEqProofs -dsimp only [go_sem] | simp -dsimp (disch := omega) only [wrap_i64])); repeat (with_reducible refine sideA ?_)))
   (first | refine callT.at (hI) ⟨leA, leA, leA, trivial⟩ ?_ | refine callS.at (hI) ⟨leA, leA, leA, trivial⟩ ?_)
   (repeat ((repeat1' (first | simp -implicitDefEqProofs -dsimp only [go_sem, c1] | simp -dsimp (disch := omega) only [wrap_i64])); repeat (with_reducible refine sideA ?_)))
   refine condT.split (fun g => ?_) (fun g => ?_) <;> (repeat ((repeat1' (first | simp -implicitDefEqProofs -dsimp only [go_sem, g] | simp -dsimp (disch := omega) only [wrap_i64])); repeat (with_reducible refine sideA ?_)))
   · have e : m = 0 := by simpa using g
     subst e
     exact WeakR.drop' (by simp [yearsR, yearsV, yearsB, hb, hm, hs]) (by rfl)
   · rw [years_div hb hm hs, ← c4, years_q hb hmr hs]
     exact WeakR.drop' rfl (by rfl)
theorem sYearsFor_ok (f : Fault) (m : Int) (hn : strR f.Name) (hl : f.Bends.length ≤ 1048576) : Ctr Try.prog 27 [f.v, .int .i64 m] [] (yearsR f m) [] := by
 have hF := l18One_ok f hn (by omega)
 have hI := l1In_ok m 0 100
 refine Ctr.intro Try.mixed Try.func27 rfl Try.okF27 ?_
 simp -implicitDefEqProofs -dsimp only [go_sem, Try.ntmps27, Try.results27]
 (repeat ((repeat1' (first | simp -implicitDefEqProofs -dsimp only [go_sem, Fault.v] | simp -dsimp (disch := omega) only [wrap_i64])); repeat (with_reducible refine sideA ?_)))
 (first | refine callT.at (hF) ⟨leA, trivial⟩ ?_ | refine callS.at (hF) ⟨leA, trivial⟩ ?_)
 (repeat ((repeat1' (first | simp -implicitDefEqProofs -dsimp only [go_sem] | simp -dsimp (disch := omega) only [wrap_i64])); repeat (with_reducible refine sideA ?_)))
 refine guardT.splitF (fun g1 => ?_) (fun g1 => ?_) <;> (repeat ((repeat1' (first | simp -implicitDefEqProofs -dsimp only [go_sem, g1] | simp -dsimp (disch := omega) only [wrap_i64])); repeat (with_reducible refine sideA ?_)))
 · have hb : faultB f = true := by simpa using g1
   have hsr := faultB_slip hb
   (first | refine callT.at (hI) ⟨leA, leA, leA, trivial⟩ ?_ | refine callS.at (hI) ⟨leA, leA, leA, trivial⟩ ?_)
   (repeat ((repeat1' (first | simp -implicitDefEqProofs -dsimp only [go_sem] | simp -dsimp (disch := omega) only [wrap_i64])); repeat (with_reducible refine sideA ?_)))
   refine condT.split (fun g2 => ?_) (fun g2 => ?_) <;> (repeat ((repeat1' (first | simp -implicitDefEqProofs -dsimp only [go_sem, g2] | simp -dsimp (disch := omega) only [wrap_i64])); repeat (with_reducible refine sideA ?_)))
   · have hm' : inB' m 0 100 = false := by simpa using g2
     exact WeakR.drop' (by rw [years_no (by simp [yearsB, hm'])]) (by rfl)
   · have hm : inB' m 0 100 = true := by simpa using g2
     have hmr := inB'_iff.1 hm
     refine condT.split (fun g3 => ?_) (fun g3 => ?_) <;> (repeat ((repeat1' (first | simp -implicitDefEqProofs -dsimp only [go_sem, g3] | simp -dsimp (disch := omega) only [wrap_i64])); repeat (with_reducible refine sideA ?_)))
     · exact WeakR.drop' (by rw [years_zero hb hm (by simpa using g3)]) (by rfl)
     · have hs : f.Slip ≠ 0 := by simpa using g3
       rw [years_div hb hm hs, years_q hb hmr hs]
       exact ⟨hs, WeakR.drop' rfl (by rfl)⟩
 · have hb' : faultB f = false := by simpa using g1
   exact WeakR.drop' (by rw [years_no (by simp [yearsB, hb'])]) (by rfl)
def revF (f : Fault) : Fault := if faultB f = true then f.rev else ⟨0, ByteArray.empty, [], 0⟩
def revR (f : Fault) : V := .tup [(revF f).v, .bool (faultB f)]
theorem revR_no {f : Fault} (h : faultB f = false) : WeakR 0 faultN [] (revR f) [] := by
 intro w0 m0 h0 av0 W m val e1 e2 hlt hle H hx hi
 refine ⟨m, H, ?_, hi⟩
 rw [revR, revF, h]
 change RV W m [] _ true val (.tup [.agg [.int .i64 0, .str ByteArray.empty, .nilsl, .int .i64 0], .bool false]) at hx
 cases hx with
 | tup a vs ha hra =>
   refine .tup _ _ ha (fun i hi => ?_)
   match i, hi with
   | 0, _ => exact (hra 0 (by simp)).le (LeV.agg ⟨LeE.refl _, LeE.refl _, LeE.nil, LeE.refl _, trivial⟩)
   | 1, _ => exact hra 1 (by simp)
theorem revR_yes {f : Fault} (h : faultB f = true) : WeakR 0 (faultO f.rev) [some (rows Bend.cs f.Bends.reverse)] (revR f) [] := by
 refine WeakR.pick [] (by decide) (fun j hj => by omega) (.inl ?_) rfl
 rw [revR, revF, if_pos h, h]
 have e := take_rows (cs := Bend.cs) f.Bends.reverse
 simp [faultO, Fault.v, Fault.rev, ren, pickF, posOf, frzR, map_ren_rows] at e ⊢
 exact e.symm
theorem iRev_ok (f : Fault) (hn : strR f.Name) (hl : f.Bends.length ≤ 1048576) : Ctr Try.prog 14 [f.v] [] (revR f) [] := by
 by_cases h : faultB f = true
 · exact (iReverseFault_ok f hn (by omega) h).weak (revR_yes h)
 · have h' : faultB f = false := by simpa using h
   exact (iReverseFault_no f hn (by omega) h').weak (revR_no h')
theorem sRev_ok (f : Fault) (hn : strR f.Name) (hl : f.Bends.length ≤ 1048576) : Ctr Try.prog 15 [f.v] [] (revR f) [] := by
 by_cases h : faultB f = true
 · exact (sReverseFault_ok f hn (by omega) h).weak (revR_yes h)
 · have h' : faultB f = false := by simpa using h
   exact (sReverseFault_no f hn (by omega) h').weak (revR_no h')
end Go.Proofs
end
section
namespace Go.Proofs
open Go.Lv
theorem adj_iff {L : List Bend} : adj L = true ↔ ∀ i (h : i + 1 < L.length), bendEq L[i + 1] L[i] = false := by
 rw [adj, List.all_eq_true]
 constructor
 · intro h i hi
   have := h i (List.mem_range.2 (by omega))
   rw [adjQ, dif_pos hi] at this
   simpa using this
 · intro h i hi
   rw [adjQ]
   split
   · rename_i h2
     rw [h i h2]; rfl
   · rfl
theorem adj_rev {L : List Bend} (h : adj L = true) : adj L.reverse = true := by
 rw [adj_iff] at h ⊢
 intro i hi
 rw [List.length_reverse] at hi
 rw [List.getElem_reverse, List.getElem_reverse, bendEq_comm]
 have := h (L.length - 1 - (i + 1)) (by omega)
 have e : L.length - 1 - (i + 1) + 1 = L.length - 1 - i := by omega
 simp only [e] at this
 exact this
theorem faultB_rev {f : Fault} (h : faultB f = true) : faultB f.rev = true := by
 simp only [faultB, Bool.and_eq_true, Fault.rev, List.length_reverse, List.all_reverse] at h ⊢
 exact ⟨adj_rev h.1, h.2⟩
theorem rev_rev (f : Fault) : f.rev.rev = f := by simp [Fault.rev]
theorem revF_yes {f : Fault} (h : faultB f = true) : revF f = f.rev := if_pos h
theorem fLen_rev {f : Fault} (h : faultB f = true) : fLen f.rev = fLen f := by
 rw [fLen, fLen, if_pos h, if_pos (faultB_rev h)]
 exact lenB_rev _
theorem sideB_swap (a b p : Bend) : sideB b a p = sideB a b p := by rw [sideB, sideB, segB_comm]
theorem sideV_r (a b p : Bend) : -1 ≤ sideV a b p ∧ sideV a b p ≤ 1 := by
 rw [sideV]
 split
 · simp only [sgnI]; omega
 · omega
def totL : List Fault → Int
 | [] => 0
 | f :: l => lenB f.Bends + totL l
theorem totL_app : ∀ (L K : List Fault), totL (L ++ K) = totL L + totL K
 | [], K => by simp [totL]
 | f :: l, K => by
   have := totL_app l K
   simp only [List.cons_append, totL, this]; omega
theorem totL_one (f : Fault) : totL [f] = lenB f.Bends := by simp [totL]
theorem totL_take {L : List Fault} {i : Nat} (hi : i < L.length) : totL (L.take (i + 1)) = totL (L.take i) + lenB L[i].Bends := by
 rw [List.take_succ_eq_append_getElem hi, totL_app, totL_one]
theorem len_r {f : Fault} (h : faultB f = true) : 0 ≤ lenB f.Bends ∧ lenB f.Bends ≤ 12000 := by
 have h1 := lenB_r (faultB_all h)
 have h2 := faultB_ok h
 omega
theorem totL_r : ∀ {L : List Fault}, (∀ f ∈ L, faultB f = true) → 0 ≤ totL L ∧ totL L ≤ 12000 * L.length
 | [], _ => ⟨by decide, by decide⟩
 | f :: l, h => by
   have h1 := len_r (h f (by simp))
   have h2 := totL_r (L := l) (fun x hx => h x (by simp [hx]))
   simp only [totL, List.length_cons]; omega
theorem fLen_ok {f : Fault} (h : faultB f = true) : fLen f = lenB f.Bends := if_pos h
theorem faultsB_all {L : List Fault} (h : faultsB L = true) : (∀ f ∈ L, faultB f = true) ∧ L.length ≤ 6 :=
 listedB_all (Bool.and_eq_true _ _ |>.mp h).1
theorem bend_eq {a b : Bend} (h : bendEq a b = true) : a = b := by
 simp only [bendEq, Bool.and_eq_true, beq_iff_eq] at h
 cases a; cases b
 simp only at h
 rw [h.1, h.2]
theorem join_len {f g : Fault} (h : tipEq f g = true) : lenB (joinF f g).Bends = lenB f.Bends + lenB g.Bends := by
 cases hf : f.Bends.getLast? with
 | none => simp [tipEq, hf] at h
 | some x =>
   cases hg : g.Bends with
   | nil => simp [tipEq, hf, hg] at h
   | cons y t =>
     simp only [tipEq, hf, hg, List.head?_cons] at h
     have := bend_eq h
     subst this
     have hA : f.Bends = f.Bends.dropLast ++ [x] := by
       have hne : f.Bends ≠ [] := fun e => by rw [e] at hf; cases hf
       have e1 := List.dropLast_concat_getLast hne
       have e2 : f.Bends.getLast hne = x := by
         rw [List.getLast?_eq_some_getLast hne] at hf
         simpa using hf
       rw [← e2]; exact e1.symm
     show lenB (f.Bends ++ g.Bends.drop 1) = _
     rw [hg, List.drop_one, List.tail_cons]
     conv => lhs; rw [hA]
     rw [List.append_assoc]
     show lenB (f.Bends.dropLast ++ x :: t) = _
     rw [lenB_app, ← hA]
theorem conn_tot {L : List Fault} {i k : Nat} (hi : i < L.length) (hk : k < L.length) (hn : i ≠ k) (ht : tipEq L[i] L[k] = true) :
   ∀ n, n ≤ L.length → totL (connT L i k L[k] n) = totL (L.take n) + (if i < n then lenB L[k].Bends else 0) - (if k < n then lenB L[k].Bends else 0)
 | 0, _ => by simp [connT, totL]
 | n + 1, h => by
   have ih := conn_tot hi hk hn ht n (by omega)
   rw [connT, totL_app, ih, totL_take (show n < L.length by omega), connOne, dif_pos (show n < L.length by omega)]
   by_cases e1 : n = k
   · subst e1
     rw [if_pos rfl, if_neg (show ¬ n < n by omega), if_pos (show n < n + 1 by omega)]
     by_cases e2 : i < n
     · rw [if_pos e2, if_pos (show i < n + 1 by omega)]; simp only [totL]; omega
     · rw [if_neg e2, if_neg (show ¬ i < n + 1 by omega)]; simp only [totL]; omega
   · rw [if_neg e1]
     by_cases e2 : n = i
     · subst e2
       rw [if_pos rfl, totL_one, join_len ht, if_neg (show ¬ n < n by omega), if_pos (show n < n + 1 by omega)]
       by_cases e3 : k < n
       · rw [if_pos e3, if_pos (show k < n + 1 by omega)]; omega
       · rw [if_neg e3, if_neg (show ¬ k < n + 1 by omega)]; omega
     · rw [if_neg e2, totL_one]
       by_cases e3 : k < n
       · rw [if_pos e3, if_pos (show k < n + 1 by omega)]
         by_cases e4 : i < n
         · rw [if_pos e4, if_pos (show i < n + 1 by omega)]; omega
         · rw [if_neg e4, if_neg (show ¬ i < n + 1 by omega)]; omega
       · rw [if_neg e3, if_neg (show ¬ k < n + 1 by omega)]
         by_cases e4 : i < n
         · rw [if_pos e4, if_pos (show i < n + 1 by omega)]; omega
         · rw [if_neg e4, if_neg (show ¬ i < n + 1 by omega)]; omega
theorem connR_some {L O : List Fault} {a b : Int} (h : connR L a b = some O) : faultsB L = true ∧ faultsB O = true ∧ totL O = totL L := by
 unfold connR at h
 split at h
 · rename_i hF
   split at h
   · rename_i hh
     split at h
     · rename_i h2
       simp only [Option.some.injEq] at h
       refine ⟨hF, by rw [← h]; exact h2.2, ?_⟩
       rw [← h, conn_tot hh.2.2.2.1 hh.2.2.2.2 (by omega) h2.1 L.length (Nat.le_refl _), List.take_length, if_pos hh.2.2.2.1, if_pos hh.2.2.2.2]
       omega
     · cases h
   · cases h
 · cases h
end Go.Proofs
end
section
set_option maxRecDepth 100000
namespace Go.Proofs
open Go.Lv
def u8R (x : Int) : Prop := 0 ≤ x ∧ x ≤ 255
def ByteS.cs (x : Int) : List V := [.int .u8 x]
instance instFlatPByteS : FlatP ByteS.cs 1 := ⟨fun _ => rfl, fun _ d => by cases d <;> rfl, fun _ => rfl, fun _ => rfl⟩
theorem ByteS.csl (a : Int) : (ByteS.cs a).length = 1 := rfl
abbrev ByteS.ok (x : Int) : Prop := u8R x
abbrev ByteS.sl (L : List Int) : V := .sl L.length 1 (Go.Lv.rows ByteS.cs L)

end Go.Proofs
end
section
set_option maxRecDepth 100000
set_option maxHeartbeats 2000000
namespace Go.Proofs
open Go.Lv
theorem rBig_ok (L : List Int) : Ctr Try.prog 12 [ByteS.sl L] [] (.bool (decide (65536 < (L.length : Int)))) [] := by
 refine Ctr.intro Try.mixed Try.func12 rfl Try.okF12 ?_
 simp -implicitDefEqProofs -dsimp only [go_sem, Try.ntmps12, Try.results12]
 (repeat ((repeat1' (first | simp -implicitDefEqProofs -dsimp only [go_sem] | simp -dsimp (disch := omega) only [wrap_i64])); repeat (with_reducible refine sideA ?_)))
 exact WeakR.drop' rfl (by rfl)
theorem rBends_ok (L : List Bend) (hl : L.length ≤ 1048576) : Ctr Try.prog 44 [Bend.sl L, Bend.sl L] [] (.bool true) [] := by
 refine Ctr.intro Try.mixed Try.func44 rfl Try.okF44 ?_
 simp -implicitDefEqProofs -dsimp only [go_sem, Try.ntmps44, Try.results44]
 (repeat ((repeat1' (first | simp -implicitDefEqProofs -dsimp only [go_sem] | simp -dsimp (disch := omega) only [wrap_i64])); repeat (with_reducible refine sideA ?_)))
 refine LoopT.intro (fun i : Nat => i ≤ L.length) (fun i => ⟨[Bend.sl L, Bend.sl L, .undef, .undef, .undef, .int .i64 i, .undef, .undef, .undef, .undef, .undef, .undef, .undef, .undef, .undef, .undef, .undef, .undef, .undef, .undef, .undef, .undef, .undef, .undef, .undef, .undef], [], 0⟩) (fun i => L.length - i) 0 (Nat.zero_le _) ?_ (fun i hi => ?_)
 · refine Weak.cut (0) (by simp) (by simp) ?_ ?_
   · simp [LeC, LeV, ren, cutF]
   · rfl
 simp -implicitDefEqProofs -dsimp only [go_sem]
 refine condT.split (fun h1 => ?_) (fun h1 => ?_)
 · have hi' : i < L.length := by simpa using h1
   have hr := rows_at Bend.csl hi'
   have hx : (L[i].X == L[i].X) = true := beq_self_eq_true _
   have hy : (L[i].Y == L[i].Y) = true := beq_self_eq_true _
   (repeat ((repeat1' (first | simp -implicitDefEqProofs -dsimp only [go_sem, h1, hr, Bend.cs, hx, hy] | simp -dsimp (disch := omega) only [wrap_i64])); repeat (with_reducible refine sideA ?_)))
   refine ⟨i + 1, hi', ?_, by omega⟩
   refine Weak.cut (0) (by simp) (by simp) ?_ ?_
   · simp [LeC, LeV, ren, cutF]
   · rfl
 · (repeat ((repeat1' (first | simp -implicitDefEqProofs -dsimp only [go_sem, h1] | simp -dsimp (disch := omega) only [wrap_i64])); repeat (with_reducible refine sideA ?_)))
   exact WeakR.drop' rfl (by rfl)
theorem rFault_ok (f : Fault) (hl : f.Bends.length ≤ 1048576) : Ctr Try.prog 16 [f.v, f.v] [] (.bool true) [] := by
 have h1 : (f.Id == f.Id) = true := beq_self_eq_true _
 have h2 : (f.Name.toList == f.Name.toList) = true := beq_self_eq_true _
 have h3 : (f.Slip == f.Slip) = true := beq_self_eq_true _
 refine Ctr.intro Try.mixed Try.func16 rfl Try.okF16 ?_
 simp -implicitDefEqProofs -dsimp only [go_sem, Try.ntmps16, Try.results16]
 (repeat ((repeat1' (first | simp -implicitDefEqProofs -dsimp only [go_sem, Fault.v, h1, h2, h3] | simp -dsimp (disch := omega) only [wrap_i64])); repeat (with_reducible refine sideA ?_)))
 (first | refine callT.at (rBends_ok f.Bends hl) ⟨leA, leA, trivial⟩ ?_ | refine callS.at (rBends_ok f.Bends hl) ⟨leA, leA, trivial⟩ ?_)
 (repeat ((repeat1' (first | simp -implicitDefEqProofs -dsimp only [go_sem] | simp -dsimp (disch := omega) only [wrap_i64])); repeat (with_reducible refine sideA ?_)))
 exact WeakR.drop' rfl (by rfl)
theorem rFaults_ok (L : List Fault) (hL : ∀ f ∈ L, f.Bends.length ≤ 1048576) (hl : L.length ≤ 1048576) : Ctr Try.prog 24 [Fault.sl L, Fault.sl L] [] (.bool true) [] := by
 refine Ctr.intro Try.mixed Try.func24 rfl Try.okF24 ?_
 simp -implicitDefEqProofs -dsimp only [go_sem, Try.ntmps24, Try.results24]
 (repeat ((repeat1' (first | simp -implicitDefEqProofs -dsimp only [go_sem] | simp -dsimp (disch := omega) only [wrap_i64])); repeat (with_reducible refine sideA ?_)))
 refine LoopT.intro (fun i : Nat => i ≤ L.length) (fun i => ⟨[Fault.sl L, Fault.sl L, .undef, .undef, .undef, .int .i64 i, .undef, .undef, .undef, .undef, .undef, .undef, .undef, .undef, .undef, .undef, .undef, .undef, .undef, .undef, .undef, .undef, .undef, .undef, .undef, .undef, .undef], [], 0⟩) (fun i => L.length - i) 0 (Nat.zero_le _) ?_ (fun i hi => ?_)
 · refine Weak.cut (0) (by simp) (by simp) ?_ ?_
   · simp [LeC, LeV, ren, cutF]
   · rfl
 simp -implicitDefEqProofs -dsimp only [go_sem]
 refine condT.split (fun h1 => ?_) (fun h1 => ?_)
 · have hi' : i < L.length := by simpa using h1
   have hr := rows_at Fault.csl hi'
   (repeat ((repeat1' (first | simp -implicitDefEqProofs -dsimp only [go_sem, h1, hr, Fault.cs] | simp -dsimp (disch := omega) only [wrap_i64])); repeat (with_reducible refine sideA ?_)))
   (first | refine callT.at (rFault_ok L[i] (hL _ (List.getElem_mem hi'))) ⟨leA, leA, trivial⟩ ?_ | refine callS.at (rFault_ok L[i] (hL _ (List.getElem_mem hi'))) ⟨leA, leA, trivial⟩ ?_)
   (repeat ((repeat1' (first | simp -implicitDefEqProofs -dsimp only [go_sem] | simp -dsimp (disch := omega) only [wrap_i64])); repeat (with_reducible refine sideA ?_)))
   refine ⟨i + 1, hi', ?_, by omega⟩
   refine Weak.cut (0) (by simp) (by simp) ?_ ?_
   · simp [LeC, LeV, ren, cutF]
   · rfl
 · (repeat ((repeat1' (first | simp -implicitDefEqProofs -dsimp only [go_sem, h1] | simp -dsimp (disch := omega) only [wrap_i64])); repeat (with_reducible refine sideA ?_)))
   exact WeakR.drop' rfl (by rfl)
end Go.Proofs
end
section
set_option maxRecDepth 100000
namespace Go.Proofs
open Go.Lv
def IntS.cs (x : Int) : List V := [.int .i64 x]
instance : FlatP IntS.cs 1 := ⟨fun _ => rfl, fun _ d => by cases d <;> rfl, fun _ => rfl, fun _ => rfl⟩
theorem IntS.csl (a : Int) : (IntS.cs a).length = 1 := rfl
abbrev IntS.ok (x : Int) : Prop := i64R x
abbrev IntS.sl (L : List Int) : V := .sl L.length 1 (Go.Lv.rows IntS.cs L)
abbrev IntS.zs : List V := [.int .i64 0]
def IntS.marks (k : Int) (n : Nat) : List Int := (List.range n).map fun i : Nat => k + (i : Int)
@[simp] theorem IntS.marks_len (k : Int) (n : Nat) : (IntS.marks k n).length = n := by simp [IntS.marks]
abbrev IntS.v (x : Int) : V := .int .i64 x
end Go.Proofs
end
section
set_option maxRecDepth 100000
set_option maxHeartbeats 1000000
namespace Go.Proofs
open Go.Lv
structure Cur where
 a : Int
 s : Int
def Cur.cs (B : List Int) (c : Cur) : List V := [ByteS.sl B, .int .i64 c.a, .int .u64 c.s]
def CB (B : List Int) : Prop := lstR u8R B
def Cur.le (c : Cur) (k : Int) : Prop := 0 ≤ c.a ∧ c.a ≤ k
theorem Cur.ren (B : List Int) (c : Cur) (f : Nat → R) (d : Nat) : (c.cs B).map (Go.Lv.ren f d) = c.cs B := by cases d <;> simp [Cur.cs, Go.Lv.ren]
theorem lendCur {B : List Int} {c : Cur} {h : Hp} {id : Nat} (hid : h[id]? = some (some (c.cs B))) : pickH [id] h false = [some (c.cs B)] := by
 simp only [pickH, List.map_cons, List.map_nil, pickB, hid, Cur.ren]
theorem lendCur2 {α : Type} {cs : α → List V} {w : Nat} [FlatP cs w] {L : List α} {B : List Int} {c : Cur} {h : Hp} {i j : Nat} (hi : h[i]? = some (some (c.cs B))) (hj : h[j]? = some (some (rows cs L))) : pickH [i, j] h false = [some (c.cs B), some (rows cs L)] := by
 simp only [pickH, List.map_cons, List.map_nil, pickB, hi, hj, Cur.ren, map_ren_rows]
theorem growCur (B : List Int) (c c' : Cur) : grown [some (c.cs B)] [some (c'.cs B)] := ⟨⟨rfl, rfl⟩, trivial⟩
theorem growCur2 {α : Type} {cs : α → List V} {L : List α} (B : List Int) (c c' : Cur) : grown [some (c.cs B), some (rows cs L)] [some (c'.cs B), some (rows cs L)] := ⟨⟨rfl, rfl⟩, ⟨rfl, rfl⟩, trivial⟩
theorem andI_255 (x : Int) : 0 ≤ andI .u64 x 255 ∧ andI .u64 x 255 ≤ 255 := by
 have h : ∀ y : BitVec 64, (y &&& BitVec.ofInt 64 255).toNat ≤ 255 := fun y => by
   rw [BitVec.toNat_and]
   exact Nat.le_trans Nat.and_le_right (by decide)
 have hb : (BitVec.ofInt 64 x &&& BitVec.ofInt 64 255).toNat ≤ 255 := h _
 have hw : andI .u64 x 255 = (((BitVec.ofInt 64 x &&& BitVec.ofInt 64 255).toNat : Nat) : Int) := by
   unfold andI
   show IntKind.u64.wrap (((BitVec.ofInt 64 x &&& BitVec.ofInt 64 255).toNat : Nat) : Int) = _
   generalize (BitVec.ofInt 64 x &&& BitVec.ofInt 64 255).toNat = n at hb
   simp [IntKind.wrap, IntKind.bits, IntKind.signed]
   omega
 rw [hw]
 omega
def nextB (B : List Int) (c : Cur) : Int := if c.a < B.length then B.getD c.a.toNat 0 else 0
def nextS (B : List Int) (c : Cur) : Int := IntKind.u64.wrap (IntKind.u64.wrap (IntKind.u64.wrap (c.s * 6364136223846793005) + IntKind.u64.wrap (nextB B c)) + 101717)
def nextC (B : List Int) (c : Cur) : Cur := ⟨c.a + 1, nextS B c⟩
def nextV (B : List Int) (c : Cur) : Int := if c.a < B.length then nextB B c else andI .u64 (shrI .u64 (nextS B c) 40) 255
theorem nextB_bd {B : List Int} (hB : CB B) {c : Cur} (h : 0 ≤ c.a) : 0 ≤ nextB B c ∧ nextB B c ≤ 255 := by
 unfold nextB
 split
 · have hi : c.a.toNat < B.length := by omega
   have := hB.2 _ (List.getElem_mem hi)
   simpa [List.getD, hi, u8R] using this
 · omega
theorem nextV_bd {B : List Int} (hB : CB B) {c : Cur} (h : 0 ≤ c.a) : 0 ≤ nextV B c ∧ nextV B c ≤ 255 := by
 unfold nextV
 split
 · exact nextB_bd hB h
 · exact andI_255 _
theorem next_ok {B : List Int} (hB : CB B) {c : Cur} (hc : c.le 4611686018427387904) : Ctr Try.prog 84 [.ptr 0 0] [some (c.cs B)] (.int .i64 (nextV B c)) [some ((nextC B c).cs B)] := by
 obtain ⟨a, s⟩ := c
 obtain ⟨ha, hak⟩ := hc
 dsimp only at ha hak
 have hw : IntKind.i64.wrap (a + 1) = a + 1 := wrap_i64 (by omega) (by omega)
 have hbl := hB.1
 by_cases h1 : a < B.length
 · obtain ⟨i, rfl⟩ : ∃ i : Nat, a = i := ⟨a.toNat, by omega⟩
   have hi : i < B.length := by omega
   have hr := rows_at ByteS.csl hi
   obtain ⟨b0, b1⟩ : 0 ≤ B[i] ∧ B[i] ≤ 255 := by have := hB.2 _ (List.getElem_mem hi); simpa [u8R] using this
   have hwb : IntKind.i64.wrap B[i] = B[i] := wrap_i64 (by omega) (by omega)
   have hd : decide ((i : Int) < (B.length : Int)) = true := by simp; omega
   have hd2 : decide ((i : Int) + 1 ≤ (B.length : Int)) = true := by simp; omega
   have e1 : nextB B ⟨i, s⟩ = B[i] := by simp [nextB, h1, List.getD, hi]
   have e2 : nextV B ⟨i, s⟩ = B[i] := by simp [nextV, h1, e1]
   rw [nextC, nextS, e1, e2]
   refine Ctr.intro Try.mixed Try.func84 rfl Try.okF84 ?_
   simp -implicitDefEqProofs -dsimp only [go_sem, Try.ntmps84, Try.results84]
   (repeat ((repeat1' (first | simp -implicitDefEqProofs -dsimp only [go_sem, Cur.cs, hw, hd, hd2, hr, ByteS.cs, hwb] | simp -dsimp (disch := omega) only [wrap_i64])); repeat (with_reducible refine sideA ?_)))
   exact WeakR.refl _ _ _
 · have hd : decide (a < (B.length : Int)) = false := by simp; omega
   have hd2 : decide (a + 1 ≤ (B.length : Int)) = false := by simp; omega
   have e3 : nextV B ⟨a, s⟩ = andI .u64 (shrI .u64 (nextS B ⟨a, s⟩) 40) 255 := by simp [nextV, h1]
   have e4 : nextB B ⟨a, s⟩ = 0 := by simp [nextB, h1]
   rw [nextC, e3]
   rw [nextS, e4]
   obtain ⟨e1, e2⟩ := andI_255 (shrI .u64 (IntKind.u64.wrap (IntKind.u64.wrap (IntKind.u64.wrap (s * 6364136223846793005) + IntKind.u64.wrap 0) + 101717)) 40)
   generalize hq : andI .u64 (shrI .u64 (IntKind.u64.wrap (IntKind.u64.wrap (IntKind.u64.wrap (s * 6364136223846793005) + IntKind.u64.wrap 0) + 101717)) 40) 255 = q at e1 e2 ⊢
   have hwq : IntKind.i64.wrap q = q := wrap_i64 (by omega) (by omega)
   refine Ctr.intro Try.mixed Try.func84 rfl Try.okF84 ?_
   simp -implicitDefEqProofs -dsimp only [go_sem, Try.ntmps84, Try.results84]
   (repeat ((repeat1' (first | simp -implicitDefEqProofs -dsimp only [go_sem, Cur.cs, hw, hd, hd2, hq] | simp -dsimp (disch := omega) only [wrap_i64])); repeat (with_reducible refine sideA ?_)))
   exact WeakR.refl _ _ _
def pickV (B : List Int) (n : Int) (c : Cur) : Int := if n ≤ 1 then 0 else if 200 < n then (nextV B c * 256 + nextV B (nextC B c)).tmod n else (nextV B c).tmod n
def pickC (B : List Int) (n : Int) (c : Cur) : Cur := if n ≤ 1 then c else if 200 < n then nextC B (nextC B c) else nextC B c
theorem pickC_le {B : List Int} {n k : Int} {c : Cur} (h : c.le k) : (pickC B n c).le (k + 2) := by
 unfold pickC nextC Cur.le at *
 split
 · omega
 · split <;> (simp only []; omega)
theorem pickV_bd {B : List Int} (hB : CB B) {n : Int} {c : Cur} (h : 0 ≤ c.a) : 0 ≤ pickV B n c ∧ (1 ≤ n → pickV B n c < n) := by
 have h1 := nextV_bd hB h
 have h2 := nextV_bd hB (c := nextC B c) (by simp [nextC]; omega)
 unfold pickV
 split
 · omega
 · split
   · exact ⟨Int.tmod_nonneg _ (by omega), fun _ => Int.tmod_lt_of_pos _ (by omega)⟩
   · exact ⟨Int.tmod_nonneg _ (by omega), fun _ => Int.tmod_lt_of_pos _ (by omega)⟩
theorem pick_ok {B : List Int} (hB : CB B) {c : Cur} (hc : c.le 4611686018427387903) (n : Int) (hn : n ≤ 1000000000) : Ctr Try.prog 61 [.ptr 0 0, .int .i64 n] [some (c.cs B)] (.int .i64 (pickV B n c)) [some ((pickC B n c).cs B)] := by
 obtain ⟨r1, r2⟩ := nextV_bd hB hc.1
 have hc1 : (nextC B c).le 4611686018427387904 := by obtain ⟨h, h'⟩ := hc; exact ⟨by simp [nextC]; omega, by simp [nextC]; omega⟩
 obtain ⟨q1, q2⟩ := nextV_bd hB hc1.1
 have p4 := next_ok hB (c := c) ⟨hc.1, by have := hc.2; omega⟩
 have q4 := next_ok hB hc1
 by_cases h1 : n ≤ 1
 · have hd : decide (n ≤ 1) = true := by simp [h1]
   rw [pickV, pickC, if_pos h1, if_pos h1]
   refine Ctr.intro Try.mixed Try.func61 rfl Try.okF61 ?_
   simp -implicitDefEqProofs -dsimp only [go_sem, Try.ntmps61, Try.results61]
   (repeat ((repeat1' (first | simp -implicitDefEqProofs -dsimp only [go_sem, hd] | simp -dsimp (disch := omega) only [wrap_i64])); repeat (with_reducible refine sideA ?_)))
   exact WeakR.refl _ _ _
 have hd : decide (n ≤ 1) = false := by simp; omega
 by_cases h2 : 200 < n
 · have hd2 : decide (200 < n) = true := by simp [h2]
   have hw : IntKind.i64.wrap (nextV B c * 256) = nextV B c * 256 := wrap_i64 (by omega) (by omega)
   have hw2 : IntKind.i64.wrap (nextV B c * 256 + nextV B (nextC B c)) = nextV B c * 256 + nextV B (nextC B c) := wrap_i64 (by omega) (by omega)
   rw [pickV, pickC, if_neg h1, if_neg h1, if_pos h2, if_pos h2]
   refine Ctr.intro Try.mixed Try.func61 rfl Try.okF61 ?_
   simp -implicitDefEqProofs -dsimp only [go_sem, Try.ntmps61, Try.results61]
   (repeat ((repeat1' (first | simp -implicitDefEqProofs -dsimp only [go_sem, hd] | simp -dsimp (disch := omega) only [wrap_i64])); repeat (with_reducible refine sideA ?_)))
   refine callS.lend [0] false p4 (by decide) ⟨leO, trivial⟩ (lendCur rfl) (growCur B _ _) (.inl rfl) ?_
   (repeat ((repeat1' (first | simp -implicitDefEqProofs -dsimp only [go_sem, hd2, hw, Cur.ren] | simp -dsimp (disch := omega) only [wrap_i64])); repeat (with_reducible refine sideA ?_)))
   refine callS.lend [0] false q4 (by decide) ⟨leO, trivial⟩ (lendCur rfl) (growCur B _ _) (.inl rfl) ?_
   (repeat ((repeat1' (first | simp -implicitDefEqProofs -dsimp only [go_sem, hw2, Cur.ren] | simp -dsimp (disch := omega) only [wrap_i64])); repeat (with_reducible refine sideA ?_)))
   exact WeakR.refl _ _ _
 · have hd2 : decide (200 < n) = false := by simp [h2]
   rw [pickV, pickC, if_neg h1, if_neg h1, if_neg h2, if_neg h2]
   refine Ctr.intro Try.mixed Try.func61 rfl Try.okF61 ?_
   simp -implicitDefEqProofs -dsimp only [go_sem, Try.ntmps61, Try.results61]
   (repeat ((repeat1' (first | simp -implicitDefEqProofs -dsimp only [go_sem, hd] | simp -dsimp (disch := omega) only [wrap_i64])); repeat (with_reducible refine sideA ?_)))
   refine callS.lend [0] false p4 (by decide) ⟨leO, trivial⟩ (lendCur rfl) (growCur B _ _) (.inl rfl) ?_
   (repeat ((repeat1' (first | simp -implicitDefEqProofs -dsimp only [go_sem, hd2, Cur.ren] | simp -dsimp (disch := omega) only [wrap_i64])); repeat (with_reducible refine sideA ?_)))
   exact WeakR.refl _ _ _
theorem pick_call {B : List Int} (hB : CB B) {c : Cur} {k : Int} (hc : c.le k) (hk : k ≤ 4000000) (n : Int) (hn : n ≤ 1000000000) {t : List V} {h : Hp} {kk : Nat} {dst : Option Tmp} {Q : St → Prop} {x : Tag Q} {ci : Nat} (h0 : h[ci]? = some (some (c.cs B)))
   (hq : ∀ (v : Int) (c' : Cur), (0 ≤ v ∧ (1 ≤ n → v < n)) → c'.le (k + 2) → Q (afterM ⟨t, h, kk⟩ dst [ci] (.int .i64 v) [some (c'.cs B)])) : callS Try.prog ⟨t, h, kk⟩ dst (.fn (.func 61) [] []) [.ptr ci 0, .int .i64 n] Q x :=
 callS.lend [ci] false (pick_ok hB ⟨hc.1, by have := hc.2; omega⟩ n hn) (by simp) ⟨by simp [ren, pickF, posOf, LeV], leO, trivial⟩ (lendCur h0) (growCur B _ _) (.inl rfl) (hq _ _ (pickV_bd hB hc.1) (pickC_le hc))
def oneV (B : List Int) (n : Int) (c : Cur) : Bool := pickV B n c == 0
theorem one_ok {B : List Int} (hB : CB B) {c : Cur} (hc : c.le 4611686018427387903) (n : Int) (hn : n ≤ 1000000000) : Ctr Try.prog 60 [.ptr 0 0, .int .i64 n] [some (c.cs B)] (.bool (oneV B n c)) [some ((pickC B n c).cs B)] := by
 refine Ctr.intro Try.mixed Try.func60 rfl Try.okF60 ?_
 simp -implicitDefEqProofs -dsimp only [go_sem, Try.ntmps60, Try.results60]
 (repeat ((repeat1' (first | simp -implicitDefEqProofs -dsimp only [go_sem] | simp -dsimp (disch := omega) only [wrap_i64])); repeat (with_reducible refine sideA ?_)))
 refine callS.lend [0] false (pick_ok hB hc n hn) (by decide) ⟨leO, leO, trivial⟩ (lendCur rfl) (growCur B _ _) (.inl rfl) ?_
 (repeat ((repeat1' (first | simp -implicitDefEqProofs -dsimp only [go_sem, Cur.ren] | simp -dsimp (disch := omega) only [wrap_i64])); repeat (with_reducible refine sideA ?_)))
 exact WeakR.refl _ _ _
theorem one_call {B : List Int} (hB : CB B) {c : Cur} {k : Int} (hc : c.le k) (hk : k ≤ 4000000) (n : Int) (hn : n ≤ 1000000000) {t : List V} {h : Hp} {kk : Nat} {dst : Option Tmp} {Q : St → Prop} {x : Tag Q} {ci : Nat} (h0 : h[ci]? = some (some (c.cs B)))
   (hq : ∀ (v : Bool) (c' : Cur), c'.le (k + 2) → Q (afterM ⟨t, h, kk⟩ dst [ci] (.bool v) [some (c'.cs B)])) : callS Try.prog ⟨t, h, kk⟩ dst (.fn (.func 60) [] []) [.ptr ci 0, .int .i64 n] Q x :=
 callS.lend [ci] false (one_ok hB ⟨hc.1, by have := hc.2; omega⟩ n hn) (by simp) ⟨by simp [ren, pickF, posOf, LeV], leO, trivial⟩ (lendCur h0) (growCur B _ _) (.inl rfl) (hq _ _ (pickC_le hc))
def amongV (B : List Int) (K : List Int) (c : Cur) : Int := K.getD (pickV B K.length c).toNat 0
theorem amongV_mem {B : List Int} (hB : CB B) {K : List Int} (hK : 0 < K.length) {c : Cur} (h : 0 ≤ c.a) : amongV B K c ∈ K := by
 obtain ⟨h1, h2⟩ := pickV_bd hB (n := K.length) h
 have hi : (pickV B K.length c).toNat < K.length := by omega
 simp [amongV, List.getD, hi]
theorem among_ok {B : List Int} (hB : CB B) {c : Cur} (hc : c.le 4611686018427387903) (K : List Int) (hK0 : 0 < K.length) (hK : K.length ≤ 1000000000) : Ctr Try.prog 64 [.ptr 0 0, .osl 1 0 K.length 1] [some (c.cs B), some (rows IntS.cs K)] (.int .i64 (amongV B K c)) [some ((pickC B K.length c).cs B), some (rows IntS.cs K)] := by
 obtain ⟨h1, h2⟩ := pickV_bd hB (n := K.length) hc.1
 obtain ⟨i, hi'⟩ : ∃ i : Nat, pickV B K.length c = i := ⟨(pickV B K.length c).toNat, by omega⟩
 have hi : i < K.length := by omega
 have hr := rows_at IntS.csl hi
 have e : amongV B K c = K[i] := by simp [amongV, hi', List.getD, hi]
 have hp := pick_ok hB hc K.length (by omega)
 rw [hi'] at hp
 rw [e]
 refine Ctr.intro Try.mixed Try.func64 rfl Try.okF64 ?_
 simp -implicitDefEqProofs -dsimp only [go_sem, Try.ntmps64, Try.results64]
 (repeat ((repeat1' (first | simp -implicitDefEqProofs -dsimp only [go_sem] | simp -dsimp (disch := omega) only [wrap_i64])); repeat (with_reducible refine sideA ?_)))
 refine callS.lend [0] false hp (by decide) ⟨leO, leO, trivial⟩ (lendCur rfl) (growCur B _ _) (.inl rfl) ?_
 (repeat ((repeat1' (first | simp -implicitDefEqProofs -dsimp only [go_sem, Cur.ren, hr, IntS.cs] | simp -dsimp (disch := omega) only [wrap_i64])); repeat (with_reducible refine sideA ?_)))
 exact WeakR.refl _ _ _
theorem among_call {B : List Int} (hB : CB B) {c : Cur} {k : Int} (hc : c.le k) (hk : k ≤ 4000000) (K : List Int) (hK0 : 0 < K.length) (hK : K.length ≤ 1000000000) {t : List V} {h : Hp} {kk : Nat} {dst : Option Tmp} {Q : St → Prop} {x : Tag Q} {ci : Nat} (h0 : h[ci]? = some (some (c.cs B))) {i : Nat} (h1 : h[i]? = some (some (rows IntS.cs K))) (hne : (ci == i) = false)
   (hq : ∀ (v : Int) (c' : Cur), v ∈ K → c'.le (k + 2) → Q (afterM ⟨t, h, kk⟩ dst [ci, i] (.int .i64 v) [some (c'.cs B), some (rows IntS.cs K)])) : callS Try.prog ⟨t, h, kk⟩ dst (.fn (.func 64) [] []) [.ptr ci 0, .osl i 0 K.length 1] Q x := by
 have hn : ci ≠ i := by simpa using hne
 have hn' : (i == ci) = false := by simpa using Ne.symm hn
 exact callS.lend [ci, i] false (among_ok hB ⟨hc.1, by have := hc.2; omega⟩ K hK0 hK) (by simp [hn]) ⟨by simp [ren, pickF, posOf, LeV], by simp [ren, pickF, posOf, LeV, Ne.symm hn], trivial⟩ (lendCur2 h0 h1) (growCur2 B _ _) (.inl rfl) (hq _ _ (amongV_mem hB hK0 hc.1) (pickC_le hc))
end Go.Proofs
end
section
set_option maxRecDepth 100000
namespace Go.Proofs
open Go.Lv
structure QuakeRow where
 Id : Int
 Tick : Int
 X : Int
 Y : Int
 Deep : Int
 Size : Int
 Grade : Int
def QuakeRow.cs (r : QuakeRow) : List V := [.int .i64 r.Id, .int .i64 r.Tick, .int .i64 r.X, .int .i64 r.Y, .int .i64 r.Deep, .int .i64 r.Size, .int .i64 r.Grade]
def QuakeRow.v (r : QuakeRow) : V := .agg [.int .i64 r.Id, .int .i64 r.Tick, .int .i64 r.X, .int .i64 r.Y, .int .i64 r.Deep, .int .i64 r.Size, .int .i64 r.Grade]
theorem QuakeRow.csl (a : QuakeRow) : a.cs.length = 7 := rfl
instance : FlatP QuakeRow.cs 7 := ⟨fun _ => rfl, fun _ d => by cases d <;> rfl, fun _ => rfl, fun _ => rfl⟩
def QuakeRow.ok (r : QuakeRow) : Prop := i64R r.Id ∧ i64R r.Tick ∧ i64R r.X ∧ i64R r.Y ∧ i64R r.Deep ∧ i64R r.Size ∧ i64R r.Grade
abbrev QuakeRow.rows (L : List QuakeRow) : List V := Go.Lv.rows QuakeRow.cs L
abbrev QuakeRow.sl (L : List QuakeRow) : V := .sl L.length 7 (Go.Lv.rows QuakeRow.cs L)
abbrev QuakeRow.zs : List V := [.int .i64 0, .int .i64 0, .int .i64 0, .int .i64 0, .int .i64 0, .int .i64 0, .int .i64 0]
def QuakeRow.mk1 (k : Int) : QuakeRow := ⟨k, k + 1, k + 1 + 1, k + 1 + 1 + 1, k + 1 + 1 + 1 + 1, k + 1 + 1 + 1 + 1 + 1, k + 1 + 1 + 1 + 1 + 1 + 1⟩
def QuakeRow.marks (k : Int) (n : Nat) : List QuakeRow := (List.range n).map fun i : Nat => QuakeRow.mk1 (k + 7 * (i : Int))
@[simp] theorem QuakeRow.marks_len (k : Int) (n : Nat) : (QuakeRow.marks k n).length = n := by simp [QuakeRow.marks]
end Go.Proofs
end
section
set_option maxRecDepth 100000
set_option maxHeartbeats 2000000
namespace Go.Proofs
open Go.Lv
def amongNV (B : List Int) (K : List Int) (n : Nat) (c : Cur) : Int := K.getD (pickV B n c).toNat 0
theorem amongNV_mem {B : List Int} (hB : CB B) {K : List Int} {n : Nat} (hn : 0 < n) (hK : n ≤ K.length) {c : Cur} (h : 0 ≤ c.a) : amongNV B K n c ∈ K := by
 obtain ⟨h1, h2⟩ := pickV_bd hB (n := n) h
 have hi : (pickV B n c).toNat < K.length := by omega
 simp [amongNV, List.getD, hi]
theorem amongN_ok {B : List Int} (hB : CB B) {c : Cur} (hc : c.le 4611686018427387903) (K : List Int) {n : Nat} (hn : 0 < n) (hK0 : n ≤ K.length) (hK : K.length ≤ 1000000000) : Ctr Try.prog 64 [.ptr 0 0, .osl 1 0 n 1] [some (c.cs B), some (rows IntS.cs K)] (.int .i64 (amongNV B K n c)) [some ((pickC B n c).cs B), some (rows IntS.cs K)] := by
 obtain ⟨h1, h2⟩ := pickV_bd hB (n := n) hc.1
 obtain ⟨i, hi'⟩ : ∃ i : Nat, pickV B n c = i := ⟨(pickV B n c).toNat, by omega⟩
 have hi : i < K.length := by omega
 have hin : decide ((i : Int) < (n : Int)) = true := decide_eq_true (by omega)
 have hr := rows_at IntS.csl hi
 have e : amongNV B K n c = K[i] := by simp [amongNV, hi', List.getD, hi]
 have hp := pick_ok hB hc n (by omega)
 rw [hi'] at hp
 rw [e]
 refine Ctr.intro Try.mixed Try.func64 rfl Try.okF64 ?_
 simp -implicitDefEqProofs -dsimp only [go_sem, Try.ntmps64, Try.results64]
 (repeat ((repeat1' (first | simp -implicitDefEqProofs -dsimp only [go_sem] | simp -dsimp (disch := omega) only [wrap_i64])); repeat (with_reducible refine sideA ?_)))
 refine callS.lend [0] false hp (by decide) ⟨leO, leO, trivial⟩ (lendCur rfl) (growCur B _ _) (.inl rfl) ?_
 (repeat ((repeat1' (first | simp -implicitDefEqProofs -dsimp only [go_sem, Cur.ren, hr, IntS.cs] | simp -dsimp (disch := omega) only [wrap_i64])); repeat (with_reducible refine sideA ?_)))
 exact WeakR.refl _ _ _
theorem lmonoQ {c : Cur} {a b : Int} (h : c.le a) (hab : a ≤ b) : c.le b := ⟨h.1, Int.le_trans h.2 hab⟩
end Go.Proofs
end
section
set_option maxRecDepth 100000
namespace Go.Proofs
open Go.Lv
def StringS.cs (x : ByteArray) : List V := [.str x]
instance : FlatP StringS.cs 1 := ⟨fun _ => rfl, fun _ d => by cases d <;> rfl, fun _ => rfl, fun _ => rfl⟩
theorem StringS.csl (a : ByteArray) : (StringS.cs a).length = 1 := rfl
abbrev StringS.ok (x : ByteArray) : Prop := strR x
abbrev StringS.sl (L : List ByteArray) : V := .sl L.length 1 (Go.Lv.rows StringS.cs L)
abbrev StringS.zs : List V := [.str ByteArray.empty]
abbrev StringS.v (x : ByteArray) : V := .str x
end Go.Proofs
end
section
set_option maxRecDepth 100000
set_option maxHeartbeats 2000000
namespace Go.Proofs
open Go.Lv
def ofV (B : List Int) (K : List ByteArray) (c : Cur) : ByteArray := K.getD (pickV B K.length c).toNat ByteArray.empty
theorem ofV_mem {B : List Int} (hB : CB B) {K : List ByteArray} (hK : 0 < K.length) {c : Cur} (h : 0 ≤ c.a) : ofV B K c ∈ K := by
 obtain ⟨h1, h2⟩ := pickV_bd hB (n := K.length) h
 have hi : (pickV B K.length c).toNat < K.length := by omega
 simp [ofV, List.getD, hi]
theorem of_ok {B : List Int} (hB : CB B) {c : Cur} (hc : c.le 4611686018427387903) (K : List ByteArray) (hK0 : 0 < K.length) (hK : K.length ≤ 1000000000) : Ctr Try.prog 85 [.ptr 0 0, .osl 1 0 K.length 1] [some (c.cs B), some (rows StringS.cs K)] (.str (ofV B K c)) [some ((pickC B K.length c).cs B), some (rows StringS.cs K)] := by
 obtain ⟨h1, h2⟩ := pickV_bd hB (n := K.length) hc.1
 obtain ⟨i, hi'⟩ : ∃ i : Nat, pickV B K.length c = i := ⟨(pickV B K.length c).toNat, by omega⟩
 have hi : i < K.length := by omega
 have hr := rows_at StringS.csl hi
 have e : ofV B K c = K[i] := by simp [ofV, hi', List.getD, hi]
 have hp := pick_ok hB hc K.length (by omega)
 rw [hi'] at hp
 rw [e]
 refine Ctr.intro Try.mixed Try.func85 rfl Try.okF85 ?_
 simp -implicitDefEqProofs -dsimp only [go_sem, Try.ntmps85, Try.results85]
 (repeat ((repeat1' (first | simp -implicitDefEqProofs -dsimp only [go_sem] | simp -dsimp (disch := omega) only [wrap_i64])); repeat (with_reducible refine sideA ?_)))
 refine callS.lend [0] false hp (by decide) ⟨leO, leO, trivial⟩ (lendCur rfl) (growCur B _ _) (.inl rfl) ?_
 (repeat ((repeat1' (first | simp -implicitDefEqProofs -dsimp only [go_sem, Cur.ren, hr, StringS.cs] | simp -dsimp (disch := omega) only [wrap_i64])); repeat (with_reducible refine sideA ?_)))
 exact WeakR.refl _ _ _
theorem small_of {K : List ByteArray} {v : ByteArray} (h : v ∈ K) (hk : K.all (fun x => decide (x.size ≤ 100)) = true) : v.size ≤ 100 := by
 have := List.all_eq_true.1 hk v h
 simpa using this
end Go.Proofs
end
section
set_option maxRecDepth 100000
set_option maxHeartbeats 4000000
namespace Go.Proofs
open Go.Lv
def bendP (B : List Int) (k : Int) (r : V) (hout : Hp) : Prop := ∃ (q : Bend) (c : Cur), c.le k ∧ r = q.v ∧ hout = [some (c.cs B)]
theorem bend_fin {B : List Int} {k : Int} {h : Hp} {a b : Int} {c : Cur} (h0 : h[0]? = some (some (c.cs B))) (hc : c.le k) : RelR 1 (.agg [.int .i64 a, .int .i64 b]) h (bendP B k) := by
 refine ⟨_, _, ⟨⟨a, b⟩, c, hc, rfl, rfl⟩, WeakR.pick [0] (by decide) (fun j hj => by cases j <;> simp_all) (.inl rfl) ?_⟩
 simp only [pickH, List.map_cons, List.map_nil, pickB, h0, Cur.ren]
theorem bend_ok {B : List Int} (hB : CB B) {k : Int} (hk : k ≤ 900000) {c : Cur} (hc : c.le k) : CtrP Try.prog 53 [.ptr 0 0] [some (c.cs B)] (bendP B (k + 10)) := by
 have hcb : ∀ {c' : Cur} {k' : Int}, c'.le k' → k' ≤ 4000000 → c'.le 4611686018427387903 := fun h h' => ⟨h.1, by have := h.2; omega⟩
 refine CtrP.intro Try.mixed Try.func53 rfl Try.okF53 ?_
 simp -implicitDefEqProofs -dsimp only [go_sem, Try.ntmps53, Try.results53]
 (repeat ((repeat1' (first | simp -implicitDefEqProofs -dsimp only [go_sem] | simp -dsimp (disch := omega) only [wrap_i64])); repeat (with_reducible refine sideA ?_)))
 refine among_call hB hc (by omega) [0, 1, 2, 3, 4, 6, 999] (by simp) (by simp) rfl rfl rfl (fun vc1 c1 pvc1 hc1 => ?_)
 (repeat ((repeat1' (first | simp -implicitDefEqProofs -dsimp only [go_sem, Cur.ren, map_ren_rows] | simp -dsimp (disch := omega) only [wrap_i64])); repeat (with_reducible refine sideA ?_)))
 refine among_call hB hc1 (by omega) [0, 1, 2, 3, 4, 6, 999] (by simp) (by simp) rfl rfl rfl (fun vc2 c2 pvc2 hc2 => ?_)
 (repeat ((repeat1' (first | simp -implicitDefEqProofs -dsimp only [go_sem, Cur.ren, map_ren_rows] | simp -dsimp (disch := omega) only [wrap_i64])); repeat (with_reducible refine sideA ?_)))
 refine one_call hB hc2 (by omega) 80 (by omega) rfl (fun vc3 c3 hc3 => ?_)
 (repeat ((repeat1' (first | simp -implicitDefEqProofs -dsimp only [go_sem, Cur.ren, map_ren_rows] | simp -dsimp (disch := omega) only [wrap_i64])); repeat (with_reducible refine sideA ?_)))
 refine condT.split (fun h1 => ?_) (fun h1 => ?_) <;> (repeat ((repeat1' (first | simp -implicitDefEqProofs -dsimp only [go_sem, h1] | simp -dsimp (disch := omega) only [wrap_i64])); repeat (with_reducible refine sideA ?_)))
 · refine among_call hB hc3 (by omega) [-1, 1000] (by simp) (by simp) rfl rfl rfl (fun vc4 c4 pvc4 hc4 => ?_)
   (repeat ((repeat1' (first | simp -implicitDefEqProofs -dsimp only [go_sem, Cur.ren, map_ren_rows] | simp -dsimp (disch := omega) only [wrap_i64])); repeat (with_reducible refine sideA ?_)))
   exact bend_fin rfl (lmonoQ hc4 (by omega))
 · exact bend_fin rfl (lmonoQ hc3 (by omega))
def faultOk (f : Fault) : Prop := f.Name.size ≤ 100 ∧ 1 ≤ f.Bends.length ∧ f.Bends.length ≤ 20
def faultP (B : List Int) (k : Int) (r : V) (hout : Hp) : Prop := ∃ (f : Fault) (c : Cur), faultOk f ∧ c.le k ∧ r = f.v ∧ hout = [some (c.cs B)]
def bV : List Bend → V
 | [] => .nilsl
 | b :: l => .osl 3 0 (l.length + 1) 2
def bH : List Bend → Hp
 | [] => []
 | b :: l => [some (rows Bend.cs (b :: l))]
theorem bV_nil : bV [] = .nilsl := rfl
theorem bH_nil : bH [] = [] := rfl
theorem bV_cons (b : Bend) (l : List Bend) : bV (b :: l) = .osl 3 0 (l.length + 1) 2 := rfl
theorem bH_cons (b : Bend) (l : List Bend) : bH (b :: l) = [some (rows Bend.cs (b :: l))] := rfl
theorem bV_snoc (b : Bend) (l : List Bend) (q : Bend) : bV (b :: l ++ [q]) = .osl 3 0 (l.length + 1 + 1) 2 := by simp [bV]
theorem bH_snoc (b : Bend) (l : List Bend) (q : Bend) : bH (b :: l ++ [q]) = [some (rows Bend.cs (b :: l) ++ q.cs)] := by rw [rows_snoc]; rfl
def zF : List V := [.int .i64 0, .str ByteArray.empty, .nilsl, .int .i64 0]
theorem fault_fin {B : List Int} {k : Int} {h : Hp} {i : Nat} {n s : Int} {nm : ByteArray} {L : List Bend} {c : Cur} (h0 : h[0]? = some (some (c.cs B))) (hi : h[i]? = some (some (rows Bend.cs L))) (hne : (i == 0) = false) (hn : nm.size ≤ 100) (hl : 1 ≤ L.length ∧ L.length ≤ 20) (hc : c.le k) : RelR 1 (.agg [.int .i64 n, .str nm, .osl i 0 L.length 2, .int .i64 s]) h (faultP B k) := by
 have hne' : i ≠ 0 := by simpa using hne
 refine ⟨_, _, ⟨⟨n, nm, L, s⟩, c, ⟨hn, hl.1, hl.2⟩, hc, rfl, rfl⟩, WeakR.pick [0] (by decide) (fun j hj => by cases j <;> simp_all) (.inl ?_) ?_⟩
 · simp [Fault.v, ren, pickF, posOf, frzR, hi, hne', Ne.symm hne', take_rows, map_ren_rows]
 · simp only [pickH, List.map_cons, List.map_nil, pickB, h0, Cur.ren]
theorem fault_finT {B : List Int} {k : Int} {h : Hp} {i m : Nat} {n s : Int} {nm : ByteArray} {L : List Bend} {c : Cur} (h0 : h[0]? = some (some (c.cs B))) (hi : h[i]? = some (some (rows Bend.cs L))) (hne : (i == 0) = false) (hn : nm.size ≤ 100) (hm : 1 ≤ m ∧ m ≤ 20) (hl : m ≤ L.length) (hc : c.le k) : RelR 1 (.agg [.int .i64 n, .str nm, .osl i 0 m 2, .int .i64 s]) h (faultP B k) := by
 have hne' : i ≠ 0 := by simpa using hne
 have ht := rows_take Bend.csl L m
 have hlm : (L.take m).length = m := by simp; omega
 refine ⟨_, _, ⟨⟨n, nm, L.take m, s⟩, c, ⟨hn, by rw [hlm]; exact hm.1, by rw [hlm]; exact hm.2⟩, hc, rfl, rfl⟩, WeakR.pick [0] (by decide) (fun j hj => by cases j <;> simp_all) (.inl ?_) ?_⟩
 · simp [Fault.v, ren, pickF, posOf, frzR, hi, hne', Ne.symm hne', map_ren_rows, ht]
   omega
 · simp only [pickH, List.map_cons, List.map_nil, pickB, h0, Cur.ren]
def nthB : Nat → List Bend
 | 0 => []
 | n + 1 => nthB n ++ [⟨n, Int.tmod n 2⟩]
theorem nthB_len : ∀ n, (nthB n).length = n
 | 0 => rfl
 | n + 1 => by rw [nthB, List.length_append, nthB_len n]; rfl
theorem fault_ok {B : List Int} (hB : CB B) {k : Int} (hk : k ≤ 800000) {c : Cur} (hc : c.le k) (id : Int) : CtrP Try.prog 63 [.ptr 0 0, .int .i64 id] [some (c.cs B)] (faultP B (k + 300)) := by
 have hcb : ∀ {c' : Cur} {k' : Int}, c'.le k' → k' ≤ 4000000 → c'.le 4611686018427387903 := fun h h' => ⟨h.1, by have := h.2; omega⟩
 refine CtrP.intro Try.mixed Try.func63 rfl Try.okF63 ?_
 simp -implicitDefEqProofs -dsimp only [go_sem, Try.ntmps63, Try.results63]
 (repeat ((repeat1' (first | simp -implicitDefEqProofs -dsimp only [go_sem] | simp -dsimp (disch := omega) only [wrap_i64])); repeat (with_reducible refine sideA ?_)))
 have pc1 := of_ok hB (hcb hc (by omega)) [⟨#[101, 97, 115, 116]⟩, ⟨#[110, 111, 114, 116, 104]⟩, ⟨#[111, 108, 100]⟩, ⟨#[114, 105, 100, 103, 101]⟩, ⟨#[119, 101, 115, 116]⟩] (by simp) (by simp); have hc1 := pickC_le (B := B) (n := (([⟨#[101, 97, 115, 116]⟩, ⟨#[110, 111, 114, 116, 104]⟩, ⟨#[111, 108, 100]⟩, ⟨#[114, 105, 100, 103, 101]⟩, ⟨#[119, 101, 115, 116]⟩] : List ByteArray).length : Int)) hc; have pvc1 := ofV_mem hB (K := [⟨#[101, 97, 115, 116]⟩, ⟨#[110, 111, 114, 116, 104]⟩, ⟨#[111, 108, 100]⟩, ⟨#[114, 105, 100, 103, 101]⟩, ⟨#[119, 101, 115, 116]⟩]) (by simp) hc.1; generalize ofV B [⟨#[101, 97, 115, 116]⟩, ⟨#[110, 111, 114, 116, 104]⟩, ⟨#[111, 108, 100]⟩, ⟨#[114, 105, 100, 103, 101]⟩, ⟨#[119, 101, 115, 116]⟩] c = vc1 at pc1 pvc1; generalize pickC B (([⟨#[101, 97, 115, 116]⟩, ⟨#[110, 111, 114, 116, 104]⟩, ⟨#[111, 108, 100]⟩, ⟨#[114, 105, 100, 103, 101]⟩, ⟨#[119, 101, 115, 116]⟩] : List ByteArray).length : Int) c = c1 at pc1 hc1; (first | refine callS.lend [0, 1] false pc1 (by decide) ⟨leO, leO, trivial⟩ (lendCur2 rfl rfl) (growCur2 B _ _) (.inl rfl) ?_ | refine callS.lend [0, 2] false pc1 (by decide) ⟨leO, leO, trivial⟩ (lendCur2 rfl rfl) (growCur2 B _ _) (.inl rfl) ?_ | refine callS.lend [0, 3] false pc1 (by decide) ⟨leO, leO, trivial⟩ (lendCur2 rfl rfl) (growCur2 B _ _) (.inl rfl) ?_ | refine callS.lend [0, 4] false pc1 (by decide) ⟨leO, leO, trivial⟩ (lendCur2 rfl rfl) (growCur2 B _ _) (.inl rfl) ?_ | refine callS.lend [0, 5] false pc1 (by decide) ⟨leO, leO, trivial⟩ (lendCur2 rfl rfl) (growCur2 B _ _) (.inl rfl) ?_ | refine callS.lend [0, 6] false pc1 (by decide) ⟨leO, leO, trivial⟩ (lendCur2 rfl rfl) (growCur2 B _ _) (.inl rfl) ?_ | refine callS.lend [0, 7] false pc1 (by decide) ⟨leO, leO, trivial⟩ (lendCur2 rfl rfl) (growCur2 B _ _) (.inl rfl) ?_ | refine callS.lend [0, 8] false pc1 (by decide) ⟨leO, leO, trivial⟩ (lendCur2 rfl rfl) (growCur2 B _ _) (.inl rfl) ?_)
 have hx := small_of pvc1 (by rfl)
 (repeat ((repeat1' (first | simp -implicitDefEqProofs -dsimp only [go_sem, Cur.ren, map_ren_rows] | simp -dsimp (disch := omega) only [wrap_i64])); repeat (with_reducible refine sideA ?_)))
 refine among_call hB hc1 (by omega) [0, 1, 35, 1000] (by simp) (by simp) rfl rfl rfl (fun vc2 c2 pvc2 hc2 => ?_)
 (repeat ((repeat1' (first | simp -implicitDefEqProofs -dsimp only [go_sem, Cur.ren, map_ren_rows] | simp -dsimp (disch := omega) only [wrap_i64])); repeat (with_reducible refine sideA ?_)))
 refine pick_call hB hc2 (by omega) 3 (by omega) rfl (fun vc3 c3 pvc3 hc3 => ?_)
 (repeat ((repeat1' (first | simp -implicitDefEqProofs -dsimp only [go_sem, Cur.ren, map_ren_rows] | simp -dsimp (disch := omega) only [wrap_i64])); repeat (with_reducible refine sideA ?_)))
 obtain ⟨n0, hn0⟩ : ∃ n : Nat, vc3 = n := ⟨vc3.toNat, by omega⟩
 subst hn0
 refine LoopT.intro (fun x : Nat × List Bend × Cur => x.2.1.length + x.1 = n0 + 2 ∧ x.2.2.le (k + 6 + 20 * (4 - (x.1 : Int)))) (fun x => ⟨[.ptr 0 0, .undef, .undef, .undef, .ptr 1 0, .ptr 2 0, .int .i64 x.1, .undef, .undef, .undef, .undef, .undef, .undef, .undef, .undef, .undef, .undef, .undef, .undef, .undef, .undef, .undef, .undef, .undef, .undef, .undef, .undef, .undef, .undef, .undef, .undef, .undef, .undef, .undef, .undef, .undef, .undef, .undef, .undef, .undef, .undef, .undef, .undef, .undef, .undef, .undef, .undef, .undef, .undef, .undef, .undef, .undef, .undef, .undef, .undef, .undef, .undef, .undef, .undef, .undef, .undef, .undef, .undef, .undef, .undef, .undef, .undef, .undef, .undef, .undef, .undef, .undef, .undef, .undef, .undef, .undef, .undef, .undef, .undef, .undef, .undef, .undef, .undef, .undef, .undef, .undef, .undef, .undef, .undef, .undef, .undef, .undef, .undef, .undef, .undef, .undef, .undef, .undef, .undef, .undef, .undef, .undef, .undef, .undef, .undef], some (x.2.2.cs B) :: some zF :: some [.int .i64 id, .str vc1, bV x.2.1, .int .i64 vc2] :: bH x.2.1, 1⟩) (fun x => x.1) (n0 + 2, [], c3) ⟨by simp only [List.length_nil]; omega, lmonoQ hc3 (by simp only []; omega)⟩ ?_ (fun x hx => ?_)
 · refine Weak.pick [0, 1, 4] (by decide) (fun j hj => by cases j <;> simp_all) ?_ ?_
   · simp [LeG, LeC, LeV, ren, pickF, posOf]
     try omega
   · simp [pickH, pickB, Cur.ren, ren, bV, bH, zF]
 obtain ⟨n, L, c4⟩ := x
 obtain ⟨y0, hc4⟩ := hx
 dsimp only at y0 hc4
 simp -implicitDefEqProofs -dsimp only [go_sem]
 refine condT.split (fun h1 => ?_) (fun h1 => ?_)
 · have hn : 0 < n := by have := of_decide_eq_true h1; omega
   have hn1 : ((n - 1 : Nat) : Int) = (n : Int) - 1 := by omega
   cases L with
   | nil =>
     (repeat ((repeat1' (first | simp -implicitDefEqProofs -dsimp only [go_sem, h1, bV_nil, bH_nil] | simp -dsimp (disch := omega) only [wrap_i64])); repeat (with_reducible refine sideA ?_)))
     refine callS.rel [0] (bend_ok hB (by omega) hc4) (by decide) ⟨leO, trivial⟩ (lendCur rfl) rfl (fun r hout hΦ => ?_)
     obtain ⟨q, c5, hc5, rfl, rfl⟩ := hΦ
     refine ⟨⟨⟨rfl, rfl⟩, trivial⟩, ?_⟩
     (repeat ((repeat1' (first | simp -implicitDefEqProofs -dsimp only [go_sem, Cur.ren, Bend.v, map_ren_rows, zF] | simp -dsimp (disch := omega) only [wrap_i64])); repeat (with_reducible refine sideA ?_)))
     refine clT.tree (fun s2 => s2 = ⟨[.ptr 0 0, .undef, .undef, .undef, .ptr 1 0, .ptr 2 0, .int .i64 n, .ptr 3 0, .undef, .undef, .undef, .undef, .undef, .undef, .undef, .undef, .undef, .undef, .undef, .undef, .undef, .undef, .undef, .undef, .undef, .undef, .undef, .undef, .undef, .undef, .undef, .undef, .undef, .undef, .undef, .undef, .undef, .undef, .undef, .undef, .undef, .undef, .undef, .undef, .undef, .undef, .bool false, .undef, .undef, .undef, .undef, .undef, .undef, .undef, .undef, .undef, .undef, .undef, .undef, .undef, .undef, .undef, .undef, .undef, .undef, .undef, .undef, .undef, .undef, .undef, .undef, .undef, .undef, .undef, .undef, .undef, .undef, .undef, .undef, .undef, .undef, .undef, .undef, .undef, .undef, .undef, .undef, .undef, .undef, .undef, .undef, .undef, .undef, .undef, .undef, .undef, .undef, .undef, .undef, .undef, .undef, .undef, .undef, .undef, .undef], [some (c5.cs B), some zF, some [.int .i64 id, .str vc1, .nilsl, .int .i64 vc2], some q.cs], 1⟩) (.take 0 (.alt 1 (.alt 2 (.take 3 (.take 4 (.take 5 (.take 7 (.alt 6 (.alt 8 (.alt 9 (.take 10 (.take 11 (.alt 12 (.alt 13 (.take 14 (.take 15 (.take 16 (.take 17 (.alt 18 (.take 19 (.take 20 .done)) .stop))))) .stop) (.alt 13 (.alt 12 (.take 14 (.take 15 (.take 16 (.take 17 (.alt 18 (.take 19 (.take 20 .done)) .stop))))) .stop) .stop)))) (.alt 13 (.alt 9 (.take 10 (.take 11 (.alt 12 (.take 14 (.take 15 (.take 16 (.take 17 (.alt 18 (.take 19 (.take 20 .done)) .stop))))) .stop))) .stop) .stop)) (.alt 13 (.alt 8 (.alt 9 (.take 10 (.take 11 (.alt 12 (.take 14 (.take 15 (.take 16 (.take 17 (.alt 18 (.take 19 (.take 20 .done)) .stop))))) .stop))) .stop) .stop) .stop)) (.alt 8 (.alt 6 (.alt 9 (.take 10 (.take 11 (.alt 12 (.alt 13 (.take 14 (.take 15 (.take 16 (.take 17 (.alt 18 (.take 19 (.take 20 .done)) .stop))))) .stop) (.alt 13 (.alt 12 (.take 14 (.take 15 (.take 16 (.take 17 (.alt 18 (.take 19 (.take 20 .done)) .stop))))) .stop) .stop)))) (.alt 13 (.alt 9 (.take 10 (.take 11 (.alt 12 (.take 14 (.take 15 (.take 16 (.take 17 (.alt 18 (.take 19 (.take 20 .done)) .stop))))) .stop))) .stop) .stop)) (.alt 9 (.take 10 (.alt 6 (.take 11 (.alt 12 (.alt 13 (.take 14 (.take 15 (.take 16 (.take 17 (.alt 18 (.take 19 (.take 20 .done)) .stop))))) .stop) (.alt 13 (.alt 12 (.take 14 (.take 15 (.take 16 (.take 17 (.alt 18 (.take 19 (.take 20 .done)) .stop))))) .stop) .stop))) (.alt 13 (.alt 6 (.take 11 (.alt 12 (.take 14 (.take 15 (.take 16 (.take 17 (.alt 18 (.take 19 (.take 20 .done)) .stop))))) .stop)) .stop) .stop))) (.alt 13 (.alt 6 (.alt 9 (.take 10 (.take 11 (.alt 12 (.take 14 (.take 15 (.take 16 (.take 17 (.alt 18 (.take 19 (.take 20 .done)) .stop))))) .stop))) .stop) (.alt 9 (.take 10 (.alt 6 (.take 11 (.alt 12 (.take 14 (.take 15 (.take 16 (.take 17 (.alt 18 (.take 19 (.take 20 .done)) .stop))))) .stop)) .stop)) .stop)) .stop))) (.alt 13 (.alt 6 (.alt 8 (.alt 9 (.take 10 (.take 11 (.alt 12 (.take 14 (.take 15 (.take 16 (.take 17 (.alt 18 (.take 19 (.take 20 .done)) .stop))))) .stop))) .stop) .stop) (.alt 8 (.alt 6 (.alt 9 (.take 10 (.take 11 (.alt 12 (.take 14 (.take 15 (.take 16 (.take 17 (.alt 18 (.take 19 (.take 20 .done)) .stop))))) .stop))) .stop) (.alt 9 (.take 10 (.alt 6 (.take 11 (.alt 12 (.take 14 (.take 15 (.take 16 (.take 17 (.alt 18 (.take 19 (.take 20 .done)) .stop))))) .stop)) .stop)) .stop)) .stop)) .stop))))))) .stop) .stop)) (by kernel_rfl) (fun s2 hs2 => ?_) ?_
     · obtain rfl := hs2
       (repeat ((repeat1' (first | simp -implicitDefEqProofs -dsimp only [go_sem, Bend.cs, zF, Cur.ren] | simp -dsimp (disch := omega) only [wrap_i64])); repeat (with_reducible refine sideA ?_)))
       refine ⟨(n - 1, [q], c5), ⟨by simp only [List.length_cons, List.length_nil] at y0 ⊢; omega, lmonoQ hc5 (by simp only []; omega)⟩, ?_, by simp only []; omega⟩
       refine Weak.pick [0, 1, 2, 5] (by decide) (fun j hj => by cases j <;> simp_all) ?_ ?_
       · simp [LeG, LeC, LeV, ren, pickF, posOf, hn1]
       · simp [pickH, pickB, pickF, posOf, Cur.ren, ren, bV_cons, bH_cons, rows, Bend.cs]
     · (repeat ((repeat1' (first | simp -implicitDefEqProofs -dsimp only [go_sem] | simp -dsimp (disch := omega) only [wrap_i64])); repeat (with_reducible refine sideA ?_)))
       repeat' (first | (refine And.intro ?_ ?_) | exact trivial)
       all_goals refine ⟨_, rfl, ?_⟩
       all_goals refine Weak.cut (4) (by simp) (by simp) ?_ ?_
       all_goals first | (simp [LeC, LeV, ren, cutF]; done) | (simp [cutH, cutB, Cur.ren, ren, zF, Bend.cs]; done)
   | cons b l =>
     have hll : l.length < (b :: l).length := by simp
     have hr := rows_at Bend.csl hll
     have hlc : (rows Bend.cs (b :: l)).length = (l.length + 1) * 2 := by rw [rows_length]; rfl
     have hl1 : ((l.length + 1 : Nat) : Int) - 1 = (l.length : Int) := by omega
     have hsn := fun q : Bend => rows_snoc (cs := Bend.cs) (b :: l) q
     have hpos : decide (0 < ((l.length + 1 : Nat) : Int)) = true := decide_eq_true (by omega)
     (repeat ((repeat1' (first | simp -implicitDefEqProofs -dsimp only [go_sem, h1, bV_cons, bH_cons, map_ren_rows] | simp -dsimp (disch := omega) only [wrap_i64])); repeat (with_reducible refine sideA ?_)))
     refine callS.rel [0] (bend_ok hB (by omega) hc4) (by decide) ⟨leO, trivial⟩ (lendCur rfl) rfl (fun r hout hΦ => ?_)
     obtain ⟨q, c5, hc5, rfl, rfl⟩ := hΦ
     refine ⟨⟨⟨rfl, rfl⟩, trivial⟩, ?_⟩
     (repeat ((repeat1' (first | simp -implicitDefEqProofs -dsimp only [go_sem, Cur.ren, Bend.v, map_ren_rows, zF] | simp -dsimp (disch := omega) only [wrap_i64])); repeat (with_reducible refine sideA ?_)))
     refine clT.tree (fun s2 => ∃ (v : Bool) (c6 : Cur), c6.le (k + 6 + 20 * (4 - (n : Int)) + 12) ∧ s2 = ⟨[.ptr 0 0, .undef, .undef, .undef, .ptr 1 0, .ptr 2 0, .int .i64 n, .ptr 4 0, .undef, .undef, .undef, .undef, .undef, .undef, .undef, .undef, .undef, .undef, .undef, .undef, .undef, .undef, .undef, .undef, .undef, .undef, .undef, .undef, .undef, .undef, .undef, .undef, .undef, .undef, .undef, .undef, .undef, .undef, .undef, .undef, .undef, .undef, .undef, .undef, .undef, .undef, .bool v, .undef, .undef, .undef, .undef, .undef, .undef, .undef, .undef, .undef, .undef, .undef, .undef, .undef, .undef, .undef, .undef, .undef, .undef, .undef, .undef, .undef, .undef, .undef, .undef, .undef, .undef, .undef, .undef, .undef, .undef, .undef, .undef, .undef, .undef, .undef, .undef, .undef, .undef, .undef, .undef, .undef, .undef, .undef, .undef, .undef, .undef, .undef, .undef, .undef, .undef, .undef, .undef, .undef, .undef, .undef, .undef, .undef, .undef], [some (c6.cs B), some zF, some [.int .i64 id, .str vc1, .osl 3 0 (l.length + 1) 2, .int .i64 vc2], some (rows Bend.cs (b :: l)), some q.cs], 1⟩) (.take 0 (.alt 1 (.alt 2 (.take 3 (.take 4 (.take 5 (.take 7 (.alt 6 (.alt 8 (.alt 9 (.take 10 (.take 11 (.alt 12 (.alt 13 (.take 14 (.take 15 (.take 16 (.take 17 (.alt 18 (.take 19 (.take 20 .done)) .stop))))) .stop) (.alt 13 (.alt 12 (.take 14 (.take 15 (.take 16 (.take 17 (.alt 18 (.take 19 (.take 20 .done)) .stop))))) .stop) .stop)))) (.alt 13 (.alt 9 (.take 10 (.take 11 (.alt 12 (.take 14 (.take 15 (.take 16 (.take 17 (.alt 18 (.take 19 (.take 20 .done)) .stop))))) .stop))) .stop) .stop)) (.alt 13 (.alt 8 (.alt 9 (.take 10 (.take 11 (.alt 12 (.take 14 (.take 15 (.take 16 (.take 17 (.alt 18 (.take 19 (.take 20 .done)) .stop))))) .stop))) .stop) .stop) .stop)) (.alt 8 (.alt 6 (.alt 9 (.take 10 (.take 11 (.alt 12 (.alt 13 (.take 14 (.take 15 (.take 16 (.take 17 (.alt 18 (.take 19 (.take 20 .done)) .stop))))) .stop) (.alt 13 (.alt 12 (.take 14 (.take 15 (.take 16 (.take 17 (.alt 18 (.take 19 (.take 20 .done)) .stop))))) .stop) .stop)))) (.alt 13 (.alt 9 (.take 10 (.take 11 (.alt 12 (.take 14 (.take 15 (.take 16 (.take 17 (.alt 18 (.take 19 (.take 20 .done)) .stop))))) .stop))) .stop) .stop)) (.alt 9 (.take 10 (.alt 6 (.take 11 (.alt 12 (.alt 13 (.take 14 (.take 15 (.take 16 (.take 17 (.alt 18 (.take 19 (.take 20 .done)) .stop))))) .stop) (.alt 13 (.alt 12 (.take 14 (.take 15 (.take 16 (.take 17 (.alt 18 (.take 19 (.take 20 .done)) .stop))))) .stop) .stop))) (.alt 13 (.alt 6 (.take 11 (.alt 12 (.take 14 (.take 15 (.take 16 (.take 17 (.alt 18 (.take 19 (.take 20 .done)) .stop))))) .stop)) .stop) .stop))) (.alt 13 (.alt 6 (.alt 9 (.take 10 (.take 11 (.alt 12 (.take 14 (.take 15 (.take 16 (.take 17 (.alt 18 (.take 19 (.take 20 .done)) .stop))))) .stop))) .stop) (.alt 9 (.take 10 (.alt 6 (.take 11 (.alt 12 (.take 14 (.take 15 (.take 16 (.take 17 (.alt 18 (.take 19 (.take 20 .done)) .stop))))) .stop)) .stop)) .stop)) .stop))) (.alt 13 (.alt 6 (.alt 8 (.alt 9 (.take 10 (.take 11 (.alt 12 (.take 14 (.take 15 (.take 16 (.take 17 (.alt 18 (.take 19 (.take 20 .done)) .stop))))) .stop))) .stop) .stop) (.alt 8 (.alt 6 (.alt 9 (.take 10 (.take 11 (.alt 12 (.take 14 (.take 15 (.take 16 (.take 17 (.alt 18 (.take 19 (.take 20 .done)) .stop))))) .stop))) .stop) (.alt 9 (.take 10 (.alt 6 (.take 11 (.alt 12 (.take 14 (.take 15 (.take 16 (.take 17 (.alt 18 (.take 19 (.take 20 .done)) .stop))))) .stop)) .stop)) .stop)) .stop)) .stop))))))) .stop) .stop)) (by kernel_rfl) (fun s2 hs2 => ?_) ?_
     · obtain ⟨v, c6, hc6, rfl⟩ := hs2
       (repeat ((repeat1' (first | simp -implicitDefEqProofs -dsimp only [go_sem] | simp -dsimp (disch := omega) only [wrap_i64])); repeat (with_reducible refine sideA ?_)))
       refine condT.split (fun g1 => ?_) (fun g1 => ?_) <;> (repeat ((repeat1' (first | simp -implicitDefEqProofs -dsimp only [go_sem, g1, Bend.cs, zF, Cur.ren, map_ren_rows, hlc] | simp -dsimp (disch := omega) only [wrap_i64])); repeat (with_reducible refine sideA ?_)))
       · refine ⟨(n - 1, b :: l ++ [⟨(IntKind.i64.wrap (q.X + 1)).tmod 7, q.Y⟩], c6), ⟨by simp only [List.length_append, List.length_cons, List.length_nil] at y0 ⊢; omega, lmonoQ hc6 (by simp only []; omega)⟩, ?_, by simp only []; omega⟩
         refine Weak.cut (4) (by simp) (by simp) ?_ ?_
         · simp [LeC, LeV, ren, cutF, hn1]
         · simp only [bV_snoc, bH_snoc]
           simp [cutH, cutB, Cur.ren, ren, cutF, map_ren_rows, Bend.cs, zF]
       · refine ⟨(n - 1, b :: l ++ [q], c6), ⟨by simp only [List.length_append, List.length_cons, List.length_nil] at y0 ⊢; omega, lmonoQ hc6 (by simp only []; omega)⟩, ?_, by simp only []; omega⟩
         refine Weak.cut (4) (by simp) (by simp) ?_ ?_
         · simp [LeC, LeV, ren, cutF, hn1]
         · simp only [bV_snoc, bH_snoc]
           simp [cutH, cutB, Cur.ren, ren, cutF, map_ren_rows, Bend.cs, zF]
     · (repeat ((repeat1' (first | simp -implicitDefEqProofs -dsimp only [go_sem, hl1, hr, hlc, hpos, Bend.cs] | simp -dsimp (disch := omega) only [wrap_i64])); repeat (with_reducible refine sideA ?_)))
       repeat' (first | (refine guardT.splitT (fun g2 => ?_) (fun g2 => ?_) <;> (repeat ((repeat1' (first | simp -implicitDefEqProofs -dsimp only [go_sem, g2, hl1, hr, hlc, hpos, Bend.cs] | simp -dsimp (disch := omega) only [wrap_i64])); repeat (with_reducible refine sideA ?_)))) | (refine one_call hB hc5 (by omega) 8 (by omega) rfl (fun vc6 c6 hc6 => ?_); (repeat ((repeat1' (first | simp -implicitDefEqProofs -dsimp only [go_sem, Cur.ren, map_ren_rows] | simp -dsimp (disch := omega) only [wrap_i64])); repeat (with_reducible refine sideA ?_))); refine ⟨_, ⟨!vc6, c6, lmonoQ hc6 (by omega), rfl⟩, ?_⟩) | (refine ⟨_, ⟨false, c5, lmonoQ hc5 (by omega), rfl⟩, ?_⟩) | (refine And.intro ?_ ?_) | exact trivial)
       all_goals refine Weak.cut (5) (by simp) (by simp) ?_ ?_
       all_goals first | (simp [LeC, LeV, ren, cutF]; done) | (simp [cutH, cutB, cutF, Cur.ren, ren, zF, Bend.cs, map_ren_rows]; done)
 · have hn0 : n = 0 := by have := of_decide_eq_false h1; omega
   subst hn0
   cases L with
   | nil => simp at y0
   | cons b l =>
     have hll : 1 ≤ (b :: l).length ∧ (b :: l).length ≤ 20 := by simp only [List.length_cons] at y0 ⊢; omega
     have hlc : (rows Bend.cs (b :: l)).length = (l.length + 1) * 2 := by rw [rows_length]; rfl
     (repeat ((repeat1' (first | simp -implicitDefEqProofs -dsimp only [go_sem, h1, bV_cons, bH_cons, map_ren_rows] | simp -dsimp (disch := omega) only [wrap_i64])); repeat (with_reducible refine sideA ?_)))
     refine pick_call hB hc4 (by omega) 70 (by omega) rfl (fun vc5 c5 pvc5 hc5 => ?_)
     (repeat ((repeat1' (first | simp -implicitDefEqProofs -dsimp only [go_sem, Cur.ren, map_ren_rows, zF] | simp -dsimp (disch := omega) only [wrap_i64])); repeat (with_reducible refine sideA ?_)))
     refine condT.split (fun g1 => ?_) (fun g1 => ?_) <;> (repeat ((repeat1' (first | simp -implicitDefEqProofs -dsimp only [go_sem, g1] | simp -dsimp (disch := omega) only [wrap_i64])); repeat (with_reducible refine sideA ?_)))
     · refine among_call hB hc5 (by omega) [0, 99, 100] (by simp) (by simp) rfl rfl rfl (fun vc6 c6 pvc6 hc6 => ?_)
       (repeat ((repeat1' (first | simp -implicitDefEqProofs -dsimp only [go_sem, Cur.ren, map_ren_rows] | simp -dsimp (disch := omega) only [wrap_i64])); repeat (with_reducible refine sideA ?_)))
       exact fault_fin (L := b :: l) rfl rfl rfl hx hll (lmonoQ hc6 (by omega))
     · refine condT.split (fun g2 => ?_) (fun g2 => ?_) <;> (repeat ((repeat1' (first | simp -implicitDefEqProofs -dsimp only [go_sem, g2] | simp -dsimp (disch := omega) only [wrap_i64])); repeat (with_reducible refine sideA ?_)))
       · have pc6 := of_ok hB (hcb hc5 (by omega)) [⟨#[]⟩, ⟨#[65]⟩, ⟨#[97, 98, 99, 100, 101, 102, 103, 104, 105, 106, 107]⟩] (by simp) (by simp); have hc6 := pickC_le (B := B) (n := (([⟨#[]⟩, ⟨#[65]⟩, ⟨#[97, 98, 99, 100, 101, 102, 103, 104, 105, 106, 107]⟩] : List ByteArray).length : Int)) hc5; have pvc6 := ofV_mem hB (K := [⟨#[]⟩, ⟨#[65]⟩, ⟨#[97, 98, 99, 100, 101, 102, 103, 104, 105, 106, 107]⟩]) (by simp) hc5.1; generalize ofV B [⟨#[]⟩, ⟨#[65]⟩, ⟨#[97, 98, 99, 100, 101, 102, 103, 104, 105, 106, 107]⟩] c5 = vc6 at pc6 pvc6; generalize pickC B (([⟨#[]⟩, ⟨#[65]⟩, ⟨#[97, 98, 99, 100, 101, 102, 103, 104, 105, 106, 107]⟩] : List ByteArray).length : Int) c5 = c6 at pc6 hc6; (first | refine callS.lend [0, 1] false pc6 (by decide) ⟨leO, leO, trivial⟩ (lendCur2 rfl rfl) (growCur2 B _ _) (.inl rfl) ?_ | refine callS.lend [0, 2] false pc6 (by decide) ⟨leO, leO, trivial⟩ (lendCur2 rfl rfl) (growCur2 B _ _) (.inl rfl) ?_ | refine callS.lend [0, 3] false pc6 (by decide) ⟨leO, leO, trivial⟩ (lendCur2 rfl rfl) (growCur2 B _ _) (.inl rfl) ?_ | refine callS.lend [0, 4] false pc6 (by decide) ⟨leO, leO, trivial⟩ (lendCur2 rfl rfl) (growCur2 B _ _) (.inl rfl) ?_ | refine callS.lend [0, 5] false pc6 (by decide) ⟨leO, leO, trivial⟩ (lendCur2 rfl rfl) (growCur2 B _ _) (.inl rfl) ?_ | refine callS.lend [0, 6] false pc6 (by decide) ⟨leO, leO, trivial⟩ (lendCur2 rfl rfl) (growCur2 B _ _) (.inl rfl) ?_ | refine callS.lend [0, 7] false pc6 (by decide) ⟨leO, leO, trivial⟩ (lendCur2 rfl rfl) (growCur2 B _ _) (.inl rfl) ?_ | refine callS.lend [0, 8] false pc6 (by decide) ⟨leO, leO, trivial⟩ (lendCur2 rfl rfl) (growCur2 B _ _) (.inl rfl) ?_)
         (repeat ((repeat1' (first | simp -implicitDefEqProofs -dsimp only [go_sem, Cur.ren, map_ren_rows] | simp -dsimp (disch := omega) only [wrap_i64])); repeat (with_reducible refine sideA ?_)))
         exact fault_fin (L := b :: l) rfl rfl rfl (small_of pvc6 (by rfl)) hll (lmonoQ hc6 (by omega))
       · refine condT.split (fun g3 => ?_) (fun g3 => ?_) <;> (repeat ((repeat1' (first | simp -implicitDefEqProofs -dsimp only [go_sem, g3] | simp -dsimp (disch := omega) only [wrap_i64])); repeat (with_reducible refine sideA ?_)))
         · refine among_call hB hc5 (by omega) [-1, 1001] (by simp) (by simp) rfl rfl rfl (fun vc6 c6 pvc6 hc6 => ?_)
           (repeat ((repeat1' (first | simp -implicitDefEqProofs -dsimp only [go_sem, Cur.ren, map_ren_rows] | simp -dsimp (disch := omega) only [wrap_i64])); repeat (with_reducible refine sideA ?_)))
           exact fault_fin (L := b :: l) rfl rfl rfl hx hll (lmonoQ hc6 (by omega))
         · refine condT.split (fun g4 => ?_) (fun g4 => ?_) <;> (repeat ((repeat1' (first | simp -implicitDefEqProofs -dsimp only [go_sem, g4] | simp -dsimp (disch := omega) only [wrap_i64])); repeat (with_reducible refine sideA ?_)))
           · exact fault_finT (L := b :: l) rfl rfl rfl hx (by omega) hll.1 (lmonoQ hc5 (by omega))
           · refine condT.split (fun g5 => ?_) (fun g5 => ?_) <;> (repeat ((repeat1' (first | simp -implicitDefEqProofs -dsimp only [go_sem, g5] | simp -dsimp (disch := omega) only [wrap_i64])); repeat (with_reducible refine sideA ?_)))
             · refine LoopT.intro (fun x : Nat × Cur => x.1 ≤ 9 ∧ x.2.le (k + 130 + 10 * (x.1 : Int))) (fun x => ⟨[.ptr 0 0, .undef, .undef, .undef, .ptr 1 0, .ptr 2 0, .undef, .undef, .int .i64 x.1, .undef, .undef, .undef, .undef, .undef, .undef, .undef, .undef, .undef, .undef, .undef, .undef, .undef, .undef, .undef, .undef, .undef, .undef, .undef, .undef, .undef, .undef, .undef, .undef, .undef, .undef, .undef, .undef, .undef, .undef, .undef, .undef, .undef, .undef, .undef, .undef, .undef, .undef, .undef, .undef, .undef, .undef, .undef, .undef, .undef, .undef, .undef, .undef, .undef, .undef, .undef, .undef, .undef, .undef, .undef, .undef, .undef, .undef, .undef, .undef, .undef, .undef, .undef, .undef, .undef, .undef, .undef, .undef, .undef, .undef, .undef, .undef, .undef, .undef, .undef, .undef, .undef, .undef, .undef, .undef, .undef, .undef, .undef, .undef, .undef, .undef, .undef, .undef, .undef, .undef, .undef, .undef, .undef, .undef, .undef, .undef], [some (x.2.cs B), some zF, some [.int .i64 id, .str vc1, .osl 3 0 x.1 2, .int .i64 vc2], some (rows Bend.cs (nthB x.1))], 1⟩) (fun x => 10 - x.1) (0, c5) ⟨by simp only []; omega, lmonoQ hc5 (by simp only []; omega)⟩ ?_ (fun x hx => ?_)
               · refine Weak.pick [0, 1, 2, 4] (by decide) (fun j hj => by cases j <;> simp_all) ?_ ?_
                 · simp [LeG, LeC, LeV, ren, pickF, posOf]
                 · simp [pickH, pickB, pickF, posOf, Cur.ren, ren, nthB, rows, zF]
               obtain ⟨i, c6⟩ := x
               obtain ⟨z0, hc6⟩ := hx
               dsimp only at z0 hc6
               have hil : (rows Bend.cs (nthB i)).length = i * 2 := by rw [rows_length, nthB_len]
               have hsn := rows_snoc (cs := Bend.cs) (nthB i) ⟨i, Int.tmod i 2⟩
               rw [Bend.cs] at hsn
               (repeat ((repeat1' (first | simp -implicitDefEqProofs -dsimp only [go_sem] | simp -dsimp (disch := omega) only [wrap_i64])); repeat (with_reducible refine sideA ?_)))
               refine pick_call hB hc6 (by omega) 2 (by omega) rfl (fun vc7 c7 pvc7 hc7 => ?_)
               (repeat ((repeat1' (first | simp -implicitDefEqProofs -dsimp only [go_sem, Cur.ren, map_ren_rows, zF] | simp -dsimp (disch := omega) only [wrap_i64])); repeat (with_reducible refine sideA ?_)))
               refine condT.split (fun g6 => ?_) (fun g6 => ?_) <;> (repeat ((repeat1' (first | simp -implicitDefEqProofs -dsimp only [go_sem, g6, hil, hsn, Cur.ren, map_ren_rows] | simp -dsimp (disch := omega) only [wrap_i64])); repeat (with_reducible refine sideA ?_)))
               · have hi9 : i ≤ 8 := by have := of_decide_eq_true g6; omega
                 refine ⟨(i + 1, c7), ⟨by simp only []; omega, lmonoQ hc7 (by simp only []; omega)⟩, ?_, by simp only []; omega⟩
                 refine Weak.cut (4) (by simp) (by simp) ?_ ?_
                 · simp [LeC, LeV, ren, cutF]
                 · simp [cutH, cutB, Cur.ren, ren, cutF, map_ren_rows, zF, nthB]
               · have := nthB_len i
                 have hi8 : 8 ≤ i := by have := of_decide_eq_false g6; omega
                 exact fault_finT (L := nthB i) rfl rfl rfl hx (by omega) (by omega) (lmonoQ hc7 (by omega))
             · exact fault_fin (L := b :: l) rfl rfl rfl hx hll (lmonoQ hc5 (by omega))
end Go.Proofs
end
section
set_option maxRecDepth 100000
set_option maxHeartbeats 4000000
namespace Go.Proofs
open Go.Lv
def fsOk (L : List Fault) : Prop := ∀ f ∈ L, faultOk f
theorem fsOk_fls {L : List Fault} (h : fsOk L) : flsOk L := fun f hf => ⟨by have := (h f hf).1; simp only [strR]; omega, by have := (h f hf).2.2; omega⟩
theorem fsOk_snoc {L : List Fault} {f : Fault} (h : fsOk L) (hf : faultOk f) : fsOk (L ++ [f]) := fun x hx => by
 rcases List.mem_append.1 hx with h1 | h1
 · exact h x h1
 · rw [List.mem_singleton.1 h1]; exact hf
def faultsP (B : List Int) (k : Int) (r : V) (hout : Hp) : Prop := ∃ (L : List Fault) (c : Cur), fsOk L ∧ L.length ≤ 20 ∧ c.le k ∧ r = Fault.sl L ∧ hout = [some (c.cs B)]
theorem faults_fin {B : List Int} {k : Int} {h : Hp} {L : List Fault} {c : Cur} (h0 : h[0]? = some (some (c.cs B))) (hL : fsOk L) (hl : L.length ≤ 20) (hc : c.le k) : RelR 1 (Fault.sl L) h (faultsP B k) := by
 refine ⟨_, _, ⟨L, c, hL, hl, hc, rfl, rfl⟩, WeakR.pick [0] (by decide) (fun j hj => by cases j <;> simp_all) (.inl rfl) ?_⟩
 simp only [pickH, List.map_cons, List.map_nil, pickB, h0, Cur.ren]
def nthF : Nat → List Fault
 | 0 => []
 | n + 1 => nthF n ++ [⟨(n : Int) + 1, strOfNums [IntKind.u8.wrap (97 + (n : Int))], [⟨n, 0⟩, ⟨n, 5⟩], 0⟩]
theorem nthF_len : ∀ n, (nthF n).length = n
 | 0 => rfl
 | n + 1 => by rw [nthF, List.length_append, nthF_len n]; rfl
theorem nthF_ok : ∀ n, fsOk (nthF n)
 | 0 => fun x hx => by cases hx
 | n + 1 => fsOk_snoc (nthF_ok n) ⟨by rw [strOfNums_size]; simp, by simp, by simp⟩
theorem faults_ok {B : List Int} (hB : CB B) {k : Int} (hk : k ≤ 400000) {c : Cur} (hc : c.le k) : CtrP Try.prog 59 [.ptr 0 0] [some (c.cs B)] (faultsP B (k + 4000)) := by
 have hcb : ∀ {c' : Cur} {k' : Int}, c'.le k' → k' ≤ 4000000 → c'.le 4611686018427387903 := fun h h' => ⟨h.1, by have := h.2; omega⟩
 refine CtrP.intro Try.mixed Try.func59 rfl Try.okF59 ?_
 simp -implicitDefEqProofs -dsimp only [go_sem, Try.ntmps59, Try.results59]
 (repeat ((repeat1' (first | simp -implicitDefEqProofs -dsimp only [go_sem] | simp -dsimp (disch := omega) only [wrap_i64])); repeat (with_reducible refine sideA ?_)))
 refine pick_call hB hc (by omega) 6 (by omega) rfl (fun vc1 c1 pvc1 hc1 => ?_)
 (repeat ((repeat1' (first | simp -implicitDefEqProofs -dsimp only [go_sem, Cur.ren, map_ren_rows] | simp -dsimp (disch := omega) only [wrap_i64])); repeat (with_reducible refine sideA ?_)))
 obtain ⟨n0, hn0⟩ : ∃ n : Nat, vc1 = n := ⟨vc1.toNat, by omega⟩
 subst hn0
 refine LoopT.intro (fun x : Nat × Int × List Fault × Cur => x.2.2.1.length + x.1 ≤ 6 ∧ fsOk x.2.2.1 ∧ x.2.2.2.le (k + 2 + 320 * (6 - (x.1 : Int)))) (fun x => ⟨[.ptr 0 0, .undef, .undef, Fault.sl x.2.2.1, .int .i64 x.2.1, .int .i64 x.1, .undef, .undef, .undef, .undef, .undef, .undef, .undef, .undef, .undef, .undef, .undef, .undef, .undef, .undef, .undef, .undef, .undef, .undef, .undef, .undef, .undef, .undef, .undef, .undef, .undef, .undef, .undef, .undef, .undef, .undef, .undef, .undef, .undef, .undef, .undef, .undef, .undef, .undef, .undef, .undef, .undef, .undef, .undef, .undef, .undef, .undef, .undef, .undef, .undef, .undef, .undef, .undef, .undef, .undef, .undef, .undef, .undef, .undef, .undef, .undef, .undef, .undef, .undef, .undef, .undef, .undef, .undef, .undef, .undef, .undef, .undef, .undef, .undef, .undef, .undef, .undef, .undef, .undef, .undef, .undef, .undef, .undef, .undef, .undef, .undef, .undef, .undef], [some (x.2.2.2.cs B)], 1⟩) (fun x => x.1) (n0, 0, [], c1) ⟨by simp only [List.length_nil]; omega, fun y hy => by simp at hy, lmonoQ hc1 (by simp only []; omega)⟩ ?_ (fun x hx => ?_)
 · refine Weak.pick [0] (by decide) (fun j hj => by rcases j with _ | j <;> first | rfl | omega) ?_ ?_
   · simp [LeG, LeC, LeV, ren, pickF, posOf, frzR, rows]
   · simp [pickH, pickB, Cur.ren, ren]
 obtain ⟨n, id, L, c2⟩ := x
 obtain ⟨y0, y1, hc2⟩ := hx
 dsimp only at y0 y1 hc2
 simp -implicitDefEqProofs -dsimp only [go_sem]
 refine condT.split (fun h1 => ?_) (fun h1 => ?_)
 · have hn : 0 < n := by have := of_decide_eq_true h1; omega
   have hn1 : ((n - 1 : Nat) : Int) = (n : Int) - 1 := by omega
   (repeat ((repeat1' (first | simp -implicitDefEqProofs -dsimp only [go_sem, h1] | simp -dsimp (disch := omega) only [wrap_i64])); repeat (with_reducible refine sideA ?_)))
   refine pick_call hB hc2 (by omega) 3 (by omega) rfl (fun vc3 c3 pvc3 hc3 => ?_)
   (repeat ((repeat1' (first | simp -implicitDefEqProofs -dsimp only [go_sem, Cur.ren, map_ren_rows] | simp -dsimp (disch := omega) only [wrap_i64])); repeat (with_reducible refine sideA ?_)))
   obtain ⟨id2, hid2⟩ : ∃ z, z = IntKind.i64.wrap (IntKind.i64.wrap (id + 1) + vc3) := ⟨_, rfl⟩
   rw [← hid2]
   refine callS.rel [0] (fault_ok hB (by omega) hc3 id2) (by decide) ⟨leO, leO, trivial⟩ (lendCur rfl) rfl (fun r hout hΦ => ?_)
   obtain ⟨f, c4, hf, hc4, rfl, rfl⟩ := hΦ
   refine ⟨⟨⟨rfl, rfl⟩, trivial⟩, ?_⟩
   (repeat ((repeat1' (first | simp -implicitDefEqProofs -dsimp only [go_sem, Cur.ren, Fault.v, map_ren_rows] | simp -dsimp (disch := omega) only [wrap_i64])); repeat (with_reducible refine sideA ?_)))
   refine guardT.splitT (fun z0 => ?_) (fun z0 => ?_) <;> (repeat ((repeat1' (first | simp -implicitDefEqProofs -dsimp only [go_sem, z0] | simp -dsimp (disch := omega) only [wrap_i64])); repeat (with_reducible refine sideA ?_)))
   · have hL0 : 0 < L.length := by have := of_decide_eq_true z0; omega
     have hm : L.length - 1 < L.length := by omega
     have hm1 : (L.length : Int) - 1 = ((L.length - 1 : Nat) : Int) := by omega
     have hr := rows_at Fault.csl hm
     refine one_call hB hc4 (by omega) 3 (by omega) rfl (fun vc5 c5 hc5 => ?_)
     (repeat ((repeat1' (first | simp -implicitDefEqProofs -dsimp only [go_sem, Cur.ren, map_ren_rows] | simp -dsimp (disch := omega) only [wrap_i64])); repeat (with_reducible refine sideA ?_)))
     refine condT.split (fun z1 => ?_) (fun z1 => ?_) <;> (repeat ((repeat1' (first | simp -implicitDefEqProofs -dsimp only [go_sem, z1, hm1, hr, Fault.cs] | simp -dsimp (disch := omega) only [wrap_i64])); repeat (with_reducible refine sideA ?_)))
     · obtain ⟨M, hM⟩ : ∃ M, M = L[L.length - 1] := ⟨_, rfl⟩
       have hMo : faultOk M := hM ▸ y1 _ (List.getElem_mem hm)
       rw [← hM]
       have hm2 : (M.Bends.length : Int) - 1 = ((M.Bends.length - 1 : Nat) : Int) := by have := hMo.2.1; omega
       have hm3 : M.Bends.length - 1 < M.Bends.length := by have := hMo.2.1; omega
       have hb := rows_at Bend.csl hm3
       have hfl := hf.2
       have hMl := hMo.2
       have hlc : (rows Bend.cs f.Bends).length = f.Bends.length * 2 := rows_length _
       have hd1 : (rows Bend.cs f.Bends).drop 2 = rows Bend.cs (f.Bends.drop 1) := rows_drop Bend.csl f.Bends 1
       obtain ⟨q, hq⟩ : ∃ q, q = M.Bends[M.Bends.length - 1] := ⟨_, rfl⟩
       rw [← hq] at hb
       (repeat ((repeat1' (first | simp -implicitDefEqProofs -dsimp only [go_sem, hm2, hb, Bend.cs, hlc, hd1] | simp -dsimp (disch := omega) only [wrap_i64])); repeat (with_reducible refine sideA ?_)))
       obtain ⟨Q, hQ⟩ : ∃ Q, Q = q :: f.Bends.drop 1 := ⟨_, rfl⟩
       have hQl : f.Bends.length = Q.length := by rw [hQ]; simp; omega
       have hQr : V.int .i64 q.X :: V.int .i64 q.Y :: rows Bend.cs (f.Bends.drop 1) = rows Bend.cs Q := by rw [hQ]; rfl
       obtain ⟨g, hg⟩ : ∃ g : Fault, g = ⟨f.Id, f.Name, Q, f.Slip⟩ := ⟨_, rfl⟩
       obtain ⟨c6, hc6'⟩ : ∃ c6, c6 = c5 := ⟨_, rfl⟩
       have hgo : faultOk g := by rw [hg]; exact ⟨hf.1, by rw [← hQl]; exact hfl.1, by rw [← hQl]; exact hfl.2⟩
       have hc6 : c6.le (k + 2 + 320 * (6 - (n : Int)) + 310) := hc6' ▸ lmonoQ hc5 (by omega)
       simp only [hQl, hQr]
       refine chT.weak (s2 := ⟨[.ptr 0 0, .undef, .undef, Fault.sl L, .int .i64 id2, .int .i64 n, .ptr 1 0, .undef, .undef, .undef, .undef, .undef, .undef, .undef, .undef, .undef, .undef, .undef, .undef, .undef, .undef, .undef, .undef, .undef, .undef, .undef, .undef, .undef, .undef, .undef, .undef, .undef, .undef, .undef, .undef, .undef, .undef, .undef, .undef, .undef, .undef, .undef, .undef, .undef, .undef, .undef, .undef, .undef, .undef, .undef, .undef, .undef, .undef, .undef, .undef, .undef, .undef, .undef, .undef, .undef, .undef, .undef, .undef, .undef, .undef, .undef, .undef, .undef, .undef, .undef, .undef, .undef, .undef, .undef, .undef, .undef, .undef, .undef, .undef, .undef, .undef, .undef, .undef, .undef, .undef, .undef, .undef, .undef, .undef, .undef, .undef, .undef, .undef], [some (c6.cs B), some g.cs], 1⟩) ?_ ?_
       · refine Weak.pick [0, 1] (by decide) (fun j hj => by rcases j with _ | j <;> first | rfl | omega) ?_ ?_
         · simp [LeG, LeC, LeV, ren, pickF, posOf]
         · simp [pickH, pickB, pickF, posOf, frzR, Cur.ren, ren, Fault.cs, map_ren_rows, take_rows, hg, hc6']
       clear hg hc6'
       refine chT.intro [false, true, false, true, true, false, false] [true, true, true, true, true, true, false] [some ⟨none, 53, 24, []⟩, none, some ⟨some 0, 55, 24, [54]⟩, none, none, some ⟨some 2, 58, 24, [54, 57]⟩, none] [⟨5, 58, 24, [54, 57]⟩] (by kernel_rfl) (by rfl) ?_
       have hsn := rows_snoc (cs := Fault.cs) L g
       rw [Fault.cs] at hsn
       have hlg : (L ++ [g]).length = L.length + 1 := by simp
       have hfo := fsOk_snoc y1 hgo
       have htk : (rows Fault.cs (L ++ [g])).take ((L.length + 1) * 4) = rows Fault.cs (L ++ [g]) := by rw [← hlg]; exact take_rows _
       (repeat ((repeat1' (first | simp -implicitDefEqProofs -dsimp only [go_sem, Fault.cs, hsn] | simp -dsimp (disch := omega) only [wrap_i64])); repeat (with_reducible refine sideA ?_)))
       refine ⟨⟨by omega, by omega, rows_noOwn _ _⟩, ?_⟩
       clear hsn
       generalize L ++ [g] = L2 at *
       (first | refine callT.at (l18Good_ok L2 (fsOk_fls hfo) (by omega)) ⟨(by first | exact leA | exact le_snap' rfl (by omega)), trivial⟩ ?_ | refine callS.at (l18Good_ok L2 (fsOk_fls hfo) (by omega)) ⟨(by first | exact leA | exact le_snap' rfl (by omega)), trivial⟩ ?_)
       (repeat ((repeat1' (first | simp -implicitDefEqProofs -dsimp only [go_sem, Cur.ren, map_ren_rows] | simp -dsimp (disch := omega) only [wrap_i64])); repeat (with_reducible refine sideA ?_)))
       refine guardT.splitF (fun z5 => ?_) (fun z5 => ?_) <;> (repeat ((repeat1' (first | simp -implicitDefEqProofs -dsimp only [go_sem, z5] | simp -dsimp (disch := omega) only [wrap_i64])); repeat (with_reducible refine sideA ?_)))
       · refine one_call hB hc6 (by omega) 50 (by omega) rfl (fun vc7 c7 hc7 => ?_)
         (repeat ((repeat1' (first | simp -implicitDefEqProofs -dsimp only [go_sem, Cur.ren, map_ren_rows] | simp -dsimp (disch := omega) only [wrap_i64])); repeat (with_reducible refine sideA ?_)))
         refine condT.split (fun z6 => ?_) (fun z6 => ?_) <;> (repeat ((repeat1' (first | simp -implicitDefEqProofs -dsimp only [go_sem, z6] | simp -dsimp (disch := omega) only [wrap_i64])); repeat (with_reducible refine sideA ?_)))
         · refine ⟨(n - 1, id2, L2, c7), ⟨by simp only []; omega, hfo, lmonoQ hc7 (by simp only []; omega)⟩, ?_, by simp only []; omega⟩
           refine Weak.pick [0] (by decide) (fun j hj => by rcases j with _ | j <;> first | rfl | omega) ?_ ?_
           · simp [LeG, LeC, LeV, ren, pickF, posOf, frzR, hn1, map_ren_rows, htk, hlg]
           · simp [pickH, pickB, Cur.ren, ren]
         · refine ⟨(n - 1, id2, L, c7), ⟨by simp only []; omega, y1, lmonoQ hc7 (by simp only []; omega)⟩, ?_, by simp only []; omega⟩
           refine Weak.pick [0] (by decide) (fun j hj => by rcases j with _ | j <;> first | rfl | omega) ?_ ?_
           · simp [LeG, LeC, LeV, ren, pickF, posOf, hn1]
           · simp [pickH, pickB, Cur.ren, ren]
       · refine ⟨(n - 1, id2, L2, c6), ⟨by simp only []; omega, hfo, lmonoQ hc6 (by simp only []; omega)⟩, ?_, by simp only []; omega⟩
         refine Weak.pick [0] (by decide) (fun j hj => by rcases j with _ | j <;> first | rfl | omega) ?_ ?_
         · simp [LeG, LeC, LeV, ren, pickF, posOf, frzR, hn1, map_ren_rows, htk, hlg]
         · simp [pickH, pickB, Cur.ren, ren]
     · obtain ⟨g, hg⟩ : ∃ g, g = f := ⟨_, rfl⟩
       obtain ⟨c6, hc6'⟩ : ∃ c6, c6 = c5 := ⟨_, rfl⟩
       have hgo : faultOk g := hg ▸ hf
       have hc6 : c6.le (k + 2 + 320 * (6 - (n : Int)) + 310) := hc6' ▸ lmonoQ hc5 (by omega)
       rw [← hg, ← hc6']
       refine chT.weak (s2 := ⟨[.ptr 0 0, .undef, .undef, Fault.sl L, .int .i64 id2, .int .i64 n, .ptr 1 0, .undef, .undef, .undef, .undef, .undef, .undef, .undef, .undef, .undef, .undef, .undef, .undef, .undef, .undef, .undef, .undef, .undef, .undef, .undef, .undef, .undef, .undef, .undef, .undef, .undef, .undef, .undef, .undef, .undef, .undef, .undef, .undef, .undef, .undef, .undef, .undef, .undef, .undef, .undef, .undef, .undef, .undef, .undef, .undef, .undef, .undef, .undef, .undef, .undef, .undef, .undef, .undef, .undef, .undef, .undef, .undef, .undef, .undef, .undef, .undef, .undef, .undef, .undef, .undef, .undef, .undef, .undef, .undef, .undef, .undef, .undef, .undef, .undef, .undef, .undef, .undef, .undef, .undef, .undef, .undef, .undef, .undef, .undef, .undef, .undef, .undef], [some (c6.cs B), some g.cs], 1⟩) ?_ ?_
       · refine Weak.pick [0, 1] (by decide) (fun j hj => by rcases j with _ | j <;> first | rfl | omega) ?_ ?_
         · simp [LeG, LeC, LeV, ren, pickF, posOf]
         · simp [pickH, pickB, pickF, posOf, frzR, Cur.ren, ren, Fault.cs, map_ren_rows, take_rows, hg, hc6']
       clear hg hc6'
       refine chT.intro [false, true, false, true, true, false, false] [true, true, true, true, true, true, false] [some ⟨none, 53, 24, []⟩, none, some ⟨some 0, 55, 24, [54]⟩, none, none, some ⟨some 2, 58, 24, [54, 57]⟩, none] [⟨5, 58, 24, [54, 57]⟩] (by kernel_rfl) (by rfl) ?_
       have hsn := rows_snoc (cs := Fault.cs) L g
       rw [Fault.cs] at hsn
       have hlg : (L ++ [g]).length = L.length + 1 := by simp
       have hfo := fsOk_snoc y1 hgo
       have htk : (rows Fault.cs (L ++ [g])).take ((L.length + 1) * 4) = rows Fault.cs (L ++ [g]) := by rw [← hlg]; exact take_rows _
       (repeat ((repeat1' (first | simp -implicitDefEqProofs -dsimp only [go_sem, Fault.cs, hsn] | simp -dsimp (disch := omega) only [wrap_i64])); repeat (with_reducible refine sideA ?_)))
       refine ⟨⟨by omega, by omega, rows_noOwn _ _⟩, ?_⟩
       clear hsn
       generalize L ++ [g] = L2 at *
       (first | refine callT.at (l18Good_ok L2 (fsOk_fls hfo) (by omega)) ⟨(by first | exact leA | exact le_snap' rfl (by omega)), trivial⟩ ?_ | refine callS.at (l18Good_ok L2 (fsOk_fls hfo) (by omega)) ⟨(by first | exact leA | exact le_snap' rfl (by omega)), trivial⟩ ?_)
       (repeat ((repeat1' (first | simp -implicitDefEqProofs -dsimp only [go_sem, Cur.ren, map_ren_rows] | simp -dsimp (disch := omega) only [wrap_i64])); repeat (with_reducible refine sideA ?_)))
       refine guardT.splitF (fun z5 => ?_) (fun z5 => ?_) <;> (repeat ((repeat1' (first | simp -implicitDefEqProofs -dsimp only [go_sem, z5] | simp -dsimp (disch := omega) only [wrap_i64])); repeat (with_reducible refine sideA ?_)))
       · refine one_call hB hc6 (by omega) 50 (by omega) rfl (fun vc7 c7 hc7 => ?_)
         (repeat ((repeat1' (first | simp -implicitDefEqProofs -dsimp only [go_sem, Cur.ren, map_ren_rows] | simp -dsimp (disch := omega) only [wrap_i64])); repeat (with_reducible refine sideA ?_)))
         refine condT.split (fun z6 => ?_) (fun z6 => ?_) <;> (repeat ((repeat1' (first | simp -implicitDefEqProofs -dsimp only [go_sem, z6] | simp -dsimp (disch := omega) only [wrap_i64])); repeat (with_reducible refine sideA ?_)))
         · refine ⟨(n - 1, id2, L2, c7), ⟨by simp only []; omega, hfo, lmonoQ hc7 (by simp only []; omega)⟩, ?_, by simp only []; omega⟩
           refine Weak.pick [0] (by decide) (fun j hj => by rcases j with _ | j <;> first | rfl | omega) ?_ ?_
           · simp [LeG, LeC, LeV, ren, pickF, posOf, frzR, hn1, map_ren_rows, htk, hlg]
           · simp [pickH, pickB, Cur.ren, ren]
         · refine ⟨(n - 1, id2, L, c7), ⟨by simp only []; omega, y1, lmonoQ hc7 (by simp only []; omega)⟩, ?_, by simp only []; omega⟩
           refine Weak.pick [0] (by decide) (fun j hj => by rcases j with _ | j <;> first | rfl | omega) ?_ ?_
           · simp [LeG, LeC, LeV, ren, pickF, posOf, hn1]
           · simp [pickH, pickB, Cur.ren, ren]
       · refine ⟨(n - 1, id2, L2, c6), ⟨by simp only []; omega, hfo, lmonoQ hc6 (by simp only []; omega)⟩, ?_, by simp only []; omega⟩
         refine Weak.pick [0] (by decide) (fun j hj => by rcases j with _ | j <;> first | rfl | omega) ?_ ?_
         · simp [LeG, LeC, LeV, ren, pickF, posOf, frzR, hn1, map_ren_rows, htk, hlg]
         · simp [pickH, pickB, Cur.ren, ren]
   · obtain ⟨g, hg⟩ : ∃ g, g = f := ⟨_, rfl⟩
     obtain ⟨c6, hc6'⟩ : ∃ c6, c6 = c4 := ⟨_, rfl⟩
     have hgo : faultOk g := hg ▸ hf
     have hc6 : c6.le (k + 2 + 320 * (6 - (n : Int)) + 310) := hc6' ▸ lmonoQ hc4 (by omega)
     rw [← hg, ← hc6']
     refine chT.weak (s2 := ⟨[.ptr 0 0, .undef, .undef, Fault.sl L, .int .i64 id2, .int .i64 n, .ptr 1 0, .undef, .undef, .undef, .undef, .undef, .undef, .undef, .undef, .undef, .undef, .undef, .undef, .undef, .undef, .undef, .undef, .undef, .undef, .undef, .undef, .undef, .undef, .undef, .undef, .undef, .undef, .undef, .undef, .undef, .undef, .undef, .undef, .undef, .undef, .undef, .undef, .undef, .undef, .undef, .undef, .undef, .undef, .undef, .undef, .undef, .undef, .undef, .undef, .undef, .undef, .undef, .undef, .undef, .undef, .undef, .undef, .undef, .undef, .undef, .undef, .undef, .undef, .undef, .undef, .undef, .undef, .undef, .undef, .undef, .undef, .undef, .undef, .undef, .undef, .undef, .undef, .undef, .undef, .undef, .undef, .undef, .undef, .undef, .undef, .undef, .undef], [some (c6.cs B), some g.cs], 1⟩) ?_ ?_
     · refine Weak.pick [0, 1] (by decide) (fun j hj => by rcases j with _ | j <;> first | rfl | omega) ?_ ?_
       · simp [LeG, LeC, LeV, ren, pickF, posOf]
       · simp [pickH, pickB, pickF, posOf, frzR, Cur.ren, ren, Fault.cs, map_ren_rows, take_rows, hg, hc6']
     clear hg hc6'
     refine chT.intro [false, true, false, true, true, false, false] [true, true, true, true, true, true, false] [some ⟨none, 53, 24, []⟩, none, some ⟨some 0, 55, 24, [54]⟩, none, none, some ⟨some 2, 58, 24, [54, 57]⟩, none] [⟨5, 58, 24, [54, 57]⟩] (by kernel_rfl) (by rfl) ?_
     have hsn := rows_snoc (cs := Fault.cs) L g
     rw [Fault.cs] at hsn
     have hlg : (L ++ [g]).length = L.length + 1 := by simp
     have hfo := fsOk_snoc y1 hgo
     have htk : (rows Fault.cs (L ++ [g])).take ((L.length + 1) * 4) = rows Fault.cs (L ++ [g]) := by rw [← hlg]; exact take_rows _
     (repeat ((repeat1' (first | simp -implicitDefEqProofs -dsimp only [go_sem, Fault.cs, hsn] | simp -dsimp (disch := omega) only [wrap_i64])); repeat (with_reducible refine sideA ?_)))
     refine ⟨⟨by omega, by omega, rows_noOwn _ _⟩, ?_⟩
     clear hsn
     generalize L ++ [g] = L2 at *
     (first | refine callT.at (l18Good_ok L2 (fsOk_fls hfo) (by omega)) ⟨(by first | exact leA | exact le_snap' rfl (by omega)), trivial⟩ ?_ | refine callS.at (l18Good_ok L2 (fsOk_fls hfo) (by omega)) ⟨(by first | exact leA | exact le_snap' rfl (by omega)), trivial⟩ ?_)
     (repeat ((repeat1' (first | simp -implicitDefEqProofs -dsimp only [go_sem, Cur.ren, map_ren_rows] | simp -dsimp (disch := omega) only [wrap_i64])); repeat (with_reducible refine sideA ?_)))
     refine guardT.splitF (fun z5 => ?_) (fun z5 => ?_) <;> (repeat ((repeat1' (first | simp -implicitDefEqProofs -dsimp only [go_sem, z5] | simp -dsimp (disch := omega) only [wrap_i64])); repeat (with_reducible refine sideA ?_)))
     · refine one_call hB hc6 (by omega) 50 (by omega) rfl (fun vc7 c7 hc7 => ?_)
       (repeat ((repeat1' (first | simp -implicitDefEqProofs -dsimp only [go_sem, Cur.ren, map_ren_rows] | simp -dsimp (disch := omega) only [wrap_i64])); repeat (with_reducible refine sideA ?_)))
       refine condT.split (fun z6 => ?_) (fun z6 => ?_) <;> (repeat ((repeat1' (first | simp -implicitDefEqProofs -dsimp only [go_sem, z6] | simp -dsimp (disch := omega) only [wrap_i64])); repeat (with_reducible refine sideA ?_)))
       · refine ⟨(n - 1, id2, L2, c7), ⟨by simp only []; omega, hfo, lmonoQ hc7 (by simp only []; omega)⟩, ?_, by simp only []; omega⟩
         refine Weak.pick [0] (by decide) (fun j hj => by rcases j with _ | j <;> first | rfl | omega) ?_ ?_
         · simp [LeG, LeC, LeV, ren, pickF, posOf, frzR, hn1, map_ren_rows, htk, hlg]
         · simp [pickH, pickB, Cur.ren, ren]
       · refine ⟨(n - 1, id2, L, c7), ⟨by simp only []; omega, y1, lmonoQ hc7 (by simp only []; omega)⟩, ?_, by simp only []; omega⟩
         refine Weak.pick [0] (by decide) (fun j hj => by rcases j with _ | j <;> first | rfl | omega) ?_ ?_
         · simp [LeG, LeC, LeV, ren, pickF, posOf, hn1]
         · simp [pickH, pickB, Cur.ren, ren]
     · refine ⟨(n - 1, id2, L2, c6), ⟨by simp only []; omega, hfo, lmonoQ hc6 (by simp only []; omega)⟩, ?_, by simp only []; omega⟩
       refine Weak.pick [0] (by decide) (fun j hj => by rcases j with _ | j <;> first | rfl | omega) ?_ ?_
       · simp [LeG, LeC, LeV, ren, pickF, posOf, frzR, hn1, map_ren_rows, htk, hlg]
       · simp [pickH, pickB, Cur.ren, ren]
 · (repeat ((repeat1' (first | simp -implicitDefEqProofs -dsimp only [go_sem, h1] | simp -dsimp (disch := omega) only [wrap_i64])); repeat (with_reducible refine sideA ?_)))
   refine one_call hB hc2 (by omega) 24 (by omega) rfl (fun vc3 c3 hc3 => ?_)
   (repeat ((repeat1' (first | simp -implicitDefEqProofs -dsimp only [go_sem, Cur.ren, map_ren_rows] | simp -dsimp (disch := omega) only [wrap_i64])); repeat (with_reducible refine sideA ?_)))
   refine condT.split (fun h2 => ?_) (fun h2 => ?_) <;> (repeat ((repeat1' (first | simp -implicitDefEqProofs -dsimp only [go_sem, h2] | simp -dsimp (disch := omega) only [wrap_i64])); repeat (with_reducible refine sideA ?_)))
   · refine LoopT.intro (fun x : Nat × Cur => x.1 ≤ 7 ∧ x.2.le (k + 2100 + 10 * (x.1 : Int))) (fun x => ⟨[.ptr 0 0, .undef, .undef, .osl 1 0 x.1 4, .undef, .undef, .undef, .undef, .undef, .int .i64 x.1, .undef, .undef, .undef, .undef, .undef, .undef, .undef, .undef, .undef, .undef, .undef, .undef, .undef, .undef, .undef, .undef, .undef, .undef, .undef, .undef, .undef, .undef, .undef, .undef, .undef, .undef, .undef, .undef, .undef, .undef, .undef, .undef, .undef, .undef, .undef, .undef, .undef, .undef, .undef, .undef, .undef, .undef, .undef, .undef, .undef, .undef, .undef, .undef, .undef, .undef, .undef, .undef, .undef, .undef, .undef, .undef, .undef, .undef, .undef, .undef, .undef, .undef, .undef, .undef, .undef, .undef, .undef, .undef, .undef, .undef, .undef, .undef, .undef, .undef, .undef, .undef, .undef, .undef, .undef, .undef, .undef, .undef, .undef], [some (x.2.cs B), some (rows Fault.cs (nthF x.1))], 1⟩) (fun x => 8 - x.1) (0, c3) ⟨by simp only []; omega, lmonoQ hc3 (by simp only []; omega)⟩ ?_ (fun x hx => ?_)
     · refine Weak.cut (2) (by simp) (by simp) ?_ ?_
       · simp [LeC, LeV, ren, cutF]
       · simp [cutH, cutB, Cur.ren, ren, nthF, rows]
     obtain ⟨i, c4⟩ := x
     obtain ⟨z0, hc4⟩ := hx
     dsimp only at z0 hc4
     have hil : (rows Fault.cs (nthF i)).length = i * 4 := by rw [rows_length, nthF_len]
     (repeat ((repeat1' (first | simp -implicitDefEqProofs -dsimp only [go_sem] | simp -dsimp (disch := omega) only [wrap_i64])); repeat (with_reducible refine sideA ?_)))
     refine pick_call hB hc4 (by omega) 2 (by omega) rfl (fun vc5 c5 pvc5 hc5 => ?_)
     (repeat ((repeat1' (first | simp -implicitDefEqProofs -dsimp only [go_sem, Cur.ren, map_ren_rows] | simp -dsimp (disch := omega) only [wrap_i64])); repeat (with_reducible refine sideA ?_)))
     refine condT.split (fun g6 => ?_) (fun g6 => ?_) <;> (repeat ((repeat1' (first | simp -implicitDefEqProofs -dsimp only [go_sem, g6, hil] | simp -dsimp (disch := omega) only [wrap_i64])); repeat (with_reducible refine sideA ?_)))
     · have hi7 : i ≤ 6 := by have := of_decide_eq_true g6; omega
       refine ⟨(i + 1, c5), ⟨by simp only []; omega, lmonoQ hc5 (by simp only []; omega)⟩, ?_, by simp only []; omega⟩
       refine Weak.pick [0, 1] (by decide) (fun j hj => by rcases j with _ | j <;> first | rfl | omega) ?_ ?_
       · simp [LeG, LeC, LeV, ren, pickF, posOf]
       · have e : rows Fault.cs (nthF (i + 1)) = rows Fault.cs (nthF i) ++ Fault.cs ⟨(i : Int) + 1, strOfNums [IntKind.u8.wrap (97 + (i : Int))], [⟨i, 0⟩, ⟨i, 5⟩], 0⟩ := by rw [nthF, rows_snoc]
         have e2 : rows Bend.cs [⟨(i : Int), 0⟩, ⟨(i : Int), 5⟩] = [.int .i64 i, .int .i64 0, .int .i64 i, .int .i64 5] := rfl
         rw [e]
         simp [pickH, pickB, pickF, posOf, frzR, Cur.ren, ren, map_ren_rows, Fault.cs, e2]
     · have hr : RelR 1 (.osl 1 0 i 4) [some (Cur.cs B c5), some (rows Fault.cs (nthF i))] (faultsP B (k + 4000)) := by
         have hln := nthF_len i
         refine ⟨_, _, ⟨nthF i, c5, nthF_ok i, by omega, lmonoQ hc5 (by omega), rfl, rfl⟩, WeakR.pick [0] (by decide) (fun j hj => by rcases j with _ | j <;> first | rfl | omega) (.inl ?_) ?_⟩
         · have htk : (rows Fault.cs (nthF i)).take (i * 4) = rows Fault.cs (nthF i) := List.take_of_length_le (by omega)
           simp [ren, pickF, posOf, frzR, map_ren_rows, htk, hln]
         · simp only [pickH, List.map_cons, List.map_nil, pickB, List.getElem?_cons_zero, Cur.ren]
       exact hr
   · exact faults_fin rfl y1 (by omega) (lmonoQ hc3 (by omega))
end Go.Proofs
end
section
set_option maxRecDepth 100000
set_option maxHeartbeats 4000000
namespace Go.Proofs
open Go.Lv
def fidP (B : List Int) (k : Int) (r : V) (hout : Hp) : Prop := ∃ (n : Int) (c : Cur), c.le k ∧ r = .int .i64 n ∧ hout = [some (c.cs B)]
theorem fid_fin {B : List Int} {k : Int} {h : Hp} {n : Int} {c : Cur} (h0 : h[0]? = some (some (c.cs B))) (hc : c.le k) : RelR 1 (.int .i64 n) h (fidP B k) := by
 refine ⟨_, _, ⟨n, c, hc, rfl, rfl⟩, WeakR.pick [0] (by decide) (fun j hj => by rcases j with _ | j <;> first | rfl | omega) (.inl rfl) ?_⟩
 simp only [pickH, List.map_cons, List.map_nil, pickB, h0, Cur.ren]
theorem faultIdD_ok {B : List Int} (hB : CB B) {k : Int} (hk : k ≤ 900000) {c : Cur} (hc : c.le k) (L : List Fault) (hl : L.length ≤ 20) : CtrP Try.prog 62 [.ptr 0 0, Fault.sl L] [some (c.cs B)] (fidP B (k + 10)) := by
 have hcb : ∀ {c' : Cur} {k' : Int}, c'.le k' → k' ≤ 4000000 → c'.le 4611686018427387903 := fun h h' => ⟨h.1, by have := h.2; omega⟩
 refine CtrP.intro Try.mixed Try.func62 rfl Try.okF62 ?_
 simp -implicitDefEqProofs -dsimp only [go_sem, Try.ntmps62, Try.results62]
 (repeat ((repeat1' (first | simp -implicitDefEqProofs -dsimp only [go_sem] | simp -dsimp (disch := omega) only [wrap_i64])); repeat (with_reducible refine sideA ?_)))
 refine guardT.splitF (fun z1 => ?_) (fun z1 => ?_) <;> (repeat ((repeat1' (first | simp -implicitDefEqProofs -dsimp only [go_sem, z1] | simp -dsimp (disch := omega) only [wrap_i64])); repeat (with_reducible refine sideA ?_)))
 · have hL0 : 0 < L.length := by simp at z1; have := List.length_pos_iff.2 z1; omega
   refine one_call hB hc (by omega) 10 (by omega) rfl (fun vc1 c1 hc1 => ?_)
   (repeat ((repeat1' (first | simp -implicitDefEqProofs -dsimp only [go_sem, Cur.ren] | simp -dsimp (disch := omega) only [wrap_i64])); repeat (with_reducible refine sideA ?_)))
   refine condT.split (fun z2 => ?_) (fun z2 => ?_) <;> (repeat ((repeat1' (first | simp -implicitDefEqProofs -dsimp only [go_sem, z2] | simp -dsimp (disch := omega) only [wrap_i64])); repeat (with_reducible refine sideA ?_)))
   · refine among_call hB hc1 (by omega) [0, 1, 50] (by simp) (by simp) rfl rfl rfl (fun vc2 c2 pvc2 hc2 => ?_)
     (repeat ((repeat1' (first | simp -implicitDefEqProofs -dsimp only [go_sem, Cur.ren, map_ren_rows] | simp -dsimp (disch := omega) only [wrap_i64])); repeat (with_reducible refine sideA ?_)))
     exact fid_fin rfl (lmonoQ hc2 (by omega))
   · refine pick_call hB hc1 (by omega) (L.length : Int) (by omega) rfl (fun vc2 c2 pvc2 hc2 => ?_)
     obtain ⟨i, hi⟩ : ∃ i : Nat, vc2 = i := ⟨vc2.toNat, by omega⟩
     subst hi
     have hi' : i < L.length := by omega
     have hr := rows_at Fault.csl hi'
     (repeat ((repeat1' (first | simp -implicitDefEqProofs -dsimp only [go_sem, Cur.ren, hr, Fault.cs] | simp -dsimp (disch := omega) only [wrap_i64])); repeat (with_reducible refine sideA ?_)))
     exact fid_fin rfl (lmonoQ hc2 (by omega))
 · refine among_call hB hc (by omega) [0, 1, 50] (by simp) (by simp) rfl rfl rfl (fun vc1 c1 pvc1 hc1 => ?_)
   (repeat ((repeat1' (first | simp -implicitDefEqProofs -dsimp only [go_sem, Cur.ren, map_ren_rows] | simp -dsimp (disch := omega) only [wrap_i64])); repeat (with_reducible refine sideA ?_)))
   exact fid_fin rfl (lmonoQ hc1 (by omega))
def dFaultP (r : V) (hout : Hp) : Prop := ∃ f : Fault, faultOk f ∧ r = f.v ∧ hout = []
def dSideP (r : V) (hout : Hp) : Prop := ∃ a b p : Bend, r = .tup [a.v, b.v, p.v] ∧ hout = []
def dConnP (r : V) (hout : Hp) : Prop := ∃ (L : List Fault) (x y : Int), fsOk L ∧ L.length ≤ 20 ∧ r = .tup [Fault.sl L, .int .i64 x, .int .i64 y] ∧ hout = []
def dYearsP (r : V) (hout : Hp) : Prop := ∃ (f : Fault) (m : Int), faultOk f ∧ r = .tup [f.v, .int .i64 m] ∧ hout = []
theorem drawIsFault_ok {B : List Int} (hB : CB B) : CtrP Try.prog 41 [ByteS.sl B] [] dFaultP := by
 have hcb : ∀ {c' : Cur} {k' : Int}, c'.le k' → k' ≤ 4000000 → c'.le 4611686018427387903 := fun h h' => ⟨h.1, by have := h.2; omega⟩
 obtain ⟨c, hcd⟩ : ∃ c : Cur, c = ⟨0, 0⟩ := ⟨_, rfl⟩
 have hc : c.le 0 := by rw [hcd]; exact ⟨Int.le_refl _, Int.le_refl _⟩
 have hcc : c.cs B = [ByteS.sl B, .int .i64 0, .int .u64 0] := by rw [hcd]; rfl
 refine CtrP.intro Try.mixed Try.func41 rfl Try.okF41 ?_
 simp -implicitDefEqProofs -dsimp only [go_sem, Try.ntmps41, Try.results41]
 (repeat ((repeat1' (first | simp -implicitDefEqProofs -dsimp only [go_sem, ByteS.sl] | simp -dsimp (disch := omega) only [wrap_i64])); repeat (with_reducible refine sideA ?_)))
 rw [← ByteS.sl, ← hcc]
 refine among_call hB hc (by omega) [1, 42, 99] (by simp) (by simp) rfl rfl rfl (fun vc1 c1 pvc1 hc1 => ?_)
 (repeat ((repeat1' (first | simp -implicitDefEqProofs -dsimp only [go_sem, Cur.ren, map_ren_rows] | simp -dsimp (disch := omega) only [wrap_i64])); repeat (with_reducible refine sideA ?_)))
 refine callS.rel [1] (fault_ok hB (by omega) hc1 _) (by decide) ⟨leO, leO, trivial⟩ (lendCur rfl) rfl (fun r hout hΦ => ?_)
 obtain ⟨f, c2, hf, hc2, rfl, rfl⟩ := hΦ
 refine ⟨⟨⟨rfl, rfl⟩, trivial⟩, ?_⟩
 (repeat ((repeat1' (first | simp -implicitDefEqProofs -dsimp only [go_sem, Cur.ren, map_ren_rows, Fault.v] | simp -dsimp (disch := omega) only [wrap_i64])); repeat (with_reducible refine sideA ?_)))
 exact ⟨_, _, ⟨f, hf, rfl, rfl⟩, WeakR.drop' rfl (by rfl)⟩
theorem drawReverseFault_ok {B : List Int} (hB : CB B) : CtrP Try.prog 13 [ByteS.sl B] [] dFaultP := by
 refine CtrP.intro Try.mixed Try.func13 rfl Try.okF13 ?_
 simp -implicitDefEqProofs -dsimp only [go_sem, Try.ntmps13, Try.results13]
 (repeat ((repeat1' (first | simp -implicitDefEqProofs -dsimp only [go_sem] | simp -dsimp (disch := omega) only [wrap_i64])); repeat (with_reducible refine sideA ?_)))
 refine callS.rel [] (drawIsFault_ok hB) (by decide) ⟨leO, trivial⟩ rfl rfl (fun r hout hΦ => ?_)
 obtain ⟨f, hf, rfl, rfl⟩ := hΦ
 refine ⟨trivial, ?_⟩
 (repeat ((repeat1' (first | simp -implicitDefEqProofs -dsimp only [go_sem, Fault.v] | simp -dsimp (disch := omega) only [wrap_i64])); repeat (with_reducible refine sideA ?_)))
 exact ⟨_, _, ⟨f, hf, rfl, rfl⟩, WeakR.drop' rfl (by rfl)⟩
theorem drawSideOf_ok {B : List Int} (hB : CB B) : CtrP Try.prog 20 [ByteS.sl B] [] dSideP := by
 have hcb : ∀ {c' : Cur} {k' : Int}, c'.le k' → k' ≤ 4000000 → c'.le 4611686018427387903 := fun h h' => ⟨h.1, by have := h.2; omega⟩
 obtain ⟨c, hcd⟩ : ∃ c : Cur, c = ⟨0, 0⟩ := ⟨_, rfl⟩
 have hc : c.le 0 := by rw [hcd]; exact ⟨Int.le_refl _, Int.le_refl _⟩
 have hcc : c.cs B = [ByteS.sl B, .int .i64 0, .int .u64 0] := by rw [hcd]; rfl
 refine CtrP.intro Try.mixed Try.func20 rfl Try.okF20 ?_
 simp -implicitDefEqProofs -dsimp only [go_sem, Try.ntmps20, Try.results20]
 (repeat ((repeat1' (first | simp -implicitDefEqProofs -dsimp only [go_sem, ByteS.sl] | simp -dsimp (disch := omega) only [wrap_i64])); repeat (with_reducible refine sideA ?_)))
 rw [← ByteS.sl, ← hcc]
 refine callS.rel [3] (bend_ok hB (by omega) hc) (by decide) ⟨leO, trivial⟩ (lendCur rfl) rfl (fun r hout hΦ => ?_)
 obtain ⟨a, c1, hc1, rfl, rfl⟩ := hΦ
 refine ⟨⟨⟨rfl, rfl⟩, trivial⟩, ?_⟩
 (repeat ((repeat1' (first | simp -implicitDefEqProofs -dsimp only [go_sem, Cur.ren, map_ren_rows, Bend.v] | simp -dsimp (disch := omega) only [wrap_i64])); repeat (with_reducible refine sideA ?_)))
 refine callS.rel [3] (bend_ok hB (by omega) hc1) (by decide) ⟨leO, trivial⟩ (lendCur rfl) rfl (fun r hout hΦ => ?_)
 obtain ⟨b, c2, hc2, rfl, rfl⟩ := hΦ
 refine ⟨⟨⟨rfl, rfl⟩, trivial⟩, ?_⟩
 (repeat ((repeat1' (first | simp -implicitDefEqProofs -dsimp only [go_sem, Cur.ren, map_ren_rows, Bend.v] | simp -dsimp (disch := omega) only [wrap_i64])); repeat (with_reducible refine sideA ?_)))
 refine callS.rel [3] (bend_ok hB (by omega) hc2) (by decide) ⟨leO, trivial⟩ (lendCur rfl) rfl (fun r hout hΦ => ?_)
 obtain ⟨p, c3, hc3, rfl, rfl⟩ := hΦ
 refine ⟨⟨⟨rfl, rfl⟩, trivial⟩, ?_⟩
 (repeat ((repeat1' (first | simp -implicitDefEqProofs -dsimp only [go_sem, Cur.ren, map_ren_rows, Bend.v] | simp -dsimp (disch := omega) only [wrap_i64])); repeat (with_reducible refine sideA ?_)))
 exact ⟨_, _, ⟨a, b, p, rfl, rfl⟩, WeakR.drop' rfl (by rfl)⟩
theorem drawConnectFaults_ok {B : List Int} (hB : CB B) : CtrP Try.prog 23 [ByteS.sl B] [] dConnP := by
 have hcb : ∀ {c' : Cur} {k' : Int}, c'.le k' → k' ≤ 4000000 → c'.le 4611686018427387903 := fun h h' => ⟨h.1, by have := h.2; omega⟩
 obtain ⟨c, hcd⟩ : ∃ c : Cur, c = ⟨0, 0⟩ := ⟨_, rfl⟩
 have hc : c.le 0 := by rw [hcd]; exact ⟨Int.le_refl _, Int.le_refl _⟩
 have hcc : c.cs B = [ByteS.sl B, .int .i64 0, .int .u64 0] := by rw [hcd]; rfl
 refine CtrP.intro Try.mixed Try.func23 rfl Try.okF23 ?_
 simp -implicitDefEqProofs -dsimp only [go_sem, Try.ntmps23, Try.results23]
 (repeat ((repeat1' (first | simp -implicitDefEqProofs -dsimp only [go_sem, ByteS.sl] | simp -dsimp (disch := omega) only [wrap_i64])); repeat (with_reducible refine sideA ?_)))
 rw [← ByteS.sl, ← hcc]
 refine callS.rel [0] (faults_ok hB (by omega) hc) (by decide) ⟨leO, trivial⟩ (lendCur rfl) rfl (fun r hout hΦ => ?_)
 obtain ⟨L, c1, hL, hl, hc1, rfl, rfl⟩ := hΦ
 refine ⟨⟨⟨rfl, rfl⟩, trivial⟩, ?_⟩
 (repeat ((repeat1' (first | simp -implicitDefEqProofs -dsimp only [go_sem, Cur.ren, map_ren_rows] | simp -dsimp (disch := omega) only [wrap_i64])); repeat (with_reducible refine sideA ?_)))
 refine guardT.splitT (fun z1 => ?_) (fun z1 => ?_) <;> (repeat ((repeat1' (first | simp -implicitDefEqProofs -dsimp only [go_sem, z1] | simp -dsimp (disch := omega) only [wrap_i64])); repeat (with_reducible refine sideA ?_)))
 · have hL1 : 1 < L.length := by have := of_decide_eq_true z1; omega
   refine one_call hB hc1 (by omega) 4 (by omega) rfl (fun vc2 c2 hc2 => ?_)
   (repeat ((repeat1' (first | simp -implicitDefEqProofs -dsimp only [go_sem, Cur.ren, map_ren_rows] | simp -dsimp (disch := omega) only [wrap_i64])); repeat (with_reducible refine sideA ?_)))
   refine condT.split (fun z2 => ?_) (fun z2 => ?_) <;> (repeat ((repeat1' (first | simp -implicitDefEqProofs -dsimp only [go_sem, z2] | simp -dsimp (disch := omega) only [wrap_i64])); repeat (with_reducible refine sideA ?_)))
   · have hm1 : (L.length : Int) - 1 = ((L.length - 1 : Nat) : Int) := by omega
     (repeat ((repeat1' (first | simp -implicitDefEqProofs -dsimp only [go_sem, hm1] | simp -dsimp (disch := omega) only [wrap_i64])); repeat (with_reducible refine sideA ?_)))
     refine pick_call hB hc2 (by omega) ((L.length - 1 : Nat) : Int) (by omega) rfl (fun vc3 c3 pvc3 hc3 => ?_)
     obtain ⟨i, hi⟩ : ∃ i : Nat, vc3 = i := ⟨vc3.toNat, by omega⟩
     subst hi
     have hi' : i < L.length := by omega
     have hi2 : i + 1 < L.length := by omega
     have hr := rows_at Fault.csl hi'
     have hr2 := rows_at Fault.csl hi2
     have hi3 : (i : Int) + 1 = ((i + 1 : Nat) : Int) := by omega
     (repeat ((repeat1' (first | simp -implicitDefEqProofs -dsimp only [go_sem, Cur.ren, hr, hi3, hr2, Fault.cs] | simp -dsimp (disch := omega) only [wrap_i64])); repeat (with_reducible refine sideA ?_)))
     exact ⟨_, _, ⟨L, _, _, hL, hl, rfl, rfl⟩, WeakR.drop' rfl (by rfl)⟩
   · refine callS.rel [0] (faultIdD_ok hB (by omega) hc2 L hl) (by decide) ⟨leO, leO, trivial⟩ (lendCur rfl) rfl (fun r hout hΦ => ?_)
     obtain ⟨n1, c3, hc3, rfl, rfl⟩ := hΦ
     refine ⟨⟨⟨rfl, rfl⟩, trivial⟩, ?_⟩
     (repeat ((repeat1' (first | simp -implicitDefEqProofs -dsimp only [go_sem, Cur.ren, map_ren_rows] | simp -dsimp (disch := omega) only [wrap_i64])); repeat (with_reducible refine sideA ?_)))
     refine callS.rel [0] (faultIdD_ok hB (by omega) hc3 L hl) (by decide) ⟨leO, leO, trivial⟩ (lendCur rfl) rfl (fun r hout hΦ => ?_)
     obtain ⟨n2, c4, hc4, rfl, rfl⟩ := hΦ
     refine ⟨⟨⟨rfl, rfl⟩, trivial⟩, ?_⟩
     (repeat ((repeat1' (first | simp -implicitDefEqProofs -dsimp only [go_sem, Cur.ren, map_ren_rows] | simp -dsimp (disch := omega) only [wrap_i64])); repeat (with_reducible refine sideA ?_)))
     exact ⟨_, _, ⟨L, n1, n2, hL, hl, rfl, rfl⟩, WeakR.drop' rfl (by rfl)⟩
 · refine callS.rel [0] (faultIdD_ok hB (by omega) hc1 L hl) (by decide) ⟨leO, leO, trivial⟩ (lendCur rfl) rfl (fun r hout hΦ => ?_)
   obtain ⟨n1, c3, hc3, rfl, rfl⟩ := hΦ
   refine ⟨⟨⟨rfl, rfl⟩, trivial⟩, ?_⟩
   (repeat ((repeat1' (first | simp -implicitDefEqProofs -dsimp only [go_sem, Cur.ren, map_ren_rows] | simp -dsimp (disch := omega) only [wrap_i64])); repeat (with_reducible refine sideA ?_)))
   refine callS.rel [0] (faultIdD_ok hB (by omega) hc3 L hl) (by decide) ⟨leO, leO, trivial⟩ (lendCur rfl) rfl (fun r hout hΦ => ?_)
   obtain ⟨n2, c4, hc4, rfl, rfl⟩ := hΦ
   refine ⟨⟨⟨rfl, rfl⟩, trivial⟩, ?_⟩
   (repeat ((repeat1' (first | simp -implicitDefEqProofs -dsimp only [go_sem, Cur.ren, map_ren_rows] | simp -dsimp (disch := omega) only [wrap_i64])); repeat (with_reducible refine sideA ?_)))
   exact ⟨_, _, ⟨L, n1, n2, hL, hl, rfl, rfl⟩, WeakR.drop' rfl (by rfl)⟩
theorem quo11 {x : Int} (h : 0 ≤ x ∧ (1 ≤ (24 : Int) → x < 24)) : ∃ j : Nat, Int.tdiv x 11 = j ∧ j ≤ 2 := by
 obtain ⟨n, rfl⟩ : ∃ n : Nat, x = n := ⟨x.toNat, by omega⟩
 refine ⟨n / 11, rfl, by omega⟩
theorem wrap4 {j : Nat} (h : j ≤ 2) : IntKind.i64.wrap (4 + (j : Int)) = 4 + (j : Int) := wrap_i64 (by omega) (by omega)
theorem drawYearsFor_ok {B : List Int} (hB : CB B) : CtrP Try.prog 25 [ByteS.sl B] [] dYearsP := by
 have hcb : ∀ {c' : Cur} {k' : Int}, c'.le k' → k' ≤ 4000000 → c'.le 4611686018427387903 := fun h h' => ⟨h.1, by have := h.2; omega⟩
 obtain ⟨c, hcd⟩ : ∃ c : Cur, c = ⟨0, 0⟩ := ⟨_, rfl⟩
 have hc : c.le 0 := by rw [hcd]; exact ⟨Int.le_refl _, Int.le_refl _⟩
 have hcc : c.cs B = [ByteS.sl B, .int .i64 0, .int .u64 0] := by rw [hcd]; rfl
 refine CtrP.intro Try.mixed Try.func25 rfl Try.okF25 ?_
 simp -implicitDefEqProofs -dsimp only [go_sem, Try.ntmps25, Try.results25]
 (repeat ((repeat1' (first | simp -implicitDefEqProofs -dsimp only [go_sem, ByteS.sl] | simp -dsimp (disch := omega) only [wrap_i64])); repeat (with_reducible refine sideA ?_)))
 rw [← ByteS.sl, ← hcc]
 refine callS.rel [1] (fault_ok hB (by omega) hc 5) (by decide) ⟨leO, leO, trivial⟩ (lendCur rfl) rfl (fun r hout hΦ => ?_)
 obtain ⟨f, c1, hf, hc1, rfl, rfl⟩ := hΦ
 refine ⟨⟨⟨rfl, rfl⟩, trivial⟩, ?_⟩
 (repeat ((repeat1' (first | simp -implicitDefEqProofs -dsimp only [go_sem, Cur.ren, map_ren_rows, Fault.v] | simp -dsimp (disch := omega) only [wrap_i64])); repeat (with_reducible refine sideA ?_)))
 refine clT.tree (fun s2 => ∃ (m : Int), s2 = ⟨[.undef, .undef, .ptr 0 0, .int .i64 m, .undef, .undef, .undef, .undef, .undef, .undef, .undef, .undef, .undef, .undef, .undef, .undef, .undef, .undef, .undef, .undef], [some f.cs], 0⟩) (.take 1 (.take 3 (.alt 0 (.alt 2 (.alt 4 (.take 5 (.take 6 (.alt 7 (.alt 8 (.alt 9 (.alt 10 .done .stop) .stop) .stop) .stop))) .stop) (.alt 4 (.take 5 (.take 6 (.alt 2 (.alt 7 (.alt 8 (.alt 9 (.alt 10 .done .stop) .stop) .stop) .stop) .stop))) .stop)) (.alt 2 (.alt 0 (.alt 4 (.take 5 (.take 6 (.alt 7 (.alt 8 (.alt 9 (.alt 10 .done .stop) .stop) .stop) .stop))) .stop) (.alt 4 (.take 5 (.take 6 (.alt 0 (.alt 7 (.alt 8 (.alt 9 (.alt 10 .done .stop) .stop) .stop) .stop) (.alt 7 (.alt 0 (.alt 8 (.alt 9 (.alt 10 .done .stop) .stop) .stop) (.alt 8 (.alt 0 (.alt 9 (.alt 10 .done .stop) .stop) .stop) .stop)) .stop)))) .stop)) (.alt 4 (.take 5 (.take 6 (.alt 0 (.alt 2 (.alt 7 (.alt 8 (.alt 9 (.alt 10 .done .stop) .stop) .stop) .stop) .stop) (.alt 2 (.alt 0 (.alt 7 (.alt 8 (.alt 9 (.alt 10 .done .stop) .stop) .stop) .stop) (.alt 7 (.alt 0 (.alt 8 (.alt 9 (.alt 10 .done .stop) .stop) .stop) (.alt 8 (.alt 0 (.alt 9 (.alt 10 .done .stop) .stop) .stop) .stop)) .stop)) .stop)))) .stop))))) (by kernel_rfl) (fun s2 hs2 => ?_) ?_
 · obtain ⟨m, rfl⟩ := hs2
   (repeat ((repeat1' (first | simp -implicitDefEqProofs -dsimp only [go_sem, Fault.cs] | simp -dsimp (disch := omega) only [wrap_i64])); repeat (with_reducible refine sideA ?_)))
   exact ⟨_, _, ⟨f, m, hf, rfl, rfl⟩, WeakR.drop' rfl (by rfl)⟩
 · (repeat ((repeat1' (first | simp -implicitDefEqProofs -dsimp only [go_sem] | simp -dsimp (disch := omega) only [wrap_i64])); repeat (with_reducible refine sideA ?_)))
   repeat' (first | (refine pick_call hB hc1 (by omega) 24 (by omega) rfl (fun vc2 c2 pvc2 hc2 => ?_); obtain ⟨j, hj, hjb⟩ := quo11 pvc2; have hw := wrap4 hjb; (repeat ((repeat1' (first | simp -implicitDefEqProofs -dsimp only [go_sem, Cur.ren, map_ren_rows, hj, hw] | simp -dsimp (disch := omega) only [wrap_i64])); repeat (with_reducible refine sideA ?_))); have e1 : (4 + (j : Int)).toNat - 0 = 4 + j := by omega; try simp only [e1]) | (have pc3 := amongN_ok hB (hcb hc2 (by omega)) [0, 1, 7, 100, -1, 101] (n := (4 + j)) (by omega) (by simp only [List.length_cons, List.length_nil]; omega) (by simp); have hc3 := pickC_le (B := B) (n := (((4 + j) : Nat) : Int)) hc2; have pvc3 := amongNV_mem hB (K := [0, 1, 7, 100, -1, 101]) (n := (4 + j)) (by omega) (by simp only [List.length_cons, List.length_nil]; omega) hc2.1; generalize amongNV B [0, 1, 7, 100, -1, 101] (4 + j) c2 = vc3 at pc3 pvc3; generalize pickC B (((4 + j) : Nat) : Int) c2 = c3 at pc3 hc3; (first | refine callS.lend [1, 1] false pc3 (by decide) ⟨leO, leO, trivial⟩ (lendCur2 rfl rfl) (growCur2 B _ _) (.inl rfl) ?_ | refine callS.lend [1, 2] false pc3 (by decide) ⟨leO, leO, trivial⟩ (lendCur2 rfl rfl) (growCur2 B _ _) (.inl rfl) ?_ | refine callS.lend [1, 3] false pc3 (by decide) ⟨leO, leO, trivial⟩ (lendCur2 rfl rfl) (growCur2 B _ _) (.inl rfl) ?_ | refine callS.lend [1, 4] false pc3 (by decide) ⟨leO, leO, trivial⟩ (lendCur2 rfl rfl) (growCur2 B _ _) (.inl rfl) ?_ | refine callS.lend [1, 5] false pc3 (by decide) ⟨leO, leO, trivial⟩ (lendCur2 rfl rfl) (growCur2 B _ _) (.inl rfl) ?_ | refine callS.lend [1, 6] false pc3 (by decide) ⟨leO, leO, trivial⟩ (lendCur2 rfl rfl) (growCur2 B _ _) (.inl rfl) ?_ | refine callS.lend [1, 7] false pc3 (by decide) ⟨leO, leO, trivial⟩ (lendCur2 rfl rfl) (growCur2 B _ _) (.inl rfl) ?_ | refine callS.lend [1, 8] false pc3 (by decide) ⟨leO, leO, trivial⟩ (lendCur2 rfl rfl) (growCur2 B _ _) (.inl rfl) ?_); (repeat ((repeat1' (first | simp -implicitDefEqProofs -dsimp only [go_sem, Cur.ren, map_ren_rows] | simp -dsimp (disch := omega) only [wrap_i64])); repeat (with_reducible refine sideA ?_)))) | (refine And.intro ?_ ?_) | exact trivial | omega | (simp only [show (4 + (j : Int)).toNat - 0 = 4 + j by omega]))
   all_goals refine ⟨_, ⟨vc3, rfl⟩, ?_⟩
   all_goals refine Weak.cut (1) (by simp) (by simp) ?_ ?_
   all_goals first | (simp [LeC, LeV, ren, cutF]; done) | (simp [cutH, cutB, ren, map_ren_rows, Fault.cs]; done)
end Go.Proofs
end
section
set_option maxRecDepth 100000
set_option maxHeartbeats 4000000
namespace Go.Proofs
open Go.Lv
theorem connR_flsOk {L O : List Fault} {a b : Int} (hok : flsOk L) (h : connR L a b = some O) : flsOk O := by
 unfold connR at h
 split at h
 · rename_i hF
   split at h
   · rename_i hh
     split at h
     · simp only [Option.some.injEq] at h
       rw [← h]
       exact fls_conn hok hF (List.getElem_mem _) _
     · cases h
   · cases h
 · cases h
theorem conn_facts (K : List Fault) (x y : Int) (hK : flsOk K) : ∃ (O : List Fault) (kn : Bool), frzV Fault.cs 4 (connR K x y) = .tup [Fault.sl O, .bool kn] ∧ O.length ≤ 6 ∧ flsOk O ∧ (∀ f ∈ O, faultB f = true) ∧ (kn = true → (∀ f ∈ K, faultB f = true) ∧ totL K = totL O) ∧ (kn = false → O = []) := by
 cases h : connR K x y with
 | none =>
   have h1 : flsOk [] := fun f hf => by cases hf
   have h2 : ∀ f ∈ ([] : List Fault), faultB f = true := fun f hf => by cases hf
   exact ⟨[], false, rfl, by decide, h1, h2, fun e => (Bool.noConfusion e), fun _ => rfl⟩
 | some O =>
   obtain ⟨h1, h2, h3⟩ := connR_some h
   obtain ⟨h4, h5⟩ := faultsB_all h2
   exact ⟨O, true, rfl, h5, connR_flsOk hK h, h4, fun _ => ⟨(faultsB_all h1).1, h3.symm⟩, fun e => (Bool.noConfusion e)⟩
theorem fnFaultsLaw_ok (L : List Int) (hL : lstR ByteS.ok L) : Ctr Try.prog 4 [ByteS.sl L] [] (.bool true) [] := by
 have hB : CB L := hL
 refine Ctr.intro Try.mixed Try.func4 rfl Try.okF4 ?_
 simp -implicitDefEqProofs -dsimp only [go_sem, Try.ntmps4, Try.results4]
 (first | refine callT.at (rBig_ok L) ⟨(by first | exact leA | exact le_snap' rfl (by omega)), trivial⟩ ?_ | refine callS.at (rBig_ok L) ⟨(by first | exact leA | exact le_snap' rfl (by omega)), trivial⟩ ?_)
 (repeat ((repeat1' (first | simp -implicitDefEqProofs -dsimp only [go_sem] | simp -dsimp (disch := omega) only [wrap_i64])); repeat (with_reducible refine sideA ?_)))
 refine condT.split (fun hbig => ?_) (fun hbig => ?_) <;> (repeat ((repeat1' (first | simp -implicitDefEqProofs -dsimp only [go_sem, hbig] | simp -dsimp (disch := omega) only [wrap_i64])); repeat (with_reducible refine sideA ?_)))
 · exact WeakR.drop' rfl (by rfl)
 refine callS.rel [] (drawReverseFault_ok hB) (by decide) ⟨leO, trivial⟩ rfl rfl (fun r hout hΦ => ?_)
 obtain ⟨f, hf, rfl, rfl⟩ := hΦ
 refine ⟨trivial, ?_⟩
 (repeat ((repeat1' (first | simp -implicitDefEqProofs -dsimp only [go_sem, Fault.v] | simp -dsimp (disch := omega) only [wrap_i64])); repeat (with_reducible refine sideA ?_)))
 have hfn : strR f.Name := by have := hf.1; simp only [strR]; omega
 have hfl : f.Bends.length ≤ 1048576 := by have := hf.2.2; omega
 have ir := iRev_ok f hfn hfl
 have sr := sRev_ok f hfn hfl
 have iI := iIsFault_ok f hfn (by omega)
 have iL := iFaultLength_ok f hfn hfl
 have sL := sFaultLength_ok f hfn hfl
 rw [revR] at ir sr
 rw [fLenV] at iL sL
 have hqq : (fLen f == fLen f) = true := beq_self_eq_true _
 have hnq : (fLen f != fLen f) = false := by simp
 cases hb : faultB f with
 | false =>
   rw [hb] at ir sr iI iL sL
   have hgl : (revF f).Bends.length ≤ 1048576 := by rw [revF, if_neg (by simp [hb])]; simp
   generalize revF f = g at *
   (first | refine callT.at (ir) ⟨(by first | exact leA | exact le_snap' rfl (by omega)), trivial⟩ ?_ | refine callS.at (ir) ⟨(by first | exact leA | exact le_snap' rfl (by omega)), trivial⟩ ?_)
   (repeat ((repeat1' (first | simp -implicitDefEqProofs -dsimp only [go_sem, Fault.v] | simp -dsimp (disch := omega) only [wrap_i64])); repeat (with_reducible refine sideA ?_)))
   (first | refine callT.at (sr) ⟨(by first | exact leA | exact le_snap' rfl (by omega)), trivial⟩ ?_ | refine callS.at (sr) ⟨(by first | exact leA | exact le_snap' rfl (by omega)), trivial⟩ ?_)
   (repeat ((repeat1' (first | simp -implicitDefEqProofs -dsimp only [go_sem, Fault.v] | simp -dsimp (disch := omega) only [wrap_i64])); repeat (with_reducible refine sideA ?_)))
   (first | refine callT.at (rFault_ok g hgl) ⟨(by first | exact leA | exact le_snap' rfl (by omega)), (by first | exact leA | exact le_snap' rfl (by omega)), trivial⟩ ?_ | refine callS.at (rFault_ok g hgl) ⟨(by first | exact leA | exact le_snap' rfl (by omega)), (by first | exact leA | exact le_snap' rfl (by omega)), trivial⟩ ?_)
   (repeat ((repeat1' (first | simp -implicitDefEqProofs -dsimp only [go_sem, Fault.v] | simp -dsimp (disch := omega) only [wrap_i64])); repeat (with_reducible refine sideA ?_)))
   (first | refine callT.at (iI) ⟨(by first | exact leA | exact le_snap' rfl (by omega)), trivial⟩ ?_ | refine callS.at (iI) ⟨(by first | exact leA | exact le_snap' rfl (by omega)), trivial⟩ ?_)
   (repeat ((repeat1' (first | simp -implicitDefEqProofs -dsimp only [go_sem, Fault.v] | simp -dsimp (disch := omega) only [wrap_i64])); repeat (with_reducible refine sideA ?_)))
   (first | refine callT.at (iL) ⟨(by first | exact leA | exact le_snap' rfl (by omega)), trivial⟩ ?_ | refine callS.at (iL) ⟨(by first | exact leA | exact le_snap' rfl (by omega)), trivial⟩ ?_)
   (repeat ((repeat1' (first | simp -implicitDefEqProofs -dsimp only [go_sem, Fault.v] | simp -dsimp (disch := omega) only [wrap_i64])); repeat (with_reducible refine sideA ?_)))
   (first | refine callT.at (sL) ⟨(by first | exact leA | exact le_snap' rfl (by omega)), trivial⟩ ?_ | refine callS.at (sL) ⟨(by first | exact leA | exact le_snap' rfl (by omega)), trivial⟩ ?_)
   (repeat ((repeat1' (first | simp -implicitDefEqProofs -dsimp only [go_sem, Fault.v, hnq] | simp -dsimp (disch := omega) only [wrap_i64])); repeat (with_reducible refine sideA ?_)))
   refine callS.rel [] (drawSideOf_ok hB) (by decide) ⟨leO, trivial⟩ rfl rfl (fun r hout hΦ => ?_)
   obtain ⟨a, b, p, rfl, rfl⟩ := hΦ
   refine ⟨trivial, ?_⟩
   (repeat ((repeat1' (first | simp -implicitDefEqProofs -dsimp only [go_sem, Bend.v] | simp -dsimp (disch := omega) only [wrap_i64])); repeat (with_reducible refine sideA ?_)))
   have i1 := iSideOf_ok a b p
   have i2 := iSideOf_ok b a p
   have s1 := sSideOf_ok a b p
   rw [sideR] at i1 i2 s1
   rw [sideV_swap a b p, sideB_swap a b p] at i2
   have hvr := sideV_r a b p
   generalize sideV a b p = v at *
   generalize sideB a b p = tb at *
   have hv0 : (v != v) = false := by simp
   have hv1 : (-v != 0 - v) = false := by rw [Int.zero_sub]; simp
   have ht0 : (tb != tb) = false := by simp
   (first | refine callT.at (i1) ⟨(by first | exact leA | exact le_snap' rfl (by omega)), (by first | exact leA | exact le_snap' rfl (by omega)), (by first | exact leA | exact le_snap' rfl (by omega)), trivial⟩ ?_ | refine callS.at (i1) ⟨(by first | exact leA | exact le_snap' rfl (by omega)), (by first | exact leA | exact le_snap' rfl (by omega)), (by first | exact leA | exact le_snap' rfl (by omega)), trivial⟩ ?_)
   (repeat ((repeat1' (first | simp -implicitDefEqProofs -dsimp only [go_sem, Bend.v] | simp -dsimp (disch := omega) only [wrap_i64])); repeat (with_reducible refine sideA ?_)))
   (first | refine callT.at (i2) ⟨(by first | exact leA | exact le_snap' rfl (by omega)), (by first | exact leA | exact le_snap' rfl (by omega)), (by first | exact leA | exact le_snap' rfl (by omega)), trivial⟩ ?_ | refine callS.at (i2) ⟨(by first | exact leA | exact le_snap' rfl (by omega)), (by first | exact leA | exact le_snap' rfl (by omega)), (by first | exact leA | exact le_snap' rfl (by omega)), trivial⟩ ?_)
   (repeat ((repeat1' (first | simp -implicitDefEqProofs -dsimp only [go_sem, Bend.v] | simp -dsimp (disch := omega) only [wrap_i64])); repeat (with_reducible refine sideA ?_)))
   (first | refine callT.at (s1) ⟨(by first | exact leA | exact le_snap' rfl (by omega)), (by first | exact leA | exact le_snap' rfl (by omega)), (by first | exact leA | exact le_snap' rfl (by omega)), trivial⟩ ?_ | refine callS.at (s1) ⟨(by first | exact leA | exact le_snap' rfl (by omega)), (by first | exact leA | exact le_snap' rfl (by omega)), (by first | exact leA | exact le_snap' rfl (by omega)), trivial⟩ ?_)
   (repeat ((repeat1' (first | simp -implicitDefEqProofs -dsimp only [go_sem, Bend.v, hv0, hv1, ht0] | simp -dsimp (disch := omega) only [wrap_i64])); repeat (with_reducible refine sideA ?_)))
   refine callS.rel [] (drawConnectFaults_ok hB) (by decide) ⟨leO, trivial⟩ rfl rfl (fun r hout hΦ => ?_)
   obtain ⟨K, x, y, hK, hKl, rfl, rfl⟩ := hΦ
   refine ⟨trivial, ?_⟩
   (repeat ((repeat1' (first | simp -implicitDefEqProofs -dsimp only [go_sem] | simp -dsimp (disch := omega) only [wrap_i64])); repeat (with_reducible refine sideA ?_)))
   have hKf := fsOk_fls hK
   have ic := iConnectFaults_ok K x y hKf (by omega)
   have sc := sConnectFaults_ok K x y hKf (by omega)
   obtain ⟨O, kn, hic, hO6, hOf, hOv, hkt, hkf⟩ := conn_facts K x y hKf
   rw [hic] at ic sc
   have r0 := rFaults_ok O (fun f hf => (hOf f hf).2) (by omega)
   have hkk : (kn != kn) = false := by simp
   (first | refine callT.at (ic) ⟨(by first | exact leA | exact le_snap' rfl (by omega)), (by first | exact leA | exact le_snap' rfl (by omega)), (by first | exact leA | exact le_snap' rfl (by omega)), trivial⟩ ?_ | refine callS.at (ic) ⟨(by first | exact leA | exact le_snap' rfl (by omega)), (by first | exact leA | exact le_snap' rfl (by omega)), (by first | exact leA | exact le_snap' rfl (by omega)), trivial⟩ ?_)
   (repeat ((repeat1' (first | simp -implicitDefEqProofs -dsimp only [go_sem] | simp -dsimp (disch := omega) only [wrap_i64])); repeat (with_reducible refine sideA ?_)))
   (first | refine callT.at (sc) ⟨(by first | exact leA | exact le_snap' rfl (by omega)), (by first | exact leA | exact le_snap' rfl (by omega)), (by first | exact leA | exact le_snap' rfl (by omega)), trivial⟩ ?_ | refine callS.at (sc) ⟨(by first | exact leA | exact le_snap' rfl (by omega)), (by first | exact leA | exact le_snap' rfl (by omega)), (by first | exact leA | exact le_snap' rfl (by omega)), trivial⟩ ?_)
   (repeat ((repeat1' (first | simp -implicitDefEqProofs -dsimp only [go_sem] | simp -dsimp (disch := omega) only [wrap_i64])); repeat (with_reducible refine sideA ?_)))
   (first | refine callT.at (r0) ⟨(by first | exact leA | exact le_snap' rfl (by omega)), (by first | exact leA | exact le_snap' rfl (by omega)), trivial⟩ ?_ | refine callS.at (r0) ⟨(by first | exact leA | exact le_snap' rfl (by omega)), (by first | exact leA | exact le_snap' rfl (by omega)), trivial⟩ ?_)
   (repeat ((repeat1' (first | simp -implicitDefEqProofs -dsimp only [go_sem, hkk] | simp -dsimp (disch := omega) only [wrap_i64])); repeat (with_reducible refine sideA ?_)))
   refine LoopT.intro (fun n : Nat => n ≤ K.length ∧ (kn = false → n = 0)) (fun n => ⟨[ByteS.sl L, .undef, .undef, .undef, .undef, .undef, .undef, .undef, .undef, .undef, .undef, .undef, .undef, .undef, .undef, .undef, .undef, .undef, .undef, .undef, .undef, .undef, .undef, .undef, .undef, Fault.sl K, .undef, .undef, Fault.sl O, .bool kn, .undef, .undef, .int .i64 (totL (K.take n)), .int .i64 n, .undef, .undef, .undef, .undef, .undef, .undef, .undef, .undef, .undef, .undef, .undef, .undef, .undef, .undef, .undef, .undef, .undef, .undef, .undef, .undef, .undef, .undef, .undef, .undef, .undef, .undef, .undef, .undef, .undef, .undef, .undef, .undef, .undef, .undef, .undef, .undef, .undef, .undef, .undef, .undef, .undef, .undef, .undef, .undef, .undef, .undef, .undef, .undef, .undef, .undef, .undef, .undef, .undef, .undef, .undef, .undef, .undef, .undef, .undef, .undef, .undef, .undef, .undef, .undef, .undef, .undef, .undef, .undef, .undef, .undef, .undef, .undef, .undef, .undef, .undef, .undef, .undef, .undef, .undef, .undef, .undef, .undef, .undef, .undef, .undef, .undef, .undef, .undef, .undef, .undef, .undef, .undef, .undef, .undef, .undef, .undef, .undef, .undef, .undef, .undef, .undef, .undef, .undef, .undef, .undef, .undef, .undef, .undef, .undef, .undef, .undef, .undef, .undef, .undef, .undef, .undef, .undef, .undef, .undef, .undef, .undef, .undef, .undef, .undef, .undef, .undef, .undef, .undef, .undef, .undef, .undef, .undef, .undef, .undef, .undef, .undef, .undef, .undef, .undef, .undef, .undef, .undef, .undef, .undef, .undef, .undef, .undef, .undef, .undef, .undef, .undef, .undef, .undef, .undef, .undef, .undef, .undef, .undef, .undef, .undef, .undef, .undef, .undef, .undef, .undef, .undef, .undef, .undef, .undef, .undef, .undef, .undef, .undef, .undef, .undef, .undef, .undef, .undef, .undef, .undef, .undef, .undef, .undef, .undef, .undef, .undef, .undef, .undef, .undef, .undef, .undef, .undef, .undef, .undef, .undef, .undef, .undef, .undef, .undef, .undef, .undef, .undef, .undef, .undef, .undef, .undef, .undef, .undef, .undef, .undef, .undef, .undef, .undef, .undef, .undef, .undef, .undef, .undef, .undef, .undef, .undef, .undef, .undef, .undef, .undef, .undef, .undef, .undef, .undef, .undef, .undef, .undef, .undef, .undef, .undef, .undef, .undef, .undef, .undef, .undef, .undef, .undef, .undef, .undef, .undef, .undef, .undef, .undef, .undef], [], 0⟩) (fun n => K.length - n) 0 ⟨Nat.zero_le _, fun _ => rfl⟩ ?_ (fun n hn => ?_)
   · refine Weak.cut (0) (by simp) (by simp) ?_ ?_
     · simp [LeC, LeV, ren, cutF, totL]
     · rfl
   simp -implicitDefEqProofs -dsimp only [go_sem]
   refine guardT.splitT (fun h1 => ?_) (fun h1 => ?_)
   · (repeat ((repeat1' (first | simp -implicitDefEqProofs -dsimp only [go_sem, h1] | simp -dsimp (disch := omega) only [wrap_i64])); repeat (with_reducible refine sideA ?_)))
     refine condT.split (fun h2 => ?_) (fun h2 => ?_)
     · have hi' : n < K.length := by simpa using h1
       have hr := rows_at Fault.csl hi'
       have him := List.getElem_mem hi'
       obtain ⟨hKv, hto⟩ := hkt h2
       have hcl := iFaultLength_ok K[n] (hKf _ him).1 (hKf _ him).2
       rw [fLenV, hKv _ him, fLen_ok (hKv _ him)] at hcl
       have b1 := len_r (hKv _ him)
       have b3 := totL_r (L := K.take n) (fun f hf => hKv f (List.mem_of_mem_take hf))
       rw [List.length_take] at b3
       have hst := totL_take hi'
       (repeat ((repeat1' (first | simp -implicitDefEqProofs -dsimp only [go_sem, h1, h2, hr, Fault.cs] | simp -dsimp (disch := omega) only [wrap_i64])); repeat (with_reducible refine sideA ?_)))
       (first | refine callT.at (hcl) ⟨(by first | exact leA | exact le_snap' rfl (by omega)), trivial⟩ ?_ | refine callS.at (hcl) ⟨(by first | exact leA | exact le_snap' rfl (by omega)), trivial⟩ ?_)
       (repeat ((repeat1' (first | simp -implicitDefEqProofs -dsimp only [go_sem] | simp -dsimp (disch := omega) only [wrap_i64])); repeat (with_reducible refine sideA ?_)))
       refine ⟨n + 1, ⟨hi', fun e => by first | exact e.elim | (rw [h2] at e; cases e)⟩, ?_, by omega⟩
       refine Weak.cut (0) (by simp) (by simp) ?_ ?_
       · simp [LeC, LeV, ren, cutF, hst, h2]
       · rfl
     · have hsum : totL (K.take n) = totL O := by rw [hn.2 h2, hkf h2]; rfl
       (repeat ((repeat1' (first | simp -implicitDefEqProofs -dsimp only [go_sem, h2] | simp -dsimp (disch := omega) only [wrap_i64])); repeat (with_reducible refine sideA ?_)))
       simp only [hsum]
       refine LoopT.intro (fun j : Nat => j ≤ O.length) (fun j => ⟨[ByteS.sl L, .undef, .undef, .undef, .undef, .undef, .undef, .undef, .undef, .undef, .undef, .undef, .undef, .undef, .undef, .undef, .undef, .undef, .undef, .undef, .undef, .undef, .undef, .undef, .undef, .undef, .undef, .undef, Fault.sl O, .undef, .undef, .undef, .int .i64 (totL O - totL (O.take j)), .undef, .undef, .undef, .int .i64 j, .undef, .undef, .undef, .undef, .undef, .undef, .undef, .undef, .undef, .undef, .undef, .undef, .undef, .undef, .undef, .undef, .undef, .undef, .undef, .undef, .undef, .undef, .undef, .undef, .undef, .undef, .undef, .undef, .undef, .undef, .undef, .undef, .undef, .undef, .undef, .undef, .undef, .undef, .undef, .undef, .undef, .undef, .undef, .undef, .undef, .undef, .undef, .undef, .undef, .undef, .undef, .undef, .undef, .undef, .undef, .undef, .undef, .undef, .undef, .undef, .undef, .undef, .undef, .undef, .undef, .undef, .undef, .undef, .undef, .undef, .undef, .undef, .undef, .undef, .undef, .undef, .undef, .undef, .undef, .undef, .undef, .undef, .undef, .undef, .undef, .undef, .undef, .undef, .undef, .undef, .undef, .undef, .undef, .undef, .undef, .undef, .undef, .undef, .undef, .undef, .undef, .undef, .undef, .undef, .undef, .undef, .undef, .undef, .undef, .undef, .undef, .undef, .undef, .undef, .undef, .undef, .undef, .undef, .undef, .undef, .undef, .undef, .undef, .undef, .undef, .undef, .undef, .undef, .undef, .undef, .undef, .undef, .undef, .undef, .undef, .undef, .undef, .undef, .undef, .undef, .undef, .undef, .undef, .undef, .undef, .undef, .undef, .undef, .undef, .undef, .undef, .undef, .undef, .undef, .undef, .undef, .undef, .undef, .undef, .undef, .undef, .undef, .undef, .undef, .undef, .undef, .undef, .undef, .undef, .undef, .undef, .undef, .undef, .undef, .undef, .undef, .undef, .undef, .undef, .undef, .undef, .undef, .undef, .undef, .undef, .undef, .undef, .undef, .undef, .undef, .undef, .undef, .undef, .undef, .undef, .undef, .undef, .undef, .undef, .undef, .undef, .undef, .undef, .undef, .undef, .undef, .undef, .undef, .undef, .undef, .undef, .undef, .undef, .undef, .undef, .undef, .undef, .undef, .undef, .undef, .undef, .undef, .undef, .undef, .undef, .undef, .undef, .undef, .undef, .undef, .undef, .undef, .undef, .undef, .undef, .undef, .undef, .undef, .undef, .undef, .undef, .undef, .undef, .undef, .undef, .undef], [], 0⟩) (fun j => O.length - j) 0 (Nat.zero_le _) ?_ (fun j hj => ?_)
       · refine Weak.cut (0) (by simp) (by simp) ?_ ?_
         · simp [LeC, LeV, ren, cutF, totL]
         · rfl
       simp -implicitDefEqProofs -dsimp only [go_sem]
       refine condT.split (fun g1 => ?_) (fun g1 => ?_)
       · have hj' : j < O.length := by simpa using g1
         have hr := rows_at Fault.csl hj'
         have hjm := List.getElem_mem hj'
         have hcl := iFaultLength_ok O[j] (hOf _ hjm).1 (hOf _ hjm).2
         rw [fLenV, hOv _ hjm, fLen_ok (hOv _ hjm)] at hcl
         have b1 := len_r (hOv _ hjm)
         have b2 := totL_r hOv
         have b3 := totL_r (L := O.take j) (fun f hf => hOv f (List.mem_of_mem_take hf))
         rw [List.length_take] at b3
         have hst := totL_take hj'
         (repeat ((repeat1' (first | simp -implicitDefEqProofs -dsimp only [go_sem, g1, hr, Fault.cs] | simp -dsimp (disch := omega) only [wrap_i64])); repeat (with_reducible refine sideA ?_)))
         (first | refine callT.at (hcl) ⟨(by first | exact leA | exact le_snap' rfl (by omega)), trivial⟩ ?_ | refine callS.at (hcl) ⟨(by first | exact leA | exact le_snap' rfl (by omega)), trivial⟩ ?_)
         (repeat ((repeat1' (first | simp -implicitDefEqProofs -dsimp only [go_sem] | simp -dsimp (disch := omega) only [wrap_i64])); repeat (with_reducible refine sideA ?_)))
         refine ⟨j + 1, hj', ?_, by omega⟩
         refine Weak.cut (0) (by simp) (by simp) ?_ ?_
         · simp [LeC, LeV, ren, cutF, hst]
           try omega
         · rfl
       · have hj' : j = O.length := by simp at g1; omega
         subst hj'
         have hz : totL O - totL (O.take O.length) = 0 := by rw [List.take_length]; omega
         have hzz : (totL O - totL (O.take O.length) == 0) = true := by rw [hz]; rfl
         (repeat ((repeat1' (first | simp -implicitDefEqProofs -dsimp only [go_sem, g1] | simp -dsimp (disch := omega) only [wrap_i64])); repeat (with_reducible refine sideA ?_)))
         refine callS.rel [] (drawYearsFor_ok hB) (by decide) ⟨leO, trivial⟩ rfl rfl (fun r hout hΦ => ?_)
         obtain ⟨u, m, hu, rfl, rfl⟩ := hΦ
         refine ⟨trivial, ?_⟩
         (repeat ((repeat1' (first | simp -implicitDefEqProofs -dsimp only [go_sem, Fault.v] | simp -dsimp (disch := omega) only [wrap_i64])); repeat (with_reducible refine sideA ?_)))
         have hun : strR u.Name := by have := hu.1; simp only [strR]; omega
         have hul : u.Bends.length ≤ 1048576 := by have := hu.2.2; omega
         have iy := iYearsFor_ok u m hun hul
         have sy := sYearsFor_ok u m hun hul
         rw [yearsR] at iy sy
         have hyg : yearsB u m = true → _ := years_ge (f := u) (m := m)
         have hyy : (yearsV u m == yearsV u m) = true := beq_self_eq_true _
         have hbb : (yearsB u m == yearsB u m) = true := beq_self_eq_true _
         (first | refine callT.at (iy) ⟨(by first | exact leA | exact le_snap' rfl (by omega)), (by first | exact leA | exact le_snap' rfl (by omega)), trivial⟩ ?_ | refine callS.at (iy) ⟨(by first | exact leA | exact le_snap' rfl (by omega)), (by first | exact leA | exact le_snap' rfl (by omega)), trivial⟩ ?_)
         (repeat ((repeat1' (first | simp -implicitDefEqProofs -dsimp only [go_sem, Fault.v] | simp -dsimp (disch := omega) only [wrap_i64])); repeat (with_reducible refine sideA ?_)))
         (first | refine callT.at (sy) ⟨(by first | exact leA | exact le_snap' rfl (by omega)), (by first | exact leA | exact le_snap' rfl (by omega)), trivial⟩ ?_ | refine callS.at (sy) ⟨(by first | exact leA | exact le_snap' rfl (by omega)), (by first | exact leA | exact le_snap' rfl (by omega)), trivial⟩ ?_)
         (repeat ((repeat1' (first | simp -implicitDefEqProofs -dsimp only [go_sem, Fault.v, hyy, hbb, hzz] | simp -dsimp (disch := omega) only [wrap_i64])); repeat (with_reducible refine sideA ?_)))
         cases hyb : yearsB u m with
         | false =>
           (repeat ((repeat1' (first | simp -implicitDefEqProofs -dsimp only [go_sem, hyb, hyy, hbb, hzz] | simp -dsimp (disch := omega) only [wrap_i64])); repeat (with_reducible refine sideA ?_)))
           exact WeakR.drop' rfl (by rfl)
         | true =>
           obtain ⟨y1, y2, y3, y4⟩ := hyg hyb
           have hm9 : 0 ≤ m ∧ m ≤ 100 := by have h9 := hyb; simp only [yearsB, Bool.and_eq_true, inB'_iff] at h9; exact h9.1.2
           have w1 : IntKind.i64.wrap (yearsV u m * u.Slip) = yearsV u m * u.Slip := wrap_i64 (by omega) (by omega)
           have w2 : IntKind.i64.wrap (10000 * m) = 10000 * m := wrap_i64 (by omega) (by omega)
           have w3 : decide (10000 * m ≤ yearsV u m * u.Slip) = true := decide_eq_true y1
           (repeat ((repeat1' (first | simp -implicitDefEqProofs -dsimp only [go_sem, hyb, hyy, hbb, hzz, w1, w2, w3] | simp -dsimp (disch := omega) only [wrap_i64])); repeat (with_reducible refine sideA ?_)))
           exact WeakR.drop' rfl (by rfl)
   · have hn' : n = K.length := by simp at h1; omega
     have hsum : totL (K.take n) = totL O := by
       cases hk : kn with
       | false => rw [hn.2 hk, hkf hk]; rfl
       | true => rw [hn', List.take_length]; exact (hkt hk).2
     (repeat ((repeat1' (first | simp -implicitDefEqProofs -dsimp only [go_sem, h1] | simp -dsimp (disch := omega) only [wrap_i64])); repeat (with_reducible refine sideA ?_)))
     simp only [hsum]
     refine LoopT.intro (fun j : Nat => j ≤ O.length) (fun j => ⟨[ByteS.sl L, .undef, .undef, .undef, .undef, .undef, .undef, .undef, .undef, .undef, .undef, .undef, .undef, .undef, .undef, .undef, .undef, .undef, .undef, .undef, .undef, .undef, .undef, .undef, .undef, .undef, .undef, .undef, Fault.sl O, .undef, .undef, .undef, .int .i64 (totL O - totL (O.take j)), .undef, .undef, .undef, .int .i64 j, .undef, .undef, .undef, .undef, .undef, .undef, .undef, .undef, .undef, .undef, .undef, .undef, .undef, .undef, .undef, .undef, .undef, .undef, .undef, .undef, .undef, .undef, .undef, .undef, .undef, .undef, .undef, .undef, .undef, .undef, .undef, .undef, .undef, .undef, .undef, .undef, .undef, .undef, .undef, .undef, .undef, .undef, .undef, .undef, .undef, .undef, .undef, .undef, .undef, .undef, .undef, .undef, .undef, .undef, .undef, .undef, .undef, .undef, .undef, .undef, .undef, .undef, .undef, .undef, .undef, .undef, .undef, .undef, .undef, .undef, .undef, .undef, .undef, .undef, .undef, .undef, .undef, .undef, .undef, .undef, .undef, .undef, .undef, .undef, .undef, .undef, .undef, .undef, .undef, .undef, .undef, .undef, .undef, .undef, .undef, .undef, .undef, .undef, .undef, .undef, .undef, .undef, .undef, .undef, .undef, .undef, .undef, .undef, .undef, .undef, .undef, .undef, .undef, .undef, .undef, .undef, .undef, .undef, .undef, .undef, .undef, .undef, .undef, .undef, .undef, .undef, .undef, .undef, .undef, .undef, .undef, .undef, .undef, .undef, .undef, .undef, .undef, .undef, .undef, .undef, .undef, .undef, .undef, .undef, .undef, .undef, .undef, .undef, .undef, .undef, .undef, .undef, .undef, .undef, .undef, .undef, .undef, .undef, .undef, .undef, .undef, .undef, .undef, .undef, .undef, .undef, .undef, .undef, .undef, .undef, .undef, .undef, .undef, .undef, .undef, .undef, .undef, .undef, .undef, .undef, .undef, .undef, .undef, .undef, .undef, .undef, .undef, .undef, .undef, .undef, .undef, .undef, .undef, .undef, .undef, .undef, .undef, .undef, .undef, .undef, .undef, .undef, .undef, .undef, .undef, .undef, .undef, .undef, .undef, .undef, .undef, .undef, .undef, .undef, .undef, .undef, .undef, .undef, .undef, .undef, .undef, .undef, .undef, .undef, .undef, .undef, .undef, .undef, .undef, .undef, .undef, .undef, .undef, .undef, .undef, .undef, .undef, .undef, .undef, .undef, .undef, .undef, .undef, .undef, .undef, .undef], [], 0⟩) (fun j => O.length - j) 0 (Nat.zero_le _) ?_ (fun j hj => ?_)
     · refine Weak.cut (0) (by simp) (by simp) ?_ ?_
       · simp [LeC, LeV, ren, cutF, totL]
       · rfl
     simp -implicitDefEqProofs -dsimp only [go_sem]
     refine condT.split (fun g1 => ?_) (fun g1 => ?_)
     · have hj' : j < O.length := by simpa using g1
       have hr := rows_at Fault.csl hj'
       have hjm := List.getElem_mem hj'
       have hcl := iFaultLength_ok O[j] (hOf _ hjm).1 (hOf _ hjm).2
       rw [fLenV, hOv _ hjm, fLen_ok (hOv _ hjm)] at hcl
       have b1 := len_r (hOv _ hjm)
       have b2 := totL_r hOv
       have b3 := totL_r (L := O.take j) (fun f hf => hOv f (List.mem_of_mem_take hf))
       rw [List.length_take] at b3
       have hst := totL_take hj'
       (repeat ((repeat1' (first | simp -implicitDefEqProofs -dsimp only [go_sem, g1, hr, Fault.cs] | simp -dsimp (disch := omega) only [wrap_i64])); repeat (with_reducible refine sideA ?_)))
       (first | refine callT.at (hcl) ⟨(by first | exact leA | exact le_snap' rfl (by omega)), trivial⟩ ?_ | refine callS.at (hcl) ⟨(by first | exact leA | exact le_snap' rfl (by omega)), trivial⟩ ?_)
       (repeat ((repeat1' (first | simp -implicitDefEqProofs -dsimp only [go_sem] | simp -dsimp (disch := omega) only [wrap_i64])); repeat (with_reducible refine sideA ?_)))
       refine ⟨j + 1, hj', ?_, by omega⟩
       refine Weak.cut (0) (by simp) (by simp) ?_ ?_
       · simp [LeC, LeV, ren, cutF, hst]
         try omega
       · rfl
     · have hj' : j = O.length := by simp at g1; omega
       subst hj'
       have hz : totL O - totL (O.take O.length) = 0 := by rw [List.take_length]; omega
       have hzz : (totL O - totL (O.take O.length) == 0) = true := by rw [hz]; rfl
       (repeat ((repeat1' (first | simp -implicitDefEqProofs -dsimp only [go_sem, g1] | simp -dsimp (disch := omega) only [wrap_i64])); repeat (with_reducible refine sideA ?_)))
       refine callS.rel [] (drawYearsFor_ok hB) (by decide) ⟨leO, trivial⟩ rfl rfl (fun r hout hΦ => ?_)
       obtain ⟨u, m, hu, rfl, rfl⟩ := hΦ
       refine ⟨trivial, ?_⟩
       (repeat ((repeat1' (first | simp -implicitDefEqProofs -dsimp only [go_sem, Fault.v] | simp -dsimp (disch := omega) only [wrap_i64])); repeat (with_reducible refine sideA ?_)))
       have hun : strR u.Name := by have := hu.1; simp only [strR]; omega
       have hul : u.Bends.length ≤ 1048576 := by have := hu.2.2; omega
       have iy := iYearsFor_ok u m hun hul
       have sy := sYearsFor_ok u m hun hul
       rw [yearsR] at iy sy
       have hyg : yearsB u m = true → _ := years_ge (f := u) (m := m)
       have hyy : (yearsV u m == yearsV u m) = true := beq_self_eq_true _
       have hbb : (yearsB u m == yearsB u m) = true := beq_self_eq_true _
       (first | refine callT.at (iy) ⟨(by first | exact leA | exact le_snap' rfl (by omega)), (by first | exact leA | exact le_snap' rfl (by omega)), trivial⟩ ?_ | refine callS.at (iy) ⟨(by first | exact leA | exact le_snap' rfl (by omega)), (by first | exact leA | exact le_snap' rfl (by omega)), trivial⟩ ?_)
       (repeat ((repeat1' (first | simp -implicitDefEqProofs -dsimp only [go_sem, Fault.v] | simp -dsimp (disch := omega) only [wrap_i64])); repeat (with_reducible refine sideA ?_)))
       (first | refine callT.at (sy) ⟨(by first | exact leA | exact le_snap' rfl (by omega)), (by first | exact leA | exact le_snap' rfl (by omega)), trivial⟩ ?_ | refine callS.at (sy) ⟨(by first | exact leA | exact le_snap' rfl (by omega)), (by first | exact leA | exact le_snap' rfl (by omega)), trivial⟩ ?_)
       (repeat ((repeat1' (first | simp -implicitDefEqProofs -dsimp only [go_sem, Fault.v, hyy, hbb, hzz] | simp -dsimp (disch := omega) only [wrap_i64])); repeat (with_reducible refine sideA ?_)))
       cases hyb : yearsB u m with
       | false =>
         (repeat ((repeat1' (first | simp -implicitDefEqProofs -dsimp only [go_sem, hyb, hyy, hbb, hzz] | simp -dsimp (disch := omega) only [wrap_i64])); repeat (with_reducible refine sideA ?_)))
         exact WeakR.drop' rfl (by rfl)
       | true =>
         obtain ⟨y1, y2, y3, y4⟩ := hyg hyb
         have hm9 : 0 ≤ m ∧ m ≤ 100 := by have h9 := hyb; simp only [yearsB, Bool.and_eq_true, inB'_iff] at h9; exact h9.1.2
         have w1 : IntKind.i64.wrap (yearsV u m * u.Slip) = yearsV u m * u.Slip := wrap_i64 (by omega) (by omega)
         have w2 : IntKind.i64.wrap (10000 * m) = 10000 * m := wrap_i64 (by omega) (by omega)
         have w3 : decide (10000 * m ≤ yearsV u m * u.Slip) = true := decide_eq_true y1
         (repeat ((repeat1' (first | simp -implicitDefEqProofs -dsimp only [go_sem, hyb, hyy, hbb, hzz, w1, w2, w3] | simp -dsimp (disch := omega) only [wrap_i64])); repeat (with_reducible refine sideA ?_)))
         exact WeakR.drop' rfl (by rfl)
 | true =>
   rw [hb] at ir sr iI iL sL
   rw [revF_yes hb] at ir sr
   have hgb := faultB_rev hb
   have hgl : f.rev.Bends.length ≤ 1048576 := by rw [Fault.rev]; simpa using hfl
   have hgn : strR f.rev.Name := hfn
   have gL := iFaultLength_ok f.rev hgn hgl
   have gr := iRev_ok f.rev hgn hgl
   rw [fLenV, hgb, fLen_rev hb] at gL
   rw [revR, hgb, revF_yes hgb, rev_rev] at gr
   generalize f.rev = g at *
   (first | refine callT.at (ir) ⟨(by first | exact leA | exact le_snap' rfl (by omega)), trivial⟩ ?_ | refine callS.at (ir) ⟨(by first | exact leA | exact le_snap' rfl (by omega)), trivial⟩ ?_)
   (repeat ((repeat1' (first | simp -implicitDefEqProofs -dsimp only [go_sem, Fault.v] | simp -dsimp (disch := omega) only [wrap_i64])); repeat (with_reducible refine sideA ?_)))
   (first | refine callT.at (sr) ⟨(by first | exact leA | exact le_snap' rfl (by omega)), trivial⟩ ?_ | refine callS.at (sr) ⟨(by first | exact leA | exact le_snap' rfl (by omega)), trivial⟩ ?_)
   (repeat ((repeat1' (first | simp -implicitDefEqProofs -dsimp only [go_sem, Fault.v] | simp -dsimp (disch := omega) only [wrap_i64])); repeat (with_reducible refine sideA ?_)))
   (first | refine callT.at (rFault_ok g hgl) ⟨(by first | exact leA | exact le_snap' rfl (by omega)), (by first | exact leA | exact le_snap' rfl (by omega)), trivial⟩ ?_ | refine callS.at (rFault_ok g hgl) ⟨(by first | exact leA | exact le_snap' rfl (by omega)), (by first | exact leA | exact le_snap' rfl (by omega)), trivial⟩ ?_)
   (repeat ((repeat1' (first | simp -implicitDefEqProofs -dsimp only [go_sem, Fault.v] | simp -dsimp (disch := omega) only [wrap_i64])); repeat (with_reducible refine sideA ?_)))
   (first | refine callT.at (iI) ⟨(by first | exact leA | exact le_snap' rfl (by omega)), trivial⟩ ?_ | refine callS.at (iI) ⟨(by first | exact leA | exact le_snap' rfl (by omega)), trivial⟩ ?_)
   (repeat ((repeat1' (first | simp -implicitDefEqProofs -dsimp only [go_sem, Fault.v] | simp -dsimp (disch := omega) only [wrap_i64])); repeat (with_reducible refine sideA ?_)))
   (first | refine callT.at (iL) ⟨(by first | exact leA | exact le_snap' rfl (by omega)), trivial⟩ ?_ | refine callS.at (iL) ⟨(by first | exact leA | exact le_snap' rfl (by omega)), trivial⟩ ?_)
   (repeat ((repeat1' (first | simp -implicitDefEqProofs -dsimp only [go_sem, Fault.v] | simp -dsimp (disch := omega) only [wrap_i64])); repeat (with_reducible refine sideA ?_)))
   (first | refine callT.at (sL) ⟨(by first | exact leA | exact le_snap' rfl (by omega)), trivial⟩ ?_ | refine callS.at (sL) ⟨(by first | exact leA | exact le_snap' rfl (by omega)), trivial⟩ ?_)
   (repeat ((repeat1' (first | simp -implicitDefEqProofs -dsimp only [go_sem, Fault.v, hnq] | simp -dsimp (disch := omega) only [wrap_i64])); repeat (with_reducible refine sideA ?_)))
   (first | refine callT.at (gL) ⟨(by first | exact leA | exact le_snap' rfl (by omega)), trivial⟩ ?_ | refine callS.at (gL) ⟨(by first | exact leA | exact le_snap' rfl (by omega)), trivial⟩ ?_)
   (repeat ((repeat1' (first | simp -implicitDefEqProofs -dsimp only [go_sem, Fault.v] | simp -dsimp (disch := omega) only [wrap_i64])); repeat (with_reducible refine sideA ?_)))
   (first | refine callT.at (gr) ⟨(by first | exact leA | exact le_snap' rfl (by omega)), trivial⟩ ?_ | refine callS.at (gr) ⟨(by first | exact leA | exact le_snap' rfl (by omega)), trivial⟩ ?_)
   (repeat ((repeat1' (first | simp -implicitDefEqProofs -dsimp only [go_sem, Fault.v, hnq] | simp -dsimp (disch := omega) only [wrap_i64])); repeat (with_reducible refine sideA ?_)))
   (first | refine callT.at (rFault_ok f hfl) ⟨(by first | exact leA | exact le_snap' rfl (by omega)), (by first | exact leA | exact le_snap' rfl (by omega)), trivial⟩ ?_ | refine callS.at (rFault_ok f hfl) ⟨(by first | exact leA | exact le_snap' rfl (by omega)), (by first | exact leA | exact le_snap' rfl (by omega)), trivial⟩ ?_)
   (repeat ((repeat1' (first | simp -implicitDefEqProofs -dsimp only [go_sem, Fault.v] | simp -dsimp (disch := omega) only [wrap_i64])); repeat (with_reducible refine sideA ?_)))
   refine callS.rel [] (drawSideOf_ok hB) (by decide) ⟨leO, trivial⟩ rfl rfl (fun r hout hΦ => ?_)
   obtain ⟨a, b, p, rfl, rfl⟩ := hΦ
   refine ⟨trivial, ?_⟩
   (repeat ((repeat1' (first | simp -implicitDefEqProofs -dsimp only [go_sem, Bend.v] | simp -dsimp (disch := omega) only [wrap_i64])); repeat (with_reducible refine sideA ?_)))
   have i1 := iSideOf_ok a b p
   have i2 := iSideOf_ok b a p
   have s1 := sSideOf_ok a b p
   rw [sideR] at i1 i2 s1
   rw [sideV_swap a b p, sideB_swap a b p] at i2
   have hvr := sideV_r a b p
   generalize sideV a b p = v at *
   generalize sideB a b p = tb at *
   have hv0 : (v != v) = false := by simp
   have hv1 : (-v != 0 - v) = false := by rw [Int.zero_sub]; simp
   have ht0 : (tb != tb) = false := by simp
   (first | refine callT.at (i1) ⟨(by first | exact leA | exact le_snap' rfl (by omega)), (by first | exact leA | exact le_snap' rfl (by omega)), (by first | exact leA | exact le_snap' rfl (by omega)), trivial⟩ ?_ | refine callS.at (i1) ⟨(by first | exact leA | exact le_snap' rfl (by omega)), (by first | exact leA | exact le_snap' rfl (by omega)), (by first | exact leA | exact le_snap' rfl (by omega)), trivial⟩ ?_)
   (repeat ((repeat1' (first | simp -implicitDefEqProofs -dsimp only [go_sem, Bend.v] | simp -dsimp (disch := omega) only [wrap_i64])); repeat (with_reducible refine sideA ?_)))
   (first | refine callT.at (i2) ⟨(by first | exact leA | exact le_snap' rfl (by omega)), (by first | exact leA | exact le_snap' rfl (by omega)), (by first | exact leA | exact le_snap' rfl (by omega)), trivial⟩ ?_ | refine callS.at (i2) ⟨(by first | exact leA | exact le_snap' rfl (by omega)), (by first | exact leA | exact le_snap' rfl (by omega)), (by first | exact leA | exact le_snap' rfl (by omega)), trivial⟩ ?_)
   (repeat ((repeat1' (first | simp -implicitDefEqProofs -dsimp only [go_sem, Bend.v] | simp -dsimp (disch := omega) only [wrap_i64])); repeat (with_reducible refine sideA ?_)))
   (first | refine callT.at (s1) ⟨(by first | exact leA | exact le_snap' rfl (by omega)), (by first | exact leA | exact le_snap' rfl (by omega)), (by first | exact leA | exact le_snap' rfl (by omega)), trivial⟩ ?_ | refine callS.at (s1) ⟨(by first | exact leA | exact le_snap' rfl (by omega)), (by first | exact leA | exact le_snap' rfl (by omega)), (by first | exact leA | exact le_snap' rfl (by omega)), trivial⟩ ?_)
   (repeat ((repeat1' (first | simp -implicitDefEqProofs -dsimp only [go_sem, Bend.v, hv0, hv1, ht0] | simp -dsimp (disch := omega) only [wrap_i64])); repeat (with_reducible refine sideA ?_)))
   refine callS.rel [] (drawConnectFaults_ok hB) (by decide) ⟨leO, trivial⟩ rfl rfl (fun r hout hΦ => ?_)
   obtain ⟨K, x, y, hK, hKl, rfl, rfl⟩ := hΦ
   refine ⟨trivial, ?_⟩
   (repeat ((repeat1' (first | simp -implicitDefEqProofs -dsimp only [go_sem] | simp -dsimp (disch := omega) only [wrap_i64])); repeat (with_reducible refine sideA ?_)))
   have hKf := fsOk_fls hK
   have ic := iConnectFaults_ok K x y hKf (by omega)
   have sc := sConnectFaults_ok K x y hKf (by omega)
   obtain ⟨O, kn, hic, hO6, hOf, hOv, hkt, hkf⟩ := conn_facts K x y hKf
   rw [hic] at ic sc
   have r0 := rFaults_ok O (fun f hf => (hOf f hf).2) (by omega)
   have hkk : (kn != kn) = false := by simp
   (first | refine callT.at (ic) ⟨(by first | exact leA | exact le_snap' rfl (by omega)), (by first | exact leA | exact le_snap' rfl (by omega)), (by first | exact leA | exact le_snap' rfl (by omega)), trivial⟩ ?_ | refine callS.at (ic) ⟨(by first | exact leA | exact le_snap' rfl (by omega)), (by first | exact leA | exact le_snap' rfl (by omega)), (by first | exact leA | exact le_snap' rfl (by omega)), trivial⟩ ?_)
   (repeat ((repeat1' (first | simp -implicitDefEqProofs -dsimp only [go_sem] | simp -dsimp (disch := omega) only [wrap_i64])); repeat (with_reducible refine sideA ?_)))
   (first | refine callT.at (sc) ⟨(by first | exact leA | exact le_snap' rfl (by omega)), (by first | exact leA | exact le_snap' rfl (by omega)), (by first | exact leA | exact le_snap' rfl (by omega)), trivial⟩ ?_ | refine callS.at (sc) ⟨(by first | exact leA | exact le_snap' rfl (by omega)), (by first | exact leA | exact le_snap' rfl (by omega)), (by first | exact leA | exact le_snap' rfl (by omega)), trivial⟩ ?_)
   (repeat ((repeat1' (first | simp -implicitDefEqProofs -dsimp only [go_sem] | simp -dsimp (disch := omega) only [wrap_i64])); repeat (with_reducible refine sideA ?_)))
   (first | refine callT.at (r0) ⟨(by first | exact leA | exact le_snap' rfl (by omega)), (by first | exact leA | exact le_snap' rfl (by omega)), trivial⟩ ?_ | refine callS.at (r0) ⟨(by first | exact leA | exact le_snap' rfl (by omega)), (by first | exact leA | exact le_snap' rfl (by omega)), trivial⟩ ?_)
   (repeat ((repeat1' (first | simp -implicitDefEqProofs -dsimp only [go_sem, hkk] | simp -dsimp (disch := omega) only [wrap_i64])); repeat (with_reducible refine sideA ?_)))
   refine LoopT.intro (fun n : Nat => n ≤ K.length ∧ (kn = false → n = 0)) (fun n => ⟨[ByteS.sl L, .undef, .undef, .undef, .undef, .undef, .undef, .undef, .undef, .undef, .undef, .undef, .undef, .undef, .undef, .undef, .undef, .undef, .undef, .undef, .undef, .undef, .undef, .undef, .undef, Fault.sl K, .undef, .undef, Fault.sl O, .bool kn, .undef, .undef, .int .i64 (totL (K.take n)), .int .i64 n, .undef, .undef, .undef, .undef, .undef, .undef, .undef, .undef, .undef, .undef, .undef, .undef, .undef, .undef, .undef, .undef, .undef, .undef, .undef, .undef, .undef, .undef, .undef, .undef, .undef, .undef, .undef, .undef, .undef, .undef, .undef, .undef, .undef, .undef, .undef, .undef, .undef, .undef, .undef, .undef, .undef, .undef, .undef, .undef, .undef, .undef, .undef, .undef, .undef, .undef, .undef, .undef, .undef, .undef, .undef, .undef, .undef, .undef, .undef, .undef, .undef, .undef, .undef, .undef, .undef, .undef, .undef, .undef, .undef, .undef, .undef, .undef, .undef, .undef, .undef, .undef, .undef, .undef, .undef, .undef, .undef, .undef, .undef, .undef, .undef, .undef, .undef, .undef, .undef, .undef, .undef, .undef, .undef, .undef, .undef, .undef, .undef, .undef, .undef, .undef, .undef, .undef, .undef, .undef, .undef, .undef, .undef, .undef, .undef, .undef, .undef, .undef, .undef, .undef, .undef, .undef, .undef, .undef, .undef, .undef, .undef, .undef, .undef, .undef, .undef, .undef, .undef, .undef, .undef, .undef, .undef, .undef, .undef, .undef, .undef, .undef, .undef, .undef, .undef, .undef, .undef, .undef, .undef, .undef, .undef, .undef, .undef, .undef, .undef, .undef, .undef, .undef, .undef, .undef, .undef, .undef, .undef, .undef, .undef, .undef, .undef, .undef, .undef, .undef, .undef, .undef, .undef, .undef, .undef, .undef, .undef, .undef, .undef, .undef, .undef, .undef, .undef, .undef, .undef, .undef, .undef, .undef, .undef, .undef, .undef, .undef, .undef, .undef, .undef, .undef, .undef, .undef, .undef, .undef, .undef, .undef, .undef, .undef, .undef, .undef, .undef, .undef, .undef, .undef, .undef, .undef, .undef, .undef, .undef, .undef, .undef, .undef, .undef, .undef, .undef, .undef, .undef, .undef, .undef, .undef, .undef, .undef, .undef, .undef, .undef, .undef, .undef, .undef, .undef, .undef, .undef, .undef, .undef, .undef, .undef, .undef, .undef, .undef, .undef, .undef, .undef, .undef, .undef, .undef, .undef, .undef, .undef, .undef, .undef], [], 0⟩) (fun n => K.length - n) 0 ⟨Nat.zero_le _, fun _ => rfl⟩ ?_ (fun n hn => ?_)
   · refine Weak.cut (0) (by simp) (by simp) ?_ ?_
     · simp [LeC, LeV, ren, cutF, totL]
     · rfl
   simp -implicitDefEqProofs -dsimp only [go_sem]
   refine guardT.splitT (fun h1 => ?_) (fun h1 => ?_)
   · (repeat ((repeat1' (first | simp -implicitDefEqProofs -dsimp only [go_sem, h1] | simp -dsimp (disch := omega) only [wrap_i64])); repeat (with_reducible refine sideA ?_)))
     refine condT.split (fun h2 => ?_) (fun h2 => ?_)
     · have hi' : n < K.length := by simpa using h1
       have hr := rows_at Fault.csl hi'
       have him := List.getElem_mem hi'
       obtain ⟨hKv, hto⟩ := hkt h2
       have hcl := iFaultLength_ok K[n] (hKf _ him).1 (hKf _ him).2
       rw [fLenV, hKv _ him, fLen_ok (hKv _ him)] at hcl
       have b1 := len_r (hKv _ him)
       have b3 := totL_r (L := K.take n) (fun f hf => hKv f (List.mem_of_mem_take hf))
       rw [List.length_take] at b3
       have hst := totL_take hi'
       (repeat ((repeat1' (first | simp -implicitDefEqProofs -dsimp only [go_sem, h1, h2, hr, Fault.cs] | simp -dsimp (disch := omega) only [wrap_i64])); repeat (with_reducible refine sideA ?_)))
       (first | refine callT.at (hcl) ⟨(by first | exact leA | exact le_snap' rfl (by omega)), trivial⟩ ?_ | refine callS.at (hcl) ⟨(by first | exact leA | exact le_snap' rfl (by omega)), trivial⟩ ?_)
       (repeat ((repeat1' (first | simp -implicitDefEqProofs -dsimp only [go_sem] | simp -dsimp (disch := omega) only [wrap_i64])); repeat (with_reducible refine sideA ?_)))
       refine ⟨n + 1, ⟨hi', fun e => by first | exact e.elim | (rw [h2] at e; cases e)⟩, ?_, by omega⟩
       refine Weak.cut (0) (by simp) (by simp) ?_ ?_
       · simp [LeC, LeV, ren, cutF, hst, h2]
       · rfl
     · have hsum : totL (K.take n) = totL O := by rw [hn.2 h2, hkf h2]; rfl
       (repeat ((repeat1' (first | simp -implicitDefEqProofs -dsimp only [go_sem, h2] | simp -dsimp (disch := omega) only [wrap_i64])); repeat (with_reducible refine sideA ?_)))
       simp only [hsum]
       refine LoopT.intro (fun j : Nat => j ≤ O.length) (fun j => ⟨[ByteS.sl L, .undef, .undef, .undef, .undef, .undef, .undef, .undef, .undef, .undef, .undef, .undef, .undef, .undef, .undef, .undef, .undef, .undef, .undef, .undef, .undef, .undef, .undef, .undef, .undef, .undef, .undef, .undef, Fault.sl O, .undef, .undef, .undef, .int .i64 (totL O - totL (O.take j)), .undef, .undef, .undef, .int .i64 j, .undef, .undef, .undef, .undef, .undef, .undef, .undef, .undef, .undef, .undef, .undef, .undef, .undef, .undef, .undef, .undef, .undef, .undef, .undef, .undef, .undef, .undef, .undef, .undef, .undef, .undef, .undef, .undef, .undef, .undef, .undef, .undef, .undef, .undef, .undef, .undef, .undef, .undef, .undef, .undef, .undef, .undef, .undef, .undef, .undef, .undef, .undef, .undef, .undef, .undef, .undef, .undef, .undef, .undef, .undef, .undef, .undef, .undef, .undef, .undef, .undef, .undef, .undef, .undef, .undef, .undef, .undef, .undef, .undef, .undef, .undef, .undef, .undef, .undef, .undef, .undef, .undef, .undef, .undef, .undef, .undef, .undef, .undef, .undef, .undef, .undef, .undef, .undef, .undef, .undef, .undef, .undef, .undef, .undef, .undef, .undef, .undef, .undef, .undef, .undef, .undef, .undef, .undef, .undef, .undef, .undef, .undef, .undef, .undef, .undef, .undef, .undef, .undef, .undef, .undef, .undef, .undef, .undef, .undef, .undef, .undef, .undef, .undef, .undef, .undef, .undef, .undef, .undef, .undef, .undef, .undef, .undef, .undef, .undef, .undef, .undef, .undef, .undef, .undef, .undef, .undef, .undef, .undef, .undef, .undef, .undef, .undef, .undef, .undef, .undef, .undef, .undef, .undef, .undef, .undef, .undef, .undef, .undef, .undef, .undef, .undef, .undef, .undef, .undef, .undef, .undef, .undef, .undef, .undef, .undef, .undef, .undef, .undef, .undef, .undef, .undef, .undef, .undef, .undef, .undef, .undef, .undef, .undef, .undef, .undef, .undef, .undef, .undef, .undef, .undef, .undef, .undef, .undef, .undef, .undef, .undef, .undef, .undef, .undef, .undef, .undef, .undef, .undef, .undef, .undef, .undef, .undef, .undef, .undef, .undef, .undef, .undef, .undef, .undef, .undef, .undef, .undef, .undef, .undef, .undef, .undef, .undef, .undef, .undef, .undef, .undef, .undef, .undef, .undef, .undef, .undef, .undef, .undef, .undef, .undef, .undef, .undef, .undef, .undef, .undef, .undef, .undef, .undef, .undef, .undef, .undef], [], 0⟩) (fun j => O.length - j) 0 (Nat.zero_le _) ?_ (fun j hj => ?_)
       · refine Weak.cut (0) (by simp) (by simp) ?_ ?_
         · simp [LeC, LeV, ren, cutF, totL]
         · rfl
       simp -implicitDefEqProofs -dsimp only [go_sem]
       refine condT.split (fun g1 => ?_) (fun g1 => ?_)
       · have hj' : j < O.length := by simpa using g1
         have hr := rows_at Fault.csl hj'
         have hjm := List.getElem_mem hj'
         have hcl := iFaultLength_ok O[j] (hOf _ hjm).1 (hOf _ hjm).2
         rw [fLenV, hOv _ hjm, fLen_ok (hOv _ hjm)] at hcl
         have b1 := len_r (hOv _ hjm)
         have b2 := totL_r hOv
         have b3 := totL_r (L := O.take j) (fun f hf => hOv f (List.mem_of_mem_take hf))
         rw [List.length_take] at b3
         have hst := totL_take hj'
         (repeat ((repeat1' (first | simp -implicitDefEqProofs -dsimp only [go_sem, g1, hr, Fault.cs] | simp -dsimp (disch := omega) only [wrap_i64])); repeat (with_reducible refine sideA ?_)))
         (first | refine callT.at (hcl) ⟨(by first | exact leA | exact le_snap' rfl (by omega)), trivial⟩ ?_ | refine callS.at (hcl) ⟨(by first | exact leA | exact le_snap' rfl (by omega)), trivial⟩ ?_)
         (repeat ((repeat1' (first | simp -implicitDefEqProofs -dsimp only [go_sem] | simp -dsimp (disch := omega) only [wrap_i64])); repeat (with_reducible refine sideA ?_)))
         refine ⟨j + 1, hj', ?_, by omega⟩
         refine Weak.cut (0) (by simp) (by simp) ?_ ?_
         · simp [LeC, LeV, ren, cutF, hst]
           try omega
         · rfl
       · have hj' : j = O.length := by simp at g1; omega
         subst hj'
         have hz : totL O - totL (O.take O.length) = 0 := by rw [List.take_length]; omega
         have hzz : (totL O - totL (O.take O.length) == 0) = true := by rw [hz]; rfl
         (repeat ((repeat1' (first | simp -implicitDefEqProofs -dsimp only [go_sem, g1] | simp -dsimp (disch := omega) only [wrap_i64])); repeat (with_reducible refine sideA ?_)))
         refine callS.rel [] (drawYearsFor_ok hB) (by decide) ⟨leO, trivial⟩ rfl rfl (fun r hout hΦ => ?_)
         obtain ⟨u, m, hu, rfl, rfl⟩ := hΦ
         refine ⟨trivial, ?_⟩
         (repeat ((repeat1' (first | simp -implicitDefEqProofs -dsimp only [go_sem, Fault.v] | simp -dsimp (disch := omega) only [wrap_i64])); repeat (with_reducible refine sideA ?_)))
         have hun : strR u.Name := by have := hu.1; simp only [strR]; omega
         have hul : u.Bends.length ≤ 1048576 := by have := hu.2.2; omega
         have iy := iYearsFor_ok u m hun hul
         have sy := sYearsFor_ok u m hun hul
         rw [yearsR] at iy sy
         have hyg : yearsB u m = true → _ := years_ge (f := u) (m := m)
         have hyy : (yearsV u m == yearsV u m) = true := beq_self_eq_true _
         have hbb : (yearsB u m == yearsB u m) = true := beq_self_eq_true _
         (first | refine callT.at (iy) ⟨(by first | exact leA | exact le_snap' rfl (by omega)), (by first | exact leA | exact le_snap' rfl (by omega)), trivial⟩ ?_ | refine callS.at (iy) ⟨(by first | exact leA | exact le_snap' rfl (by omega)), (by first | exact leA | exact le_snap' rfl (by omega)), trivial⟩ ?_)
         (repeat ((repeat1' (first | simp -implicitDefEqProofs -dsimp only [go_sem, Fault.v] | simp -dsimp (disch := omega) only [wrap_i64])); repeat (with_reducible refine sideA ?_)))
         (first | refine callT.at (sy) ⟨(by first | exact leA | exact le_snap' rfl (by omega)), (by first | exact leA | exact le_snap' rfl (by omega)), trivial⟩ ?_ | refine callS.at (sy) ⟨(by first | exact leA | exact le_snap' rfl (by omega)), (by first | exact leA | exact le_snap' rfl (by omega)), trivial⟩ ?_)
         (repeat ((repeat1' (first | simp -implicitDefEqProofs -dsimp only [go_sem, Fault.v, hyy, hbb, hzz] | simp -dsimp (disch := omega) only [wrap_i64])); repeat (with_reducible refine sideA ?_)))
         cases hyb : yearsB u m with
         | false =>
           (repeat ((repeat1' (first | simp -implicitDefEqProofs -dsimp only [go_sem, hyb, hyy, hbb, hzz] | simp -dsimp (disch := omega) only [wrap_i64])); repeat (with_reducible refine sideA ?_)))
           exact WeakR.drop' rfl (by rfl)
         | true =>
           obtain ⟨y1, y2, y3, y4⟩ := hyg hyb
           have hm9 : 0 ≤ m ∧ m ≤ 100 := by have h9 := hyb; simp only [yearsB, Bool.and_eq_true, inB'_iff] at h9; exact h9.1.2
           have w1 : IntKind.i64.wrap (yearsV u m * u.Slip) = yearsV u m * u.Slip := wrap_i64 (by omega) (by omega)
           have w2 : IntKind.i64.wrap (10000 * m) = 10000 * m := wrap_i64 (by omega) (by omega)
           have w3 : decide (10000 * m ≤ yearsV u m * u.Slip) = true := decide_eq_true y1
           (repeat ((repeat1' (first | simp -implicitDefEqProofs -dsimp only [go_sem, hyb, hyy, hbb, hzz, w1, w2, w3] | simp -dsimp (disch := omega) only [wrap_i64])); repeat (with_reducible refine sideA ?_)))
           exact WeakR.drop' rfl (by rfl)
   · have hn' : n = K.length := by simp at h1; omega
     have hsum : totL (K.take n) = totL O := by
       cases hk : kn with
       | false => rw [hn.2 hk, hkf hk]; rfl
       | true => rw [hn', List.take_length]; exact (hkt hk).2
     (repeat ((repeat1' (first | simp -implicitDefEqProofs -dsimp only [go_sem, h1] | simp -dsimp (disch := omega) only [wrap_i64])); repeat (with_reducible refine sideA ?_)))
     simp only [hsum]
     refine LoopT.intro (fun j : Nat => j ≤ O.length) (fun j => ⟨[ByteS.sl L, .undef, .undef, .undef, .undef, .undef, .undef, .undef, .undef, .undef, .undef, .undef, .undef, .undef, .undef, .undef, .undef, .undef, .undef, .undef, .undef, .undef, .undef, .undef, .undef, .undef, .undef, .undef, Fault.sl O, .undef, .undef, .undef, .int .i64 (totL O - totL (O.take j)), .undef, .undef, .undef, .int .i64 j, .undef, .undef, .undef, .undef, .undef, .undef, .undef, .undef, .undef, .undef, .undef, .undef, .undef, .undef, .undef, .undef, .undef, .undef, .undef, .undef, .undef, .undef, .undef, .undef, .undef, .undef, .undef, .undef, .undef, .undef, .undef, .undef, .undef, .undef, .undef, .undef, .undef, .undef, .undef, .undef, .undef, .undef, .undef, .undef, .undef, .undef, .undef, .undef, .undef, .undef, .undef, .undef, .undef, .undef, .undef, .undef, .undef, .undef, .undef, .undef, .undef, .undef, .undef, .undef, .undef, .undef, .undef, .undef, .undef, .undef, .undef, .undef, .undef, .undef, .undef, .undef, .undef, .undef, .undef, .undef, .undef, .undef, .undef, .undef, .undef, .undef, .undef, .undef, .undef, .undef, .undef, .undef, .undef, .undef, .undef, .undef, .undef, .undef, .undef, .undef, .undef, .undef, .undef, .undef, .undef, .undef, .undef, .undef, .undef, .undef, .undef, .undef, .undef, .undef, .undef, .undef, .undef, .undef, .undef, .undef, .undef, .undef, .undef, .undef, .undef, .undef, .undef, .undef, .undef, .undef, .undef, .undef, .undef, .undef, .undef, .undef, .undef, .undef, .undef, .undef, .undef, .undef, .undef, .undef, .undef, .undef, .undef, .undef, .undef, .undef, .undef, .undef, .undef, .undef, .undef, .undef, .undef, .undef, .undef, .undef, .undef, .undef, .undef, .undef, .undef, .undef, .undef, .undef, .undef, .undef, .undef, .undef, .undef, .undef, .undef, .undef, .undef, .undef, .undef, .undef, .undef, .undef, .undef, .undef, .undef, .undef, .undef, .undef, .undef, .undef, .undef, .undef, .undef, .undef, .undef, .undef, .undef, .undef, .undef, .undef, .undef, .undef, .undef, .undef, .undef, .undef, .undef, .undef, .undef, .undef, .undef, .undef, .undef, .undef, .undef, .undef, .undef, .undef, .undef, .undef, .undef, .undef, .undef, .undef, .undef, .undef, .undef, .undef, .undef, .undef, .undef, .undef, .undef, .undef, .undef, .undef, .undef, .undef, .undef, .undef, .undef, .undef, .undef, .undef, .undef, .undef], [], 0⟩) (fun j => O.length - j) 0 (Nat.zero_le _) ?_ (fun j hj => ?_)
     · refine Weak.cut (0) (by simp) (by simp) ?_ ?_
       · simp [LeC, LeV, ren, cutF, totL]
       · rfl
     simp -implicitDefEqProofs -dsimp only [go_sem]
     refine condT.split (fun g1 => ?_) (fun g1 => ?_)
     · have hj' : j < O.length := by simpa using g1
       have hr := rows_at Fault.csl hj'
       have hjm := List.getElem_mem hj'
       have hcl := iFaultLength_ok O[j] (hOf _ hjm).1 (hOf _ hjm).2
       rw [fLenV, hOv _ hjm, fLen_ok (hOv _ hjm)] at hcl
       have b1 := len_r (hOv _ hjm)
       have b2 := totL_r hOv
       have b3 := totL_r (L := O.take j) (fun f hf => hOv f (List.mem_of_mem_take hf))
       rw [List.length_take] at b3
       have hst := totL_take hj'
       (repeat ((repeat1' (first | simp -implicitDefEqProofs -dsimp only [go_sem, g1, hr, Fault.cs] | simp -dsimp (disch := omega) only [wrap_i64])); repeat (with_reducible refine sideA ?_)))
       (first | refine callT.at (hcl) ⟨(by first | exact leA | exact le_snap' rfl (by omega)), trivial⟩ ?_ | refine callS.at (hcl) ⟨(by first | exact leA | exact le_snap' rfl (by omega)), trivial⟩ ?_)
       (repeat ((repeat1' (first | simp -implicitDefEqProofs -dsimp only [go_sem] | simp -dsimp (disch := omega) only [wrap_i64])); repeat (with_reducible refine sideA ?_)))
       refine ⟨j + 1, hj', ?_, by omega⟩
       refine Weak.cut (0) (by simp) (by simp) ?_ ?_
       · simp [LeC, LeV, ren, cutF, hst]
         try omega
       · rfl
     · have hj' : j = O.length := by simp at g1; omega
       subst hj'
       have hz : totL O - totL (O.take O.length) = 0 := by rw [List.take_length]; omega
       have hzz : (totL O - totL (O.take O.length) == 0) = true := by rw [hz]; rfl
       (repeat ((repeat1' (first | simp -implicitDefEqProofs -dsimp only [go_sem, g1] | simp -dsimp (disch := omega) only [wrap_i64])); repeat (with_reducible refine sideA ?_)))
       refine callS.rel [] (drawYearsFor_ok hB) (by decide) ⟨leO, trivial⟩ rfl rfl (fun r hout hΦ => ?_)
       obtain ⟨u, m, hu, rfl, rfl⟩ := hΦ
       refine ⟨trivial, ?_⟩
       (repeat ((repeat1' (first | simp -implicitDefEqProofs -dsimp only [go_sem, Fault.v] | simp -dsimp (disch := omega) only [wrap_i64])); repeat (with_reducible refine sideA ?_)))
       have hun : strR u.Name := by have := hu.1; simp only [strR]; omega
       have hul : u.Bends.length ≤ 1048576 := by have := hu.2.2; omega
       have iy := iYearsFor_ok u m hun hul
       have sy := sYearsFor_ok u m hun hul
       rw [yearsR] at iy sy
       have hyg : yearsB u m = true → _ := years_ge (f := u) (m := m)
       have hyy : (yearsV u m == yearsV u m) = true := beq_self_eq_true _
       have hbb : (yearsB u m == yearsB u m) = true := beq_self_eq_true _
       (first | refine callT.at (iy) ⟨(by first | exact leA | exact le_snap' rfl (by omega)), (by first | exact leA | exact le_snap' rfl (by omega)), trivial⟩ ?_ | refine callS.at (iy) ⟨(by first | exact leA | exact le_snap' rfl (by omega)), (by first | exact leA | exact le_snap' rfl (by omega)), trivial⟩ ?_)
       (repeat ((repeat1' (first | simp -implicitDefEqProofs -dsimp only [go_sem, Fault.v] | simp -dsimp (disch := omega) only [wrap_i64])); repeat (with_reducible refine sideA ?_)))
       (first | refine callT.at (sy) ⟨(by first | exact leA | exact le_snap' rfl (by omega)), (by first | exact leA | exact le_snap' rfl (by omega)), trivial⟩ ?_ | refine callS.at (sy) ⟨(by first | exact leA | exact le_snap' rfl (by omega)), (by first | exact leA | exact le_snap' rfl (by omega)), trivial⟩ ?_)
       (repeat ((repeat1' (first | simp -implicitDefEqProofs -dsimp only [go_sem, Fault.v, hyy, hbb, hzz] | simp -dsimp (disch := omega) only [wrap_i64])); repeat (with_reducible refine sideA ?_)))
       cases hyb : yearsB u m with
       | false =>
         (repeat ((repeat1' (first | simp -implicitDefEqProofs -dsimp only [go_sem, hyb, hyy, hbb, hzz] | simp -dsimp (disch := omega) only [wrap_i64])); repeat (with_reducible refine sideA ?_)))
         exact WeakR.drop' rfl (by rfl)
       | true =>
         obtain ⟨y1, y2, y3, y4⟩ := hyg hyb
         have hm9 : 0 ≤ m ∧ m ≤ 100 := by have h9 := hyb; simp only [yearsB, Bool.and_eq_true, inB'_iff] at h9; exact h9.1.2
         have w1 : IntKind.i64.wrap (yearsV u m * u.Slip) = yearsV u m * u.Slip := wrap_i64 (by omega) (by omega)
         have w2 : IntKind.i64.wrap (10000 * m) = 10000 * m := wrap_i64 (by omega) (by omega)
         have w3 : decide (10000 * m ≤ yearsV u m * u.Slip) = true := decide_eq_true y1
         (repeat ((repeat1' (first | simp -implicitDefEqProofs -dsimp only [go_sem, hyb, hyy, hbb, hzz, w1, w2, w3] | simp -dsimp (disch := omega) only [wrap_i64])); repeat (with_reducible refine sideA ?_)))
         exact WeakR.drop' rfl (by rfl)
end Go.Proofs
end
section
open Go.ChangeShapes Go.WideShapes
namespace Go.Lv

def ShC (P : Program) : Nat → TypeId → List V → Prop
 | 0, _, _ => False
 | n + 1, t, xs =>
   match P.underlying t with
   | some .bool => ∃ b, xs = [.bool b]
   | some (.int k) => ∃ z, xs = [.int k z] ∧ (Lit.int k z).wf = true
   | some .string => ∃ s : ByteArray, xs = [.str s] ∧ s.size ≤ maxLen
   | some (.slice e) => ∃ l cs, xs = [.sl l (P.cellsOf e) cs] ∧ l ≤ maxLen ∧ cs.length = l * P.cellsOf e ∧ ∀ i, i < l → ShC P n e ((cs.drop (i * P.cellsOf e)).take (P.cellsOf e))
   | some (.struct fs) => xs.length = P.cellsOf t ∧ ∀ f ∈ fs.toList, ShC P n f.type ((xs.drop f.offset).take (P.cellsOf f.type))
   | _ => False

def tiled (P : Program) : List Field → Nat → Nat → Bool
 | [], off, n => off == n
 | f :: fs, off, n => f.offset == off && tiled P fs (off + P.cellsOf f.type) n

def plainT (P : Program) : Nat → TypeId → Bool
 | 0, _ => false
 | n + 1, t =>
   match P.underlying t with
   | some .bool => true
   | some (.int _) => true
   | some .string => true
   | some (.slice e) => decide (0 < P.cellsOf e) && plainT P n e
   | some (.struct fs) => tiled P fs.toList 0 (P.cellsOf t) && fs.toList.all fun f => plainT P n f.type
   | _ => false

section
variable {P : Program} {w : World} {m : Nat → Nat}

def Rds (w : World) (m : Nat → Nat) (cs : List Value) (xs : List V) : Prop :=
 cs.length = xs.length ∧ ∀ i (hi : i < xs.length), RV w m [] (fun _ => False) false (cs.getD i Go.undef) xs[i]

theorem Rds.append {a b : List Value} {x y : List V} (h : Rds w m a x) (k : Rds w m b y) : Rds w m (a ++ b) (x ++ y) := by
 refine ⟨by simp [h.1, k.1], fun i hi => ?_⟩
 by_cases hlt : i < x.length
 · rw [List.getElem_append_left hlt]
   have := h.2 i hlt
   rw [List.getD_eq_getElem?_getD, List.getElem?_append_left (by rw [h.1]; exact hlt), ← List.getD_eq_getElem?_getD]
   exact this
 · rw [List.getElem_append_right (by omega)]
   have := k.2 (i - x.length) (by simp at hi; omega)
   rw [List.getD_eq_getElem?_getD, List.getElem?_append_right (by rw [h.1]; omega), ← List.getD_eq_getElem?_getD, h.1]
   exact this

theorem Rds.one {v : Value} {x : V} (h : RV w m [] (fun _ => False) false v x) : Rds w m [v] [x] :=
 ⟨rfl, fun i hi => by have : i = 0 := by simp at hi; omega
                      subst this; exact h⟩

theorem Rds.nil : Rds w m [] [] := ⟨rfl, fun i hi => by simp at hi⟩

theorem fields_sh {n : Nat} {cs : List Value} : ∀ (fs : List Field) (off : Nat), tiled P fs off cs.length = true → off ≤ cs.length →
   (∀ f ∈ fs, ∃ xs, Rds w m ((cs.drop f.offset).take (P.cellsOf f.type)) xs ∧ ShC P n f.type xs) →
   ∃ ys, Rds w m (cs.drop off) ys ∧ ∀ f ∈ fs, off ≤ f.offset ∧ ShC P n f.type ((ys.drop (f.offset - off)).take (P.cellsOf f.type))
 | [], off, ht, _, _ => by
   simp [tiled] at ht
   subst ht
   refine ⟨[], ?_, fun f hf => by simp at hf⟩
   rw [List.drop_of_length_le (Nat.le_refl _)]
   exact Rds.nil
 | f :: fs, off, ht, hle, h => by
   simp only [tiled, Bool.and_eq_true, beq_iff_eq] at ht
   obtain ⟨rfl, ht⟩ := ht
   have hlen : ∀ (fs : List Field) (o : Nat), tiled P fs o cs.length = true → o ≤ cs.length := by
     intro fs
     induction fs with
     | nil => intro o ht; simp [tiled] at ht; omega
     | cons g fs ih =>
       intro o ht
       simp only [tiled, Bool.and_eq_true, beq_iff_eq] at ht
       have := ih _ ht.2; omega
   have hk := hlen fs _ ht
   obtain ⟨x, hx1, hx2⟩ := h f (by simp)
   obtain ⟨ys, hy1, hy2⟩ := fields_sh fs _ ht hk (fun g hg => h g (by simp [hg]))
   have hxl : x.length = P.cellsOf f.type := by rw [← hx1.1]; simp; omega
   refine ⟨x ++ ys, ?_, fun g hg => ?_⟩
   · have : cs.drop f.offset = (cs.drop f.offset).take (P.cellsOf f.type) ++ cs.drop (f.offset + P.cellsOf f.type) := by
       rw [← List.drop_drop, List.take_append_drop]
     rw [this]
     exact hx1.append hy1
   · rcases List.mem_cons.1 hg with rfl | hg
     · refine ⟨Nat.le_refl _, ?_⟩
       rw [Nat.sub_self, List.drop_zero, List.take_append_of_le_length (by omega), List.take_of_length_le (by omega)]
       exact hx2
     · obtain ⟨h1, h2⟩ := hy2 g hg
       refine ⟨by omega, ?_⟩
       have : (x ++ ys).drop (g.offset - f.offset) = ys.drop (g.offset - (f.offset + P.cellsOf f.type)) := by
         rw [List.drop_append, List.drop_of_length_le (by omega), List.nil_append]
         congr 1
         omega
       rw [this]
       exact h2

theorem elems_sh {n e : Nat} {b off len : Nat} (h : ∀ i, i < len → ∃ cs xs, cs.length = P.cellsOf e ∧ (∀ j, j < P.cellsOf e → w.cell? ⟨b, off + (i * P.cellsOf e + j), none⟩ = cs[j]?) ∧ Rds w m cs xs ∧ ShC P n e xs) :
   ∀ k, k ≤ len → ∃ xs : List V, xs.length = k * P.cellsOf e ∧ (∀ j (hj : j < xs.length), ∃ v, w.cell? ⟨b, off + j, none⟩ = some v ∧ RV w m [] (fun _ => False) false v xs[j]) ∧
     ∀ i, i < k → ShC P n e ((xs.drop (i * P.cellsOf e)).take (P.cellsOf e))
 | 0, _ => ⟨[], by simp, fun j hj => by simp at hj, fun i hi => by omega⟩
 | k + 1, hk => by
   obtain ⟨xs, h1, h2, h3⟩ := elems_sh h k (by omega)
   obtain ⟨cs, ys, g1, g2, g3, g4⟩ := h k (by omega)
   have hyl : ys.length = P.cellsOf e := by rw [← g3.1, g1]
   refine ⟨xs ++ ys, by simp [h1, hyl, Nat.add_mul], fun j hj => ?_, fun i hi => ?_⟩
   · by_cases hlt : j < xs.length
     · rw [List.getElem_append_left hlt]
       exact h2 j hlt
     · rw [List.getElem_append_right (by omega)]
       have hj' : j - xs.length < ys.length := by simp at hj; omega
       have hr := g3.2 _ hj'
       have hc := g2 (j - xs.length) (by omega)
       have e1 : off + (k * P.cellsOf e + (j - xs.length)) = off + j := by omega
       rw [e1] at hc
       have hcl : j - xs.length < cs.length := by omega
       rw [List.getElem?_eq_getElem hcl] at hc
       refine ⟨_, hc, ?_⟩
       simpa [List.getD_eq_getElem?_getD, hcl] using hr
   · by_cases e2 : i = k
     · subst e2
       rw [← h1, List.drop_left, List.take_of_length_le (by omega)]
       exact g4
     · have hm : i * P.cellsOf e + P.cellsOf e ≤ xs.length := mul_room (n := k) (by omega) h1
       rw [List.drop_append_of_le_length (by omega), List.take_append_of_le_length (by simp; omega)]
       exact h3 i (by omega)

theorem trod_sh {H : Type} {enc : TypeId × Value → H} {spare : Nat → Bool} {held : Bool} : ∀ (n : Nat) (fuel : Nat) (t : TypeId) (cs : List Value) (x : DataW H × List MemPlace),
   DataW.trod enc P w 0 spare held fuel t cs = some x → plainT P n t = true → ∃ xs, Rds w m cs xs ∧ ShC P n t xs
 | 0, fuel, t, cs, x, _, hp => by simp [plainT] at hp
 | n + 1, fuel, t, cs, x, hx, hp => by
   unfold plainT at hp
   split at hp
   · rename_i hu
     obtain ⟨b, rfl, _⟩ := DataW.trod_bool hu hx
     exact ⟨[.bool b], Rds.one (.bool b), by unfold ShC; rw [hu]; exact ⟨b, rfl⟩⟩
   · rename_i k hu
     obtain ⟨z, rfl, _, hw⟩ := DataW.trod_int hu hx
     exact ⟨[.int k z], Rds.one (.int k z), by unfold ShC; rw [hu]; exact ⟨z, rfl, hw⟩⟩
   · rename_i hu
     obtain ⟨s, rfl, _, hs⟩ := DataW.trod_string hu hx
     exact ⟨[.str s], Rds.one (.str s), by unfold ShC; rw [hu]; exact ⟨s, rfl, hs⟩⟩
   · rename_i e hu
     simp only [Bool.and_eq_true, decide_eq_true_eq] at hp
     obtain ⟨hpos, hp⟩ := hp
     rcases Deep.open_slice hu hx with ⟨rfl, _⟩ | ⟨a, len, cap, mm, f, D, Pl, rfl, _, hle, hcap, hmm, _, hel⟩
     · refine ⟨[.sl 0 (P.cellsOf e) []], Rds.one (.slz _ _ _), ?_⟩
       unfold ShC; rw [hu]
       exact ⟨0, [], rfl, Nat.zero_le _, by simp, fun i hi => by omega⟩
     · by_cases h0 : len = 0
       · subst h0
         refine ⟨[.sl 0 (P.cellsOf e) []], Rds.one (.slz _ _ _), ?_⟩
         unfold ShC; rw [hu]
         exact ⟨0, [], rfl, Nat.zero_le _, by simp, fun i hi => by omega⟩
       · have hml : len ≤ mm := by rw [hmm]; split <;> omega
         obtain ⟨b, off, spot⟩ := a
         have hspot : spot = none := by
           obtain ⟨cs', hc, _⟩ := hel 0 (by omega)
           obtain ⟨_, hcl, hat⟩ := World.cells?_some hc
           have h1 := hat 0 hpos
           rw [List.getElem?_eq_getElem (by omega)] at h1
           simpa [Addr.add] using World.cell?_spot h1
         subst hspot
         have hall : ∀ i, i < len → ∃ cs xs, cs.length = P.cellsOf e ∧ (∀ j, j < P.cellsOf e → w.cell? ⟨b, off + (i * P.cellsOf e + j), none⟩ = cs[j]?) ∧ Rds w m cs xs ∧ ShC P n e xs := by
           intro i hi
           obtain ⟨cs', hc, ht⟩ := hel i (by omega)
           obtain ⟨_, hcl, hat⟩ := World.cells?_some hc
           obtain ⟨xs, h1, h2⟩ := trod_sh n _ e cs' _ ht hp
           refine ⟨cs', xs, hcl, fun j hj => ?_, h1, h2⟩
           have := hat j hj
           rw [Addr.add_lit, Addr.add_lit] at this
           rw [← this, Nat.add_assoc]
         obtain ⟨xs, h1, h2, h3⟩ := elems_sh hall len (Nat.le_refl _)
         refine ⟨[.sl len (P.cellsOf e) xs], Rds.one (.sl b off len cap (P.cellsOf e) xs (fun j => (w.cell? ⟨b, off + j, none⟩).getD Go.undef) h1 (fun _ h => h) hle (fun j hj => ?_) (fun j hj => ?_)), ?_⟩
         · obtain ⟨v, hv, _⟩ := h2 j hj
           simp [hv]
         · obtain ⟨v, hv, hr⟩ := h2 j hj
           simpa [hv] using hr
         · unfold ShC; rw [hu]
           exact ⟨len, xs, rfl, by omega, h1, h3⟩
   · rename_i fs hu
     simp only [Bool.and_eq_true, List.all_eq_true] at hp
     obtain ⟨xs, f, _, _, hl, hxl, hf⟩ := DataW.trod_struct hu hx
     have hfs : ∀ g ∈ fs.toList, ∃ ys, Rds w m ((cs.drop g.offset).take (P.cellsOf g.type)) ys ∧ ShC P n g.type ys := by
       intro g hg
       obtain ⟨i, hi, rfl⟩ := List.getElem_of_mem hg
       have hi' : i < fs.size := by simpa using hi
       have h1 := hf i fs[i] (Array.getElem?_eq_getElem hi')
       rw [List.getElem?_eq_getElem (by omega)] at h1
       exact trod_sh n _ _ _ _ (by simpa using h1) (hp.2 _ hg)
     obtain ⟨ys, h1, h2⟩ := fields_sh fs.toList 0 (by rw [hl]; exact hp.1) (Nat.zero_le _) hfs
     rw [List.drop_zero] at h1
     refine ⟨ys, h1, ?_⟩
     unfold ShC; rw [hu]
     exact ⟨by rw [← h1.1, hl], fun g hg => by simpa using (h2 g hg).2⟩
   · cases hp

end
section
variable {P : Program} {W : World}

theorem Rds.get {m : Nat → Nat} {a : List Value} {x : List V} (h : Rds W m a x) : a.length = x.length := h.1

theorem arg_one {H : Type} {enc : TypeId × Value → H} {spare : Nat → Bool} {held : Bool} {n : Nat} {t : TypeId} {v : Value} {d : DataW H} {p : List MemPlace} (m : Nat → Nat)
   (hv : v.cells = #[v]) (h : DataW.Trod enc P W 0 spare held t v d p) (hp : plainT P n t = true) : ∃ x, RV W m [] (fun _ => False) true v x ∧ ShC P n t [x] := by
 obtain ⟨fuel, hf⟩ := h
 rw [hv] at hf
 obtain ⟨xs, h1, h2⟩ := trod_sh (m := m) n fuel t _ _ hf hp
 match xs, h1 with
 | [x], h1 => exact ⟨x, by have := h1.2 0 (by simp); exact this.weak, h2⟩
 | [], h1 => simp [Rds] at h1
 | _ :: _ :: _, h1 => simp [Rds] at h1

theorem law_walk {f : FuncId} {xs : List V} {vs : Array Value} (m : Nat → Nat) (hc : Ctr P f xs [] (.bool true) []) (hgl : GL W (fun _ => False)) (hsz : vs.size = xs.length)
   (hr : ∀ i (hi : i < xs.length), RV W m [] (fun _ => False) true (vs.getD i Go.undef) xs[i]) :
   Calls P f vs W fun e w' => e = .returned (.bool true) ∧ RowKit.Below W.heap.size W w' := by
 refine (hc.2 W vs m (fun _ => False) ⟨fun i j ci cj h => by simp at h, fun id cs h => by simp at h, fun id cs h => by simp at h⟩ (fun b h => h.elim) hgl hsz hr).mono ?_
 rintro e w' ⟨v, m', rfl, hE, _, hv, _⟩
 refine ⟨by cases hv; rfl, hE.os, hE.tape, hE.output, hE.size, fun k hk => hE.block k hk (fun ⟨id, cs, h, _⟩ => by simp at h)⟩

end
end Go.Lv
end
section
namespace Go.Lv

theorem shC_u8 {P : Program} {t : TypeId} {n : Nat} {xs : List V} (hs : P.underlying t = some (.int .u8)) (h : ShC P (n + 1) t xs) : ∃ z, xs = [.int .u8 z] ∧ 0 ≤ z ∧ z ≤ 255 := by
 simp only [ShC, hs] at h
 obtain ⟨z, h1, h2⟩ := h
 refine ⟨z, h1, ?_⟩
 simp [Lit.wf, IntKind.min, IntKind.max, IntKind.signed, IntKind.bits] at h2
 exact h2

theorem shC_list {P : Program} {t e : TypeId} {n : Nat} {xs : List V} (hs : P.underlying t = some (.slice e)) {α : Type} {cs : α → List V} {w : Nat} (hw : P.cellsOf e = w) {ok : α → Prop}
   (he : ∀ ys, ShC P n e ys → ∃ a, ys = cs a ∧ ok a) (h : ShC P (n + 1) t xs) : ∃ L : List α, xs = [.sl L.length w (rows cs L)] ∧ lstR ok L := by
 simp only [ShC, hs, hw] at h
 obtain ⟨l, ys, rfl, hl, hlen, hel⟩ := h
 suffices ∀ (l : Nat) (ys : List V), ys.length = l * w → (∀ i, i < l → ShC P n e ((ys.drop (i * w)).take w)) → ∃ L : List α, L.length = l ∧ rows cs L = ys ∧ ∀ x ∈ L, ok x by
   obtain ⟨L, h1, h2, h3⟩ := this l ys hlen hel
   exact ⟨L, by rw [h1, h2], by rw [h1]; exact hl, h3⟩
 intro l
 induction l with
 | zero => intro ys h1 _; exact ⟨[], rfl, by simp at h1; simp [rows, h1], fun x hx => by simp at hx⟩
 | succ l ih =>
   intro ys h1 h2
   obtain ⟨a, ha, hoa⟩ := he _ (h2 0 (by omega))
   rw [Nat.zero_mul, List.drop_zero] at ha
   obtain ⟨L, h3, h4, h5⟩ := ih (ys.drop w) (by rw [List.length_drop, h1, Nat.succ_mul]; omega) (fun i hi => by
     have := h2 (i + 1) (by omega)
     rw [List.drop_drop]
     rwa [Nat.succ_mul, Nat.add_comm] at this)
   refine ⟨a :: L, by simp [h3], ?_, ?_⟩
   · rw [rows_cons, h4, ← ha, List.take_append_drop]
   · intro x hx
     rcases List.mem_cons.1 hx with rfl | hx
     · exact hoa
     · exact h5 x hx

end Go.Lv
end
